/-
  Package lsm: put. Conditions: a store as LsmOk says; no more than 800 lists.
-/
import Derived.Test.YthobnigjhedjaaaDoorLsmCo
import Derived.Deep.RegionLaw
import Derived.BigQuiet
namespace Go.Proofs.YthobnigjhedjaaaDoor
open Go.RowKit Go.ChangeShapes Go.WideShapes
open Go.Sort hiding Below
set_option linter.unusedVariables false

theorem below_drewN {B : Nat} {a w : World} (h : Below B a w) (q : Nat) : Below B a (w.drewN q) := ⟨h.os, h.tape, h.output, h.size, h.block⟩
def PutBad (F : EMap) (L : List (List Ent)) (x : Ent) : Prop := 120 < x.key.size ∨ 120 < x.value.size ∨ (efind (allOf F L) x.key = none ∧ 400 ≤ (allOf F L).length)
def PutPost (B : Nat) (w : World) (g limit : Nat) (F : EMap) (L : List (List Ent)) (x : Ent) (e : Ending) (w' : World) : Prop :=
  ((PutBad F L x ∧ ∃ k : Int, k ≠ 0 ∧ e = .returned (errI k)) ∨
   (e = .returned .nilIface ∧ x.key.size ≤ 120 ∧ ∃ F' L', Lsm B w' g limit F' L' ∧ LsmOk limit F' L' ∧ (∀ k, view F' L' k = if k = x.key then some x else view F L k) ∧ L'.length ≤ L.length + 1 ∧ ∀ y ∈ evals F' ++ L'.flatten, y = x ∨ y ∈ evals F ++ L.flatten)) ∧ Below B w w'
set_option maxRecDepth 100000 in
set_option maxHeartbeats 2000000 in
theorem put_ok (B g limit : Nat) (F : EMap) (L : List (List Ent)) (kk vv : ByteArray) (dd : Bool) (w : World) (S : Lsm B w g limit F L) (hO : LsmOk limit F L) (hx : dd = true → vv.size = 0) (hL : L.length ≤ 800) (hB : B ≤ w.heap.size) :
    Calls Tryd.prog 30 #[.pointer (some ⟨g, 0, none⟩), .agg #[.string kk, .string vv, .bool dd]] w (PutPost B w g limit F L ⟨kk, vv, dd⟩) := by
  obtain ⟨bf, A1, c1, tvs, A2, c2, lvs, S⟩ := S
  have hP := hO.pre
  obtain ⟨W1, hW1⟩ : ∃ W1, W1 = w.alloc (.cells #[.string kk, .string vv, .bool dd] 67) := ⟨_, rfl⟩
  have hb1 : Below w.heap.size w W1 := by rw [hW1]; exact (Below.refl _ _).alloc (Nat.le_refl _) _
  have hx1 : W1.heap[w.heap.size]? = some (.cells #[.string kk, .string vv, .bool dd] 67 (0, 0)) := by rw [hW1]; exact heap_alloc_new _ _
  have S1 := S.below hb1
  have hA := all_ok B g bf A1 c1 tvs A2 c2 lvs limit F L W1 S1 hP.keyed hP.sized (by have := hP.few; omega) (by omega) hP.lists
  have HS := Lib.hid S
  have HO := Lib.hid hO
  have HXX := Lib.hid hx
  have HBW := Lib.hid hB
  have HX1 := Lib.hid hx1
  have HB1 := Lib.hid hb1
  obtain ⟨eb, heb⟩ : ∃ eb, eb = w.heap.size := ⟨_, rfl⟩
  have HEB := Lib.hid heb
  clear S hP hB hO S1 hx
  by_cases h0 : 120 < kk.size
  · have d0 : decide ((120 : Int) < (kk.size : Int)) = true := decide_eq_true (by omega)
    clear hA heb hW1
    go_enter Tryd.func30, Tryd.ntmps30
    go_wp2_with fail
    go_ret
    exact ⟨.inl ⟨.inl h0, 1, by decide, rfl⟩, ((Below.refl w.heap.size w).alloc (Nat.le_refl _) _).mono HBW.out⟩
  · have d0 : decide ((120 : Int) < (kk.size : Int)) = false := decide_eq_false (by omega)
    by_cases h1 : 120 < vv.size
    · have d1 : decide ((120 : Int) < (vv.size : Int)) = true := decide_eq_true (by omega)
      clear hA heb hW1
      go_enter Tryd.func30, Tryd.ntmps30
      go_wp2_with fail
      go_ret
      exact ⟨.inl ⟨.inr (.inl h1), 1, by decide, rfl⟩, ((Below.refl w.heap.size w).alloc (Nat.le_refl _) _).mono HBW.out⟩
    · have d1 : decide ((120 : Int) < (vv.size : Int)) = false := decide_eq_false (by omega)
      have HK : Hid (kk.size ≤ 120) := by show _ ≤ _; omega
      have HVV : Hid (vv.size ≤ 120) := by show _ ≤ _; omega
      clear h0 h1 hb1 hx1
      go_enter Tryd.func30, Tryd.ntmps30
      go_wp2_with fail
      rw [← hW1, ← heb]
      clear hW1
      refine hA.mono ?_
      rintro e w2 ⟨A, c, q, rfl, q1, q2, q3, q4, q5, q6⟩
      have hpm : q.Perm (allOf F L) := apart_ext q1 (all_apart F L) fun k => (q3 k).trans (view_all F L k).symm
      have HPM := Lib.hid hpm
      have hx2 : w2.heap[eb]? = some (.cells #[.string kk, .string vv, .bool dd] 67 (0, 0)) := by
        rw [heb]
        exact (q6.block _ (block_lt HX1.out)).trans HX1.out
      have hC := econtains_ok A c q eb kk w2 (q5.more fun k hk => hk.2) ((cell_of_row w2 eb 0 _ _ _ hx2).trans rfl)
      have HB2 : Hid (Below w.heap.size w w2) := HB1.out.trans (q6.mono HB1.out.size)
      have HHS : Hid ((efind q kk).isSome = true ↔ efind (allOf F L) kk ≠ none) := by
        show _ ↔ _
        rw [efind_perm hpm (all_apart F L)]
        cases efind (allOf F L) kk <;> simp
      have HQL : Hid (q.length = (allOf F L).length) := hpm.length_eq
      have hle := q5.le
      have HX2 := Lib.hid hx2
      clear hA q1 q2 q3 q4 q5 q6 hpm heb hx2
      generalize (efind q kk).isSome = hs at hC HHS
      obtain ⟨qn, hqn⟩ : ∃ qn, qn = q.length := ⟨_, rfl⟩
      rw [← hqn] at hC hle HQL ⊢
      clear hqn
      go_wp2_with fail
      refine hC.mono ?_
      rintro e w3 ⟨rfl, hb3⟩
      have HB3 : Hid (Below w.heap.size w w3) := HB2.out.trans (hb3.mono HB2.out.size)
      have hx3 : w3.heap[eb]? = some (.cells #[.string kk, .string vv, .bool dd] 67 (0, 0)) := (hb3.block eb (block_lt HX2.out)).trans HX2.out
      have hS3 := HS.out.below HB3.out
      have HS3 := Lib.hid hS3
      obtain ⟨y0, y1, y2, y3⟩ := hS3.cells
      have e0 : w3.cell? ⟨eb, 0, none⟩ = some (.string kk) := (cell_of_row w3 eb 0 _ _ _ hx3).trans rfl
      have e1 : w3.cell? ⟨eb, 1, none⟩ = some (.string vv) := (cell_of_row w3 eb 1 _ _ _ hx3).trans rfl
      have e2 : w3.cell? ⟨eb, 2, none⟩ = some (.bool dd) := (cell_of_row w3 eb 2 _ _ _ hx3).trans rfl
      obtain ⟨w4, hrun, hf4, hg4, hz4⟩ := FAt.set (P := Tryd.prog) (F := F) (w := w3.drew) (hS3.fresh.keep rfl) strT Tryd.underlying75 (s := kk) (by have := HK.out; unfold maxLen; omega) ⟨kk, vv, dd⟩
      unfold entV at hrun
      simp only at hrun
      have hgl := block_lt hS3.obj
      have hel := block_lt hx3
      have hgb := hS3.g.no.1
      clear hC hb3 HB2 y2 y3 hx3
      by_cases hbad : hs = false ∧ 400 ≤ qn
      · obtain ⟨rfl, hfull⟩ := hbad
        have d3 : decide ((400 : Int) ≤ (qn : Int)) = true := decide_eq_true (by omega)
        clear hS3 hrun hf4 hg4 hz4
        go_wp2_with fail
        go_ret
        refine ⟨.inl ⟨.inr (.inr ⟨?_, ?_⟩), 4, by decide, rfl⟩, HB3.out.mono HBW.out⟩
        · by_cases h : efind (allOf F L) kk = none
          · exact h
          · have := HHS.out.2 h; cases this
        · have := HQL.out; show 400 ≤ (allOf F L).length; omega
      · have hd : hs = false → decide ((400 : Int) ≤ (qn : Int)) = false := fun h => decide_eq_false fun h2 => hbad ⟨h, by omega⟩
        have HPX : Hid (efind (allOf F L) kk ≠ none ∨ (allOf F L).length < 400) := by
          show _ ∨ _
          have := HQL.out
          cases hs with
          | true => exact .inl (HHS.out.1 rfl)
          | false => exact .inr (by have h2 : ¬ 400 ≤ qn := fun h => hbad ⟨rfl, h⟩; omega)
        have hgb' : some g ≠ some bf := fun e => hgb (Option.some.inj e)
        have hg3 : w4.heap[g]? = w3.heap[g]? := hg4.block g hgl hgb'
        have z0 : w4.cell? ⟨g, 0, none⟩ = some (.int .i64 (limit : Int)) := (World.cell?_of_block hg3).trans y0
        have z1 : w4.cell? ⟨g, 1, none⟩ = some (.map (some bf)) := (World.cell?_of_block hg3).trans y1
        have hlen : ∀ (q : Nat) (ty : TypeId), (Builtin.len_ #[75] ty #[.map (some bf)]).run Tryd.prog (w4.drewN q) = .ok (.int .i64 ((kset F kk ⟨kk, vv, dd⟩).length : Int)) (w4.drewN q) := fun q ty => by
          have := MapAt.len (P := Tryd.prog) (ty := ty) (hf4.keep (w' := w4.drewN q) rfl) Tryd.underlying75
          rwa [List.length_map] at this
        have hent : entOk ⟨kk, vv, dd⟩ := ⟨HK.out, HVV.out, HXX.out⟩
        have hPre : LsmPre (kset F kk ⟨kk, vv, dd⟩) L := ⟨HO.out.keyed.set ⟨kk, vv, dd⟩, put_ents (e := ⟨kk, vv, dd⟩) HO.out.ents hent, HO.out.rise, put_many (e := ⟨kk, vv, dd⟩) HO.out.keyed HO.out.many HPX.out⟩
        have hg4w : w3.grownBy w4 (some bf) := ⟨hg4.os, hg4.tape, hg4.output, hg4.size, hg4.block⟩
        have hG4 := hS3.g.turn (w' := w4) hg4w hf4
        have hV4 : LVals w4 lvs L := hS3.vals.keep fun k hk => hg4.block k hk.lt (fun e => (hk.ne_obj hS3.g).2.1 (Option.some.inj e))
        have hL4 : LsmAt B w4 g bf A1 c1 tvs A2 c2 lvs limit (kset F kk ⟨kk, vv, dd⟩) L := ⟨hG4.obj, hG4.fresh, hG4.tabs, hS3.tone, hG4.lists, hV4, HS.out.bg, HS.out.bb, HS.out.b1, HS.out.b2⟩
        have HB4 : Hid (Below B w w4) := ((HB3.out.mono HBW.out).drew).grown hg4 (Nat.le_trans HBW.out HB3.out.size) (fun k e => by injection e with e; have := HS.out.bb; omega)
        have HVW : Hid (∀ k, view (kset F kk ⟨kk, vv, dd⟩) L k = if k = kk then some ⟨kk, vv, dd⟩ else view F L k) := fun k => view_put HO.out.keyed L ⟨kk, vv, dd⟩ k
        have HMM : Hid (∀ y ∈ evals (kset F kk ⟨kk, vv, dd⟩) ++ L.flatten, y = ⟨kk, vv, dd⟩ ∨ y ∈ evals F ++ L.flatten) := fun y hy => by
          rcases List.mem_append.1 hy with hy | hy
          · obtain ⟨p, hp, rfl⟩ := List.mem_map.1 hy
            rcases kset_mem p hp with rfl | hp
            · exact .inl rfl
            · exact .inr (List.mem_append_left _ (List.mem_map.2 ⟨p, hp, rfl⟩))
          · exact .inr (List.mem_append_right _ hy)
        have HPRE := Lib.hid hPre
        have hlim : 0 < limit := Nat.lt_of_le_of_lt (Nat.zero_le _) HO.out.less
        have HFL : Hid (∀ q, Calls Tryd.prog 15 #[.pointer (some ⟨g, 0, none⟩)] (w4.drewN q) (FlushPost B (w4.drewN q) g limit (kset F kk ⟨kk, vv, dd⟩) L)) := fun q =>
          lflush_ok B g limit _ L (w4.drewN q) ⟨bf, A1, c1, tvs, A2, c2, lvs, hL4.keep fun k hk => rfl⟩ hPre (by omega) hlim (Nat.le_trans HBW.out HB4.out.size)
        have HL4 := Lib.hid hL4
        have hgl4 : g < w4.heap.size := block_lt hG4.obj
        clear hbad hS3 hf4 hg4 hz4 HHS hg3 hent hPre hG4 hV4 hL4 HPX hgb' hgb
        obtain ⟨n, hn⟩ : ∃ n, n = (kset F kk (⟨kk, vv, dd⟩ : Ent)).length := ⟨_, rfl⟩
        have HN := Lib.hid hn
        rw [← hn] at hlen
        clear hn
        rcases Bool.eq_false_or_eq_true hs with rfl | rfl
        all_goals
          try have d3 := hd rfl
          clear hd
          by_cases hle2 : limit ≤ n
          · have d4 : decide (limit ≤ n) = true := decide_eq_true hle2
            go_wp2_with fail
            go_region
            go_wp2_with fail
            go_quiet (fail)
            go_wp2_with fail
            refine (HFL.out _).mono ?_
            rintro e w5 ⟨rfl, ⟨L', f1, f2, f3, f4, f5⟩, f6⟩
            have F1 := Lib.hid f1
            have F2 := Lib.hid f2
            have F3 := Lib.hid f3
            have F4 := Lib.hid f4
            have F5 := Lib.hid f5
            have F6 := Lib.hid f6
            clear f1 f2 f3 f4 f5 f6
            go_wp2_with fail
            go_ret
            refine ⟨.inr ⟨rfl, HK.out, [], L', F1.out, F2.out, fun k => (F3.out k).trans (HVW.out k), F4.out, fun y hy => ?_⟩, (below_drewN HB4.out _).trans F6.out⟩
            rcases List.mem_append.1 hy with hy | hy
            · cases hy
            · exact HMM.out y (F5.out y hy)
          · have d4 : decide (limit ≤ n) = false := decide_eq_false hle2
            go_wp2_with fail
            go_region
            go_wp2_with fail
            go_quiet (fail)
            go_wp2_with fail
            go_ret
            have hP := HPRE.out
            refine ⟨.inr ⟨rfl, HK.out, _, L, ⟨bf, A1, c1, tvs, A2, c2, lvs, HL4.out.keep fun k hk => rfl⟩, ⟨hP.keyed, hP.ents, hP.rise, hP.many, ?_⟩, HVW.out, Nat.le_succ _, HMM.out⟩, below_drewN HB4.out _⟩
            rw [← HN.out]; omega
set_option maxRecDepth 100000 in
theorem lput_ok (B g limit : Nat) (F : EMap) (L : List (List Ent)) (kk vv : ByteArray) (w : World) (S : Lsm B w g limit F L) (hO : LsmOk limit F L) (hL : L.length ≤ 800) (hB : B ≤ w.heap.size) :
    Calls Tryd.prog 13 #[.pointer (some ⟨g, 0, none⟩), .string kk, .string vv] w (PutPost B w g limit F L ⟨kk, vv, false⟩) := by
  have hP := put_ok B g limit F L kk vv false w S hO nofun hL hB
  clear S hO
  go_enter Tryd.func13, Tryd.ntmps13
  go_wp2_with fail
  refine hP.mono ?_
  rintro e w1 ⟨⟨hb, k, hk, rfl⟩ | ⟨rfl, h⟩, hbl⟩
  · unfold errI
    have HB := Lib.hid hb
    clear hb
    go_wp2_with fail
    go_ret
    exact ⟨.inl ⟨HB.out, k, hk, rfl⟩, hbl⟩
  · have HH := Lib.hid h
    clear h
    go_wp2_with fail
    go_ret
    exact ⟨.inr ⟨rfl, HH.out⟩, hbl⟩
set_option maxRecDepth 100000 in
theorem ldel_ok (B g limit : Nat) (F : EMap) (L : List (List Ent)) (kk : ByteArray) (w : World) (S : Lsm B w g limit F L) (hO : LsmOk limit F L) (hL : L.length ≤ 800) (hB : B ≤ w.heap.size) :
    Calls Tryd.prog 17 #[.pointer (some ⟨g, 0, none⟩), .string kk] w (PutPost B w g limit F L ⟨kk, ⟨#[]⟩, true⟩) := by
  have hP := put_ok B g limit F L kk ⟨#[]⟩ true w S hO (fun _ => rfl) hL hB
  clear S hO
  go_enter Tryd.func17, Tryd.ntmps17
  go_wp2_with fail
  refine hP.mono ?_
  rintro e w1 ⟨⟨hb, k, hk, rfl⟩ | ⟨rfl, h⟩, hbl⟩
  · unfold errI
    have HB := Lib.hid hb
    clear hb
    go_wp2_with fail
    go_ret
    exact ⟨.inl ⟨HB.out, k, hk, rfl⟩, hbl⟩
  · have HH := Lib.hid h
    clear h
    go_wp2_with fail
    go_ret
    exact ⟨.inr ⟨rfl, HH.out⟩, hbl⟩
/-- Open of no tables. -/
def OpenPost (w : World) (limit : Int) (e : Ending) (w' : World) : Prop :=
  (((limit < 1 ∨ 400 < limit) ∧ e = .returned (.tuple #[.pointer none, errI 1])) ∨ (∃ g : Nat, 1 ≤ limit ∧ limit ≤ 400 ∧ e = .returned (.tuple #[.pointer (some ⟨g, 0, none⟩), .nilIface]) ∧ Lsm w.heap.size w' g limit.toNat [] [])) ∧ Below w.heap.size w w'
theorem lsm_new (w : World) (limit : Nat) : LsmAt w.heap.size ((w.alloc (.map #[] 0)).alloc (.cells #[.int .i64 (limit : Int), .map (some w.heap.size), .slice none 0 0, .slice none 0 0] 78)) (w.heap.size + 1) w.heap.size none 0 [] none 0 [] limit [] [] := by
  have h := heap_alloc_new (w.alloc (.map #[] 0)) (.cells #[.int .i64 (limit : Int), .map (some w.heap.size), .slice none 0 0, .slice none 0 0] 78)
  have e : (w.alloc (.map #[] 0)).heap.size = w.heap.size + 1 := by simp
  rw [e] at h
  exact ⟨h, (FAt.made w).keep (Below.heap_alloc _ _ _ (by simp)), OwnS.nil _ _ _, nofun, OwnS.nil _ _ _, LVals.nil _, by omega, Nat.le_refl _, nofun, nofun⟩
theorem ok_new (limit : Nat) (h : 0 < limit) : LsmOk limit [] [] := ⟨EKeyed.nil, nofun, nofun, by decide, h⟩
set_option maxRecDepth 100000 in
set_option maxHeartbeats 1000000 in
theorem open0_ok (limit : Int) (w : World) (hl : (Lit.int .i64 limit).wf = true) :
    Calls Tryd.prog 29 #[.slice none 0 0, .int .i64 limit] w (OpenPost w limit) := by
  have hmm := @run_makeMap Tryd.prog
  by_cases h1 : limit < 1
  · have d1 : decide (limit < 1) = true := decide_eq_true h1
    go_enter Tryd.func29, Tryd.ntmps29
    go_wp2_with fail
    go_ret2
    exact ⟨.inl ⟨.inl h1, rfl⟩, Below.refl _ _⟩
  · have d1 : decide (limit < 1) = false := decide_eq_false h1
    by_cases h2 : 400 < limit
    · have d2 : decide (400 < limit) = true := decide_eq_true h2
      go_enter Tryd.func29, Tryd.ntmps29
      go_wp2_with fail
      go_ret2
      exact ⟨.inl ⟨.inr h2, rfl⟩, Below.refl _ _⟩
    · have d2 : decide (400 < limit) = false := decide_eq_false h2
      obtain ⟨n, rfl⟩ : ∃ n : Nat, limit = n := ⟨limit.toNat, by omega⟩
      have S := lsm_new w n
      obtain ⟨W, hW⟩ : ∃ W, W = (w.alloc (.map #[] 0)).alloc (.cells #[.int .i64 (n : Int), .map (some w.heap.size), .slice none 0 0, .slice none 0 0] 78) := ⟨_, rfl⟩
      have hbW : Below w.heap.size w W := by rw [hW]; exact ((Below.refl _ _).alloc (Nat.le_refl _) _).alloc (by simp) _
      rw [← hW] at S
      have hA := all_ok w.heap.size (w.heap.size + 1) w.heap.size none 0 [] none 0 [] n [] [] W S EKeyed.nil nofun (by simp) (by simp) nofun
      have HS := Lib.hid S
      have HB := Lib.hid hbW
      clear S hbW
      go_enter Tryd.func29, Tryd.ntmps29
      go_wp2_with fail
      go_loopw [24] (fun iv wx => iv = .int .i64 0 ∧ wx = W) (fun _ _ => 0)
      case atStart => exact ⟨rfl, hW.symm⟩
      case round =>
        obtain ⟨rfl, rfl⟩ := hrel
        clear hW
        go_wp2_with fail
        refine hA.mono ?_
        rintro e w2 ⟨A, c, q, rfl, q1, q2, q3, q4, q5, q6⟩
        have hq : q = [] := List.eq_nil_iff_forall_not_mem.2 fun x hx => by have := q4 x hx; cases this
        subst hq
        have HQ := Lib.hid q6
        clear hA q1 q2 q3 q4 q5 q6
        go_wp2_with fail
        go_ret2
        exact ⟨.inr ⟨w.heap.size + 1, by omega, by omega, rfl, ⟨_, _, _, _, _, _, _, HS.out.below HQ.out⟩⟩, HB.out.trans (HQ.out.mono HB.out.size)⟩
set_option maxRecDepth 100000 in
theorem lnew_ok (limit : Int) (w : World) (hl : (Lit.int .i64 limit).wf = true) :
    Calls Tryd.prog 12 #[.int .i64 limit] w (OpenPost w limit) := by
  have hO := open0_ok limit w hl
  go_enter Tryd.func12, Tryd.ntmps12
  go_wp2_with fail
  refine hO.mono ?_
  rintro e w1 ⟨⟨h, rfl⟩ | ⟨g, h1, h2, rfl, h⟩, hb⟩
  · unfold errI
    have HH := Lib.hid h
    clear h
    go_wp2_with fail
    go_ret2
    exact ⟨.inl ⟨HH.out, rfl⟩, hb⟩
  · have HH := Lib.hid h
    clear h
    go_wp2_with fail
    go_ret2
    exact ⟨.inr ⟨g, h1, h2, rfl, HH.out⟩, hb⟩
end Go.Proofs.YthobnigjhedjaaaDoor
