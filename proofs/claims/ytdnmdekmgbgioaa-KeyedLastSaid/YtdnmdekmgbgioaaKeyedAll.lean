/-
  Contracts of keyed's Del (of a state that is there), in, some, All. Condition: no more states than there may be.
-/
import Derived.Test.YtdnmdekmgbgioaaKeyed
import Derived.Deep.LoopGhost
import Derived.Deep.CutBlock
namespace Go.Proofs.Ytdnmdekmgbgioaa
open Go.RowKit
open Go.Sort hiding Below
set_option linter.unusedVariables false

theorem kept_drop {p1 p2 : List Hld} {h0 : Hld} (hk : Kept (p1 ++ h0 :: p2)) : Kept (p1 ++ p2) := fun x hx => by
  rcases List.mem_append.1 hx with hx | hx
  · exact hk x (List.mem_append.2 (.inl hx))
  · exact hk x (List.mem_append.2 (.inr (List.mem_cons_of_mem _ hx)))
set_option maxRecDepth 100000 in
set_option maxHeartbeats 2000000 in
theorem del_hit (g b : Nat) (p1 p2 : List Hld) (n : Int) (s : ByteArray) (x y : Int) (w : World) (K : KeyedAt w g b (p1 ++ ⟨n, s, x, y⟩ :: p2)) :
    Calls Try.prog 14 #[.pointer (some ⟨g, 0, none⟩), .int .i64 n, .string s] w fun e w' => e = .returned .nilIface ∧ KeyedAt w' g b (p1 ++ p2) ∧ Frm (· = b) w w' := by
  have hg := K.lt.1
  have hbl := K.lt.2
  have g0 := K.cell
  have hgb := K.ne
  have HK := Lib.hid K
  have HKEPT := Lib.hid (kept_drop K.ok)
  have hl : ∀ W' : World, W'.heap[b]? = w.heap[b]? → (Instr.lookup 77 (.map (some b)) (atV n s) true).run Try.prog W' = .ok (.tuple #[hldV ⟨n, s, x, y⟩, .bool true]) W' := fun W' e =>
    (K.map.keep e).look_hit atT Try.underlying77 (key := atV n s) (v := hldV ⟨n, s, x, y⟩) (by rw [hk_split]; simp) true
  have l1 := hl (w.alloc (.cells #[.int .i64 n, .string s] 82)).drew (Below.heap_alloc _ _ _ hbl)
  have l2 := hl ((w.alloc (.cells #[.int .i64 n, .string s] 82)).alloc (.cells #[.int .i64 0, .string ⟨#[]⟩, .int .i64 0, .int .i64 0] 38)).drew ((Below.heap_alloc _ _ _ (by simp; omega)).trans (Below.heap_alloc _ _ _ hbl))
  simp only [atV, hldV] at l1 l2
  clear hl K
  go_enter Try.func14, Try.ntmps14
  go_wp2_with fail
  go_region
  all_goals
    clear l1 l2
    go_wp2_with fail
    obtain ⟨W2, hW2⟩ : ∃ W2 : World, W2 = ((w.alloc (.cells #[.int .i64 n, .string s] 82)).alloc (.cells #[.int .i64 n, .string s, .int .i64 x, .int .i64 y] 38)).drew := ⟨_, rfl⟩
    have hB2 : Below w.heap.size w W2 := by rw [hW2]; exact (((Below.refl _ _).alloc (Nat.le_refl _) _).alloc (by simp) _).drew
    have e5 : W2.cell? ⟨w.heap.size, 0, none⟩ = some (.int .i64 n) ∧ W2.cell? ⟨w.heap.size, 1, none⟩ = some (.string s) := by
      have h5 : W2.heap[w.heap.size]? = some (.cells #[.int .i64 n, .string s] 82 (0, 0)) := by rw [hW2]; exact (Below.heap_alloc _ _ _ (by simp)).trans (heap_alloc_new w _)
      exact ⟨(cell_of_row _ _ 0 _ _ _ h5).trans rfl, (cell_of_row _ _ 1 _ _ _ h5).trans rfl⟩
    rw [← hW2]
    obtain ⟨e50, e51⟩ := e5
    have dg := (hB2.cell (p := ⟨g, 0, none⟩) hg).trans g0
    have hK2 := HK.out.below hB2
    have hm2 : MapAt IsAtK W2.drew b (p1.map hk ++ (atV n s, hldV ⟨n, s, x, y⟩) :: p2.map hk) := by have := hK2.map; rw [hk_split] at this; exact this.keep rfl
    have hB2' := hB2.drew
    have HM2 := Lib.hid hm2
    have HK2 := Lib.hid hK2
    have HB2 := Lib.hid hB2'
    clear hW2 hB2 hB2' hK2 hm2 g0 HK
    go_region_law (refine step_del_M rfl (.tmp 28) (.tmp 29) 77 82 rfl IsAtK b (atV n s) rfl rfl (p1.map hk ++ p2.map hk) (HM2.out.del_hit atT Try.underlying77) ?_; intro w3 hm3 hg3 hz3; have HM3 := Lib.hid hm3; have HG3 := Lib.hid hg3; clear hm3 hg3 hz3)
    all_goals
      go_wp2_with fail
      go_ret
      refine ⟨rfl, ⟨(HG3.out.block g HK2.out.lt.1 (fun e => hgb (Option.some.inj e))).trans HK2.out.obj, by rw [List.map_append]; exact HM3.out, HKEPT.out⟩, ?_⟩
      exact (Frm.ofBelow (F := (· = b)) HB2.out).trans (Frm.ofGrown (F := (· = b)) (w := W2.drew) HG3.out (fun k e => (Option.some.inj e).symm)) (fun _ h => h) (fun _ h => .inl h)

/-! ### All -/
def inB (low high : Int) (h : Hld) : Bool := decide (low ≤ (ofKey h.key : Int)) && decide ((ofKey h.key : Int) < high)
theorem in_any (n : Int) (s : ByteArray) (x y low high : Int) (w : World) (hs : s.size ≤ maxLen) :
    Calls Try.prog 53 #[.agg #[.int .i64 n, .string s, .int .i64 x, .int .i64 y], .int .i64 low, .int .i64 high] w fun e w' => e = .returned (.bool (inB low high ⟨n, s, x, y⟩)) ∧ Below w.heap.size w w' := by
  have HS := Lib.hid hs
  unfold inB
  simp only
  obtain ⟨k, hk⟩ : ∃ k, k = ofKey s := ⟨_, rfl⟩
  have HKK := Lib.hid hk
  rw [← hk]
  clear hs hk
  go_enter Try.func53, Try.ntmps53
  go_wp2_with fail
  refine (of_any s _ HS.out).mono ?_
  rintro e w1 ⟨rfl, hb⟩
  have HB : Hid (Below w.heap.size w w1) := ((Below.refl w.heap.size w).alloc (Nat.le_refl _) _).trans (hb.mono (by simp))
  clear hb
  rw [← HKK.out]
  by_cases h1 : low ≤ (k : Int)
  · have d1 : decide (low ≤ (k : Int)) = true := decide_eq_true h1
    go_wp2_with fail
    go_ret
    exact ⟨by simp; try omega, HB.out⟩
  · have d1 : decide (low ≤ (k : Int)) = false := decide_eq_false h1
    go_wp2_with fail
    go_ret
    exact ⟨by simp; try omega, HB.out⟩
theorem info_held : (Try.prog.info? 38).map (fun i => (i.zero, i.size, i.bytes)) = some (some (.agg #[.int .i64 0, .string ByteArray.empty, .int .i64 0, .int .i64 0]), 4, 40) := by kernel_rfl

def SomePost (w : World) (ps : List Hld) (low high : Int) (e : Ending) (w' : World) : Prop := ∃ A' c' q, e = .returned (.slice A' (List.length q) c') ∧ q.Perm (ps.filter (inB low high)) ∧ q.Pairwise (fun a b => ltOf hldCf b a = false) ∧ SlA hldE (· < w'.heap.size) w' A' c' q ∧ Below w.heap.size w w'
theorem range_ne_own2 {isK : Value → Prop} {w : World} {b r : Nat} {m todo : List (Value × Value)} {e : TypeId} {size cap n : Nat} {A : Option Addr} {xs : List Value} (h : RangeAt isK w b r m todo) (ho : OwnS w e size A cap n xs) : blk A ≠ some r ∧ blk A ≠ some b := by
  obtain ⟨es, clock, since, seen, c0, hb, _, _, _, hr, _⟩ := h
  rcases ho.2.2.2 with ⟨rfl, _⟩ | ⟨g, off, cur, rfl, hh, _⟩
  · exact ⟨by simp [blk], by simp [blk]⟩
  · refine ⟨fun e => ?_, fun e => ?_⟩
    · injection e with e; subst e; rw [hh] at hr; cases hr
    · injection e with e; subst e; rw [hh] at hb; cases hb
set_option maxRecDepth 100000 in
set_option maxHeartbeats 2000000 in
theorem some_any (g b : Nat) (ps : List Hld) (low high : Int) (w : World) (K : KeyedAt w g b ps) (hn : ps.length ≤ 1000000000) :
    Calls Try.prog 29 #[.pointer (some ⟨g, 0, none⟩), .int .i64 low, .int .i64 high] w (SomePost w ps low high) := by
  have HM := Lib.hid K.map
  have HOK := Lib.hid K.ok
  have hbl := K.lt.2
  have g0 := K.cell
  clear K
  go_enter Try.func29, Try.ntmps29
  go_wp2_with (at_range; refine wpList_range_M _ rfl _ 77 rfl 82 38 IsAtK Try.underlying77 b _ rfl HM.out ?_)
  intro w1 hrg hg1 hz1
  have HR := Lib.hid hrg
  have HB := Lib.hid (show Below w.heap.size w w1 from ⟨hg1.os, hg1.tape, hg1.output, hg1.size, fun k hk => hg1.block k hk (by simp)⟩)
  clear hrg hg1 hz1 HM g0
  go_wp2_with fail
  try go_frame
  go_loopg [7] (ps.length) (fun gk ov wr => ∃ (fs ts : List Hld) (A : Option Addr) (cap n : Nat), gk = ts.length ∧ fs.length + ts.length = ps.length ∧ n ≤ fs.length ∧ Hid (n = (fs.filter (inB low high)).length) ∧ Hid ((fs ++ ts).Perm ps) ∧ ov = .slice A n cap ∧ Hid (RangeAt IsAtK wr b w.heap.size (ps.map hk) (ts.map hk)) ∧
    Hid (OwnS wr 38 4 A cap n ((fs.filter (inB low high)).flatMap hldCells)) ∧ Hid (∀ k, blk A = some k → w.heap.size ≤ k) ∧ Hid (Below w.heap.size w wr))
  case atStart => exact ⟨[], ps, none, 0, 0, rfl, by simp, by simp, rfl, List.Perm.refl _, rfl, HR, OwnS.nil _ _ _, (by intro k e; cases e), HB⟩
  case round =>
    clear HR HB
    obtain ⟨fs, ts, A, cap, n, hgk, hlen, hnf, HN, HP, rfl, HR, HW, HA, HB⟩ := hrel
    have HGK := Lib.hid hgk
    clear hgk
    go_wp2_with (at_next; refine wpList_next_M _ rfl _ rfl IsAtK b w.heap.size _ _ rfl HR.out ?_ ?_)
    · intro h0
      have hts : ts = [] := by simpa using h0
      subst hts
      have HPD : Hid (fs.Perm ps) := by have := HP.out; rwa [List.append_nil] at this
      have hcon := sort_any Try.sort_Held 4 (by decide) Try.isAgg38 Try.sizeOf38 hldCells (fun _ => rfl) (fun x v hv => by simp [hldCells] at hv; rcases hv with rfl | rfl | rfl | rfl <;> rfl) hldCf hldSwo 55
        (enters_of Try.func55 (by kernel_rfl) rfl) hldCmp 38 A cap (fs.filter (inB low high)) wr (by rw [← HN.out]; exact HW.out) (by rw [← HN.out]; omega)
      change Calls Try.prog 54 _ _ _ at hcon
      rw [← HN.out] at hcon
      have HCON := Lib.hid hcon
      clear h0 hcon hlen
      go_wp2_with fail
      refine HCON.out.mono ?_
      rintro e w3 ⟨rfl, q, hq1, hq2, hq3, hq4⟩
      have HQ1 := Lib.hid hq1
      have HQ2 := Lib.hid hq2
      have HQ3 := Lib.hid hq3
      have HQ4 := Lib.hid hq4
      clear hq1 hq2 hq3 hq4 HCON
      go_wp2_with fail
      go_ret
      have hql : n = q.length := by rw [HQ1.out.length_eq, ← HN.out]
      refine ⟨A, cap, q, by rw [← hql]; rfl, HQ1.out.trans (HPD.out.filter _), HQ2.out, ?_, ?_⟩
      · have ho := HQ3.out
        refine OwnS.sl (E := hldE) hldCells (fun _ => rfl) ho hql (fun k e => ho.lt k e) (fun x hx => ?_)
        have hx2 := (List.mem_filter.1 (HQ1.out.mem_iff.1 hx)).1
        obtain ⟨⟨k1, k2, k3⟩, k4, k5⟩ := HOK.out x (HPD.out.mem_iff.1 hx2)
        exact ⟨rfl, by unfold maxLen; omega, WalkArith.wf_i64 (by omega), k4, k5⟩
      · exact HB.out.grown HQ4.out (by have := HB.out.size; omega) HA.out
    · intro t1 t2 key v w2 htodo hrg2 hg2 hz2 hen
      obtain ⟨s1, s2, hs, hs1, hs2⟩ := List.map_eq_append_iff.1 htodo
      obtain ⟨h, s3, hs', hx, hs3⟩ := List.map_eq_cons_iff.1 hs2
      subst hs'
      subst hs
      have hxm : h ∈ ps := HP.out.mem_iff.1 (by simp)
      have hkey : key = atV h.node h.key := by have := congrArg Prod.fst hx; exact this.symm
      have hval : v = hldV h := by have := congrArg Prod.snd hx; exact this.symm
      subst hkey
      subst hval
      have hks := HOK.out h hxm
      have hne := range_ne_own2 HR.out HW.out
      have hW2 : OwnS w2 38 4 A cap n ((fs.filter (inB low high)).flatMap hldCells) := HW.out.grown hg2 (fun k e e2 => hne.1 (e2 ▸ e))
      have hB2 : Below w.heap.size w w2 := HB.out.grown hg2 (by have := HB.out.size; omega) (fun k e => by injection e with e; omega)
      have HW2 := Lib.hid hW2
      have HB2 := Lib.hid hB2
      have hR2 : RangeAt IsAtK w2 b w.heap.size (ps.map hk) ((s1 ++ s3).map hk) := by rw [List.map_append, hs1, hs3]; exact hrg2
      have HR2 := Lib.hid hR2
      have hlen1 : fs.length + (s1.length + (s3.length + 1)) = ps.length := by simpa using hlen
      have hP2 : ((fs ++ [h]) ++ (s1 ++ s3)).Perm ps := by
        refine List.Perm.trans ?_ HP.out
        rw [List.append_assoc]
        refine List.Perm.append_left fs ?_
        simpa using (List.perm_middle (l₁ := s1) (a := h) (l₂ := s3)).symm
      have HP2 := Lib.hid hP2
      have hsz2 := hB2.size
      obtain ⟨hn', hk', ha', hb'⟩ := h
      have hks2 : hk'.size ≤ maxLen := by have := hks.1.2.2; simp only at this; unfold maxLen; omega
      have HKS := Lib.hid hks2
      have hfil : ∀ B : Bool, inB low high ⟨hn', hk', ha', hb'⟩ = B → (fs ++ [(⟨hn', hk', ha', hb'⟩ : Hld)]).filter (inB low high) = fs.filter (inB low high) ++ (if B then [⟨hn', hk', ha', hb'⟩] else []) := fun B e => by
        rw [List.filter_append]; congr 1
        cases B <;> simp [e]
      have HFIL := Lib.hid hfil
      have hen' : (Instr.entry (.pointer (some ⟨w.heap.size, 0, none⟩))).run Try.prog w2 = .ok (.tuple #[atV hn' hk', .agg #[.int .i64 hn', .string hk', .int .i64 ha', .int .i64 hb']]) w2 := hen
      obtain ⟨pv, hpv⟩ : ∃ v, v = atV hn' hk' := ⟨_, rfl⟩
      rw [← hpv] at hen'
      have hstate : (.tuple #[.bool true, atV hn' hk', hldV ⟨hn', hk', ha', hb'⟩] : Value) = .tuple #[.bool true, pv, .agg #[.int .i64 hn', .string hk', .int .i64 ha', .int .i64 hb']] := by rw [hpv]; rfl
      rw [hstate]
      clear htodo hrg2 hg2 hz2 hen hs1 hs2 hs3 hx hxm hne hW2 hB2 hR2 hlen hP2 HP HR HW HB hpv hks hks2 hfil hstate
      have hbx : (w2.alloc (.cells #[.int .i64 hn', .string hk', .int .i64 ha', .int .i64 hb'] 38)).heap[w2.heap.size]? = some (.cells #[.int .i64 hn', .string hk', .int .i64 ha', .int .i64 hb'] 38 (0, 0)) := heap_alloc_new w2 _
      have HBX := Lib.hid hbx
      clear hbx
      cases hin : inB low high ⟨hn', hk', ha', hb'⟩ with
      | true =>
        have HIN := Lib.hid hin
        clear hin
        go_wp2_with fail
        refine (in_any hn' hk' ha' hb' low high _ HKS.out).mono ?_
        rw [HIN.out]
        rintro e w3 ⟨rfl, hb3⟩
        have hx3 : w3.heap[w2.heap.size]? = some (.cells #[.int .i64 hn', .string hk', .int .i64 ha', .int .i64 hb'] 38 (0, 0)) := (hb3.block _ (by simp)).trans HBX.out
        have p0 := cell_of_row w3 w2.heap.size 0 _ _ _ hx3
        have p1 := cell_of_row w3 w2.heap.size 1 _ _ _ hx3
        have p2 := cell_of_row w3 w2.heap.size 2 _ _ _ hx3
        have p3 := cell_of_row w3 w2.heap.size 3 _ _ _ hx3
        simp at p0 p1 p2 p3
        have hB3 : Below w2.heap.size w2 w3 := ((Below.refl w2.heap.size w2).alloc (Nat.le_refl _) _).trans (hb3.mono (by simp))
        have hW3 := HW2.out.keep fun k e => hB3.block k (HW2.out.lt k e)
        have hR3 := HR2.out.keep (hB3.block b HR2.out.map.lt) (hB3.block _ HR2.out.lt)
        have hBw : Below w.heap.size w w3 := HB2.out.trans (hB3.mono hsz2)
        have hne2 := range_ne_own2 hR3 hW3
        have hsz3 := hBw.size
        have HW3 := Lib.hid hW3
        have HR3 := Lib.hid hR3
        have HBW := Lib.hid hBw
        have HNE := Lib.hid hne2
        clear hb3 hx3 hB3 hW3 hR3 hBw hne2 HW2 HR2 HB2 HBX hen'
        go_wp2_with (at_builtin; refine wpList_push_S (w0 := w3) rfl (.tmp 23) (.tmp 25) 33 rfl 38 _ 4 40 Try.underlying33 info_held rfl (by decide) A cap n _ rfl HW3.out [.int .i64 hn', .string hk', .int .i64 ha', .int .i64 hb'] rfl rfl (by simp [Value.oneCell']) (by unfold maxLen; omega) (by omega) ?_)
        intro A' cap' w4 hown hg hat
        have hR4 := HR3.out.keep (hg.block b HR3.out.map.lt (fun e => HNE.out.2 e.symm)) (hg.block _ HR3.out.lt (fun e => HNE.out.1 e.symm))
        have hB4 := HBW.out.grown hg (by omega) HA.out
        have hA4 : ∀ k, blk A' = some k → w.heap.size ≤ k := fun k e => by
          rcases hat with h1 | ⟨j, h1, h2⟩
          · exact HA.out k (h1 ▸ e)
          · rw [h1] at e; injection e with e; subst e; omega
        have hf := HFIL.out true HIN.out
        have HR4 := Lib.hid hR4
        have HB4 := Lib.hid hB4
        have HA4 := Lib.hid hA4
        have HF := Lib.hid hf
        have HW4 := Lib.hid hown
        clear hown hg hat hR4 hB4 hA4 hf HW3 HBW HR3 HA p0 p1 p2 p3
        go_wp2_with fail
        go_roundg ((s1 ++ s3).length)
        case measure => have := HGK.out; simp at this ⊢; omega
        case rel =>
          refine ⟨fs ++ [⟨hn', hk', ha', hb'⟩], s1 ++ s3, A', cap', n + 1, rfl, by simp; omega, by simp; omega, ?_, HP2, by simp, HR4, ?_, HA4, HB4⟩
          · show _ = _; rw [HF.out, List.length_append, ← HN.out]; rfl
          · show OwnS _ _ _ _ _ _ _; rw [HF.out, List.flatMap_append]; simpa [hldCells] using HW4.out
      | false =>
        have HIN := Lib.hid hin
        clear hin
        go_wp2_with fail
        refine (in_any hn' hk' ha' hb' low high _ HKS.out).mono ?_
        rw [HIN.out]
        rintro e w3 ⟨rfl, hb3⟩
        have hB3 : Below w2.heap.size w2 w3 := ((Below.refl w2.heap.size w2).alloc (Nat.le_refl _) _).trans (hb3.mono (by simp))
        have HW3 := Lib.hid (HW2.out.keep fun k e => hB3.block k (HW2.out.lt k e))
        have HR3 := Lib.hid (HR2.out.keep (hB3.block b HR2.out.map.lt) (hB3.block _ HR2.out.lt))
        have HBW := Lib.hid (show Below w.heap.size w w3 from HB2.out.trans (hB3.mono hsz2))
        have HF := Lib.hid (HFIL.out false HIN.out)
        clear hb3 hB3 HW2 HR2 HB2 HBX hen'
        go_wp2_with fail
        go_roundg ((s1 ++ s3).length)
        case measure => have := HGK.out; simp at this ⊢; omega
        case rel =>
          refine ⟨fs ++ [⟨hn', hk', ha', hb'⟩], s1 ++ s3, A, cap, n, rfl, by simp; omega, by simp; omega, ?_, HP2, rfl, HR3, ?_, HA, HBW⟩
          · show _ = _; rw [HF.out]; simpa using HN.out
          · show OwnS _ _ _ _ _ _ _; rw [HF.out]; simpa using HW3.out
theorem inB_all (h : Hld) : inB 0 16 h = true := by
  have := ofKey_lt h.key
  simp only [inB, Bool.and_eq_true, decide_eq_true_eq]; omega
def AllPost (w : World) (ps : List Hld) (e : Ending) (w' : World) : Prop := ∃ A' c' q, e = .returned (.slice A' (List.length q) c') ∧ q.Perm ps ∧ q.Pairwise (fun a b => ltOf hldCf b a = false) ∧ SlA hldE (· < w'.heap.size) w' A' c' q ∧ Below w.heap.size w w'
theorem all_any (g b : Nat) (ps : List Hld) (w : World) (K : KeyedAt w g b ps) (hn : ps.length ≤ 1000000000) :
    Calls Try.prog 11 #[.pointer (some ⟨g, 0, none⟩)] w (AllPost w ps) := by
  have HK := Lib.hid K
  clear K
  go_enter Try.func11, Try.ntmps11
  go_wp2_with fail
  refine (some_any g b ps 0 16 _ HK.out hn).mono ?_
  rintro e w1 ⟨A', c', q, rfl, h1, h2, h3, h4⟩
  have HH := Lib.hid (show AllPost w ps (.returned (.slice A' (List.length q) c')) w1 from ⟨A', c', q, rfl, by rwa [List.filter_eq_self.2 (fun x _ => inB_all x)] at h1, h2, h3, h4⟩)
  clear h1 h2 h3 h4
  go_wp2_with fail
  go_ret
  exact HH.out
end Go.Proofs.Ytdnmdekmgbgioaa
