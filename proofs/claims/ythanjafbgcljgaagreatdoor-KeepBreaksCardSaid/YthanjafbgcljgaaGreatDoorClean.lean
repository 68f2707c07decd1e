/-
  Package keep: the contract of Clean on a disk that does not stop. Conditions: those of List; no half picture; at most 10^6 files, steps, things done since.
-/
import Derived.Test.YthanjafbgcljgaaGreatDoorLatest
import Derived.Shelf.Slices.Turned
namespace Go.Proofs.YthanjafbgcljgaaGreatDoor
open Go.RowKit Go.Shelf
set_option linter.unusedVariables false

def memB (zs : List ByteArray) (x : ByteArray) : Bool := zs.any fun z => decide (z = x)
theorem memB_iff {zs : List ByteArray} {x : ByteArray} : memB zs x = true ↔ x ∈ zs := by
  unfold memB
  rw [List.any_eq_true]
  constructor
  · rintro ⟨z, hz, h⟩; exact of_decide_eq_true h ▸ hz
  · intro h; exact ⟨x, h, decide_eq_true rfl⟩
theorem memB_no {zs : List ByteArray} {x : ByteArray} : memB zs x = false ↔ x ∉ zs := by
  rw [← memB_iff]; cases memB zs x <;> simp
theorem contains_ok (A : Option Addr) (c : Nat) (zs : List ByteArray) (x : ByteArray) (F : Nat → Prop) (w : World) (h : SlA strE F w A c zs) : Calls Tryz.prog 21 #[.slice A zs.length c, .string x] w fun e w' => e = .returned (.bool (memB zs x)) ∧ w' = w := by
  cases hz : zs with
  | nil =>
    refine (Any.slices_Contains_string_empty Tryz.contains A c x w).mono ?_
    rintro e w' ⟨he, hw⟩
    exact ⟨he, hw⟩
  | cons z r =>
    rw [← hz]
    have h0 : 0 < zs.length := by rw [hz]; simp
    obtain ⟨b, off, cs, rfl, _, _, _⟩ := h.at_ h0
    have hle := h.le
    refine (Any.slices_Contains_string Tryz.contains b off zs.length c zs x w (Nat.le_refl _) hle (fun j hj => ?_)).mono ?_
    · obtain ⟨b', off', e, _, hc, _⟩ := h.str_ hj
      injection e with e; injection e with e1 e2; subst e1; subst e2
      rw [hc]; simp [List.getD, hj]
    · rintro e w' ⟨he, hw⟩
      refine ⟨he.trans ?_, hw⟩
      rw [List.take_length]
      congr 2
      rw [Bool.eq_iff_iff, Lib.containsS_iff, memB_iff]

/-! ### Plain -/
def strs (l : List ByteArray) : List Value := l.map Value.string
def keepF (fs : SMap) (stay : List ByteArray) : SMap := fs.filter fun p => memB stay p.1
/-- What is left where the first k names have been looked at. -/
def partF (fs : SMap) (stay L : List ByteArray) (k : Nat) : SMap := fs.filter fun p => memB stay p.1 || !memB (L.take k) p.1
theorem partF_zero (fs : SMap) (stay L : List ByteArray) : partF fs stay L 0 = fs := by unfold partF memB; simp
theorem partF_end {fs : SMap} {stay L : List ByteArray} (h : L.Perm (skeys fs)) : partF fs stay L L.length = keepF fs stay := by
  unfold partF keepF
  refine List.filter_congr fun p hp => ?_
  have : p.1 ∈ L := h.mem_iff.2 (List.mem_map.2 ⟨p, hp, rfl⟩)
  rw [List.take_length, memB_iff.2 this]
  simp
theorem mem_take_succ {L : List ByteArray} {k : Nat} (hk : k < L.length) (x : ByteArray) : memB (L.take (k + 1)) x = (memB (L.take k) x || decide (L[k] = x)) := by
  unfold memB
  rw [List.take_succ_eq_append_getElem hk, List.any_append]; simp
theorem partF_stay {fs : SMap} {stay L : List ByteArray} {k : Nat} (hk : k < L.length) (h : memB stay L[k] = true) : partF fs stay L (k + 1) = partF fs stay L k := by
  unfold partF
  refine List.filter_congr fun p hp => ?_
  rw [mem_take_succ hk]
  by_cases e : L[k] = p.1
  · rw [← e, h]; simp
  · simp [e]
theorem partF_go {fs : SMap} {stay L : List ByteArray} {k : Nat} (hk : k < L.length) (h : memB stay L[k] = false) : partF fs stay L (k + 1) = fdel (partF fs stay L k) L[k] := by
  unfold partF fdel
  rw [List.filter_filter]
  refine List.filter_congr fun p hp => ?_
  rw [mem_take_succ hk]
  by_cases e : L[k] = p.1
  · rw [← e, h]; simp
  · have e2 : ¬ p.1 = L[k] := fun x => e x.symm
    simp [e, e2]
theorem partF_has {fs : SMap} {stay L : List ByteArray} {k : Nat} (hk : k < L.length) (hp : L.Perm (skeys fs)) (hn : L.Nodup) : fhas (partF fs stay L k) L[k] = true := by
  obtain ⟨p, hpm, hpk⟩ := List.mem_map.1 (hp.mem_iff.1 (List.getElem_mem hk))
  refine fhas_iff.2 (List.mem_map.2 ⟨p, List.mem_filter.2 ⟨hpm, ?_⟩, hpk⟩)
  rw [hpk]
  have h1 : memB (L.take k) L[k] = false := memB_no.2 fun h => by
    obtain ⟨i, hi, e⟩ := List.mem_iff_getElem.1 h
    rw [List.getElem_take] at e
    rw [List.length_take] at hi
    exact List.pairwise_iff_getElem.1 hn i k (by omega) hk (by omega) e
  rw [h1]; simp
/-- A disk that does not stop, of which little was asked. -/
structure Calm (S : DState) (n : Nat) : Prop where
  st0 : 0 ≤ S.steps
  st1 : S.steps ≤ n
  stop : S.stop = -1
  len : S.since.length ≤ n
theorem Calm.fine {S : DState} {n : Nat} (h : Calm S n) (hn : n ≤ 10000000) : DiskFine S := ⟨h.st0, by have := h.st1; omega, by rw [h.stop]; decide, by rw [h.stop]; decide, by have := h.len; omega⟩
theorem Calm.done {S : DState} {n : Nat} (h : Calm S n) (op : DOp) : Calm (doneS S op) (n + 1) := ⟨by have := h.st0; simp only [doneS]; omega, by have := h.st1; simp only [doneS]; omega, h.stop, by have := h.len; simp only [doneS, List.length_append, List.length_singleton]; omega⟩
theorem Calm.sync {S : DState} {n : Nat} (h : Calm S n) : Calm (syncS S) (n + 1) := ⟨by have := h.st0; simp only [syncS]; omega, by have := h.st1; simp only [syncS]; omega, h.stop, by simp [syncS]⟩
theorem Calm.more {S : DState} {n m : Nat} (h : Calm S n) (hm : n ≤ m) : Calm S m := ⟨h.st0, by have := h.st1; omega, h.stop, Nat.le_trans h.len hm⟩
theorem Calm.go {S : DState} {n : Nat} (h : Calm S n) : stoppedB S = false := by simp [stoppedB, h.stop]

theorem row_view {w : World} {base : Nat} {v : Value} {zs : List Int} (h : w.ownsRow base 3 1 v zs.length (ints zs)) : (v = .slice none 0 0 ∧ zs = []) ∨ ∃ g cap, v = .slice (some ⟨g, 0, none⟩) zs.length cap ∧ zs.length ≤ cap ∧ cap ≤ maxLen ∧ g < w.heap.size ∧ ∀ i (hi : i < zs.length), w.cell? ⟨g, i, none⟩ = some (.int .i64 zs[i]) := by
  rcases h.2 with ⟨rfl, h1⟩ | ⟨g, cap, cur, rfl, hb, hh, hnc, hcm, hcs, ht⟩
  · exact .inl ⟨rfl, List.eq_nil_of_length_eq_zero (by simpa using h1)⟩
  · refine .inr ⟨g, cap, rfl, hnc, hcm, block_lt hh, fun i hi => (cell_of_row w g i cur _ (0, 0) hh).trans ?_⟩
    have h2 : (cur.toList.take (zs.length * 1))[i]? = (ints zs)[i]? := by rw [ht]
    rw [List.getElem?_take_of_lt (by omega), Array.getElem?_toList] at h2
    rw [h2]; simp [ints, hi]
theorem info_str_ : (Tryz.prog.info? 9).map (fun i => (i.zero, i.size, i.bytes)) = some (some (.string ⟨#[]⟩), 1, 16) := by kernel_rfl
theorem row_strs {w : World} {base : Nat} {v : Value} {l : List ByteArray} (h : w.ownsRow base 9 1 v l.length (strs l)) (hl : ∀ s ∈ l, s.size ≤ maxLen) : ∃ A c, v = .slice A l.length c ∧ SlA strE (Quiet w) w A c l := by
  obtain ⟨A, c, rfl, hown, hA⟩ := OwnS.of_row h
  have e : ∀ l : List ByteArray, strs l = l.flatMap fun s => [.string s] := by
    intro l
    unfold strs
    induction l with
    | nil => rfl
    | cons x r ih => simp [ih]
  rw [e] at hown
  exact ⟨A, c, rfl, OwnS.sl (E := strE) (fun s => [.string s]) (fun _ => rfl) hown rfl (fun k e => own_quiet_str hown e) (fun x hx => ⟨rfl, hl x hx⟩)⟩
def stayN (zs : List Int) (F : Nat) : List ByteArray := (zs.drop F).map picN
set_option maxRecDepth 100000 in
set_option maxHeartbeats 4000000 in
theorem clean_ok (w0 : World) (g : Nat) (S : DState) (many : Int) (n : Nat) (w : World) (D : DiskIn w0 w g S) (hT : PowTab w0) (hP : Pics w S.now) (hno : fhas S.now halfN = false) (hC : Calm S n) (hn : n ≤ 1000000) (hl : S.now.length ≤ 1000000) (hm : 1 ≤ many) (hmi : I64 many) :
    Calls Tryz.prog 9 #[.pointer (some ⟨g, 0, none⟩), .int .i64 many] w fun e w' => e = .returned .nilIface ∧ QKeep w w' ∧ ∃ zs S', DiskIn w0 w' g S' ∧ zs.Perm (idsOf S.now) ∧ zs.Pairwise (· ≤ ·) ∧ S'.now = keepF S.now (stayN zs (zs.length - many.toNat)) ∧ Calm S' (n + S.now.length + 1) := by
  have HD := Lib.hid D
  have HP := Lib.hid hP
  have HC := Lib.hid hC
  have hnd := D.nodup
  have HNO := Lib.hid hno
  have hmb := (bounds_i64 hmi).2
  have HL := Lib.hid (klist_ok w0 g S w D hT hP (fun h => by rw [hno] at h; cases h) (by omega))
  clear D hP hC hno
  go_enter Tryz.func9, Tryz.ntmps9
  go_wp2_with fail
  refine HL.out.mono ?_
  rintro e w1 ⟨zs, v, rfl, hr1, hp1, hs1, hb1⟩
  have hzl : zs.length ≤ S.now.length := by
    rw [hp1.length_eq]
    have h1 := List.length_filterMap_le idOf (skeys S.now)
    have h2 : (skeys S.now).length = S.now.length := by simp [skeys]
    unfold idsOf; omega
  have HZG : Hid (∀ id ∈ zs, Good id) := fun id hid => (ids_mem HP.out (hp1.mem_iff.1 hid)).1
  have HPZ := Lib.hid hp1
  have HSZ := Lib.hid hs1
  have HB1 := Lib.hid hb1
  obtain ⟨F, hF⟩ : ∃ F, F = zs.length - many.toNat := ⟨_, rfl⟩
  obtain ⟨z, hz⟩ : ∃ z, z = zs.length := ⟨_, rfl⟩
  have e1 : max 0 (wrap64 ((z : Int) - many)) = (F : Int) := by rw [IntWalk.wrap64_in _ (by omega)]; omega
  have e1' : max 0 ((z : Int) - many) = (F : Int) := by omega
  have hFz : F ≤ z := by omega
  have HF := Lib.hid hF
  have HZ := Lib.hid hz
  have e2 : z = 0 → max 0 (wrap64 (-many)) = 0 ∧ max 0 (wrap64 (0 - many)) = 0 ∧ F = 0 := fun h => by
    refine ⟨?_, ?_, by omega⟩
    · rw [IntWalk.wrap64_in _ (by omega)]; omega
    · rw [IntWalk.wrap64_in _ (by omega)]; omega
  have hF1 : 0 < z → F < z := fun h => by omega
  have hsl : (stayN zs F).length = z - F := by unfold stayN; rw [List.length_map, List.length_drop, hz]
  have HVIEW : ∃ gl, Hid (∀ i (hi : i < zs.length), w1.cell? ⟨gl, i, none⟩ = some (.int .i64 zs[i])) ∧ ((v = .slice none 0 0 ∧ z = 0) ∨ (∃ g2 cap, v = .slice (some ⟨g2, 0, none⟩) 0 cap ∧ z = 0 ∧ cap ≤ maxLen) ∨ ∃ cap, v = .slice (some ⟨gl, 0, none⟩) z cap ∧ z ≤ cap ∧ cap ≤ maxLen ∧ 0 < z) := by
    rcases row_view hr1 with ⟨e, hz0⟩ | ⟨g2, cap, e, hcap, hcm, hgl, hcell⟩
    · exact ⟨0, fun i hi => absurd hi (by rw [hz0]; simp), .inl ⟨e, by rw [hz, hz0]; rfl⟩⟩
    · refine ⟨g2, hcell, ?_⟩
      by_cases h0 : z = 0
      · exact .inr (.inl ⟨g2, cap, by rw [e, ← hz, h0], h0, hcm⟩)
      · exact .inr (.inr ⟨cap, by rw [e, hz], by omega, hcm, by omega⟩)
  obtain ⟨gl, HCL, hview⟩ := HVIEW
  have HE2 := Lib.hid e2
  have hzb : z ≤ 1000000 := by omega
  have HF1 := Lib.hid hF1
  clear hr1 hp1 hs1 hb1 hF hz HL e2 hF1
  rcases hview with ⟨rfl, h0⟩ | ⟨g2, cap, rfl, h0, hcm⟩ | ⟨cap, rfl, hcap, hcm, h0⟩
  rotate_left 2
  have hcF : ¬ cap = F := by have := HF1.out h0; omega
  rotate_left
  obtain ⟨e3, e4, e5⟩ := HE2.out h0
  rotate_left
  obtain ⟨e3, e4, e5⟩ := HE2.out h0
  all_goals
    go_wp2_with fail
  all_goals
    go_loopw [6, 25] (fun v i wr => ∃ k : Nat, k ≤ z - F ∧ i = .int .i64 k ∧ Hid (wr.ownsRow w1.heap.size 9 1 v k (strs ((stayN zs F).take k))) ∧ Hid (Below w1.heap.size w1 wr)) (fun _ i _ => (z - F) - (intOf i).toNat)
    case atStart => exact ⟨0, Nat.zero_le _, rfl, World.ownsRow_nil _ _ _ _, Below.refl _ _⟩
    case round =>
      obtain ⟨k, hk, rfl, HR, HB⟩ := hrel
      have hz1 := HB1.out.size
      have hzr := HB.out.size
      by_cases hlt : k < z - F
      · first
          | (exfalso; omega)
          | (have hi : F + k < zs.length := by have := HZ.out; omega
             have hcell := (HB.out.cell (p := ⟨gl, F + k, none⟩) (cell_lt (HCL.out (F + k) hi))).trans (HCL.out (F + k) hi)
             have hG : Good zs[F + k] := HZG.out _ (List.getElem_mem hi)
             have HSN : Hid ((stayN zs F).take (k + 1) = (stayN zs F).take k ++ [picN zs[F + k]]) := by
               show _ = _
               rw [List.take_succ_eq_append_getElem (by rw [hsl]; exact hlt)]
               simp [stayN]
             have DR := Lib.hid (HD.out.below (HB1.out.trans (HB.out.mono hz1)))
             generalize zs[F + k] = id at hcell hG HSN
             clear hi
             go_wp2_with fail
             refine (kname_ok id wr hG (hT.at_ DR.out)).mono ?_
             rintro e w2 ⟨rfl, hb2⟩
             have hB2 := HB.out.trans (hb2.mono hzr)
             have hR2 := row_below HR.out hb2
             clear hb2
             go_wp2_with (at_builtin; refine wpList_push rfl _ _ 53 rfl w1.heap.size 9 (.string ⟨#[]⟩) 1 16 Tryz.underlying53 info_str_ rfl (by decide) u6 k _ rfl hR2 [.string (picN id)] rfl rfl ?_ ?_ ?_ hB2.size hB2 (Nat.le_refl _) ?_)
             · rintro u hu; simp at hu; subst hu; rfl
             · unfold maxLen; omega
             · omega
             · intro v' w3 hown3 hg3 hb3 _
               have HR3 : Hid (w3.ownsRow w1.heap.size 9 1 v' (k + 1) (strs ((stayN zs F).take (k + 1)))) := by
                 show World.ownsRow _ _ _ _ _ _ _
                 rw [HSN.out]
                 have e : strs ((stayN zs F).take k ++ [picN id]) = strs ((stayN zs F).take k) ++ [.string (picN id)] := by simp [strs]
                 rw [e]; exact hown3
               have HB3 := Lib.hid hb3
               clear hown3 hg3 hb3 hB2 hR2
               go_wp2_with fail
               refine ⟨⟨k + 1, by omega, by congr 1, HR3.out, HB3.out⟩, ?_⟩
               simp [intOf]; omega)
      · have hkz : k = z - F := by omega
        subst hkz
        have HRS : Hid (wr.ownsRow w1.heap.size 9 1 u6 (stayN zs F).length (strs (stayN zs F))) := by
          have h := HR.out
          rw [List.take_of_length_le (by rw [hsl]; exact Nat.le_refl _)] at h
          show World.ownsRow _ _ _ _ _ _ _
          rw [hsl]; exact h
        have hstl : ∀ s ∈ stayN zs F, s.size ≤ maxLen := fun s hs => by
          obtain ⟨id, hid, rfl⟩ := List.mem_map.1 hs
          exact picN_le (HZG.out id (List.mem_of_mem_drop hid))
        obtain ⟨A6, c6, hv6, hs6⟩ := row_strs HRS.out hstl
        rw [hsl] at hv6
        subst hv6
        have HS6 := Lib.hid hs6
        have DR := Lib.hid (HD.out.below (HB1.out.trans (HB.out.mono hz1)))
        have HQR := Lib.hid (QKeep.below (HB1.out.trans (HB.out.mono hz1)))
        obtain ⟨stay, hstay⟩ : ∃ stay, stay = stayN zs F := ⟨_, rfl⟩
        rw [← hstay] at HS6 hsl
        have HSTAY := Lib.hid hstay
        rw [← hsl]
        clear hs6 HRS hstl hstay HR HB hlt hk hsl
        go_wp2_with fail
        refine (names_in w0 g S wr DR.out (by omega)).mono ?_
        rintro e w2 ⟨A2, c2, L, rfl, hs2, hp2, hb2⟩
        have hLl : L.length = S.now.length := by rw [hp2.length_eq]; simp [skeys]
        have hLn : L.length ≤ 1000000 := by omega
        have HLL := Lib.hid hLl
        have HND : Hid (L.Nodup) := hp2.nodup_iff.2 hnd
        have HS2 := Lib.hid hs2
        have HP2 := Lib.hid hp2
        have HS6B := Lib.hid (HS6.out.qk (QKeep.below hb2))
        have D2 := Lib.hid (DR.out.below hb2)
        have HQ2 := Lib.hid (HQR.out.trans (QKeep.below hb2))
        clear hs2 hp2 hb2 HS6 DR HQR hLl
        go_wp2_with fail
        go_loopw [38] (fun i wx => ∃ k : Nat, k ≤ L.length ∧ i = .int .i64 k ∧ ∃ S', Hid (DiskIn w0 wx g S') ∧ Hid (S'.now = partF S.now stay L k) ∧ Hid (Calm S' (n + k)) ∧ Hid (QKeep w2 wx)) (fun i _ => L.length - (intOf i).toNat)
        case atStart => exact ⟨0, Nat.zero_le _, rfl, S, D2.out, (partF_zero _ _ _).symm, HC.out, QKeep.refl _⟩
        case round =>
          obtain ⟨k, hk, rfl, S', HDX, HNX, HCX, HQX⟩ := hrel
          by_cases hlt : k < L.length
          · obtain ⟨bb, off, rfl, hbq, hcell, hsz⟩ := HS2.out.str_ hlt
            have hcell2 := (World.cell?_of_block (a := ⟨bb, off + k, none⟩) (HQX.out bb hbq)).trans hcell
            have HCON := Lib.hid (contains_ok A6 c6 stay L[k] _ wr (HS6B.out.qk HQX.out))
            have HLK : Hid (∃ id, Good id ∧ L[k] = picN id) := by
              obtain ⟨p, hpm, hpk⟩ := List.mem_map.1 (HP2.out.mem_iff.1 (List.getElem_mem hlt))
              rcases (HP.out p hpm).1 with e | e
              · have : fhas S.now halfN = true := fhas_iff.2 (List.mem_map.2 ⟨p, hpm, e⟩)
                rw [HNO.out] at this; cases this
              · obtain ⟨id, h1, h2⟩ := e; exact ⟨id, h1, hpk.symm.trans h2⟩
            have HHAS : Hid (fhas S'.now L[k] = true) := by
              show _ = _
              rw [HNX.out]; exact partF_has hlt HP2.out HND.out
            have HST : Hid (memB stay L[k] = true → partF S.now stay L (k + 1) = partF S.now stay L k) := fun h => partF_stay hlt h
            have HGO : Hid (memB stay L[k] = false → partF S.now stay L (k + 1) = fdel (partF S.now stay L k) L[k]) := fun h => partF_go hlt h
            generalize hx : L[k] = x at hcell2 HCON HLK HHAS HST HGO hsz
            clear hx hcell hbq
            cases hm : memB stay x with
            | true =>
              rw [hm] at HCON
              have HN1 := Lib.hid (HNX.out.trans (HST.out hm).symm)
              have HC1 := Lib.hid (HCX.out.more (show n + k ≤ n + (k + 1) by omega))
              go_wp2_with fail
              refine HCON.out.mono ?_
              rintro e w3 ⟨rfl, rfl⟩
              go_wp2_with fail
              refine ⟨⟨k + 1, by omega, by congr 1, S', HDX.out, HN1.out, HC1.out, HQX.out⟩, ?_⟩
              simp [intOf]; omega
            | false =>
              rw [hm] at HCON
              obtain ⟨id, hG, rfl⟩ := HLK.out
              have hr : stepE S' (hasE S' (picN id)) = none := by
                have h1 := HCX.out.go
                have h2 := HHAS.out
                simp [stepE, h1, hasE, named_pic hG, h2]
              have HN1 : Hid ((doneS S' (.rem (picN id))).now = partF S.now stay L (k + 1)) := by
                show fdel S'.now (picN id) = _
                rw [HGO.out hm, HNX.out]
              have HC1 : Hid (Calm (doneS S' (.rem (picN id))) (n + (k + 1))) := HCX.out.done _
              have HREM := Lib.hid (remove_ok w0 g S' (picN id) wr HDX.out hsz ((HCX.out.fine (by omega)).ok) none hr)
              clear hr
              go_wp2_with fail
              refine HCON.out.mono ?_
              rintro e w3 ⟨rfl, rfl⟩
              go_wp2_with fail
              refine HREM.out.mono ?_
              rintro e w4 ⟨he, q4, hD4⟩
              obtain rfl : e = .returned .nilIface := he
              have D4 : Hid (DiskIn w0 w4 g (doneS S' (.rem (picN id)))) := hD4
              have HQ4 := Lib.hid (HQX.out.trans q4)
              clear q4 hD4
              go_wp2_with fail
              refine ⟨⟨k + 1, by omega, by congr 1, _, D4.out, HN1.out, HC1.out, HQ4.out⟩, ?_⟩
              simp [intOf]; omega
          · have hkl : k = L.length := by omega
            subst hkl
            go_wp2_with fail
            refine (sync_ok w0 g S' wr HDX.out ((HCX.out.fine (by omega)).ok) HCX.out.go).mono ?_
            rintro e w3 ⟨rfl, q3, hD3⟩
            have D3 := Lib.hid hD3
            have HQ3 := Lib.hid (HQ2.out.trans (HQX.out.trans q3))
            have HFIN : Hid ((syncS S').now = keepF S.now (stayN zs F)) := by
              show S'.now = _
              rw [HNX.out, partF_end HP2.out, HSTAY.out]
            have HCF : Hid (Calm (syncS S') (n + S.now.length + 1)) := by
              have := HCX.out.sync
              rw [HLL.out] at this
              exact this
            clear q3 hD3
            go_wp2_with fail
            go_ret
            exact ⟨rfl, HQ3.out, zs, syncS S', D3.out, HPZ.out, HSZ.out, by rw [← HF.out]; exact HFIN.out, HCF.out⟩
end Go.Proofs.YthanjafbgcljgaaGreatDoor
