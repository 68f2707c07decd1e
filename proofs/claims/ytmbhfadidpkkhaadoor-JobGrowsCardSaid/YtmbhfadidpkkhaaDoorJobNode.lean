/-
  Package job: the contracts of texted, counted, inputs, numbers, node. Conditions: where the job lies; the two variables of Atoi's errors hold errors.
-/
import Derived.Test.YtmbhfadidpkkhaaDoorJobPlain
import Derived.Test.YtmbhfadidpkkhaaDoorExprChk
import Derived.Test.YtmbhfadidpkkhaaDoorExprErr
import Derived.Deep.CutRange
namespace Go.Proofs.YtmbhfadidpkkhaaDoor
open Go.RowKit Go.Shelf
set_option linter.unusedVariables false

def errJ (e : Int) : Value := if e = 0 then .nilIface else errV e
theorem texted_ok (k : Int) (w : World) : Calls Tryd.prog 14 #[.int .i64 k] w fun e w' => e = .returned (.bool (texted k)) ∧ w = w' := by
  by_cases h2 : k = 2
  · subst h2
    go_enter Tryd.func14, Tryd.ntmps14
    go_wp2
    go_ret
    exact ⟨rfl, rfl⟩
  by_cases h3 : k = 3
  · subst h3
    go_enter Tryd.func14, Tryd.ntmps14
    go_wp2
    go_ret
    exact ⟨rfl, rfl⟩
  by_cases h4 : k = 4
  · subst h4
    go_enter Tryd.func14, Tryd.ntmps14
    go_wp2
    go_ret
    exact ⟨rfl, rfl⟩
  have e2 : (k == 2) = false := by simp [h2]
  have e3 : (k == 3) = false := by simp [h3]
  have e4 : (k == 4) = false := by simp [h4]
  have HT : Hid (texted k = (k == 7)) := by simp [Hid, texted, h2, h3, h4]
  clear h2 h3 h4
  go_enter Tryd.func14, Tryd.ntmps14
  go_wp2
  go_ret
  exact ⟨by rw [HT.out]; rfl, rfl⟩
theorem counted_ok (k : Int) (w : World) : Calls Tryd.prog 15 #[.int .i64 k] w fun e w' => e = .returned (.bool (counted k)) ∧ w = w' := by
  by_cases h2 : k = 1
  · subst h2
    go_enter Tryd.func15, Tryd.ntmps15
    go_wp2
    go_ret
    exact ⟨rfl, rfl⟩
  by_cases h3 : k = 5
  · subst h3
    go_enter Tryd.func15, Tryd.ntmps15
    go_wp2
    go_ret
    exact ⟨rfl, rfl⟩
  have e2 : (k == 1) = false := by simp [h2]
  have e3 : (k == 5) = false := by simp [h3]
  have HT : Hid (counted k = (k == 8)) := by simp [Hid, counted, h2, h3]
  clear h2 h3
  go_enter Tryd.func15, Tryd.ntmps15
  go_wp2
  go_ret
  exact ⟨by rw [HT.out]; rfl, rfl⟩
theorem inputs_ok (k : Int) (w : World) : Calls Tryd.prog 12 #[.int .i64 k] w fun e w' => e = .returned (.tuple #[.int .i64 (inLow k), .int .i64 (inHigh k)]) ∧ w = w' := by
  by_cases h1 : k = 1
  · subst h1
    go_enter Tryd.func12, Tryd.ntmps12
    go_wp2
    go_ret2
    exact ⟨rfl, rfl⟩
  by_cases h6 : k = 6
  · subst h6
    go_enter Tryd.func12, Tryd.ntmps12
    go_wp2
    go_ret2
    exact ⟨rfl, rfl⟩
  have e1 : (k == 1) = false := by simp [h1]
  have e6 : (k == 6) = false := by simp [h6]
  have HT : Hid (inLow k = 1 ∧ inHigh k = 1) := by simp [Hid, inLow, inHigh, h1, h6]
  clear h1 h6
  go_enter Tryd.func12, Tryd.ntmps12
  go_wp2
  go_ret2
  exact ⟨by rw [HT.out.1, HT.out.2]; rfl, rfl⟩
theorem numbers_ok (k : Int) (w : World) : Calls Tryd.prog 13 #[.int .i64 k] w fun e w' => e = .returned (.tuple #[.int .i64 (numLow k), .int .i64 (numHigh k)]) ∧ w = w' := by
  by_cases h1 : k = 1
  · subst h1
    go_enter Tryd.func13, Tryd.ntmps13
    go_wp2
    go_ret2
    exact ⟨rfl, rfl⟩
  by_cases h5 : k = 5
  · subst h5
    go_enter Tryd.func13, Tryd.ntmps13
    go_wp2
    go_ret2
    exact ⟨rfl, rfl⟩
  by_cases h8 : k = 8
  · subst h8
    go_enter Tryd.func13, Tryd.ntmps13
    go_wp2
    go_ret2
    exact ⟨rfl, rfl⟩
  have e1 : (k == 1) = false := by simp [h1]
  have e5 : (k == 5) = false := by simp [h5]
  have e8 : (k == 8) = false := by simp [h8]
  have HT : Hid (numLow k = 0 ∧ numHigh k = 0) := by simp [Hid, numLow, numHigh, h1, h5, h8]
  clear h1 h5 h8
  go_enter Tryd.func13, Tryd.ntmps13
  go_wp2
  go_ret2
  exact ⟨by rw [HT.out.1, HT.out.2]; rfl, rfl⟩
/-- What is checked of a node ahead of its inputs' being. -/
def nodeBody (l : List Nod) (i : Nat) (n : Nod) : Int :=
  if (n.text.size ≠ 0 ∧ texted n.kind = false) ∨ (n.n ≠ 0 ∧ counted n.kind = false) then 3
  else if n.n < numLow n.kind ∨ numHigh n.kind < n.n then 1
  else if texted n.kind then textErr n.text.data.toList
  else 0
theorem nodeErr_eq (l : List Nod) (i : Nat) (n : Nod) : nodeErr l i n =
  if n.kind < 1 ∨ 10 < n.kind then 1
  else if (n.from_.length : Int) < inLow n.kind ∨ inHigh n.kind < (n.from_.length : Int) then 3
  else if fromErr l i n.from_ ≠ 0 then fromErr l i n.from_
  else nodeBody l i n := rfl
theorem from_cons (l : List Nod) (i : Nat) (f : Int) (r : List Int) : fromErr l i (f :: r) = if f < 0 ∨ (i : Int) ≤ f then 1 else if (l[f.toNat]?.map (·.kind)) = some 10 then 7 else fromErr l i r := rfl
theorem size_of_nil {s : ByteArray} (h : s.toList = []) : s.size = 0 := by
  rw [ByteArray.toList_eq] at h
  have : s.data.toList.length = s.size := by simp
  rw [h] at this
  exact this.symm
theorem text_err (s : List UInt8) : errOf (parseT s) = errJ (textErr s) := by
  unfold textErr errJ
  cases h : parseT s with
  | tree t => rfl
  | fault k e => rw [if_neg (parse_err_pos h)]; rfl
theorem empty_of_size {s : ByteArray} (h : s.size = 0) : s = ⟨#[]⟩ := by
  apply ByteArray.ext
  exact Array.eq_empty_of_size_eq_zero h
set_option maxRecDepth 100000 in
set_option maxHeartbeats 4000000 in
theorem node_ok (F : Nat → Prop) (A : Option Addr) (c : Nat) (l : List Nod) (i : Nat) (hi : i < l.length) (w : World) (hl : SlA nodE F w A c l) (hF : ∀ k, F k → k < w.heap.size) (hv : ErrVars w) :
    Calls Tryd.prog 8 #[.slice A l.length c, .int .i64 i] w fun e w' => e = .returned (errJ (nodeErr l i l[i])) ∧ Below w.heap.size w w' := by
  obtain ⟨b, off, A', c', rfl, hFb, x0, x1, x2, x3, htm, hki, hni, hfr⟩ := hl.nod_ hi
  have hbw := hF b hFb
  have HL := Lib.hid hl
  have HV := Lib.hid hv
  have HFR := Lib.hid hfr
  have hll := hl.le
  have hfl := hfr.le
  have bk := bounds_i64 hki
  have bn := bounds_i64 hni
  have HEQ := Lib.hid (nodeErr_eq l i l[i])
  clear hl hv hfr hki hni
  generalize hn : l[i] = nd at x0 x1 x2 x3 htm HFR hfl bk bn HEQ ⊢
  clear hn
  obtain ⟨kind, from_, text, nn⟩ := nd
  simp only at x0 x1 x2 x3 htm HFR hfl bk bn HEQ ⊢
  by_cases hk : kind < 1 ∨ 10 < kind
  · rw [if_pos hk] at HEQ
    rcases hk with hk | hk
    · have d1 : decide (kind < 1) = true := decide_eq_true hk
      go_enter Tryd.func8, Tryd.ntmps8
      go_wp2_with fail
      go_ret
      exact ⟨by rw [HEQ.out]; rfl, (Below.refl _ _).alloc (Nat.le_refl _) _⟩
    · have d1 : decide (kind < 1) = false := decide_eq_false (by omega)
      have d2 : decide (10 < kind) = true := decide_eq_true hk
      go_enter Tryd.func8, Tryd.ntmps8
      go_wp2_with fail
      go_ret
      exact ⟨by rw [HEQ.out]; rfl, (Below.refl _ _).alloc (Nat.le_refl _) _⟩
  rw [if_neg hk] at HEQ
  have hk1 : 1 ≤ kind := by omega
  have hk2 : kind ≤ 10 := by omega
  clear hk
  obtain ⟨W1, hW1⟩ : ∃ W1, W1 = w.alloc (.cells #[.int .i64 kind, .slice A' from_.length c', .string text, .int .i64 nn] 28) := ⟨_, rfl⟩
  have hb1 : Below w.heap.size w W1 := by rw [hW1]; exact (Below.refl _ _).alloc (Nat.le_refl _) _
  have hv1 : W1.heap[w.heap.size]? = some (.cells #[.int .i64 kind, .slice A' from_.length c', .string text, .int .i64 nn] 28 (0, 0)) := by rw [hW1]; exact heap_alloc_new _ _
  have v0 : W1.cell? ⟨w.heap.size, 0, none⟩ = some (.int .i64 kind) := (cell_of_row W1 _ 0 _ _ _ hv1).trans rfl
  have v1 : W1.cell? ⟨w.heap.size, 1, none⟩ = some (.slice A' from_.length c') := (cell_of_row W1 _ 1 _ _ _ hv1).trans rfl
  have v2 : W1.cell? ⟨w.heap.size, 2, none⟩ = some (.string text) := (cell_of_row W1 _ 2 _ _ _ hv1).trans rfl
  have v3 : W1.cell? ⟨w.heap.size, 3, none⟩ = some (.int .i64 nn) := (cell_of_row W1 _ 3 _ _ _ hv1).trans rfl
  have HL1 := Lib.hid (HL.out.keep (fun j hj => hb1.block j (hF j hj)))
  have HF1 := Lib.hid (HFR.out.keep (fun j hj => hb1.block j (hF j hj)))
  have HB1 := Lib.hid hb1
  have HV1 := Lib.hid (HV.out.below hb1)
  clear hb1 hv1 HL HFR HV
  go_enter Tryd.func8, Tryd.ntmps8
  go_upto_region 2 with (fail)
  rw [← hW1]
  clear hW1 x0 x1 x2 x3
  go_wp2_with fail
  refine (inputs_ok kind W1).mono ?_
  rintro e w2 ⟨rfl, rfl⟩
  by_cases hlo : (from_.length : Int) < inLow kind
  · rw [if_pos (.inl hlo)] at HEQ
    have d1 : decide ((from_.length : Int) < inLow kind) = true := decide_eq_true hlo
    go_wp2_with fail
    go_ret
    exact ⟨by rw [HEQ.out]; rfl, HB1.out⟩
  by_cases hhi : inHigh kind < (from_.length : Int)
  · rw [if_pos (.inr hhi)] at HEQ
    have d1 : decide ((from_.length : Int) < inLow kind) = false := decide_eq_false hlo
    have d2 : decide (inHigh kind < (from_.length : Int)) = true := decide_eq_true hhi
    go_wp2_with fail
    go_ret
    exact ⟨by rw [HEQ.out]; rfl, HB1.out⟩
  rw [if_neg (by omega)] at HEQ
  have d1 : decide ((from_.length : Int) < inLow kind) = false := decide_eq_false hlo
  have d2 : decide (inHigh kind < (from_.length : Int)) = false := decide_eq_false hhi
  clear hlo hhi
  go_wp2_with fail
  go_loop [49] (fun jv => ∃ j : Nat, j ≤ from_.length ∧ jv = .int .i64 j ∧ Hid (fromErr l i (from_.drop j) = fromErr l i from_)) (fun jv => from_.length - (intOf jv).toNat)
  case atStart => exact ⟨0, Nat.zero_le _, rfl, rfl⟩
  case round =>
    obtain ⟨j, hj, rfl, HJ⟩ := hrel
    by_cases hlt : j < from_.length
    · obtain ⟨bf, of_, rfl, _, hcf, _⟩ := HF1.out.int_ hlt
      have hdr : from_.drop j = from_[j] :: from_.drop (j + 1) := List.drop_eq_getElem_cons hlt
      have HJ2 : Hid (fromErr l i from_ = if from_[j] < 0 ∨ (i : Int) ≤ from_[j] then 1 else if (l[from_[j].toNat]?.map (·.kind)) = some 10 then 7 else fromErr l i (from_.drop (j + 1))) := by
        show _ = _
        rw [← HJ.out, hdr, from_cons]
      generalize from_[j] = f at hcf HJ2
      clear hdr HJ
      by_cases hf : f < 0 ∨ (i : Int) ≤ f
      · rw [if_pos hf] at HJ2
        have HE : Hid (nodeErr l i ⟨kind, from_, text, nn⟩ = 1) := by show _ = _; rw [HEQ.out, HJ2.out]; rfl
        rcases hf with hf | hf
        · have e1 : decide (f < 0) = true := decide_eq_true hf
          go_wp2_with fail
          go_ret
          exact ⟨by rw [HE.out]; rfl, HB1.out⟩
        · have e1 : decide (f < 0) = false := decide_eq_false (by omega)
          have e2 : decide ((i : Int) ≤ f) = true := decide_eq_true hf
          go_wp2_with fail
          go_ret
          exact ⟨by rw [HE.out]; rfl, HB1.out⟩
      · rw [if_neg hf] at HJ2
        obtain ⟨fn, rfl⟩ : ∃ fn : Nat, f = fn := ⟨f.toNat, by omega⟩
        have hfi : fn < i := by omega
        have hfl2 : fn < l.length := by omega
        obtain ⟨bl, ol, A2, c2, hAl, _, y0, _, _, _, _, _, _, _⟩ := HL1.out.nod_ hfl2
        injection hAl with hAl
        injection hAl with hA1 hA2
        subst hA1; subst hA2
        obtain ⟨fk, hfk⟩ : ∃ fk, l[fn].kind = fk := ⟨_, rfl⟩
        have HJ2b : Hid (fromErr l i from_ = if fk = 10 then 7 else fromErr l i (from_.drop (j + 1))) := by
          show _ = _
          rw [HJ2.out, Int.toNat_natCast, List.getElem?_eq_getElem hfl2, ← hfk]
          by_cases h : l[fn].kind = 10 <;> simp [h]
        rw [hfk] at y0
        clear hfk HJ2
        by_cases h10 : fk = 10
        · subst h10
          have HE : Hid (nodeErr l i ⟨kind, from_, text, nn⟩ = 7) := by show _ = _; rw [HEQ.out, HJ2b.out]; rfl
          go_wp2_with fail
          go_ret
          exact ⟨by rw [HE.out]; rfl, HB1.out⟩
        · have e10 : (fk == 10) = false := by simp [h10]
          have HJ3 : Hid (fromErr l i (from_.drop (j + 1)) = fromErr l i from_) := by
            show _ = _
            rw [HJ2b.out, if_neg h10]
          clear h10 HJ2b hf
          go_wp2_with fail
          go_round
          case rel => exact ⟨j + 1, by omega, by go_num, HJ3⟩
          case measure => simp [intOf]; omega
    · have dj : decide (j < from_.length) = false := decide_eq_false hlt
      have HJ0 : Hid (fromErr l i from_ = 0) := by
        show _ = _
        rw [← HJ.out, List.drop_eq_nil_of_le (by omega)]; rfl
      rw [if_neg (by rw [HJ0.out]; simp)] at HEQ
      clear HJ HJ0 hj hlt
      go_wp2_with fail
      refine (numbers_ok kind W1).mono ?_
      rintro e w3 ⟨rfl, rfl⟩
      go_upto_region 16 with (fail)
      go_cut [75] from 76 to 84 (fun bv wx => ∃ B : Bool, bv = .bool B ∧ W1 = wx ∧ Hid (B = true ↔ (text.size ≠ 0 ∧ texted kind = false)))
      case first =>
        by_cases ht : text.size = 0
        · have hte : text = ⟨#[]⟩ := empty_of_size ht
          subst hte
          go_wp2_with fail
          go_meet
          case rel => exact ⟨false, rfl, rfl, by simp [Hid, ByteArray.size]⟩
        · have hn1 : ¬ text.toList = [] := fun e => ht (size_of_nil e)
          have hn2 : (!text.toList.isEmpty) = true := by simp [hn1]
          go_wp2_with fail
          refine (texted_ok kind W1).mono ?_
          rintro e w4 ⟨rfl, rfl⟩
          go_wp2_with fail
          go_meet
          case rel => exact ⟨!texted kind, rfl, rfl, by simp [Hid, ht]⟩
      case rest =>
        obtain ⟨B, rfl, rfl, hB⟩ := hcut
        cases B with
        | true =>
          have hBB := hB.out.1 rfl
          have HE : Hid (nodeErr l i ⟨kind, from_, text, nn⟩ = 3) := by show _ = _; rw [HEQ.out]; unfold nodeBody; rw [if_pos (.inl hBB)]
          clear hBB hB
          go_wp2_with fail
          go_ret
          exact ⟨by rw [HE.out]; rfl, HB1.out⟩
        | false =>
          go_upto_region 17 with (fail)
          go_cut [75] from 85 to 93 (fun bv wx => ∃ B : Bool, bv = .bool B ∧ W1 = wx ∧ Hid (B = true ↔ (nn ≠ 0 ∧ counted kind = false)))
          case first =>
            by_cases ht : nn = 0
            · subst ht
              go_wp2_with fail
              go_meet
              case rel => exact ⟨false, rfl, rfl, by simp [Hid]⟩
            · have hn1 : (nn != 0) = true := by simp [ht]
              have hn2 : (nn == 0) = false := by simp [ht]
              go_wp2_with fail
              refine (counted_ok kind W1).mono ?_
              rintro e w4 ⟨rfl, rfl⟩
              go_wp2_with fail
              go_meet
              case rel => exact ⟨!counted kind, rfl, rfl, by simp [Hid, ht]⟩
          case rest =>
            obtain ⟨C, rfl, rfl, hC⟩ := hcut
            cases C with
            | true =>
              have hCC := hC.out.1 rfl
              have HE : Hid (nodeErr l i ⟨kind, from_, text, nn⟩ = 3) := by show _ = _; rw [HEQ.out]; unfold nodeBody; rw [if_pos (.inr hCC)]
              clear hCC hC hB
              go_wp2_with fail
              go_ret
              exact ⟨by rw [HE.out]; rfl, HB1.out⟩
            | false =>
              have HQ : Hid (nodeErr l i ⟨kind, from_, text, nn⟩ = if nn < numLow kind ∨ numHigh kind < nn then 1 else if texted kind = true then textErr text.data.toList else 0) := by
                show _ = _
                rw [HEQ.out]; unfold nodeBody
                rw [if_neg (fun h => h.elim (fun h => by have := hB.out.2 h; cases this) (fun h => by have := hC.out.2 h; cases this))]
              clear hC hB HEQ
              by_cases hlo : nn < numLow kind
              · rw [if_pos (.inl hlo)] at HQ
                have e1 : decide (nn < numLow kind) = true := decide_eq_true hlo
                go_wp2_with fail
                go_ret
                exact ⟨by rw [HQ.out]; rfl, HB1.out⟩
              by_cases hhi : numHigh kind < nn
              · rw [if_pos (.inr hhi)] at HQ
                have e1 : decide (nn < numLow kind) = false := decide_eq_false hlo
                have e2 : decide (numHigh kind < nn) = true := decide_eq_true hhi
                go_wp2_with fail
                go_ret
                exact ⟨by rw [HQ.out]; rfl, HB1.out⟩
              rw [if_neg (by omega)] at HQ
              have e1 : decide (nn < numLow kind) = false := decide_eq_false hlo
              have e2 : decide (numHigh kind < nn) = false := decide_eq_false hhi
              clear hlo hhi
              go_wp2_with fail
              refine (texted_ok kind W1).mono ?_
              rintro e w4 ⟨rfl, rfl⟩
              cases htx : texted kind with
              | false =>
                rw [htx] at HQ
                clear htx
                go_wp2_with fail
                go_ret
                exact ⟨by rw [HQ.out]; rfl, HB1.out⟩
              | true =>
                rw [htx] at HQ
                clear htx
                go_wp2_with fail
                refine (check_ok text W1 HV1.out htm).mono ?_
                rintro e w5 ⟨rfl, hb5⟩
                have HB5 := Lib.hid (HB1.out.trans (hb5.mono HB1.out.size))
                clear hb5
                go_wp2_with fail
                go_ret
                exact ⟨by rw [HQ.out]; exact congrArg Ending.returned (text_err _), HB5.out⟩
end Go.Proofs.YtmbhfadidpkkhaaDoor
