/-
  Several texts of this claim in one, in build order; each begins with its own remark, which says what it proves and under which conditions.
-/
import Derived.Test.YtfndhfekbbbliaaGreatDoorPackF
import Derived.Test.YtfndhfekbbbliaaGreatDoorPackD
import Derived.Test.YtfndhfekbbbliaaGreatDoorRows
import Derived.LaidLaws
import Derived.Lib.LaidU8
import Derived.Lib.LaidTab
import Derived.Test.YtfndhfekbbbliaaGreatDoorPackE

/-
  Quotients and what is left, plain, by signs: what the reference's whole numbers give is the operator's value. No condition but that the divisor is not 0.
-/
namespace Go.Proofs.YtfndhfekbbbliaaGreatDoor
open Go.RowKit
set_option linter.unusedVariables false

theorem wrap64_of {x : Int} (h : I64s x) : wrap64 x = x := by unfold wrap64; have := h.1; have := h.2; omega
theorem opVal_zero {op : UInt8} (h : op = 47 ∨ op = 37) (a : Int) : opVal op a 0 = 0 := by
  rcases h with rfl | rfl
  · unfold opVal; rw [if_neg (by decide), if_neg (by decide), if_neg (by decide), if_neg (by decide), if_neg (by decide), if_neg (by decide), if_neg (by decide), if_neg (by decide), if_pos rfl]
  · unfold opVal; rw [if_neg (by decide), if_neg (by decide), if_neg (by decide), if_neg (by decide), if_neg (by decide), if_neg (by decide), if_neg (by decide), if_neg (by decide), if_pos rfl]
theorem op47 {a b : Int} (h0 : b ≠ 0) : opVal 47 a b = if b = -1 then wrap64 (-a) else a.tdiv b := by
  unfold opVal
  rw [if_neg (by decide), if_neg (by decide), if_neg (by decide), if_neg (by decide), if_neg (by decide), if_neg (by decide), if_neg (by decide), if_neg (by decide), if_neg h0]
  split
  · rw [if_neg (by decide)]
  · rw [if_pos rfl]
theorem op37 {a b : Int} (h0 : b ≠ 0) : opVal 37 a b = if b = -1 then 0 else a.tmod b := by
  unfold opVal
  rw [if_neg (by decide), if_neg (by decide), if_neg (by decide), if_neg (by decide), if_neg (by decide), if_neg (by decide), if_neg (by decide), if_neg (by decide), if_neg h0]
  split
  · rw [if_pos rfl]
  · rw [if_neg (by decide)]
theorem tdiv_signs (a b : Int) : a.tdiv b = if (decide (a < 0) != decide (b < 0)) = true then -((a.natAbs / b.natAbs : Nat) : Int) else ((a.natAbs / b.natAbs : Nat) : Int) := by
  by_cases ha : a < 0
  · obtain ⟨m, rfl⟩ : ∃ m : Nat, a = -(m : Int) := ⟨a.natAbs, by omega⟩
    by_cases hb : b < 0
    · obtain ⟨k, rfl⟩ : ∃ k : Nat, b = -(k : Int) := ⟨b.natAbs, by omega⟩
      rw [decide_eq_true ha, decide_eq_true hb, if_neg (by decide), Int.natAbs_neg, Int.natAbs_neg, Int.natAbs_natCast, Int.natAbs_natCast, Int.tdiv_neg, Int.neg_tdiv, Int.neg_neg]; rfl
    · obtain ⟨k, rfl⟩ : ∃ k : Nat, b = (k : Int) := ⟨b.natAbs, by omega⟩
      rw [decide_eq_true ha, decide_eq_false hb, if_pos (by decide), Int.natAbs_neg, Int.natAbs_natCast, Int.natAbs_natCast, Int.neg_tdiv]; rfl
  · obtain ⟨m, rfl⟩ : ∃ m : Nat, a = (m : Int) := ⟨a.natAbs, by omega⟩
    by_cases hb : b < 0
    · obtain ⟨k, rfl⟩ : ∃ k : Nat, b = -(k : Int) := ⟨b.natAbs, by omega⟩
      rw [decide_eq_false ha, decide_eq_true hb, if_pos (by decide), Int.natAbs_neg, Int.natAbs_natCast, Int.natAbs_natCast, Int.tdiv_neg]; rfl
    · obtain ⟨k, rfl⟩ : ∃ k : Nat, b = (k : Int) := ⟨b.natAbs, by omega⟩
      rw [decide_eq_false ha, decide_eq_false hb, if_neg (by decide), Int.natAbs_natCast, Int.natAbs_natCast]; rfl
/-- The quotient. -/
theorem quo_val {a b : Int} (ha : I64s a) (hb : I64s b) (h0 : b ≠ 0) {Q : Nat} (hQ : Q = a.natAbs / b.natAbs) {f : Bool} (hf : f = ((decide (a < 0) != decide (b < 0)) && decide (0 < Q))) :
    (f = true → Q ≤ 9223372036854775808) ∧ Q ≤ 9223372036854775808 ∧ opVal 47 a b = (if (decide (Q < 9223372036854775808) || f) = true then (if f = true then -(Q : Int) else (Q : Int)) else a) := by
  obtain ⟨ha1, ha2⟩ := ha
  have hQa : Q ≤ a.natAbs := by rw [hQ]; exact Nat.div_le_self _ _
  have hqb : Q ≤ 9223372036854775808 := by omega
  refine ⟨fun _ => hqb, hqb, ?_⟩
  have hts := tdiv_signs a b
  rw [← hQ] at hts
  have hbase : a.tdiv b = if f = true then -(Q : Int) else (Q : Int) := by
    rw [hts, hf]
    by_cases hs : (decide (a < 0) != decide (b < 0)) = true
    · rw [if_pos hs, hs, Bool.true_and]
      by_cases hq0 : 0 < Q
      · rw [decide_eq_true hq0, if_pos rfl]
      · rw [decide_eq_false hq0, if_neg (by decide)]; omega
    · rw [if_neg hs]
      have : (decide (a < 0) != decide (b < 0)) = false := by simpa using hs
      rw [this, Bool.false_and, if_neg (by decide)]
  rw [op47 h0]
  by_cases hc : (decide (Q < 9223372036854775808) || f) = true
  · rw [if_pos hc, ← hbase]
    by_cases h1 : b = -1
    · rw [if_pos h1, h1]
      have e : a.tdiv (-1) = -a := by rw [Int.tdiv_neg, Int.tdiv_one]
      rw [e]
      refine wrap64_of ⟨by omega, ?_⟩
      rw [h1, e] at hbase
      rw [hbase]
      cases f with
      | true => rw [if_pos rfl]; omega
      | false =>
        rw [Bool.or_false, decide_eq_true_eq] at hc
        rw [if_neg (by decide)]; omega
    · rw [if_neg h1]
  · rw [if_neg hc]
    have hc2 : Q = 9223372036854775808 ∧ f = false := by
      rw [Bool.or_eq_true, decide_eq_true_eq, not_or] at hc
      exact ⟨by omega, by simpa using hc.2⟩
    have ham : a = -9223372036854775808 := by omega
    have hb1 : b.natAbs = 1 := by
      rcases Nat.lt_or_ge 1 b.natAbs with h7 | h7
      · have : a.natAbs / b.natAbs < a.natAbs := Nat.div_lt_self (by omega) h7
        omega
      · omega
    have hbm : b = -1 := by
      rcases Int.natAbs_eq b with h | h
      · rw [hb1] at h
        rw [hc2.2, hc2.1, ham, h] at hf
        exfalso
        revert hf; decide
      · rw [hb1] at h; exact h
    rw [if_pos hbm, ham]
    unfold wrap64; omega
theorem opVal_i64s_47 {a b : Int} (ha : I64s a) (hb : I64s b) (h0 : b ≠ 0) : I64s (opVal 47 a b) := by
  obtain ⟨Q, hQ⟩ : ∃ Q, Q = a.natAbs / b.natAbs := ⟨_, rfl⟩
  obtain ⟨f, hf⟩ : ∃ f, f = ((decide (a < 0) != decide (b < 0)) && decide (0 < Q)) := ⟨_, rfl⟩
  obtain ⟨q1, q2, q3⟩ := quo_val ha hb h0 hQ hf
  rw [q3]
  cases f with
  | true => rw [Bool.or_true, if_pos rfl, if_pos rfl]; exact ⟨by omega, by omega⟩
  | false =>
    by_cases hq : Q < 9223372036854775808
    · rw [decide_eq_true hq, Bool.true_or, if_pos rfl, if_neg (by decide)]; exact ⟨by omega, by omega⟩
    · rw [decide_eq_false hq, Bool.false_or, if_neg (by decide)]; exact ha
theorem tmod_signs (a b : Int) : a.tmod b = if a < 0 then -((a.natAbs % b.natAbs : Nat) : Int) else ((a.natAbs % b.natAbs : Nat) : Int) := by
  have hb : a.tmod b = a.tmod (b.natAbs : Int) := by
    rcases Int.natAbs_eq b with h | h
    · rw [← h]
    · conv => lhs; rw [h]
      rw [Int.tmod_neg]
  rw [hb]
  by_cases ha : a < 0
  · obtain ⟨m, rfl⟩ : ∃ m : Nat, a = -(m : Int) := ⟨a.natAbs, by omega⟩
    rw [if_pos ha, Int.natAbs_neg, Int.natAbs_natCast, Int.neg_tmod]; rfl
  · obtain ⟨m, rfl⟩ : ∃ m : Nat, a = (m : Int) := ⟨a.natAbs, by omega⟩
    rw [if_neg ha, Int.natAbs_natCast]; rfl
/-- What is left. -/
theorem rem_val {a b : Int} (ha : I64s a) (hb : I64s b) (h0 : b ≠ 0) {R : Nat} (hR : R = a.natAbs % b.natAbs) {f : Bool} (hf : f = (decide (a < 0) && decide (0 < R))) :
    (f = true → R ≤ 9223372036854775808) ∧ R ≤ 9223372036854775808 ∧ opVal 37 a b = (if (decide (R < 9223372036854775808) || f) = true then (if f = true then -(R : Int) else (R : Int)) else a) := by
  obtain ⟨hb1, hb2⟩ := hb
  have hlt : R < b.natAbs := by rw [hR]; exact Nat.mod_lt _ (by omega)
  have hR2 : R < 9223372036854775808 := by omega
  refine ⟨fun _ => by omega, by omega, ?_⟩
  have hts := tmod_signs a b
  rw [← hR] at hts
  rw [decide_eq_true hR2, Bool.true_or, if_pos rfl, op37 h0]
  have hbase : a.tmod b = if f = true then -(R : Int) else (R : Int) := by
    rw [hts, hf]
    by_cases hs : a < 0
    · rw [if_pos hs, decide_eq_true hs, Bool.true_and]
      by_cases hq0 : 0 < R
      · rw [decide_eq_true hq0, if_pos rfl]
      · rw [decide_eq_false hq0, if_neg (by decide)]; omega
    · rw [if_neg hs, decide_eq_false hs, Bool.false_and, if_neg (by decide)]
  rw [← hbase]
  by_cases h1 : b = -1
  · rw [if_pos h1, hts]
    have : R = 0 := by rw [h1] at hlt; simp at hlt; exact hlt
    rw [this]; split <;> rfl
  · rw [if_neg h1]
theorem opVal_i64s_37 {a b : Int} (ha : I64s a) (hb : I64s b) (h0 : b ≠ 0) : I64s (opVal 37 a b) := by
  have hlt : a.natAbs % b.natAbs < b.natAbs := Nat.mod_lt _ (by omega)
  rw [op37 h0]
  split
  · exact ⟨by omega, by omega⟩
  · rw [tmod_signs]
    obtain ⟨hb1, hb2⟩ := hb
    generalize a.natAbs % b.natAbs = R at hlt ⊢
    split <;> exact ⟨by omega, by omega⟩
end Go.Proofs.YtfndhfekbbbliaaGreatDoor

/-
  The reference's Value at a tree of two operands, operator by operator (printed by refval.py). Conditions: n and s are ints.
-/
namespace Go.Proofs.YtfndhfekbbbliaaGreatDoor
open Go.RowKit Go.ChangeShapes Go.WideShapes
set_option linter.unusedVariables false

set_option maxRecDepth 100000 in
set_option maxHeartbeats 1000000 in
theorem value_bin_43 (x y : Tr) (ix : ValueOk x) (iy : ValueOk y) : ValueOk (.bin 43 x y) := by
  intro v n s w h hn hs
  cases h with
  | @bin b o nn ss o' n' s' _ _ _ hop hb h0 h1 h2 hx h3 h4 h5 hy =>
    change Calls _ _ #[.agg #[.int .i64 43, .int .i64 0, .slice (some ⟨b, 0, none⟩) 2 2], .int .i64 n, .int .i64 s] w _
    obtain ⟨W1, hW1⟩ : ∃ W1, W1 = w.alloc (.cells #[.int .i64 43, .int .i64 0, .slice (some ⟨b, 0, none⟩) 2 2] 24) := ⟨_, rfl⟩
    have hb1 : Below w.heap.size w W1 := by rw [hW1]; exact (Below.refl _ _).alloc (Nat.le_refl _) _
    have g1 := heap_alloc_new w (.cells #[.int .i64 43, .int .i64 0, .slice (some ⟨b, 0, none⟩) 2 2] 24)
    rw [← hW1] at g1
    have HX := Lib.hid (ix _ n s W1 (hx.under hb1) hn hs)
    have HYY : Hid (∀ W, Below w.heap.size w W → Calls Tryz.prog 13 #[.agg #[o', n', s'], .int .i64 n, .int .i64 s] W (ValuePost y n s W)) := fun W hW => iy _ n s W (hy.under hW) hn hs
    have HC : Hid (∀ W, Below w.heap.size w W → W.cell? ⟨b, 3, none⟩ = some o' ∧ W.cell? ⟨b, 4, none⟩ = some n' ∧ W.cell? ⟨b, 5, none⟩ = some s') := fun W hW =>
      ⟨(hW.cell (p := ⟨b, 3, none⟩) hb).trans h3, (hW.cell (p := ⟨b, 4, none⟩) hb).trans h4, (hW.cell (p := ⟨b, 5, none⟩) hb).trans h5⟩
    have HB1 := Lib.hid hb1
    have y0 := cell_of_row W1 w.heap.size 0 _ _ _ g1
    have y2 := cell_of_row W1 w.heap.size 2 _ _ _ g1
    simp at y0 y2
    have hl1 := block_lt g1
    have HW := Lib.hid hW1
    have HY := Lib.hid (And.intro y0 y2)
    clear hx hy hn hs hb1 hW1 g1 ix iy h3 h4 h5 y0 y2 hop
    go_enter Tryz.func13, Tryz.ntmps13
    go_wp2_with fail
    rw [← HW.out]
    clear HW h0 h1 h2
    refine HX.out.mono ?_
    rintro e w2 ⟨rfl, hx2, hb2⟩
    have u0 := (hb2.cell (p := ⟨w.heap.size, 0, none⟩) hl1).trans HY.out.1
    have u2 := (hb2.cell (p := ⟨w.heap.size, 2, none⟩) hl1).trans HY.out.2
    have hl2 : w.heap.size < w2.heap.size := Nat.lt_of_lt_of_le hl1 hb2.size
    have hB2 := HB1.out.trans (hb2.mono HB1.out.size)
    have HB2 := Lib.hid hB2
    have HYC := Lib.hid (HYY.out w2 hB2)
    obtain ⟨p0, p1, p2⟩ := HC.out w2 hB2
    have HV0 : Hid ((Tr.bin 43 x y).val n s = opVal 43 (x.val n s) (y.val n s)) := rfl
    generalize x.val n s = xv at hx2 HV0
    clear HX HB1 hb2 HY HYY HC hB2
    have hx3 := hx2.1
    have hx4 := hx2.2
    clear hx2
    go_wp2_with fail
    refine HYC.out.mono ?_
    rintro e w3 ⟨rfl, hy2, hb3⟩
    have v0 := (hb3.cell (p := ⟨w.heap.size, 0, none⟩) hl2).trans u0
    have HB3 := Lib.hid (HB2.out.trans (hb3.mono HB2.out.size))
    have hz3 := HB3.out.size
    have hl3 : w.heap.size < w3.heap.size := Nat.lt_of_lt_of_le hl2 hb3.size
    generalize y.val n s = yv at hy2 HV0
    clear HYC hb3 u0 u2 p0 p1 p2 HB2
    have hy3 := hy2.1
    have hy4 := hy2.2
    clear hy2
    have HV : Hid ((Tr.bin 43 x y).val n s = wrap64 (xv + yv)) := by show _ = _; rw [HV0.out]; unfold opVal; rw [if_neg (by decide)]; rw [if_neg (by decide)]; rw [if_pos rfl]
    clear HV0
    go_wp2_with fail
    go_ret
    exact ⟨by rw [HV.out]; rfl, by rw [HV.out]; exact wrap_i64s _, HB3.out⟩
set_option maxRecDepth 100000 in
set_option maxHeartbeats 1000000 in
theorem value_bin_45 (x y : Tr) (ix : ValueOk x) (iy : ValueOk y) : ValueOk (.bin 45 x y) := by
  intro v n s w h hn hs
  cases h with
  | @bin b o nn ss o' n' s' _ _ _ hop hb h0 h1 h2 hx h3 h4 h5 hy =>
    change Calls _ _ #[.agg #[.int .i64 45, .int .i64 0, .slice (some ⟨b, 0, none⟩) 2 2], .int .i64 n, .int .i64 s] w _
    obtain ⟨W1, hW1⟩ : ∃ W1, W1 = w.alloc (.cells #[.int .i64 45, .int .i64 0, .slice (some ⟨b, 0, none⟩) 2 2] 24) := ⟨_, rfl⟩
    have hb1 : Below w.heap.size w W1 := by rw [hW1]; exact (Below.refl _ _).alloc (Nat.le_refl _) _
    have g1 := heap_alloc_new w (.cells #[.int .i64 45, .int .i64 0, .slice (some ⟨b, 0, none⟩) 2 2] 24)
    rw [← hW1] at g1
    have HX := Lib.hid (ix _ n s W1 (hx.under hb1) hn hs)
    have HYY : Hid (∀ W, Below w.heap.size w W → Calls Tryz.prog 13 #[.agg #[o', n', s'], .int .i64 n, .int .i64 s] W (ValuePost y n s W)) := fun W hW => iy _ n s W (hy.under hW) hn hs
    have HC : Hid (∀ W, Below w.heap.size w W → W.cell? ⟨b, 3, none⟩ = some o' ∧ W.cell? ⟨b, 4, none⟩ = some n' ∧ W.cell? ⟨b, 5, none⟩ = some s') := fun W hW =>
      ⟨(hW.cell (p := ⟨b, 3, none⟩) hb).trans h3, (hW.cell (p := ⟨b, 4, none⟩) hb).trans h4, (hW.cell (p := ⟨b, 5, none⟩) hb).trans h5⟩
    have HB1 := Lib.hid hb1
    have y0 := cell_of_row W1 w.heap.size 0 _ _ _ g1
    have y2 := cell_of_row W1 w.heap.size 2 _ _ _ g1
    simp at y0 y2
    have hl1 := block_lt g1
    have HW := Lib.hid hW1
    have HY := Lib.hid (And.intro y0 y2)
    clear hx hy hn hs hb1 hW1 g1 ix iy h3 h4 h5 y0 y2 hop
    go_enter Tryz.func13, Tryz.ntmps13
    go_wp2_with fail
    rw [← HW.out]
    clear HW h0 h1 h2
    refine HX.out.mono ?_
    rintro e w2 ⟨rfl, hx2, hb2⟩
    have u0 := (hb2.cell (p := ⟨w.heap.size, 0, none⟩) hl1).trans HY.out.1
    have u2 := (hb2.cell (p := ⟨w.heap.size, 2, none⟩) hl1).trans HY.out.2
    have hl2 : w.heap.size < w2.heap.size := Nat.lt_of_lt_of_le hl1 hb2.size
    have hB2 := HB1.out.trans (hb2.mono HB1.out.size)
    have HB2 := Lib.hid hB2
    have HYC := Lib.hid (HYY.out w2 hB2)
    obtain ⟨p0, p1, p2⟩ := HC.out w2 hB2
    have HV0 : Hid ((Tr.bin 45 x y).val n s = opVal 45 (x.val n s) (y.val n s)) := rfl
    generalize x.val n s = xv at hx2 HV0
    clear HX HB1 hb2 HY HYY HC hB2
    have hx3 := hx2.1
    have hx4 := hx2.2
    clear hx2
    go_wp2_with fail
    refine HYC.out.mono ?_
    rintro e w3 ⟨rfl, hy2, hb3⟩
    have v0 := (hb3.cell (p := ⟨w.heap.size, 0, none⟩) hl2).trans u0
    have HB3 := Lib.hid (HB2.out.trans (hb3.mono HB2.out.size))
    have hz3 := HB3.out.size
    have hl3 : w.heap.size < w3.heap.size := Nat.lt_of_lt_of_le hl2 hb3.size
    generalize y.val n s = yv at hy2 HV0
    clear HYC hb3 u0 u2 p0 p1 p2 HB2
    have hy3 := hy2.1
    have hy4 := hy2.2
    clear hy2
    have HV : Hid ((Tr.bin 45 x y).val n s = wrap64 (xv - yv)) := by show _ = _; rw [HV0.out]; unfold opVal; rw [if_neg (by decide)]; rw [if_neg (by decide)]; rw [if_neg (by decide)]; rw [if_pos rfl]
    clear HV0
    go_wp2_with fail
    go_ret
    exact ⟨by rw [HV.out]; rfl, by rw [HV.out]; exact wrap_i64s _, HB3.out⟩
set_option maxRecDepth 100000 in
set_option maxHeartbeats 1000000 in
theorem value_bin_42 (x y : Tr) (ix : ValueOk x) (iy : ValueOk y) : ValueOk (.bin 42 x y) := by
  intro v n s w h hn hs
  cases h with
  | @bin b o nn ss o' n' s' _ _ _ hop hb h0 h1 h2 hx h3 h4 h5 hy =>
    change Calls _ _ #[.agg #[.int .i64 42, .int .i64 0, .slice (some ⟨b, 0, none⟩) 2 2], .int .i64 n, .int .i64 s] w _
    obtain ⟨W1, hW1⟩ : ∃ W1, W1 = w.alloc (.cells #[.int .i64 42, .int .i64 0, .slice (some ⟨b, 0, none⟩) 2 2] 24) := ⟨_, rfl⟩
    have hb1 : Below w.heap.size w W1 := by rw [hW1]; exact (Below.refl _ _).alloc (Nat.le_refl _) _
    have g1 := heap_alloc_new w (.cells #[.int .i64 42, .int .i64 0, .slice (some ⟨b, 0, none⟩) 2 2] 24)
    rw [← hW1] at g1
    have HX := Lib.hid (ix _ n s W1 (hx.under hb1) hn hs)
    have HYY : Hid (∀ W, Below w.heap.size w W → Calls Tryz.prog 13 #[.agg #[o', n', s'], .int .i64 n, .int .i64 s] W (ValuePost y n s W)) := fun W hW => iy _ n s W (hy.under hW) hn hs
    have HC : Hid (∀ W, Below w.heap.size w W → W.cell? ⟨b, 3, none⟩ = some o' ∧ W.cell? ⟨b, 4, none⟩ = some n' ∧ W.cell? ⟨b, 5, none⟩ = some s') := fun W hW =>
      ⟨(hW.cell (p := ⟨b, 3, none⟩) hb).trans h3, (hW.cell (p := ⟨b, 4, none⟩) hb).trans h4, (hW.cell (p := ⟨b, 5, none⟩) hb).trans h5⟩
    have HB1 := Lib.hid hb1
    have y0 := cell_of_row W1 w.heap.size 0 _ _ _ g1
    have y2 := cell_of_row W1 w.heap.size 2 _ _ _ g1
    simp at y0 y2
    have hl1 := block_lt g1
    have HW := Lib.hid hW1
    have HY := Lib.hid (And.intro y0 y2)
    clear hx hy hn hs hb1 hW1 g1 ix iy h3 h4 h5 y0 y2 hop
    go_enter Tryz.func13, Tryz.ntmps13
    go_wp2_with fail
    rw [← HW.out]
    clear HW h0 h1 h2
    refine HX.out.mono ?_
    rintro e w2 ⟨rfl, hx2, hb2⟩
    have u0 := (hb2.cell (p := ⟨w.heap.size, 0, none⟩) hl1).trans HY.out.1
    have u2 := (hb2.cell (p := ⟨w.heap.size, 2, none⟩) hl1).trans HY.out.2
    have hl2 : w.heap.size < w2.heap.size := Nat.lt_of_lt_of_le hl1 hb2.size
    have hB2 := HB1.out.trans (hb2.mono HB1.out.size)
    have HB2 := Lib.hid hB2
    have HYC := Lib.hid (HYY.out w2 hB2)
    obtain ⟨p0, p1, p2⟩ := HC.out w2 hB2
    have HV0 : Hid ((Tr.bin 42 x y).val n s = opVal 42 (x.val n s) (y.val n s)) := rfl
    generalize x.val n s = xv at hx2 HV0
    clear HX HB1 hb2 HY HYY HC hB2
    have hx3 := hx2.1
    have hx4 := hx2.2
    clear hx2
    go_wp2_with fail
    refine HYC.out.mono ?_
    rintro e w3 ⟨rfl, hy2, hb3⟩
    have v0 := (hb3.cell (p := ⟨w.heap.size, 0, none⟩) hl2).trans u0
    have HB3 := Lib.hid (HB2.out.trans (hb3.mono HB2.out.size))
    have hz3 := HB3.out.size
    have hl3 : w.heap.size < w3.heap.size := Nat.lt_of_lt_of_le hl2 hb3.size
    generalize y.val n s = yv at hy2 HV0
    clear HYC hb3 u0 u2 p0 p1 p2 HB2
    have hy3 := hy2.1
    have hy4 := hy2.2
    clear hy2
    have HV : Hid ((Tr.bin 42 x y).val n s = wrap64 (xv * yv)) := by show _ = _; rw [HV0.out]; unfold opVal; rw [if_neg (by decide)]; rw [if_neg (by decide)]; rw [if_neg (by decide)]; rw [if_neg (by decide)]; rw [if_pos rfl]
    clear HV0
    go_wp2_with fail
    go_ret
    exact ⟨by rw [HV.out]; rfl, by rw [HV.out]; exact wrap_i64s _, HB3.out⟩
set_option maxRecDepth 100000 in
set_option maxHeartbeats 1000000 in
theorem value_bin_109 (x y : Tr) (ix : ValueOk x) (iy : ValueOk y) : ValueOk (.bin 109 x y) := by
  intro v n s w h hn hs
  cases h with
  | @bin b o nn ss o' n' s' _ _ _ hop hb h0 h1 h2 hx h3 h4 h5 hy =>
    change Calls _ _ #[.agg #[.int .i64 109, .int .i64 0, .slice (some ⟨b, 0, none⟩) 2 2], .int .i64 n, .int .i64 s] w _
    obtain ⟨W1, hW1⟩ : ∃ W1, W1 = w.alloc (.cells #[.int .i64 109, .int .i64 0, .slice (some ⟨b, 0, none⟩) 2 2] 24) := ⟨_, rfl⟩
    have hb1 : Below w.heap.size w W1 := by rw [hW1]; exact (Below.refl _ _).alloc (Nat.le_refl _) _
    have g1 := heap_alloc_new w (.cells #[.int .i64 109, .int .i64 0, .slice (some ⟨b, 0, none⟩) 2 2] 24)
    rw [← hW1] at g1
    have HX := Lib.hid (ix _ n s W1 (hx.under hb1) hn hs)
    have HYY : Hid (∀ W, Below w.heap.size w W → Calls Tryz.prog 13 #[.agg #[o', n', s'], .int .i64 n, .int .i64 s] W (ValuePost y n s W)) := fun W hW => iy _ n s W (hy.under hW) hn hs
    have HC : Hid (∀ W, Below w.heap.size w W → W.cell? ⟨b, 3, none⟩ = some o' ∧ W.cell? ⟨b, 4, none⟩ = some n' ∧ W.cell? ⟨b, 5, none⟩ = some s') := fun W hW =>
      ⟨(hW.cell (p := ⟨b, 3, none⟩) hb).trans h3, (hW.cell (p := ⟨b, 4, none⟩) hb).trans h4, (hW.cell (p := ⟨b, 5, none⟩) hb).trans h5⟩
    have HB1 := Lib.hid hb1
    have y0 := cell_of_row W1 w.heap.size 0 _ _ _ g1
    have y2 := cell_of_row W1 w.heap.size 2 _ _ _ g1
    simp at y0 y2
    have hl1 := block_lt g1
    have HW := Lib.hid hW1
    have HY := Lib.hid (And.intro y0 y2)
    clear hx hy hn hs hb1 hW1 g1 ix iy h3 h4 h5 y0 y2 hop
    go_enter Tryz.func13, Tryz.ntmps13
    go_wp2_with fail
    rw [← HW.out]
    clear HW h0 h1 h2
    refine HX.out.mono ?_
    rintro e w2 ⟨rfl, hx2, hb2⟩
    have u0 := (hb2.cell (p := ⟨w.heap.size, 0, none⟩) hl1).trans HY.out.1
    have u2 := (hb2.cell (p := ⟨w.heap.size, 2, none⟩) hl1).trans HY.out.2
    have hl2 : w.heap.size < w2.heap.size := Nat.lt_of_lt_of_le hl1 hb2.size
    have hB2 := HB1.out.trans (hb2.mono HB1.out.size)
    have HB2 := Lib.hid hB2
    have HYC := Lib.hid (HYY.out w2 hB2)
    obtain ⟨p0, p1, p2⟩ := HC.out w2 hB2
    have HV0 : Hid ((Tr.bin 109 x y).val n s = opVal 109 (x.val n s) (y.val n s)) := rfl
    generalize x.val n s = xv at hx2 HV0
    clear HX HB1 hb2 HY HYY HC hB2
    have hx3 := hx2.1
    have hx4 := hx2.2
    clear hx2
    go_wp2_with fail
    refine HYC.out.mono ?_
    rintro e w3 ⟨rfl, hy2, hb3⟩
    have v0 := (hb3.cell (p := ⟨w.heap.size, 0, none⟩) hl2).trans u0
    have HB3 := Lib.hid (HB2.out.trans (hb3.mono HB2.out.size))
    have hz3 := HB3.out.size
    have hl3 : w.heap.size < w3.heap.size := Nat.lt_of_lt_of_le hl2 hb3.size
    generalize y.val n s = yv at hy2 HV0
    clear HYC hb3 u0 u2 p0 p1 p2 HB2
    have hy3 := hy2.1
    have hy4 := hy2.2
    clear hy2
    by_cases hc : xv < yv
    · have HV : Hid ((Tr.bin 109 x y).val n s = xv) := by show _ = _; rw [HV0.out]; unfold opVal; rw [if_pos rfl]; exact Int.min_eq_left (by omega)
      have dc : decide (xv < yv) = true := by exact decide_eq_true hc
      clear HV0
      go_wp2_with fail
      go_ret
      exact ⟨by rw [HV.out]; rfl, by rw [HV.out]; exact ⟨by omega, by omega⟩, HB3.out⟩
    · have HV : Hid ((Tr.bin 109 x y).val n s = yv) := by show _ = _; rw [HV0.out]; unfold opVal; rw [if_pos rfl]; exact Int.min_eq_right (by omega)
      have dc : decide (xv < yv) = false := by exact decide_eq_false hc
      clear HV0
      go_wp2_with fail
      go_ret
      exact ⟨by rw [HV.out]; rfl, by rw [HV.out]; exact ⟨by omega, by omega⟩, HB3.out⟩
set_option maxRecDepth 100000 in
set_option maxHeartbeats 1000000 in
theorem value_bin_77 (x y : Tr) (ix : ValueOk x) (iy : ValueOk y) : ValueOk (.bin 77 x y) := by
  intro v n s w h hn hs
  cases h with
  | @bin b o nn ss o' n' s' _ _ _ hop hb h0 h1 h2 hx h3 h4 h5 hy =>
    change Calls _ _ #[.agg #[.int .i64 77, .int .i64 0, .slice (some ⟨b, 0, none⟩) 2 2], .int .i64 n, .int .i64 s] w _
    obtain ⟨W1, hW1⟩ : ∃ W1, W1 = w.alloc (.cells #[.int .i64 77, .int .i64 0, .slice (some ⟨b, 0, none⟩) 2 2] 24) := ⟨_, rfl⟩
    have hb1 : Below w.heap.size w W1 := by rw [hW1]; exact (Below.refl _ _).alloc (Nat.le_refl _) _
    have g1 := heap_alloc_new w (.cells #[.int .i64 77, .int .i64 0, .slice (some ⟨b, 0, none⟩) 2 2] 24)
    rw [← hW1] at g1
    have HX := Lib.hid (ix _ n s W1 (hx.under hb1) hn hs)
    have HYY : Hid (∀ W, Below w.heap.size w W → Calls Tryz.prog 13 #[.agg #[o', n', s'], .int .i64 n, .int .i64 s] W (ValuePost y n s W)) := fun W hW => iy _ n s W (hy.under hW) hn hs
    have HC : Hid (∀ W, Below w.heap.size w W → W.cell? ⟨b, 3, none⟩ = some o' ∧ W.cell? ⟨b, 4, none⟩ = some n' ∧ W.cell? ⟨b, 5, none⟩ = some s') := fun W hW =>
      ⟨(hW.cell (p := ⟨b, 3, none⟩) hb).trans h3, (hW.cell (p := ⟨b, 4, none⟩) hb).trans h4, (hW.cell (p := ⟨b, 5, none⟩) hb).trans h5⟩
    have HB1 := Lib.hid hb1
    have y0 := cell_of_row W1 w.heap.size 0 _ _ _ g1
    have y2 := cell_of_row W1 w.heap.size 2 _ _ _ g1
    simp at y0 y2
    have hl1 := block_lt g1
    have HW := Lib.hid hW1
    have HY := Lib.hid (And.intro y0 y2)
    clear hx hy hn hs hb1 hW1 g1 ix iy h3 h4 h5 y0 y2 hop
    go_enter Tryz.func13, Tryz.ntmps13
    go_wp2_with fail
    rw [← HW.out]
    clear HW h0 h1 h2
    refine HX.out.mono ?_
    rintro e w2 ⟨rfl, hx2, hb2⟩
    have u0 := (hb2.cell (p := ⟨w.heap.size, 0, none⟩) hl1).trans HY.out.1
    have u2 := (hb2.cell (p := ⟨w.heap.size, 2, none⟩) hl1).trans HY.out.2
    have hl2 : w.heap.size < w2.heap.size := Nat.lt_of_lt_of_le hl1 hb2.size
    have hB2 := HB1.out.trans (hb2.mono HB1.out.size)
    have HB2 := Lib.hid hB2
    have HYC := Lib.hid (HYY.out w2 hB2)
    obtain ⟨p0, p1, p2⟩ := HC.out w2 hB2
    have HV0 : Hid ((Tr.bin 77 x y).val n s = opVal 77 (x.val n s) (y.val n s)) := rfl
    generalize x.val n s = xv at hx2 HV0
    clear HX HB1 hb2 HY HYY HC hB2
    have hx3 := hx2.1
    have hx4 := hx2.2
    clear hx2
    go_wp2_with fail
    refine HYC.out.mono ?_
    rintro e w3 ⟨rfl, hy2, hb3⟩
    have v0 := (hb3.cell (p := ⟨w.heap.size, 0, none⟩) hl2).trans u0
    have HB3 := Lib.hid (HB2.out.trans (hb3.mono HB2.out.size))
    have hz3 := HB3.out.size
    have hl3 : w.heap.size < w3.heap.size := Nat.lt_of_lt_of_le hl2 hb3.size
    generalize y.val n s = yv at hy2 HV0
    clear HYC hb3 u0 u2 p0 p1 p2 HB2
    have hy3 := hy2.1
    have hy4 := hy2.2
    clear hy2
    by_cases hc : yv < xv
    · have HV : Hid ((Tr.bin 77 x y).val n s = xv) := by show _ = _; rw [HV0.out]; unfold opVal; rw [if_neg (by decide)]; rw [if_pos rfl]; exact Int.max_eq_left (by omega)
      have dc : decide (yv < xv) = true := by exact decide_eq_true hc
      clear HV0
      go_wp2_with fail
      go_ret
      exact ⟨by rw [HV.out]; rfl, by rw [HV.out]; exact ⟨by omega, by omega⟩, HB3.out⟩
    · have HV : Hid ((Tr.bin 77 x y).val n s = yv) := by show _ = _; rw [HV0.out]; unfold opVal; rw [if_neg (by decide)]; rw [if_pos rfl]; exact Int.max_eq_right (by omega)
      have dc : decide (yv < xv) = false := by exact decide_eq_false hc
      clear HV0
      go_wp2_with fail
      go_ret
      exact ⟨by rw [HV.out]; rfl, by rw [HV.out]; exact ⟨by omega, by omega⟩, HB3.out⟩
set_option maxRecDepth 100000 in
set_option maxHeartbeats 1000000 in
theorem value_bin_60 (x y : Tr) (ix : ValueOk x) (iy : ValueOk y) : ValueOk (.bin 60 x y) := by
  intro v n s w h hn hs
  cases h with
  | @bin b o nn ss o' n' s' _ _ _ hop hb h0 h1 h2 hx h3 h4 h5 hy =>
    change Calls _ _ #[.agg #[.int .i64 60, .int .i64 0, .slice (some ⟨b, 0, none⟩) 2 2], .int .i64 n, .int .i64 s] w _
    obtain ⟨W1, hW1⟩ : ∃ W1, W1 = w.alloc (.cells #[.int .i64 60, .int .i64 0, .slice (some ⟨b, 0, none⟩) 2 2] 24) := ⟨_, rfl⟩
    have hb1 : Below w.heap.size w W1 := by rw [hW1]; exact (Below.refl _ _).alloc (Nat.le_refl _) _
    have g1 := heap_alloc_new w (.cells #[.int .i64 60, .int .i64 0, .slice (some ⟨b, 0, none⟩) 2 2] 24)
    rw [← hW1] at g1
    have HX := Lib.hid (ix _ n s W1 (hx.under hb1) hn hs)
    have HYY : Hid (∀ W, Below w.heap.size w W → Calls Tryz.prog 13 #[.agg #[o', n', s'], .int .i64 n, .int .i64 s] W (ValuePost y n s W)) := fun W hW => iy _ n s W (hy.under hW) hn hs
    have HC : Hid (∀ W, Below w.heap.size w W → W.cell? ⟨b, 3, none⟩ = some o' ∧ W.cell? ⟨b, 4, none⟩ = some n' ∧ W.cell? ⟨b, 5, none⟩ = some s') := fun W hW =>
      ⟨(hW.cell (p := ⟨b, 3, none⟩) hb).trans h3, (hW.cell (p := ⟨b, 4, none⟩) hb).trans h4, (hW.cell (p := ⟨b, 5, none⟩) hb).trans h5⟩
    have HB1 := Lib.hid hb1
    have y0 := cell_of_row W1 w.heap.size 0 _ _ _ g1
    have y2 := cell_of_row W1 w.heap.size 2 _ _ _ g1
    simp at y0 y2
    have hl1 := block_lt g1
    have HW := Lib.hid hW1
    have HY := Lib.hid (And.intro y0 y2)
    clear hx hy hn hs hb1 hW1 g1 ix iy h3 h4 h5 y0 y2 hop
    go_enter Tryz.func13, Tryz.ntmps13
    go_wp2_with fail
    rw [← HW.out]
    clear HW h0 h1 h2
    refine HX.out.mono ?_
    rintro e w2 ⟨rfl, hx2, hb2⟩
    have u0 := (hb2.cell (p := ⟨w.heap.size, 0, none⟩) hl1).trans HY.out.1
    have u2 := (hb2.cell (p := ⟨w.heap.size, 2, none⟩) hl1).trans HY.out.2
    have hl2 : w.heap.size < w2.heap.size := Nat.lt_of_lt_of_le hl1 hb2.size
    have hB2 := HB1.out.trans (hb2.mono HB1.out.size)
    have HB2 := Lib.hid hB2
    have HYC := Lib.hid (HYY.out w2 hB2)
    obtain ⟨p0, p1, p2⟩ := HC.out w2 hB2
    have HV0 : Hid ((Tr.bin 60 x y).val n s = opVal 60 (x.val n s) (y.val n s)) := rfl
    generalize x.val n s = xv at hx2 HV0
    clear HX HB1 hb2 HY HYY HC hB2
    have hx3 := hx2.1
    have hx4 := hx2.2
    clear hx2
    go_wp2_with fail
    refine HYC.out.mono ?_
    rintro e w3 ⟨rfl, hy2, hb3⟩
    have v0 := (hb3.cell (p := ⟨w.heap.size, 0, none⟩) hl2).trans u0
    have HB3 := Lib.hid (HB2.out.trans (hb3.mono HB2.out.size))
    have hz3 := HB3.out.size
    have hl3 : w.heap.size < w3.heap.size := Nat.lt_of_lt_of_le hl2 hb3.size
    generalize y.val n s = yv at hy2 HV0
    clear HYC hb3 u0 u2 p0 p1 p2 HB2
    have hy3 := hy2.1
    have hy4 := hy2.2
    clear hy2
    by_cases hc : xv < yv
    · have HV : Hid ((Tr.bin 60 x y).val n s = 1) := by show _ = _; rw [HV0.out]; unfold opVal; rw [if_neg (by decide)]; rw [if_neg (by decide)]; rw [if_neg (by decide)]; rw [if_neg (by decide)]; rw [if_neg (by decide)]; rw [if_neg (by decide)]; rw [if_pos rfl]; rw [decide_eq_true hc]; rfl
      have dc : decide (xv < yv) = true := by exact decide_eq_true hc
      clear HV0
      go_wp2_with fail
      go_ret
      exact ⟨by rw [HV.out]; rfl, by rw [HV.out]; exact ⟨by omega, by omega⟩, HB3.out⟩
    · have HV : Hid ((Tr.bin 60 x y).val n s = 0) := by show _ = _; rw [HV0.out]; unfold opVal; rw [if_neg (by decide)]; rw [if_neg (by decide)]; rw [if_neg (by decide)]; rw [if_neg (by decide)]; rw [if_neg (by decide)]; rw [if_neg (by decide)]; rw [if_pos rfl]; rw [decide_eq_false hc]; rfl
      have dc : decide (xv < yv) = false := by exact decide_eq_false hc
      clear HV0
      go_wp2_with fail
      go_ret
      exact ⟨by rw [HV.out]; rfl, by rw [HV.out]; exact ⟨by omega, by omega⟩, HB3.out⟩
set_option maxRecDepth 100000 in
set_option maxHeartbeats 1000000 in
theorem value_bin_62 (x y : Tr) (ix : ValueOk x) (iy : ValueOk y) : ValueOk (.bin 62 x y) := by
  intro v n s w h hn hs
  cases h with
  | @bin b o nn ss o' n' s' _ _ _ hop hb h0 h1 h2 hx h3 h4 h5 hy =>
    change Calls _ _ #[.agg #[.int .i64 62, .int .i64 0, .slice (some ⟨b, 0, none⟩) 2 2], .int .i64 n, .int .i64 s] w _
    obtain ⟨W1, hW1⟩ : ∃ W1, W1 = w.alloc (.cells #[.int .i64 62, .int .i64 0, .slice (some ⟨b, 0, none⟩) 2 2] 24) := ⟨_, rfl⟩
    have hb1 : Below w.heap.size w W1 := by rw [hW1]; exact (Below.refl _ _).alloc (Nat.le_refl _) _
    have g1 := heap_alloc_new w (.cells #[.int .i64 62, .int .i64 0, .slice (some ⟨b, 0, none⟩) 2 2] 24)
    rw [← hW1] at g1
    have HX := Lib.hid (ix _ n s W1 (hx.under hb1) hn hs)
    have HYY : Hid (∀ W, Below w.heap.size w W → Calls Tryz.prog 13 #[.agg #[o', n', s'], .int .i64 n, .int .i64 s] W (ValuePost y n s W)) := fun W hW => iy _ n s W (hy.under hW) hn hs
    have HC : Hid (∀ W, Below w.heap.size w W → W.cell? ⟨b, 3, none⟩ = some o' ∧ W.cell? ⟨b, 4, none⟩ = some n' ∧ W.cell? ⟨b, 5, none⟩ = some s') := fun W hW =>
      ⟨(hW.cell (p := ⟨b, 3, none⟩) hb).trans h3, (hW.cell (p := ⟨b, 4, none⟩) hb).trans h4, (hW.cell (p := ⟨b, 5, none⟩) hb).trans h5⟩
    have HB1 := Lib.hid hb1
    have y0 := cell_of_row W1 w.heap.size 0 _ _ _ g1
    have y2 := cell_of_row W1 w.heap.size 2 _ _ _ g1
    simp at y0 y2
    have hl1 := block_lt g1
    have HW := Lib.hid hW1
    have HY := Lib.hid (And.intro y0 y2)
    clear hx hy hn hs hb1 hW1 g1 ix iy h3 h4 h5 y0 y2 hop
    go_enter Tryz.func13, Tryz.ntmps13
    go_wp2_with fail
    rw [← HW.out]
    clear HW h0 h1 h2
    refine HX.out.mono ?_
    rintro e w2 ⟨rfl, hx2, hb2⟩
    have u0 := (hb2.cell (p := ⟨w.heap.size, 0, none⟩) hl1).trans HY.out.1
    have u2 := (hb2.cell (p := ⟨w.heap.size, 2, none⟩) hl1).trans HY.out.2
    have hl2 : w.heap.size < w2.heap.size := Nat.lt_of_lt_of_le hl1 hb2.size
    have hB2 := HB1.out.trans (hb2.mono HB1.out.size)
    have HB2 := Lib.hid hB2
    have HYC := Lib.hid (HYY.out w2 hB2)
    obtain ⟨p0, p1, p2⟩ := HC.out w2 hB2
    have HV0 : Hid ((Tr.bin 62 x y).val n s = opVal 62 (x.val n s) (y.val n s)) := rfl
    generalize x.val n s = xv at hx2 HV0
    clear HX HB1 hb2 HY HYY HC hB2
    have hx3 := hx2.1
    have hx4 := hx2.2
    clear hx2
    go_wp2_with fail
    refine HYC.out.mono ?_
    rintro e w3 ⟨rfl, hy2, hb3⟩
    have v0 := (hb3.cell (p := ⟨w.heap.size, 0, none⟩) hl2).trans u0
    have HB3 := Lib.hid (HB2.out.trans (hb3.mono HB2.out.size))
    have hz3 := HB3.out.size
    have hl3 : w.heap.size < w3.heap.size := Nat.lt_of_lt_of_le hl2 hb3.size
    generalize y.val n s = yv at hy2 HV0
    clear HYC hb3 u0 u2 p0 p1 p2 HB2
    have hy3 := hy2.1
    have hy4 := hy2.2
    clear hy2
    by_cases hc : yv < xv
    · have HV : Hid ((Tr.bin 62 x y).val n s = 1) := by show _ = _; rw [HV0.out]; unfold opVal; rw [if_neg (by decide)]; rw [if_neg (by decide)]; rw [if_neg (by decide)]; rw [if_neg (by decide)]; rw [if_neg (by decide)]; rw [if_neg (by decide)]; rw [if_neg (by decide)]; rw [if_pos rfl]; rw [decide_eq_true hc]; rfl
      have dc : decide (yv < xv) = true := by exact decide_eq_true hc
      clear HV0
      go_wp2_with fail
      go_ret
      exact ⟨by rw [HV.out]; rfl, by rw [HV.out]; exact ⟨by omega, by omega⟩, HB3.out⟩
    · have HV : Hid ((Tr.bin 62 x y).val n s = 0) := by show _ = _; rw [HV0.out]; unfold opVal; rw [if_neg (by decide)]; rw [if_neg (by decide)]; rw [if_neg (by decide)]; rw [if_neg (by decide)]; rw [if_neg (by decide)]; rw [if_neg (by decide)]; rw [if_neg (by decide)]; rw [if_pos rfl]; rw [decide_eq_false hc]; rfl
      have dc : decide (yv < xv) = false := by exact decide_eq_false hc
      clear HV0
      go_wp2_with fail
      go_ret
      exact ⟨by rw [HV.out]; rfl, by rw [HV.out]; exact ⟨by omega, by omega⟩, HB3.out⟩
set_option maxRecDepth 100000 in
set_option maxHeartbeats 1000000 in
theorem value_bin_61 (x y : Tr) (ix : ValueOk x) (iy : ValueOk y) : ValueOk (.bin 61 x y) := by
  intro v n s w h hn hs
  cases h with
  | @bin b o nn ss o' n' s' _ _ _ hop hb h0 h1 h2 hx h3 h4 h5 hy =>
    change Calls _ _ #[.agg #[.int .i64 61, .int .i64 0, .slice (some ⟨b, 0, none⟩) 2 2], .int .i64 n, .int .i64 s] w _
    obtain ⟨W1, hW1⟩ : ∃ W1, W1 = w.alloc (.cells #[.int .i64 61, .int .i64 0, .slice (some ⟨b, 0, none⟩) 2 2] 24) := ⟨_, rfl⟩
    have hb1 : Below w.heap.size w W1 := by rw [hW1]; exact (Below.refl _ _).alloc (Nat.le_refl _) _
    have g1 := heap_alloc_new w (.cells #[.int .i64 61, .int .i64 0, .slice (some ⟨b, 0, none⟩) 2 2] 24)
    rw [← hW1] at g1
    have HX := Lib.hid (ix _ n s W1 (hx.under hb1) hn hs)
    have HYY : Hid (∀ W, Below w.heap.size w W → Calls Tryz.prog 13 #[.agg #[o', n', s'], .int .i64 n, .int .i64 s] W (ValuePost y n s W)) := fun W hW => iy _ n s W (hy.under hW) hn hs
    have HC : Hid (∀ W, Below w.heap.size w W → W.cell? ⟨b, 3, none⟩ = some o' ∧ W.cell? ⟨b, 4, none⟩ = some n' ∧ W.cell? ⟨b, 5, none⟩ = some s') := fun W hW =>
      ⟨(hW.cell (p := ⟨b, 3, none⟩) hb).trans h3, (hW.cell (p := ⟨b, 4, none⟩) hb).trans h4, (hW.cell (p := ⟨b, 5, none⟩) hb).trans h5⟩
    have HB1 := Lib.hid hb1
    have y0 := cell_of_row W1 w.heap.size 0 _ _ _ g1
    have y2 := cell_of_row W1 w.heap.size 2 _ _ _ g1
    simp at y0 y2
    have hl1 := block_lt g1
    have HW := Lib.hid hW1
    have HY := Lib.hid (And.intro y0 y2)
    clear hx hy hn hs hb1 hW1 g1 ix iy h3 h4 h5 y0 y2 hop
    go_enter Tryz.func13, Tryz.ntmps13
    go_wp2_with fail
    rw [← HW.out]
    clear HW h0 h1 h2
    refine HX.out.mono ?_
    rintro e w2 ⟨rfl, hx2, hb2⟩
    have u0 := (hb2.cell (p := ⟨w.heap.size, 0, none⟩) hl1).trans HY.out.1
    have u2 := (hb2.cell (p := ⟨w.heap.size, 2, none⟩) hl1).trans HY.out.2
    have hl2 : w.heap.size < w2.heap.size := Nat.lt_of_lt_of_le hl1 hb2.size
    have hB2 := HB1.out.trans (hb2.mono HB1.out.size)
    have HB2 := Lib.hid hB2
    have HYC := Lib.hid (HYY.out w2 hB2)
    obtain ⟨p0, p1, p2⟩ := HC.out w2 hB2
    have HV0 : Hid ((Tr.bin 61 x y).val n s = opVal 61 (x.val n s) (y.val n s)) := rfl
    generalize x.val n s = xv at hx2 HV0
    clear HX HB1 hb2 HY HYY HC hB2
    have hx3 := hx2.1
    have hx4 := hx2.2
    clear hx2
    go_wp2_with fail
    refine HYC.out.mono ?_
    rintro e w3 ⟨rfl, hy2, hb3⟩
    have v0 := (hb3.cell (p := ⟨w.heap.size, 0, none⟩) hl2).trans u0
    have HB3 := Lib.hid (HB2.out.trans (hb3.mono HB2.out.size))
    have hz3 := HB3.out.size
    have hl3 : w.heap.size < w3.heap.size := Nat.lt_of_lt_of_le hl2 hb3.size
    generalize y.val n s = yv at hy2 HV0
    clear HYC hb3 u0 u2 p0 p1 p2 HB2
    have hy3 := hy2.1
    have hy4 := hy2.2
    clear hy2
    by_cases hc : xv = yv
    · have HV : Hid ((Tr.bin 61 x y).val n s = 1) := by show _ = _; rw [HV0.out]; unfold opVal; rw [if_neg (by decide)]; rw [if_neg (by decide)]; rw [if_neg (by decide)]; rw [if_neg (by decide)]; rw [if_neg (by decide)]; rw [if_pos rfl]; rw [beq_iff_eq.2 hc]; rfl
      have dc : (xv == yv) = true := by exact beq_iff_eq.2 hc
      clear HV0
      go_wp2_with fail
      go_ret
      exact ⟨by rw [HV.out]; rfl, by rw [HV.out]; exact ⟨by omega, by omega⟩, HB3.out⟩
    · have HV : Hid ((Tr.bin 61 x y).val n s = 0) := by show _ = _; rw [HV0.out]; unfold opVal; rw [if_neg (by decide)]; rw [if_neg (by decide)]; rw [if_neg (by decide)]; rw [if_neg (by decide)]; rw [if_neg (by decide)]; rw [if_pos rfl]; rw [beq_eq_false_iff_ne.2 hc]; rfl
      have dc : (xv == yv) = false := by exact beq_eq_false_iff_ne.2 hc
      clear HV0
      go_wp2_with fail
      go_ret
      exact ⟨by rw [HV.out]; rfl, by rw [HV.out]; exact ⟨by omega, by omega⟩, HB3.out⟩
end Go.Proofs.YtfndhfekbbbliaaGreatDoor

/-
  The reference's Value at a quotient (printed by refval.py). Conditions: n and s are ints.
-/
namespace Go.Proofs.YtfndhfekbbbliaaGreatDoor
open Go.RowKit Go.ChangeShapes Go.WideShapes
set_option linter.unusedVariables false

set_option maxRecDepth 100000 in
set_option maxHeartbeats 1000000 in
theorem value_bin_47 (x y : Tr) (ix : ValueOk x) (iy : ValueOk y) : ValueOk (.bin 47 x y) := by
  intro v n s w h hn hs
  cases h with
  | @bin b o nn ss o' n' s' _ _ _ hop hb h0 h1 h2 hx h3 h4 h5 hy =>
    change Calls _ _ #[.agg #[.int .i64 47, .int .i64 0, .slice (some ⟨b, 0, none⟩) 2 2], .int .i64 n, .int .i64 s] w _
    obtain ⟨W1, hW1⟩ : ∃ W1, W1 = w.alloc (.cells #[.int .i64 47, .int .i64 0, .slice (some ⟨b, 0, none⟩) 2 2] 24) := ⟨_, rfl⟩
    have hb1 : Below w.heap.size w W1 := by rw [hW1]; exact (Below.refl _ _).alloc (Nat.le_refl _) _
    have g1 := heap_alloc_new w (.cells #[.int .i64 47, .int .i64 0, .slice (some ⟨b, 0, none⟩) 2 2] 24)
    rw [← hW1] at g1
    have HX := Lib.hid (ix _ n s W1 (hx.under hb1) hn hs)
    have HYY : Hid (∀ W, Below w.heap.size w W → Calls Tryz.prog 13 #[.agg #[o', n', s'], .int .i64 n, .int .i64 s] W (ValuePost y n s W)) := fun W hW => iy _ n s W (hy.under hW) hn hs
    have HC : Hid (∀ W, Below w.heap.size w W → W.cell? ⟨b, 3, none⟩ = some o' ∧ W.cell? ⟨b, 4, none⟩ = some n' ∧ W.cell? ⟨b, 5, none⟩ = some s') := fun W hW =>
      ⟨(hW.cell (p := ⟨b, 3, none⟩) hb).trans h3, (hW.cell (p := ⟨b, 4, none⟩) hb).trans h4, (hW.cell (p := ⟨b, 5, none⟩) hb).trans h5⟩
    have HB1 := Lib.hid hb1
    have y0 := cell_of_row W1 w.heap.size 0 _ _ _ g1
    have y2 := cell_of_row W1 w.heap.size 2 _ _ _ g1
    simp at y0 y2
    have hl1 := block_lt g1
    have HW := Lib.hid hW1
    have HY := Lib.hid (And.intro y0 y2)
    clear hx hy hn hs hb1 hW1 g1 ix iy h3 h4 h5 y0 y2 hop
    go_enter Tryz.func13, Tryz.ntmps13
    go_wp2_with fail
    rw [← HW.out]
    clear HW h0 h1 h2
    refine HX.out.mono ?_
    rintro e w2 ⟨rfl, hx2, hb2⟩
    have u0 := (hb2.cell (p := ⟨w.heap.size, 0, none⟩) hl1).trans HY.out.1
    have u2 := (hb2.cell (p := ⟨w.heap.size, 2, none⟩) hl1).trans HY.out.2
    have hl2 : w.heap.size < w2.heap.size := Nat.lt_of_lt_of_le hl1 hb2.size
    have hB2 := HB1.out.trans (hb2.mono HB1.out.size)
    have HB2 := Lib.hid hB2
    have HYC := Lib.hid (HYY.out w2 hB2)
    obtain ⟨p0, p1, p2⟩ := HC.out w2 hB2
    have HV0 : Hid ((Tr.bin 47 x y).val n s = opVal 47 (x.val n s) (y.val n s)) := rfl
    generalize x.val n s = xv at hx2 HV0
    clear HX HB1 hb2 HY HYY HC hB2
    have hx3 := hx2.1
    have hx4 := hx2.2
    clear hx2
    go_wp2_with fail
    refine HYC.out.mono ?_
    rintro e w3 ⟨rfl, hy2, hb3⟩
    have v0 := (hb3.cell (p := ⟨w.heap.size, 0, none⟩) hl2).trans u0
    have HB3 := Lib.hid (HB2.out.trans (hb3.mono HB2.out.size))
    have hz3 := HB3.out.size
    have hl3 : w.heap.size < w3.heap.size := Nat.lt_of_lt_of_le hl2 hb3.size
    generalize y.val n s = yv at hy2 HV0
    clear HYC hb3 u0 u2 p0 p1 p2 HB2
    have hy3 := hy2.1
    have hy4 := hy2.2
    clear hy2
    by_cases h0 : yv = 0
    · subst h0
      have HV : Hid ((Tr.bin 47 x y).val n s = 0) := by show _ = _; rw [HV0.out]; exact opVal_zero (by decide) xv
      clear HV0
      go_wp2_with fail
      go_ret
      exact ⟨by rw [HV.out]; rfl, by rw [HV.out]; exact ⟨by omega, by omega⟩, HB3.out⟩
    · have d0 : (yv == 0) = false := by rw [beq_eq_false_iff_ne]; exact h0
      have hVn : yv.natAbs ≠ 0 := by omega
      have HNX := Lib.hid (fun W => newInt_ok xv W ⟨hx3, hx4⟩)
      have HNY := Lib.hid (fun W => newInt_ok yv W ⟨hy3, hy4⟩)
      have HI3 := Lib.hid (new_objQ w3)
      have HB4 : Hid (Below w3.heap.size w3 (w3.alloc (.cells #[.bool false, .slice none 0 0] 98))) := (Below.refl _ _).alloc (Nat.le_refl _) _
      have hz4 : (w3.alloc (.cells #[.bool false, .slice none 0 0] 98)).heap.size = w3.heap.size + 1 := by simp
      go_wp2_with fail
      generalize w3.alloc (.cells #[.bool false, .slice none 0 0] 98) = w4 at HI3 HB4 hz4 ⊢
      refine (HNX.out w4).mono ?_
      rintro e w5 ⟨g1, rfl, hg1, hb5⟩
      have HG1 := Lib.hid hg1
      have HB5 := Lib.hid hb5
      have HI5 := Lib.hid (HI3.out.frm (Frm.ofBelow (F := fun _ => False) hb5) id)
      clear hg1 hb5 HI3
      go_wp2_with fail
      refine (HNY.out w5).mono ?_
      rintro e w6 ⟨g2, rfl, hg2, hb6⟩
      have HQ := Lib.hid (quo_ok w3.heap.size g1 g2 (decide (xv < 0)) (decide (yv < 0)) xv.natAbs yv.natAbs w6 (HI5.out.frm (Frm.ofBelow (F := fun _ => False) hb6) id) (HG1.out.below hb6) hg2 (by omega) hVn)
      have hB6 : Below w3.heap.size w3 w6 := HB4.out.trans ((HB5.out.trans (hb6.mono HB5.out.size)).mono HB4.out.size)
      have HB6 := Lib.hid hB6
      have hz6 := hB6.size
      clear hg2 hb6 hB6 HG1 HB4 HB5 HI5
      go_wp2_with fail
      refine HQ.out.mono ?_
      rintro e w7 ⟨rfl, hq, hf7⟩
      have v7 := (World.cell?_of_block (a := ⟨w.heap.size, 0, none⟩) (hf7.block w.heap.size (by omega) (by omega))).trans ((HB6.out.cell (p := ⟨w.heap.size, 0, none⟩) hl3).trans v0)
      have HB7 : Hid (Below w.heap.size w w7) := HB3.out.trans ((HB6.out.trans (hf7.below (by omega) (fun k hk => by omega))).mono HB3.out.size)
      have hl7 : w.heap.size < w7.heap.size := by have := hf7.size; omega
      have HQQ := Lib.hid hq
      clear hq hf7 HQ HB6 v0
      obtain ⟨Q, hQe⟩ : ∃ Q, Q = xv.natAbs / yv.natAbs := ⟨_, rfl⟩
      rw [← hQe] at HQQ
      obtain ⟨f, hfe⟩ : ∃ f, f = ((decide (xv < 0) != decide (yv < 0)) && decide (0 < Q)) := ⟨_, rfl⟩
      rw [← hfe] at HQQ
      obtain ⟨q1, q2, q3⟩ := quo_val ⟨hx3, hx4⟩ ⟨hy3, hy4⟩ h0 hQe hfe
      clear hQe hfe
      have HV := Lib.hid (HV0.out.trans q3)
      have HIS := Lib.hid (isInt64_ok w3.heap.size _ _ w7 HQQ.out q1)
      have HI64 := Lib.hid (fun h => int64_ok w3.heap.size _ _ w7 HQQ.out q2 h)
      have HOP : Hid (I64s (opVal 47 xv yv)) := opVal_i64s_47 ⟨hx3, hx4⟩ ⟨hy3, hy4⟩ h0
      rw [← HV0.out] at HOP
      clear HV0 q1 q2 q3
      by_cases hlt : Q < 9223372036854775808
      · rw [decide_eq_true hlt, Bool.true_or] at HIS HV
        rw [if_pos rfl] at HV
        have HI := Lib.hid (HI64.out (fun _ => hlt))
        obtain ⟨r, hr⟩ : ∃ r : Int, r = if f = true then -(Q : Int) else (Q : Int) := ⟨_, rfl⟩
        rw [← hr] at HV HI
        clear HI64 HQQ hr
        go_wp2_with fail
        refine HIS.out.mono ?_
        rintro e w8 ⟨rfl, rfl⟩
        clear HIS
        go_wp2_with fail
        refine HI.out.mono ?_
        rintro e w8 ⟨rfl, rfl⟩
        clear HI
        go_wp2_with fail
        go_ret
        exact ⟨by rw [HV.out]; rfl, HOP.out, HB7.out⟩
      · rw [decide_eq_false hlt, Bool.false_or] at HIS HV
        cases f with
        | true =>
          rw [if_pos rfl, if_pos rfl] at HV
          have HI := Lib.hid (HI64.out (fun h => by cases h))
          rw [if_pos rfl] at HI
          clear HI64 HQQ
          go_wp2_with fail
          refine HIS.out.mono ?_
          rintro e w8 ⟨rfl, rfl⟩
          clear HIS
          go_wp2_with fail
          refine HI.out.mono ?_
          rintro e w8 ⟨rfl, rfl⟩
          clear HI
          go_wp2_with fail
          go_ret
          exact ⟨by rw [HV.out]; rfl, HOP.out, HB7.out⟩
        | false =>
          rw [if_neg (by decide)] at HV
          clear HI64 HQQ
          go_wp2_with fail
          refine HIS.out.mono ?_
          rintro e w8 ⟨rfl, rfl⟩
          clear HIS
          go_wp2_with fail
          go_ret
          exact ⟨by rw [HV.out]; rfl, HOP.out, HB7.out⟩
set_option maxRecDepth 100000 in
set_option maxHeartbeats 1000000 in
theorem value_bin_37 (x y : Tr) (ix : ValueOk x) (iy : ValueOk y) : ValueOk (.bin 37 x y) := by
  intro v n s w h hn hs
  cases h with
  | @bin b o nn ss o' n' s' _ _ _ hop hb h0 h1 h2 hx h3 h4 h5 hy =>
    change Calls _ _ #[.agg #[.int .i64 37, .int .i64 0, .slice (some ⟨b, 0, none⟩) 2 2], .int .i64 n, .int .i64 s] w _
    obtain ⟨W1, hW1⟩ : ∃ W1, W1 = w.alloc (.cells #[.int .i64 37, .int .i64 0, .slice (some ⟨b, 0, none⟩) 2 2] 24) := ⟨_, rfl⟩
    have hb1 : Below w.heap.size w W1 := by rw [hW1]; exact (Below.refl _ _).alloc (Nat.le_refl _) _
    have g1 := heap_alloc_new w (.cells #[.int .i64 37, .int .i64 0, .slice (some ⟨b, 0, none⟩) 2 2] 24)
    rw [← hW1] at g1
    have HX := Lib.hid (ix _ n s W1 (hx.under hb1) hn hs)
    have HYY : Hid (∀ W, Below w.heap.size w W → Calls Tryz.prog 13 #[.agg #[o', n', s'], .int .i64 n, .int .i64 s] W (ValuePost y n s W)) := fun W hW => iy _ n s W (hy.under hW) hn hs
    have HC : Hid (∀ W, Below w.heap.size w W → W.cell? ⟨b, 3, none⟩ = some o' ∧ W.cell? ⟨b, 4, none⟩ = some n' ∧ W.cell? ⟨b, 5, none⟩ = some s') := fun W hW =>
      ⟨(hW.cell (p := ⟨b, 3, none⟩) hb).trans h3, (hW.cell (p := ⟨b, 4, none⟩) hb).trans h4, (hW.cell (p := ⟨b, 5, none⟩) hb).trans h5⟩
    have HB1 := Lib.hid hb1
    have y0 := cell_of_row W1 w.heap.size 0 _ _ _ g1
    have y2 := cell_of_row W1 w.heap.size 2 _ _ _ g1
    simp at y0 y2
    have hl1 := block_lt g1
    have HW := Lib.hid hW1
    have HY := Lib.hid (And.intro y0 y2)
    clear hx hy hn hs hb1 hW1 g1 ix iy h3 h4 h5 y0 y2 hop
    go_enter Tryz.func13, Tryz.ntmps13
    go_wp2_with fail
    rw [← HW.out]
    clear HW h0 h1 h2
    refine HX.out.mono ?_
    rintro e w2 ⟨rfl, hx2, hb2⟩
    have u0 := (hb2.cell (p := ⟨w.heap.size, 0, none⟩) hl1).trans HY.out.1
    have u2 := (hb2.cell (p := ⟨w.heap.size, 2, none⟩) hl1).trans HY.out.2
    have hl2 : w.heap.size < w2.heap.size := Nat.lt_of_lt_of_le hl1 hb2.size
    have hB2 := HB1.out.trans (hb2.mono HB1.out.size)
    have HB2 := Lib.hid hB2
    have HYC := Lib.hid (HYY.out w2 hB2)
    obtain ⟨p0, p1, p2⟩ := HC.out w2 hB2
    have HV0 : Hid ((Tr.bin 37 x y).val n s = opVal 37 (x.val n s) (y.val n s)) := rfl
    generalize x.val n s = xv at hx2 HV0
    clear HX HB1 hb2 HY HYY HC hB2
    have hx3 := hx2.1
    have hx4 := hx2.2
    clear hx2
    go_wp2_with fail
    refine HYC.out.mono ?_
    rintro e w3 ⟨rfl, hy2, hb3⟩
    have v0 := (hb3.cell (p := ⟨w.heap.size, 0, none⟩) hl2).trans u0
    have HB3 := Lib.hid (HB2.out.trans (hb3.mono HB2.out.size))
    have hz3 := HB3.out.size
    have hl3 : w.heap.size < w3.heap.size := Nat.lt_of_lt_of_le hl2 hb3.size
    generalize y.val n s = yv at hy2 HV0
    clear HYC hb3 u0 u2 p0 p1 p2 HB2
    have hy3 := hy2.1
    have hy4 := hy2.2
    clear hy2
    by_cases h0 : yv = 0
    · subst h0
      have HV : Hid ((Tr.bin 37 x y).val n s = 0) := by show _ = _; rw [HV0.out]; exact opVal_zero (by decide) xv
      clear HV0
      go_wp2_with fail
      go_ret
      exact ⟨by rw [HV.out]; rfl, by rw [HV.out]; exact ⟨by omega, by omega⟩, HB3.out⟩
    · have d0 : (yv == 0) = false := by rw [beq_eq_false_iff_ne]; exact h0
      have hVn : yv.natAbs ≠ 0 := by omega
      have HNX := Lib.hid (fun W => newInt_ok xv W ⟨hx3, hx4⟩)
      have HNY := Lib.hid (fun W => newInt_ok yv W ⟨hy3, hy4⟩)
      have HI3 := Lib.hid (new_objQ w3)
      have HB4 : Hid (Below w3.heap.size w3 (w3.alloc (.cells #[.bool false, .slice none 0 0] 98))) := (Below.refl _ _).alloc (Nat.le_refl _) _
      have hz4 : (w3.alloc (.cells #[.bool false, .slice none 0 0] 98)).heap.size = w3.heap.size + 1 := by simp
      go_wp2_with fail
      generalize w3.alloc (.cells #[.bool false, .slice none 0 0] 98) = w4 at HI3 HB4 hz4 ⊢
      refine (HNX.out w4).mono ?_
      rintro e w5 ⟨g1, rfl, hg1, hb5⟩
      have HG1 := Lib.hid hg1
      have HB5 := Lib.hid hb5
      have HI5 := Lib.hid (HI3.out.frm (Frm.ofBelow (F := fun _ => False) hb5) id)
      clear hg1 hb5 HI3
      go_wp2_with fail
      refine (HNY.out w5).mono ?_
      rintro e w6 ⟨g2, rfl, hg2, hb6⟩
      have HQ := Lib.hid (quo_ok w3.heap.size g1 g2 (decide (xv < 0)) (decide (yv < 0)) xv.natAbs yv.natAbs w6 (HI5.out.frm (Frm.ofBelow (F := fun _ => False) hb6) id) (HG1.out.below hb6) hg2 (by omega) hVn)
      have hB6 : Below w3.heap.size w3 w6 := HB4.out.trans ((HB5.out.trans (hb6.mono HB5.out.size)).mono HB4.out.size)
      have HB6 := Lib.hid hB6
      have hz6 := hB6.size
      clear hg2 hb6 hB6 HG1 HB4 HB5 HI5
      go_wp2_with fail
      refine HQ.out.mono ?_
      rintro e w7 ⟨rfl, hq, hf7⟩
      have v7 := (World.cell?_of_block (a := ⟨w.heap.size, 0, none⟩) (hf7.block w.heap.size (by omega) (by omega))).trans ((HB6.out.cell (p := ⟨w.heap.size, 0, none⟩) hl3).trans v0)
      have HB7 : Hid (Below w.heap.size w w7) := HB3.out.trans ((HB6.out.trans (hf7.below (by omega) (fun k hk => by omega))).mono HB3.out.size)
      have hl7 : w.heap.size < w7.heap.size := by have := hf7.size; omega
      have HQQ := Lib.hid hq
      clear hq hf7 HQ HB6 v0
      have HI8 := Lib.hid (new_objQ w7)
      have HB8 : Hid (Below w7.heap.size w7 (w7.alloc (.cells #[.bool false, .slice none 0 0] 98))) := (Below.refl _ _).alloc (Nat.le_refl _) _
      have hz8 : (w7.alloc (.cells #[.bool false, .slice none 0 0] 98)).heap.size = w7.heap.size + 1 := by simp
      clear HQQ hz4 hz6
      go_wp2_with fail
      generalize w7.alloc (.cells #[.bool false, .slice none 0 0] 98) = w8 at HI8 HB8 hz8 ⊢
      refine (HNX.out w8).mono ?_
      rintro e w9 ⟨g3, rfl, hg3, hb9⟩
      have HG3 := Lib.hid hg3
      have HB9 := Lib.hid hb9
      have HI9 := Lib.hid (HI8.out.frm (Frm.ofBelow (F := fun _ => False) hb9) id)
      clear hg3 hb9 HI8
      go_wp2_with fail
      refine (HNY.out w9).mono ?_
      rintro e w10 ⟨g4, rfl, hg4, hb10⟩
      have HQ := Lib.hid (rem_ok w7.heap.size g3 g4 (decide (xv < 0)) (decide (yv < 0)) xv.natAbs yv.natAbs w10 (HI9.out.frm (Frm.ofBelow (F := fun _ => False) hb10) id) (HG3.out.below hb10) hg4 (by omega) hVn)
      have hB10 : Below w7.heap.size w7 w10 := HB8.out.trans ((HB9.out.trans (hb10.mono HB9.out.size)).mono HB8.out.size)
      have HB10 := Lib.hid hB10
      have hz10 := hB10.size
      clear hg4 hb10 hB10 HG3 HB8 HB9 HI9
      go_wp2_with fail
      refine HQ.out.mono ?_
      rintro e w11 ⟨rfl, hq, hf11⟩
      have HB11 : Hid (Below w.heap.size w w11) := HB7.out.trans ((HB10.out.trans (hf11.below (by omega) (fun k hk => by omega))).mono HB7.out.size)
      have HQQ := Lib.hid hq
      clear hq hf11 HQ HB10 v7
      obtain ⟨Q, hQe⟩ : ∃ Q, Q = xv.natAbs % yv.natAbs := ⟨_, rfl⟩
      rw [← hQe] at HQQ
      obtain ⟨f, hfe⟩ : ∃ f, f = (decide (xv < 0) && decide (0 < Q)) := ⟨_, rfl⟩
      rw [← hfe] at HQQ
      obtain ⟨q1, q2, q3⟩ := rem_val ⟨hx3, hx4⟩ ⟨hy3, hy4⟩ h0 hQe hfe
      clear hQe hfe
      have HV := Lib.hid (HV0.out.trans q3)
      have HIS := Lib.hid (isInt64_ok w7.heap.size _ _ w11 HQQ.out q1)
      have HI64 := Lib.hid (fun h => int64_ok w7.heap.size _ _ w11 HQQ.out q2 h)
      have HOP : Hid (I64s (opVal 37 xv yv)) := opVal_i64s_37 ⟨hx3, hx4⟩ ⟨hy3, hy4⟩ h0
      rw [← HV0.out] at HOP
      clear HV0 q1 q2 q3
      by_cases hlt : Q < 9223372036854775808
      · rw [decide_eq_true hlt, Bool.true_or] at HIS HV
        rw [if_pos rfl] at HV
        have HI := Lib.hid (HI64.out (fun _ => hlt))
        obtain ⟨r, hr⟩ : ∃ r : Int, r = if f = true then -(Q : Int) else (Q : Int) := ⟨_, rfl⟩
        rw [← hr] at HV HI
        clear HI64 HQQ hr
        go_wp2_with fail
        refine HIS.out.mono ?_
        rintro e w8 ⟨rfl, rfl⟩
        clear HIS
        go_wp2_with fail
        refine HI.out.mono ?_
        rintro e w8 ⟨rfl, rfl⟩
        clear HI
        go_wp2_with fail
        go_ret
        exact ⟨by rw [HV.out]; rfl, HOP.out, HB11.out⟩
      · rw [decide_eq_false hlt, Bool.false_or] at HIS HV
        cases f with
        | true =>
          rw [if_pos rfl, if_pos rfl] at HV
          have HI := Lib.hid (HI64.out (fun h => by cases h))
          rw [if_pos rfl] at HI
          clear HI64 HQQ
          go_wp2_with fail
          refine HIS.out.mono ?_
          rintro e w8 ⟨rfl, rfl⟩
          clear HIS
          go_wp2_with fail
          refine HI.out.mono ?_
          rintro e w8 ⟨rfl, rfl⟩
          clear HI
          go_wp2_with fail
          go_ret
          exact ⟨by rw [HV.out]; rfl, HOP.out, HB11.out⟩
        | false =>
          rw [if_neg (by decide)] at HV
          clear HI64 HQQ
          go_wp2_with fail
          refine HIS.out.mono ?_
          rintro e w8 ⟨rfl, rfl⟩
          clear HIS
          go_wp2_with fail
          go_ret
          exact ⟨by rw [HV.out]; rfl, HOP.out, HB11.out⟩
theorem value_bin (op : UInt8) (hop : op ∈ binOps) (x y : Tr) (ix : ValueOk x) (iy : ValueOk y) : ValueOk (.bin op x y) := by
  simp only [binOps, List.mem_cons, List.not_mem_nil, or_false] at hop
  rcases hop with rfl | rfl | rfl | rfl | rfl | rfl | rfl | rfl | rfl | rfl
  · exact value_bin_109 x y ix iy
  · exact value_bin_77 x y ix iy
  · exact value_bin_43 x y ix iy
  · exact value_bin_45 x y ix iy
  · exact value_bin_42 x y ix iy
  · exact value_bin_61 x y ix iy
  · exact value_bin_60 x y ix iy
  · exact value_bin_62 x y ix iy
  · exact value_bin_47 x y ix iy
  · exact value_bin_37 x y ix iy
/-- The reference's Value, at any tree. -/
theorem value_ok : ∀ t : Tr, ValueOk t
  | .num k => value_num k
  | .nam x => value_nam x
  | .neg a => value_neg a (value_ok a)
  | .sel x y z => value_sel x y z (value_ok x) (value_ok y) (value_ok z)
  | .bin op x y => fun v n s w h hn hs => by
    have hop : op ∈ binOps := by cases h; assumption
    exact value_bin op hop x y (value_ok x) (value_ok y) v n s w h hn hs
end Go.Proofs.YtfndhfekbbbliaaGreatDoor

/-
  From what the row lists to what the walks of package expr ask: the two variables of Atoi's errors hold errors; the table of powers of ten. No condition.
-/
namespace Go.Proofs.YtfndhfekbbbliaaGreatDoor
open Go.RowKit Go.Shelf
set_option linter.unusedVariables false

theorem err_of_reads {w : World} {n nm : String} {g : Nat} {d : DataW Unit} (hg : Tryz.prog.globalNamed n = some g) (ht : (Tryz.prog.globals[g]?).map (·.type) = some 28) (h : Lib.VarReads Tryz.prog w n (.iface nm d)) :
    ∃ ev, w.cell? ⟨g, 0, none⟩ = some ev ∧ (ev = .nilIface ∨ ∃ te pe, ev = .iface te pe) := by
  obtain ⟨g', t', cs, fuel, p, hg', ht', hvar, hd⟩ := h
  obtain rfl := Option.some.inj (hg.symm.trans hg')
  obtain rfl := Option.some.inj (ht.symm.trans ht')
  obtain ⟨_, u, v, hcs, _, _⟩ := iface_of_trod Tryz.underlying28 hd
  refine ⟨.iface u v, ?_, .inr ⟨u, v, rfl⟩⟩
  obtain ⟨l⟩ := cs
  have hl : l = [.iface u v] := hcs
  subst hl
  simpa using World.var?_cell hg hvar 0
theorem errVars_of_reads {w : World} (h1 : Lib.VarReads Tryz.prog w "strconv.ErrSyntax" Rows.laid_strconv_ErrSyntax) (h2 : Lib.VarReads Tryz.prog w "strconv.ErrRange" Rows.laid_strconv_ErrRange) : ErrVars w :=
  ⟨err_of_reads (g := 3) (by kernel_rfl) (by kernel_rfl) h1, err_of_reads (g := 4) (by kernel_rfl) (by kernel_rfl) h2⟩
theorem pow_of_reads {w : World} (h : Lib.VarReads Tryz.prog w "internal/strconv.uint64pow10" Rows.laid_internal_strconv_uint64pow10) : PowTab w := by
  obtain ⟨g', t', cs, fuel, p, hg', ht', hvar, hd⟩ := h
  obtain rfl := Option.some.inj ((show Tryz.prog.globalNamed "internal/strconv.uint64pow10" = some 1 by kernel_rfl).symm.trans hg')
  obtain rfl := Option.some.inj ((show (Tryz.prog.globals[1]?).map (·.type) = some 251 by kernel_rfl).symm.trans ht')
  have e : (Rows.laid_internal_strconv_uint64pow10 : DataW Unit) = Lib.tabData .u64 Lib.pow10Tab := by kernel_rfl
  rw [e] at hd
  unfold PowTab Lib.TabIs
  rw [hvar, ← Lib.cells_of_tab Tryz.underlying251 Tryz.underlying161 (by kernel_rfl) (by kernel_rfl) hd]
end Go.Proofs.YtfndhfekbbbliaaGreatDoor
