/-
  The walk of ExprDivides: it returns true. Conditions: the two variables of Atoi's errors hold errors.
-/
import Derived.Test.YtojkidaneggabaaDoorExprEv
namespace Go.Proofs.YtojkidaneggabaaDoor
open Go.RowKit Go.Shelf
set_option linter.unusedVariables false

theorem i64_of_wf {n : Int} (h : (Lit.int .i64 n).wf = true) : I64_ n := by
  have := bounds_i64 h
  unfold I64_; omega
def tN : Tr := .nam true
def tS : Tr := .nam false
theorem div_tree : parseT (⟨#[110, 47, 115]⟩ : ByteArray).data.toList = .tree (.bin 47 tN tS) := by kernel_rfl
theorem mod_tree : parseT (⟨#[110, 37, 115]⟩ : ByteArray).data.toList = .tree (.bin 37 tN tS) := by kernel_rfl
theorem back_tree : parseT (⟨#[110, 47, 115, 42, 115, 43, 110, 37, 115]⟩ : ByteArray).data.toList = .tree (.bin 43 (.bin 42 (.bin 47 tN tS) tS) (.bin 37 tN tS)) := by kernel_rfl
theorem div_back {n s : Int} (hn : I64_ n) (hs : I64_ s) (h0 : s ≠ 0) : wrap64 (wrap64 (opVal 47 n s * s) + opVal 37 n s) = n := by
  have e1 : opVal 47 n s = if s = -1 then wrap64 (-n) else n.tdiv s := by unfold opVal; simp [h0]
  have e2 : opVal 37 n s = if s = -1 then 0 else n.tmod s := by unfold opVal; simp [h0]
  unfold I64_ at *
  rw [e1, e2]
  by_cases h1 : s = -1
  · rw [if_pos h1, if_pos h1, h1]; unfold wrap64; omega
  · rw [if_neg h1, if_neg h1]
    have h := Int.tdiv_mul_add_tmod n s
    generalize n.tdiv s * s = u at *
    generalize n.tmod s = v at *
    unfold wrap64; omega
theorem mod_sign {n s : Int} (h0 : s ≠ 0) : opVal 37 n s = 0 ∨ (decide (opVal 37 n s < 0) = decide (n < 0)) := by
  have e2 : opVal 37 n s = if s = -1 then 0 else n.tmod s := by unfold opVal; simp [h0]
  by_cases h1 : s = -1
  · left; rw [e2, if_pos h1]
  · rw [e2, if_neg h1]
    by_cases h : n.tmod s = 0
    · exact .inl h
    · right
      rcases Int.le_total 0 n with g | g
      · have := Int.tmod_nonneg s g
        rw [decide_eq_false (by omega), decide_eq_false (by omega)]
      · have := Int.tmod_nonneg s (a := -n) (by omega)
        rw [Int.neg_tmod] at this
        have : n ≠ 0 := fun e => by rw [e] at h; simp at h
        rw [decide_eq_true (by omega), decide_eq_true (by omega)]
set_option maxRecDepth 100000 in
set_option maxHeartbeats 1000000 in
theorem exprDivides_walk (n s : Int) (w : World) (wn : (Lit.int .i64 n).wf = true) (ws : (Lit.int .i64 s).wf = true) (hv : ErrVars w) :
    Calls Tryd.prog 3 #[.int .i64 n, .int .i64 s] w fun e w' => e = .returned (.bool true) ∧ Below w.heap.size w w' := by
  have HN := Lib.hid (i64_of_wf wn)
  have HS := Lib.hid (i64_of_wf ws)
  have HV := Lib.hid hv
  have h7 : I64_ 7 := by unfold I64_; omega
  have h2 : I64_ 2 := by unfold I64_; omega
  have H1 := Lib.hid (eval_tree ⟨#[110, 47, 115]⟩ 7 2 w hv (by decide) h7 h2 div_tree)
  clear hv wn ws
  go_enter Tryd.func3, Tryd.ntmps3
  go_wp2_with fail
  refine H1.out.mono ?_
  rintro e w1 ⟨rfl, b1⟩
  have B1 := Lib.hid b1
  clear b1 H1 h7 h2
  rw [show (Tr.bin 47 tN tS).val 7 2 = 3 from by decide]
  go_wp2_with fail
  refine (eval_tree ⟨#[110, 47, 115]⟩ n s w1 (HV.out.below B1.out) (by decide) HN.out HS.out div_tree).mono ?_
  rintro e w2 ⟨rfl, b2⟩
  have B2 := Lib.hid (B1.out.trans (b2.mono B1.out.size))
  clear b2
  rw [show (Tr.bin 47 tN tS).val n s = opVal 47 n s from rfl]
  generalize hq : opVal 47 n s = q
  have HQ := Lib.hid hq
  clear hq
  go_wp2_with fail
  refine (eval_tree ⟨#[110, 37, 115]⟩ n s w2 (HV.out.below B2.out) (by decide) HN.out HS.out mod_tree).mono ?_
  rintro e w3 ⟨rfl, b3⟩
  have B3 := Lib.hid (B2.out.trans (b3.mono B2.out.size))
  clear b3
  rw [show (Tr.bin 37 tN tS).val n s = opVal 37 n s from rfl]
  generalize hm : opVal 37 n s = m
  have HM := Lib.hid hm
  clear hm
  go_wp2_with fail
  refine (eval_tree ⟨#[110, 47, 115, 42, 115, 43, 110, 37, 115]⟩ n s w3 (HV.out.below B3.out) (by decide) HN.out HS.out back_tree).mono ?_
  rintro e w4 ⟨rfl, b4⟩
  have B4 := Lib.hid (B3.out.trans (b4.mono B3.out.size))
  clear b4
  rw [show (Tr.bin 43 (.bin 42 (.bin 47 tN tS) tS) (.bin 37 tN tS)).val n s = wrap64 (wrap64 (q * s) + m) from by rw [← HQ.out, ← HM.out]; rfl]
  by_cases h0 : s = 0
  · subst h0
    obtain rfl : q = 0 := HQ.out.symm
    obtain rfl : m = 0 := HM.out.symm
    rw [show wrap64 (wrap64 (0 * 0) + 0) = 0 from by unfold wrap64; omega]
    go_wp2_with fail
    go_ret
    exact ⟨rfl, B4.out⟩
  · have e0 : (s == 0) = false := by simp [h0]
    have hb : wrap64 (wrap64 (q * s) + m) = n := by rw [← HQ.out, ← HM.out]; exact div_back HN.out HS.out h0
    have hsg : m = 0 ∨ (decide (m < 0) = decide (n < 0)) := by rw [← HM.out]; exact mod_sign h0
    rw [hb]
    have hb1 : (wrap64 (wrap64 (q * s) + m) == n) = true := by simp [hb]
    clear hb
    by_cases hm0 : m = 0
    · have e1 : (m == 0) = true := by simp [hm0]
      clear hm0 hsg
      go_wp2_with fail
      go_ret
      exact ⟨rfl, B4.out⟩
    · have hd : (decide (m < 0) == decide (n < 0)) = true := by rcases hsg with h | h; exact absurd h hm0; simp [h]
      have e1 : (m == 0) = false := by simp [hm0]
      clear hsg
      go_wp2_with fail
      go_ret
      exact ⟨rfl, B4.out⟩
end Go.Proofs.YtojkidaneggabaaDoor
