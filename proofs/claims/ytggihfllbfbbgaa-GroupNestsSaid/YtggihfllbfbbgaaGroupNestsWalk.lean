/-
  The walk of GroupNests: it returns true, whatever its two numbers are. No condition.
-/
import Derived.Test.YtggihfllbfbbgaaGroup
namespace Go.Proofs.Ytggihfllbfbbgaa
open Go.RowKit

theorem groupNests_walk0 (p g : Int) (w : World) :
    Calls Try.prog 3 #[.int .i64 p, .int .i64 g] w fun e w' => e = .returned (.bool true) ∧ w = w' := by
  by_cases h1 : 1 ≤ p
  · by_cases h2 : p ≤ 8
    · by_cases h3 : 0 ≤ g ∧ g < 16
      · obtain ⟨h3, h4⟩ := h3
        have hb : 0 ≤ g * (2*p) := Int.mul_nonneg h3 (by omega)
        have hb2 : g * (2*p) ≤ 16 * 16 := Int.mul_le_mul (by omega) (by omega) (by omega) (by omega)
        have key : ((g * (2*p) / 16 / 2 == g * p / 16)) = true := by
          rw [beq_iff_eq]
          have : g * (2 * p) = 2 * (g * p) := by rw [Int.mul_left_comm]
          omega
        have q1 : 0 ≤ g * (2*p) / 16 := by omega
        have q2 : g * (2*p) / 16 ≤ 16 := by omega
        go_enter Try.func3, Try.ntmps3
        go_wp2_with fail
        refine (owner_ok 16 5 _ (by omega) (by omega) (by omega) (by omega)).mono ?_; rintro e w' ⟨rfl, rfl⟩
        go_wp2_with fail
        refine (owner_ok p g _ (by omega) (by omega) (by omega) (by omega)).mono ?_; rintro e w' ⟨rfl, rfl⟩
        go_wp2_with fail
        refine (owner_ok (2*p) g _ (by omega) (by omega) (by omega) (by omega)).mono ?_; rintro e w' ⟨rfl, rfl⟩
        go_wp2_with fail
        go_ret
        exact ⟨rfl, rfl⟩
      · go_enter Try.func3, Try.ntmps3
        go_wp2_with fail
        refine (owner_ok 16 5 _ (by omega) (by omega) (by omega) (by omega)).mono ?_; rintro e w' ⟨rfl, rfl⟩
        go_wp2_with fail
        refine (owner_bad p g _ (by omega)).mono ?_; rintro e w' ⟨rfl, rfl⟩
        go_wp2_with fail
        refine (owner_bad (2*p) g _ (by omega)).mono ?_; rintro e w' ⟨rfl, rfl⟩
        go_wp2_with fail
        go_ret
        exact ⟨rfl, rfl⟩
    · go_enter Try.func3, Try.ntmps3
      go_wp2_with fail
      refine (owner_ok 16 5 _ (by omega) (by omega) (by omega) (by omega)).mono ?_; rintro e w' ⟨rfl, rfl⟩
      go_wp2_with fail
      go_ret
      exact ⟨rfl, rfl⟩
  · go_enter Try.func3, Try.ntmps3
    go_wp2_with fail
    refine (owner_ok 16 5 _ (by omega) (by omega) (by omega) (by omega)).mono ?_; rintro e w' ⟨rfl, rfl⟩
    go_wp2_with fail
    go_ret
    exact ⟨rfl, rfl⟩
theorem groupNests_walk (p g : Int) (w : World) (_ : (Lit.int .i64 p).wf = true) (_ : (Lit.int .i64 g).wf = true) :
    Calls Try.prog 3 #[.int .i64 p, .int .i64 g] w fun e w' => e = .returned (.bool true) ∧ Below w.heap.size w w' :=
  (groupNests_walk0 p g w).mono fun _ _ h => ⟨h.1, h.2 ▸ Below.refl _ _⟩
end Go.Proofs.Ytggihfllbfbbgaa
