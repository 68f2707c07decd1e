/-
  The walk of Names: it returns true. No condition.
-/
import Derived.Test.YtggihfllbfbbgaaGroup
namespace Go.Proofs.Ytggihfllbfbbgaa
open Go.RowKit
set_option linter.unusedVariables false

set_option maxHeartbeats 1000000 in
set_option maxRecDepth 100000 in
theorem names_walk (w : World) : Calls Try.prog 8 #[] w fun e w' => e = .returned (.bool true) ∧ Below w.heap.size w w' := by
  go_enter Try.func8, Try.ntmps8
  go_wp2_with fail
  go_loop [4] (fun i => ∃ k : Nat, k ≤ 10 ∧ i = .int .i64 k) (fun i => 10 - (intOf i).toNat)
  case atStart => exact ⟨0, by omega, rfl⟩
  case round =>
    obtain ⟨k, hk, rfl⟩ := hrel
    rcases (by omega : k = 0 ∨ k = 1 ∨ k = 2 ∨ k = 3 ∨ k = 4 ∨ k = 5 ∨ k = 6 ∨ k = 7 ∨ k = 8 ∨ k = 9 ∨ k = 10) with rfl | rfl | rfl | rfl | rfl | rfl | rfl | rfl | rfl | rfl | rfl
    all_goals go_wp2
    all_goals first
      | exact ⟨⟨1, by omega, rfl⟩, by simp [intOf]⟩
      | exact ⟨⟨2, by omega, rfl⟩, by simp [intOf]⟩
      | exact ⟨⟨3, by omega, rfl⟩, by simp [intOf]⟩
      | exact ⟨⟨4, by omega, rfl⟩, by simp [intOf]⟩
      | exact ⟨⟨5, by omega, rfl⟩, by simp [intOf]⟩
      | exact ⟨⟨6, by omega, rfl⟩, by simp [intOf]⟩
      | exact ⟨⟨7, by omega, rfl⟩, by simp [intOf]⟩
      | exact ⟨⟨8, by omega, rfl⟩, by simp [intOf]⟩
      | exact ⟨⟨9, by omega, rfl⟩, by simp [intOf]⟩
      | exact ⟨⟨10, by omega, rfl⟩, by simp [intOf]⟩
      | skip
    all_goals go_ret
    exact ⟨rfl, (Below.refl _ _).alloc (Nat.le_refl _) _⟩
end Go.Proofs.Ytggihfllbfbbgaa
