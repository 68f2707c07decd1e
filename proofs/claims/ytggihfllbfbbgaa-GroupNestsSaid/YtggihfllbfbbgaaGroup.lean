/-
  Contracts of package group: Owner, as the document says, whatever its arguments. No condition.
-/
import Derived.Test.YtggihfllbfbbgaaElts
import Derived.WalkSpells
import Derived.WalkLawsBesides
import Derived.Deep.QuietTactic
import Derived.BigQuiet
namespace Go.Proofs.Ytggihfllbfbbgaa
open Go.RowKit

theorem ret_true {b : Bool} (h : b = true) : Ending.returned (.bool b) = .returned (.bool true) := by rw [h]

theorem owner_ok (p g : Int) (w : World) (hp : 1 ≤ p) (hp' : p ≤ 16) (hg : 0 ≤ g) (hg' : g < 16) :
    Calls Try.prog 14 #[.int .i64 p, .int .i64 g] w fun e w' => e = .returned (.tuple #[.int .i64 (g * p / 16), .nilIface]) ∧ w = w' := by
  have hb : 0 ≤ g * p := Int.mul_nonneg hg (by omega)
  have hb2 : g * p ≤ 16 * 16 := Int.mul_le_mul (by omega) (by omega) (by omega) (by omega)
  go_enter Try.func14, Try.ntmps14
  go_wp2
  all_goals (go_ret2; exact ⟨rfl, rfl⟩)
theorem owner_bad (p g : Int) (w : World) (h : ¬ (1 ≤ p ∧ p ≤ 16 ∧ 0 ≤ g ∧ g < 16)) :
    Calls Try.prog 14 #[.int .i64 p, .int .i64 g] w fun e w' => e = .returned (.tuple #[.int .i64 0, .iface 46 (.int .i64 1)]) ∧ w = w' := by
  by_cases h1 : 1 ≤ p
  · by_cases h2 : p ≤ 16
    · by_cases h3 : g < 0
      · go_enter Try.func14, Try.ntmps14
        go_wp2
        all_goals (go_ret2; exact ⟨rfl, rfl⟩)
      · have h4 : 16 ≤ g := by omega
        go_enter Try.func14, Try.ntmps14
        go_wp2
        all_goals (go_ret2; exact ⟨rfl, rfl⟩)
    · go_enter Try.func14, Try.ntmps14
      go_wp2
      all_goals (go_ret2; exact ⟨rfl, rfl⟩)
  · go_enter Try.func14, Try.ntmps14
    go_wp2
    all_goals (go_ret2; exact ⟨rfl, rfl⟩)
end Go.Proofs.Ytggihfllbfbbgaa
