/-
  Contracts of strings.Compare and of what it calls. No condition.
-/
import Derived.Test.YthobnigjhedjaaaDoorTabRead
import Derived.Lib.Bytealg
import Derived.Lib.Walk
namespace Go.Proofs.YthobnigjhedjaaaDoor
open Go.RowKit
open Go.Sort hiding Below
set_option linter.unusedVariables false

set_option maxRecDepth 100000 in
set_option maxHeartbeats 1000000 in
theorem cmpString_any (a b : ByteArray) (w : World) : Calls Tryd.prog 120 #[.string a, .string b] w fun e w' => e = .returned (.int .i64 (Lib.compareBytes a.data.toList b.data.toList)) ∧ w = w' := by
  go_enter Tryd.func120, Tryd.ntmps120
  go_wp2
  rw [run_callFunc_extern Tryd.func142 (by kernel_rfl) (by kernel_rfl) (by kernel_rfl) (e := Extern.BytealgCompare.compare) (by kernel_rfl), Lib.run_compareString]
  simp only [Result.andThen]
  rw [Oper.upon_value]
  go_wp2
  go_ret
  exact ⟨rfl, rfl⟩
theorem compareS_any (a b : ByteArray) (w : World) : Calls Tryd.prog 91 #[.string a, .string b] w fun e w' => e = .returned (.int .i64 (Lib.compareBytes a.data.toList b.data.toList)) ∧ w = w' := by
  go_enter Tryd.func91, Tryd.ntmps91
  go_wp2_with fail
  refine (cmpString_any a b _).mono ?_
  rintro e w' ⟨rfl, rfl⟩
  go_wp2_with fail
  go_ret
  exact ⟨rfl, rfl⟩
theorem compareBytes_eq : ∀ (a b : List UInt8), Lib.compareBytes a b = if ltStr a b then -1 else if ltStr b a then 1 else 0
  | [], [] => by simp [Lib.compareBytes, ltStr]
  | [], y :: b => by simp [Lib.compareBytes, ltStr]
  | x :: a, [] => by simp [Lib.compareBytes, ltStr]
  | x :: a, y :: b => by
    have ih := compareBytes_eq a b
    simp only [ltStr, decide_eq_true_eq, List.cons_lt_cons_iff] at ih ⊢
    unfold Lib.compareBytes
    by_cases h1 : x < y
    · have h2 : ¬ y < x := fun h => UInt8.lt_asymm h1 h
      simp [h1]
    · by_cases h2 : y < x
      · have h3 : x ≠ y := fun e => by subst e; exact UInt8.lt_irrefl _ h2
        simp [h1, h2, h3]
      · have h3 : x = y := UInt8.le_antisymm (UInt8.not_lt.1 h2) (UInt8.not_lt.1 h1)
        subst h3
        simp only [if_neg h1]
        rw [ih]
        simp [UInt8.lt_irrefl]
theorem compareBytes_cmpS (a b : ByteArray) : Lib.compareBytes a.data.toList b.data.toList = cmpS a b := compareBytes_eq _ _
end Go.Proofs.YthobnigjhedjaaaDoor
