/-
  A place in a keyed store (a node and a key) as a map's key. No condition.
-/
import Derived.Test.YtdnmdekmgbgioaaMap
import Derived.Test.YtdnmdekmgbgioaaElts
import Derived.DeepKeys5
namespace Go.Proofs.Ytdnmdekmgbgioaa
open Go.RowKit
set_option linter.unusedVariables false
theorem laidOutAt : laidOutB Try.prog = true := by kernel_rfl
theorem atKeyed : Maps.Keyed Try.prog 82 := Maps.Keyed.of_law (deep_law_gate laidOutAt (of_decide_eq_true (by kernel_rfl)) (of_decide_eq_true (by kernel_rfl)) (by kernel_rfl) (by kernel_rfl))
def atV (n : Int) (s : ByteArray) : Value := .agg #[.int .i64 n, .string s]
def IsAtK (v : Value) : Prop := ∃ n s, v = atV n s ∧ s.size ≤ maxLen ∧ I64 n
theorem atK_of (v : Value) (h : IsAtK v) : ∃ l, keyOf Try.prog 82 v = some l := by
  obtain ⟨a, s, rfl, hs, ha⟩ := h
  have h1 : Try.prog.keyType 82 = true := by kernel_rfl
  have h2 : (atV a s).formed Try.prog 82 = true := by kernel_rfl
  have e1 : Try.prog.cellsOf 82 = 2 := by kernel_rfl
  have e2 : Try.prog.cellsOf 9 = 1 := by kernel_rfl
  have e3 : Try.prog.cellsOf 3 = 1 := by kernel_rfl
  obtain ⟨d, hd⟩ : ∃ d, Try.prog.types.size + 1 = d + 1 + 1 := ⟨Try.prog.types.size - 1, by have : 1 ≤ Try.prog.types.size := of_decide_eq_true (by kernel_rfl); omega⟩
  unfold I64 at ha
  unfold keyOf
  rw [hd]
  simp only [Try.underlying82, h1, h2]
  simp [Program.keyLits, Try.underlying82, Try.underlying9, Try.underlying3, atV, Value.cells, e1, e2, e3, hs, ha]
theorem atT : KeyT Try.prog 82 IsAtK := (KeyT.of atKeyed).less atK_of
end Go.Proofs.Ytdnmdekmgbgioaa
