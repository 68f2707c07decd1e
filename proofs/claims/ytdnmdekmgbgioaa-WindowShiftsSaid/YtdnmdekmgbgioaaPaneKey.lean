/-
  A pane as a map's key, and a place in a keyed store as one. No condition.
-/
import Derived.Test.YtdnmdekmgbgioaaMap
import Derived.Test.YtdnmdekmgbgioaaElts
import Derived.DeepKeys5
namespace Go.Proofs.Ytdnmdekmgbgioaa
open Go.RowKit
set_option linter.unusedVariables false
theorem laidOutK : laidOutB Try.prog = true := by kernel_rfl
theorem paneKeyed : Maps.Keyed Try.prog 31 := Maps.Keyed.of_law (deep_law_gate laidOutK (of_decide_eq_true (by kernel_rfl)) (of_decide_eq_true (by kernel_rfl)) (by kernel_rfl) (by kernel_rfl))
def paneV (s : ByteArray) (a b : Int) : Value := .agg #[.string s, .int .i64 a, .int .i64 b, .int .i64 0, .int .i64 0, .int .i64 0]
def IsPaneK (v : Value) : Prop := ∃ s a b, v = paneV s a b ∧ s.size ≤ maxLen ∧ I64 a ∧ I64 b
theorem paneK_of (v : Value) (h : IsPaneK v) : ∃ l, keyOf Try.prog 31 v = some l := by
  obtain ⟨s, a, b, rfl, hs, ha, hb⟩ := h
  have h1 : Try.prog.keyType 31 = true := by kernel_rfl
  have h2 : (paneV s a b).formed Try.prog 31 = true := by kernel_rfl
  have hz : (Lit.int .i64 0).wf = true := by decide
  have e1 : Try.prog.cellsOf 31 = 6 := by kernel_rfl
  have e2 : Try.prog.cellsOf 9 = 1 := by kernel_rfl
  have e3 : Try.prog.cellsOf 3 = 1 := by kernel_rfl
  obtain ⟨d, hd⟩ : ∃ d, Try.prog.types.size + 1 = d + 1 + 1 := ⟨Try.prog.types.size - 1, by have : 1 ≤ Try.prog.types.size := of_decide_eq_true (by kernel_rfl); omega⟩
  unfold I64 at ha hb
  unfold keyOf
  rw [hd]
  simp only [Try.underlying31, h1, h2]
  simp [Program.keyLits, Try.underlying31, Try.underlying9, Try.underlying3, paneV, Value.cells, e1, e2, e3, hs, ha, hb, hz]
theorem paneT : KeyT Try.prog 31 IsPaneK := (KeyT.of paneKeyed).less paneK_of
end Go.Proofs.Ytdnmdekmgbgioaa
