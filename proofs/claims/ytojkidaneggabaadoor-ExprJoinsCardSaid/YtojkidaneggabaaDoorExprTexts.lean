/-
  Package expr: the texts that the laws put together, as lists of bytes; how an error tells a tree. No condition: plain lemmas.
-/
import Derived.Test.YtojkidaneggabaaDoorExprEv
import Derived.Test.YtojkidaneggabaaDoorExprJoin
namespace Go.Proofs.YtojkidaneggabaaDoor
open Go.RowKit Go.Shelf
set_option linter.unusedVariables false

theorem i64_of_wf {n : Int} (h : (Lit.int .i64 n).wf = true) : I64_ n := by
  have := bounds_i64 h
  unfold I64_; omega
theorem ba_mk (x : Array UInt8) : (ByteArray.mk x).size = x.size := rfl
theorem join_list (op : UInt8) (a b : ByteArray) : ((⟨#[40]⟩ : ByteArray) ++ a ++ ⟨#[41, op, 40]⟩ ++ b ++ ⟨#[41]⟩).data.toList = joinB op a.data.toList b.data.toList := by simp [joinB, ByteArray.data_append]
theorem min_list (x y : UInt8) (a b : ByteArray) : ((⟨#[109, x, y, 40]⟩ : ByteArray) ++ a ++ ⟨#[44]⟩ ++ b ++ ⟨#[41]⟩).data.toList = minB x y a.data.toList b.data.toList := by simp [minB, ByteArray.data_append]
theorem sel_list (a b c : ByteArray) : ((⟨#[40]⟩ : ByteArray) ++ a ++ ⟨#[41, 63, 40]⟩ ++ b ++ ⟨#[41, 58, 40]⟩ ++ c ++ ⟨#[41]⟩).data.toList = selB a.data.toList b.data.toList c.data.toList := by simp [selB, ByteArray.data_append]
theorem err_cases (P : Parsed) : (errOf P = .nilIface ∧ ∃ t, P = .tree t) ∨ (∃ k j, P = .fault k j ∧ errOf P = errV j) := by
  cases P with
  | tree t => exact .inl ⟨rfl, t, rfl⟩
  | fault k j => exact .inr ⟨k, j, rfl, rfl⟩
/-- What Eval returns, whatever the text. -/
def valOf (n s : Int) : Parsed → Int
  | .tree t => t.val n s
  | .fault _ _ => 0
theorem eval_ok_any (x : ByteArray) (n s : Int) (w : World) (hv : ErrVars w) (hsz : x.size ≤ maxLen) (hn : I64_ n) (hs : I64_ s) :
    Calls Tryd.prog 7 #[.string x, .int .i64 n, .int .i64 s] w fun e w' => e = .returned (.tuple #[.int .i64 (valOf n s (parseT x.data.toList)), errOf (parseT x.data.toList)]) ∧ Below w.heap.size w w' := by
  cases h : parseT x.data.toList with
  | tree t => exact eval_tree x n s w hv hsz hn hs h
  | fault k j => exact eval_fault x n s w hv hsz h
end Go.Proofs.YtojkidaneggabaaDoor
