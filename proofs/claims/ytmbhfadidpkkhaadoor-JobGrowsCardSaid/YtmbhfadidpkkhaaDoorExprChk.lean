/-
  Package expr: the contract of Check. Conditions: the text's length; the two variables of Atoi's errors hold errors.
-/
import Derived.Test.YtmbhfadidpkkhaaDoorExprParse
namespace Go.Proofs.YtmbhfadidpkkhaaDoor
open Go.RowKit Go.Shelf
set_option linter.unusedVariables false

def errV (e : Int) : Value := .iface 36 (.int .i64 e)
theorem parse_tree {s : ByteArray} {w : World} {e : Ending} {w' : World} {t : Tr} (h : ParsePost s w e w') (hp : parseT s.data.toList = .tree t) :
    ∃ o n A c, e = .returned (.tuple #[.agg (trA o n A c), .int .i64 0, .nilIface]) ∧ TrC (w.heap.size ≤ ·) w' t (trL o n A c) := by
  unfold ParsePost at h; rw [hp] at h; exact h
theorem parse_fault {s : ByteArray} {w : World} {e : Ending} {w' : World} {k : Nat} {j : Int} (h : ParsePost s w e w') (hp : parseT s.data.toList = .fault k j) :
    e = .returned (.tuple #[.agg (trA 0 0 none 0), .int .i64 k, errV j]) := by
  unfold ParsePost at h; rw [hp] at h; exact h
def atOf : Parsed → Int
  | .tree _ => 0
  | .fault k _ => k
def errOf : Parsed → Value
  | .tree _ => .nilIface
  | .fault _ j => errV j
set_option maxRecDepth 100000 in
theorem check_ok (s : ByteArray) (w : World) (hv : ErrVars w) (hsz : s.size ≤ maxLen) :
    Calls Tryd.prog 16 #[.string s] w fun e w' => e = .returned (.tuple #[.int .i64 (atOf (parseT s.data.toList)), errOf (parseT s.data.toList)]) ∧ Below w.heap.size w w' := by
  have HPR := Lib.hid (parse_reads s w hv hsz)
  clear hv
  go_enter Tryd.func16, Tryd.ntmps16
  go_wp2_with fail
  refine HPR.out.mono ?_
  clear HPR
  rintro e w1 ⟨h1, hb⟩
  have HB := Lib.hid hb
  clear hb
  cases hp : parseT s.data.toList with
  | tree t =>
    obtain ⟨o, k, A, c, rfl, ht⟩ := parse_tree h1 hp
    have HP := Lib.hid hp
    clear h1 hp ht
    unfold trA
    go_wp2_with fail
    go_ret2
    exact ⟨by rw [HP.out]; rfl, (HB.out.alloc HB.out.size _)⟩
  | fault k j =>
    have h2 := parse_fault h1 hp
    subst h2
    have HP := Lib.hid hp
    clear h1 hp
    unfold trA errV
    go_wp2_with fail
    go_ret2
    exact ⟨by rw [HP.out]; rfl, (HB.out.alloc HB.out.size _)⟩
end Go.Proofs.YtmbhfadidpkkhaaDoor
