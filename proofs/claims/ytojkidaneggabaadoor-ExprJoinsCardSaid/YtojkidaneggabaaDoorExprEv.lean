/-
  Package expr: the contracts of Eval and Check. Conditions: the text's length; the two variables of Atoi's errors hold errors.
-/
import Derived.Test.YtojkidaneggabaaDoorExprEval
import Derived.Test.YtojkidaneggabaaDoorExprBack
namespace Go.Proofs.YtojkidaneggabaaDoor
open Go.RowKit Go.Shelf
set_option linter.unusedVariables false

def errV (e : Int) : Value := .iface 40 (.int .i64 e)
theorem fine_of {s : List UInt8} {t : Tr} (h : parseT s = .tree t) : t.fine := (print_back h).2.2
theorem parse_tree {s : ByteArray} {w : World} {e : Ending} {w' : World} {t : Tr} (h : ParsePost s w e w') (hp : parseT s.data.toList = .tree t) :
    ∃ o n A c, e = .returned (.tuple #[.agg (trA o n A c), .int .i64 0, .nilIface]) ∧ TrC (w.heap.size ≤ ·) w' t (trL o n A c) := by
  unfold ParsePost at h; rw [hp] at h; exact h
theorem parse_fault {s : ByteArray} {w : World} {e : Ending} {w' : World} {k : Nat} {j : Int} (h : ParsePost s w e w') (hp : parseT s.data.toList = .fault k j) :
    e = .returned (.tuple #[.agg (trA 0 0 none 0), .int .i64 k, errV j]) := by
  unfold ParsePost at h; rw [hp] at h; exact h
set_option maxRecDepth 100000 in
theorem eval_fault (s : ByteArray) (n sv : Int) (w : World) (hv : ErrVars w) (hsz : s.size ≤ maxLen) {k : Nat} {j : Int} (hp : parseT s.data.toList = .fault k j) :
    Calls Tryd.prog 7 #[.string s, .int .i64 n, .int .i64 sv] w fun e w' => e = .returned (.tuple #[.int .i64 0, errV j]) ∧ Below w.heap.size w w' := by
  have HPR := Lib.hid (parse_reads s w hv hsz)
  have HP := Lib.hid hp
  clear hp hv
  go_enter Tryd.func7, Tryd.ntmps7
  go_wp2_with fail
  refine HPR.out.mono ?_
  rintro e w1 ⟨h1, hb⟩
  have h2 := parse_fault h1 HP.out
  subst h2
  have HB := Lib.hid hb
  clear hb h1 HP HPR
  unfold errV trA
  go_wp2_with fail
  go_ret2
  exact ⟨rfl, (HB.out.alloc HB.out.size _)⟩
set_option maxRecDepth 100000 in
theorem eval_tree (s : ByteArray) (n sv : Int) (w : World) (hv : ErrVars w) (hsz : s.size ≤ maxLen) (hn : I64_ n) (hs : I64_ sv) {t : Tr} (hp : parseT s.data.toList = .tree t) :
    Calls Tryd.prog 7 #[.string s, .int .i64 n, .int .i64 sv] w fun e w' => e = .returned (.tuple #[.int .i64 (t.val n sv), .nilIface]) ∧ Below w.heap.size w w' := by
  have HPR := Lib.hid (parse_reads s w hv hsz)
  have HEV := Lib.hid (eval_ok t (fine_of hp) n sv hn hs)
  have HP := Lib.hid hp
  clear hp hv
  go_enter Tryd.func7, Tryd.ntmps7
  go_wp2_with fail
  refine HPR.out.mono ?_
  rintro e w1 ⟨h1, hb⟩
  obtain ⟨o, k, A, c, rfl, ht⟩ := parse_tree h1 HP.out
  have HB := Lib.hid hb
  have HT := Lib.hid ht
  clear hb h1 HP HPR ht
  unfold trA
  go_wp2_with fail
  have hb1 : Below w.heap.size w (w1.alloc (.cells #[.int .u8 o, .int .i64 k, .slice A c c] 35)) := HB.out.alloc HB.out.size _
  refine (HEV.out o k A c _ (((HT.out.in_ (G := fun j => j < w1.heap.size) fun j _ h => h).keep fun j hj => heap_alloc_old _ _ hj).in_ fun j hj hj2 => hj2)).mono ?_
  rintro e w2 ⟨rfl, hb2⟩
  have HB2 := Lib.hid (hb1.trans (hb2.mono hb1.size))
  clear hb1 hb2 HEV HT HB
  go_wp2_with fail
  go_ret2
  exact ⟨rfl, HB2.out⟩
def atOf : Parsed → Int
  | .tree _ => 0
  | .fault k _ => k
def errOf : Parsed → Value
  | .tree _ => .nilIface
  | .fault _ j => errV j
set_option maxRecDepth 100000 in
theorem check_ok (s : ByteArray) (w : World) (hv : ErrVars w) (hsz : s.size ≤ maxLen) :
    Calls Tryd.prog 8 #[.string s] w fun e w' => e = .returned (.tuple #[.int .i64 (atOf (parseT s.data.toList)), errOf (parseT s.data.toList)]) ∧ Below w.heap.size w w' := by
  have HPR := Lib.hid (parse_reads s w hv hsz)
  clear hv
  go_enter Tryd.func8, Tryd.ntmps8
  go_wp2_with fail
  refine HPR.out.mono ?_
  clear HPR
  rintro e w1 ⟨h1, hb⟩
  have HB := Lib.hid hb
  clear hb
  cases hp : parseT s.data.toList with
  | tree t =>
    obtain ⟨o, k, A, c, rfl, ht⟩ := parse_tree h1 hp
    have HP := Lib.hid hp
    clear h1 hp ht
    unfold trA
    go_wp2_with fail
    go_ret2
    exact ⟨by rw [HP.out]; rfl, (HB.out.alloc HB.out.size _)⟩
  | fault k j =>
    have h2 := parse_fault h1 hp
    subst h2
    have HP := Lib.hid hp
    clear h1 hp
    unfold trA errV
    go_wp2_with fail
    go_ret2
    exact ⟨by rw [HP.out]; rfl, (HB.out.alloc HB.out.size _)⟩
end Go.Proofs.YtojkidaneggabaaDoor
