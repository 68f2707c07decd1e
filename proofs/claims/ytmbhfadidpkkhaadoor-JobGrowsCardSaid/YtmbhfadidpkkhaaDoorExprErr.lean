/-
  Expressions, plain: where a text is wrong the fault is one of two. No condition: plain lemmas.
-/
import Derived.Test.YtmbhfadidpkkhaaDoorExprTree
namespace Go.Proofs.YtmbhfadidpkkhaaDoor
open Go.RowKit
set_option linter.unusedVariables false

def Two (r : Rd) : Prop := match r with
  | .ok _ _ => True
  | .bad _ e => e = 2 ∨ e = 4
theorem Two.bind {r : Rd} {f : Tr → List UInt8 → Rd} (h : Two r) (hf : ∀ t l, Two (f t l)) : Two (r.bind f) := by
  cases r with
  | ok t l => exact hf t l
  | bad k e => exact h
theorem Two.want (c : UInt8) (l : List UInt8) {f : List UInt8 → Rd} (hf : ∀ l, Two (f l)) : Two (wantRd c l f) := by
  unfold wantRd
  split
  · split
    · exact hf _
    · exact .inl rfl
  · exact .inl rfl
theorem Two.deep (d k : Nat) {r : Rd} (h : Two r) : Two (deepRd d k r) := by
  unfold deepRd
  split
  · exact .inr rfl
  · exact h
theorem num_two (l : List UInt8) : Two (numRd l) := by
  unfold numRd
  split
  · exact .inl rfl
  · trivial
theorem loop_two {next : List UInt8 → Rd} (hn : ∀ l, Two (next l)) (ops : List UInt8) : ∀ k a l, Two (loopRd next ops k a l) := by
  intro k
  induction k with
  | zero => intro a l; trivial
  | succ k ih =>
    intro a l
    unfold loopRd
    split
    · split
      · exact (hn _).bind fun b l1 => ih _ _
      · trivial
    · trivial
theorem row_two_ {next : List UInt8 → Rd} (hn : ∀ l, Two (next l)) (ops : List UInt8) (l : List UInt8) : Two (rowRd next ops l) :=
  (hn l).bind fun a l1 => loop_two hn ops _ _ _
section
variable {W : Reads} (hW : ∀ d l, Two (W d l))
include hW
theorem two_two (op : UInt8) (d : Nat) (l : List UInt8) : Two (twoRd W op d l) :=
  (hW d l).bind fun a l1 => Two.want 44 l1 fun l2 => (hW d l2).bind fun b l3 => Two.want 41 l3 fun l4 => trivial
theorem one_two (d : Nat) (l : List UInt8) : Two (oneRd W d l) := by
  unfold oneRd
  split
  · exact Two.deep _ _ (two_two hW _ _ _)
  · exact Two.deep _ _ (two_two hW _ _ _)
  · trivial
  · trivial
  · exact Two.deep _ _ ((hW _ _).bind fun a l1 => Two.want 41 l1 fun l2 => trivial)
  · exact num_two _
theorem less_two (l : List UInt8) : ∀ d, Two (lessRd W d l) := by
  induction l with
  | nil => intro d; exact one_two hW d []
  | cons c r ih =>
    intro d
    unfold lessRd
    split
    · rename_i r' e
      injection e with e1 e2
      subst e2
      exact Two.deep _ _ ((ih _).bind fun a l1 => trivial)
    · exact one_two hW d _
theorem add_two (d : Nat) (l : List UInt8) : Two (addRd W d l) := row_two_ (fun l => row_two_ (fun l => less_two hW l d) _ l) _ l
theorem step_two (d : Nat) (l : List UInt8) : Two (wholeStep W d l) := by
  refine Two.bind (Two.bind (add_two hW d l) fun a l1 => ?_) fun a l1 => ?_
  · unfold cmpTl
    split
    · split
      · exact (add_two hW d _).bind fun b l2 => trivial
      · trivial
    · trivial
  · unfold selRd
    split
    · split
      · exact Two.deep _ _ ((hW _ _).bind fun b l2 => Two.want 58 l2 fun l3 => (hW _ _).bind fun c l4 => trivial)
      · trivial
    · trivial
end
theorem whole_two : ∀ k d l, Two (wholeRd k d l) := by
  intro k
  induction k with
  | zero => intro d l; exact step_two (W := fun _ l => .bad l.length 2) (fun d l => (Or.inl rfl : (2 : Int) = 2 ∨ (2 : Int) = 4)) d l
  | succ k ih => intro d l; exact step_two ih d l
theorem parse_two {s : List UInt8} {k : Nat} {e : Int} (h : parseT s = .fault k e) : e = 2 ∨ e = 4 := by
  unfold parseT at h
  split at h
  · injection h with h1 h2; exact .inr h2.symm
  · have hw := whole_two s.length 0 s
    split at h
    · cases h
    · injection h with h1 h2; exact .inl h2.symm
    · rename_i k' e' heq
      injection h with h1 h2
      subst h2
      rw [heq] at hw
      exact hw
theorem parse_err_pos {s : List UInt8} {k : Nat} {e : Int} (h : parseT s = .fault k e) : e ≠ 0 := by
  rcases parse_two h with h | h <;> omega
end Go.Proofs.YtmbhfadidpkkhaaDoor
