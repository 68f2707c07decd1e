/-
  Rows of numbers by key, in memory. No condition: definitions and lemmas.
-/
import Derived.Test.YthpgkcfkpglkdaaPMap
import Derived.Test.YthpgkcfkpglkdaaHeap
import Derived.Test.YthpgkcfkpglkdaaFiles
namespace Go.Proofs.Ythpgkcfkpglkdaa
open Go.RowKit Go.ChangeShapes Go.WideShapes
set_option linter.unusedVariables false

/-- A row of numbers. -/
structure RowI where
  A : Option Addr
  cap : Nat
  xs : List Int
def intC (n : Int) : List Value := [.int .i64 n]
def rowV (r : RowI) : Value := .slice r.A r.xs.length r.cap
def RowI.At (r : RowI) (w : World) : Prop := OwnS w 3 1 r.A r.cap r.xs.length (r.xs.flatMap intC)
def noRow : RowI := ⟨none, 0, []⟩
def lp (p : ByteArray × RowI) : ByteArray × Value := (p.1, rowV p.2)
def lxs (p : ByteArray × RowI) : ByteArray × List Int := (p.1, p.2.xs)
theorem fset_lp (m : List (ByteArray × RowI)) (k : ByteArray) (r : RowI) : fset (m.map lp) k (rowV r) = (pset m k r).map lp := by
  induction m with
  | nil => rfl
  | cons p m ih =>
    simp only [List.map_cons, fset, pset]
    by_cases e : p.1 = k
    · rw [if_pos (show (lp p).1 = k from e), if_pos e]; rfl
    · rw [if_neg (show ¬ (lp p).1 = k from e), if_neg e, ih]; rfl
theorem fgetD_lp (m : List (ByteArray × RowI)) (k : ByteArray) : fgetD (rowV noRow) (m.map lp) k = rowV ((pget m k).getD noRow) := by
  induction m with
  | nil => rfl
  | cons p m ih =>
    simp only [List.map_cons, fgetD]
    unfold pget
    rw [List.find?_cons]
    by_cases e : p.1 = k
    · rw [if_pos (show (lp p).1 = k from e), decide_eq_true e]; rfl
    · rw [if_neg (show ¬ (lp p).1 = k from e), decide_eq_false e, ih]; rfl
theorem pset_lxs (m : List (ByteArray × RowI)) (k : ByteArray) (r : RowI) : (pset m k r).map lxs = pset (m.map lxs) k r.xs := by
  induction m with
  | nil => rfl
  | cons p m ih =>
    simp only [List.map_cons, pset]
    by_cases e : p.1 = k
    · rw [if_pos e, if_pos (show (lxs p).1 = k from e)]; rfl
    · rw [if_neg e, if_neg (show ¬ (lxs p).1 = k from e), List.map_cons, ih]
theorem pget_lxs (m : List (ByteArray × RowI)) (k : ByteArray) : pget (m.map lxs) k = (pget m k).map (·.xs) := by
  induction m with
  | nil => rfl
  | cons p m ih =>
    unfold pget at ih ⊢
    rw [List.map_cons, List.find?_cons, List.find?_cons]
    by_cases e : p.1 = k
    · rw [show decide ((lxs p).1 = k) = true from decide_eq_true e, decide_eq_true e]; rfl
    · rw [show decide ((lxs p).1 = k) = false from decide_eq_false e, decide_eq_false e]; exact ih
end Go.Proofs.Ythpgkcfkpglkdaa
