/-
  Maps from keys, in the order in which keys came; the order of keys. No condition: plain definitions and lemmas.
-/
import Derived.Test.YthpgkcfkpglkdaaBase
import Derived.Lib.Strings
import Derived.Sort.Walk0
import Derived.Laws.IdiomStrings
namespace Go.Proofs.Ythpgkcfkpglkdaa
open Go.RowKit
open Go.Sort hiding Below
set_option linter.unusedVariables false

/-! ### Maps from keys, in the order in which keys came -/
def pget {α : Type} (m : List (ByteArray × α)) (k : ByteArray) : Option α := (m.find? fun p => decide (p.1 = k)).map (·.2)
def pset {α : Type} : List (ByteArray × α) → ByteArray → α → List (ByteArray × α)
  | [], k, v => [(k, v)]
  | p :: r, k, v => if p.1 = k then (k, v) :: r else p :: pset r k v
def pkeys {α : Type} (m : List (ByteArray × α)) : List ByteArray := m.map (·.1)
theorem split_pkey {α : Type} : ∀ {m : List (ByteArray × α)} {k : ByteArray}, k ∈ pkeys m → ∃ a v b, m = a ++ (k, v) :: b ∧ k ∉ pkeys a
  | [], k, h => by simp [pkeys] at h
  | p :: r, k, h => by
    by_cases e : p.1 = k
    · exact ⟨[], p.2, r, by rw [← e]; rfl, by simp [pkeys]⟩
    · have h2 : k ∈ pkeys r := by
        simp only [pkeys, List.map_cons, List.mem_cons] at h
        rcases h with h | h
        · exact absurd h.symm e
        · exact h
      obtain ⟨a, v, b, h3, h4⟩ := split_pkey h2
      refine ⟨p :: a, v, b, by rw [h3]; rfl, ?_⟩
      simp only [pkeys, List.map_cons, List.mem_cons, not_or]
      exact ⟨fun e' => e e'.symm, h4⟩
theorem pget_split {α : Type} {a : List (ByteArray × α)} {k : ByteArray} {v : α} {b : List (ByteArray × α)} (h : k ∉ pkeys a) : pget (a ++ (k, v) :: b) k = some v := by
  unfold pget
  rw [List.find?_append]
  have h1 : (a.find? fun p => decide (p.1 = k)) = none := List.find?_eq_none.2 fun p hp hk => h (List.mem_map.2 ⟨p, hp, of_decide_eq_true hk⟩)
  rw [h1]
  simp
theorem pget_none {α : Type} {m : List (ByteArray × α)} {k : ByteArray} (h : k ∉ pkeys m) : pget m k = none := by
  unfold pget
  rw [List.find?_eq_none.2 fun p hp hk => h (List.mem_map.2 ⟨p, hp, of_decide_eq_true hk⟩)]
  rfl
theorem pset_split {α : Type} : ∀ {a : List (ByteArray × α)} {k : ByteArray} {v u : α} {b : List (ByteArray × α)}, k ∉ pkeys a → pset (a ++ (k, v) :: b) k u = a ++ (k, u) :: b
  | [], k, v, u, b, _ => by simp [pset]
  | p :: a, k, v, u, b, h => by
    simp only [pkeys, List.map_cons, List.mem_cons, not_or] at h
    simp only [List.cons_append, pset]
    rw [if_neg (fun e => h.1 e.symm), pset_split h.2]
theorem pset_none {α : Type} : ∀ {a : List (ByteArray × α)} {k : ByteArray} {u : α}, k ∉ pkeys a → pset a k u = a ++ [(k, u)]
  | [], k, u, _ => rfl
  | p :: a, k, u, h => by
    simp only [pkeys, List.map_cons, List.mem_cons, not_or] at h
    simp only [List.cons_append, pset]
    rw [if_neg (fun e => h.1 e.symm), pset_none h.2]

def kLess (a b : ByteArray) : Prop := a.data.toList < b.data.toList
theorem kLess_irrefl (a : ByteArray) : ¬ kLess a a := List.lt_irrefl _
theorem kLess_trans {a b c : ByteArray} (h : kLess a b) (h' : kLess b c) : kLess a c := List.lt_trans h h'
theorem kLess_ne {a b : ByteArray} (h : kLess a b) : a ≠ b := fun e => by subst e; exact kLess_irrefl _ h
theorem kLess_tri {a b : ByteArray} (h1 : ¬ kLess a b) (h2 : a ≠ b) : kLess b a := by
  unfold kLess at *
  rcases Decidable.em (b.data.toList < a.data.toList) with h3 | h3
  · exact h3
  · have h4 := List.le_antisymm (List.not_lt.1 h3) (List.not_lt.1 h1)
    exact absurd (by
      cases a; cases b
      congr 1
      exact Array.toList_inj.1 h4) h2
instance (a b : ByteArray) : Decidable (kLess a b) := inferInstanceAs (Decidable (a.data.toList < b.data.toList))
theorem kLess_bytes (a b : ByteArray) : Op.bytesLess a.toList b.toList = decide (kLess a b) := by rw [bytesLess_eq, Lib.toList_data, Lib.toList_data]; rfl
end Go.Proofs.Ythpgkcfkpglkdaa
