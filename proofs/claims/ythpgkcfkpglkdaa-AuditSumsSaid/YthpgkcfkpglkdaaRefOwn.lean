/-
  Rows of one's own: a cell of one is set; rows of two types lie apart. No condition: lemmas over any program.
-/
import Derived.Test.YthpgkcfkpglkdaaForest
namespace Go.Proofs.Ythpgkcfkpglkdaa
open Go.RowKit Go.ChangeShapes Go.WideShapes
set_option linter.unusedVariables false

theorem OwnS.setAt {w : World} {e : TypeId} {size cap n g off : Nat} {xs : List Value} (h : OwnS w e size (some ⟨g, off, none⟩) cap n xs) {j : Nat} (hj : j < xs.length) (u : Value) : OwnS (w.setCell ⟨g, off + j, none⟩ u) e size (some ⟨g, off, none⟩) cap n (xs.set j u) := by
  obtain ⟨h1, h2, h3, h4⟩ := h
  refine ⟨by rw [List.length_set]; exact h1, h2, h3, ?_⟩
  rcases h4 with ⟨h4, _⟩ | ⟨g', off', cur, e1, hh, hc, hr⟩
  · cases h4
  · injection e1 with e1; injection e1 with e1 e2; subst e1; subst e2
    refine .inr ⟨g, off, cur.setIfInBounds (off + j) u, rfl, ?_, by simpa using hc, fun i x hi => ?_⟩
    · simp [World.setCell, Array.getElem?_modify, hh]
    · by_cases hij : j = i
      · subst hij
        have hlt : off + j < cur.size := by
          have := Nat.mul_le_mul_right size h2
          omega
        rw [List.getElem?_set_self hj] at hi
        rw [Array.getElem?_setIfInBounds_self_of_lt hlt]
        exact hi
      · rw [List.getElem?_set_ne hij] at hi
        rw [Array.getElem?_setIfInBounds_ne (by omega)]
        exact hr i x hi
theorem OwnS.block {w : World} {e : TypeId} {size cap n : Nat} {A : Option Addr} {xs : List Value} (h : OwnS w e size A cap n xs) {k : Nat} (hk : blk A = some k) : ∃ cur, w.heap[k]? = some (.cells cur e (0, 0)) := by
  obtain ⟨_, _, _, h4⟩ := h
  rcases h4 with ⟨rfl, _⟩ | ⟨g, off, cur, rfl, hh, _⟩
  · cases hk
  · injection hk with hk; subst hk; exact ⟨cur, hh⟩
/-- Rows of two types lie apart. -/
theorem OwnS.apart {w : World} {e e' : TypeId} {size size' cap cap' n n' : Nat} {A A' : Option Addr} {xs xs' : List Value} (h : OwnS w e size A cap n xs) (h' : OwnS w e' size' A' cap' n' xs') (he : e ≠ e') : Sep A A' := fun k h1 h2 => by
  obtain ⟨c1, e1⟩ := h.block h1
  obtain ⟨c2, e2⟩ := h'.block h2
  rw [e1] at e2
  injection e2 with e2
  injection e2 with _ e3
  exact he e3
theorem str_neR {a b : ByteArray} (h : a ≠ b) : (a.toList == b.toList) = false := beq_eq_false_iff_ne.2 fun e => h (by
  rw [Lib.toList_data, Lib.toList_data] at e
  cases a; cases b
  congr 1
  exact Array.toList_inj.1 e)
end Go.Proofs.Ythpgkcfkpglkdaa
