/-
  Lines of which each has a row of numbers of its own, read as lines. No condition: definitions and lemmas.
-/
import Derived.Test.YthpgkcfkpglkdaaDenLines
import Derived.Test.YthpgkcfkpglkdaaElts
namespace Go.Proofs.Ythpgkcfkpglkdaa
open Go.RowKit Go.ChangeShapes Go.WideShapes Go.Shelf
set_option linter.unusedVariables false

def linOf (p : LineR) : Lin := ⟨p.1, p.2.xs⟩
theorem linC_lin {F : Nat → Prop} {w : World} {A : Option Addr} {c : Nat} {q : List LineR} (h : SlA linC F w A c q) (hq : ∀ p ∈ q, p.1.size ≤ maxLen ∧ p.2.At w ∧ (∀ k, blk p.2.A = some k → F k) ∧ ∀ x ∈ p.2.xs, I64 x) : SlA linE F w A c (q.map linOf) := by
  obtain ⟨h1, h2, h3⟩ := h
  refine ⟨by simpa using h1, h2, fun i x hx => ?_⟩
  rw [List.getElem?_map] at hx
  cases hp : q[i]? with
  | none => rw [hp] at hx; cases hx
  | some p =>
    rw [hp] at hx
    injection hx with hx
    subst hx
    obtain ⟨b, off, cs, e, hb, hc, hr⟩ := h3 i p hp
    obtain ⟨q1, q2, q3, q4⟩ := hq p (List.mem_of_getElem? hp)
    refine ⟨b, off, cs, e, hb, hc, .slice p.2.A p.2.xs.length p.2.cap, hr, q1, p.2.A, p.2.cap, rfl, ?_⟩
    exact OwnS.sl (E := intE .i64) intC (fun _ => rfl) q2 rfl q3 (fun x hx => ⟨rfl, q4 x hx⟩)
end Go.Proofs.Ythpgkcfkpglkdaa
