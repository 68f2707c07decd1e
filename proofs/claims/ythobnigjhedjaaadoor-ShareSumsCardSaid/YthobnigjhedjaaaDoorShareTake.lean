/-
  Package share: Take. Conditions: counts that are small; no more than 10^9 pictures.
-/
import Derived.Test.YthobnigjhedjaaaDoorShare
namespace Go.Proofs.YthobnigjhedjaaaDoor
open Go.RowKit Go.Shelf
set_option linter.unusedVariables false

/-- What Take answers. -/
def takeE (P : PMapS) (k : Int) (l : List ByteArray) : Option Int :=
  if k < 0 then some 1 else if khas P k then some 8 else if 400 ≤ P.length ∨ 400 < l.length then some 4 else if allNamed l then none else some 2
theorem khas_kmap {α β : Type} (f : α → β) (P : List (Int × α)) (k : Int) : khas (kmap f P) k = khas P k := by
  unfold khas; rw [kmap_get]; cases kget P k <;> rfl
set_option maxRecDepth 100000 in
theorem take_no (F : Nat → Prop) (g bp bc : Nat) (P : PMapS) (C : CMap) (k : Int) (A : Option Addr) (c : Nat) (l : List ByteArray) (w : World) (er : Int) (S : ShAt w g bp bc P C) (hk : (Lit.int .i64 k).wf = true) (h : SlA strE F w A c l) (hF : ∀ k, F k → k < w.heap.size) (hE : takeE P k l = some er) :
    Calls Tryd.prog 6 #[.pointer (some ⟨g, 0, none⟩), .int .i64 k, .slice A l.length c] w fun e w' => e = .returned (errV (some er)) ∧ Below w.heap.size w w' := by
  obtain ⟨c0, c1⟩ := S.cells
  have hl := S.pics.get (P := Tryd.prog) Tryd.underlying3 pics_t (z := .slice none 0 0) (by kernel_rfl) hk true
  rw [khas_kmap] at hl
  simp only [↓reduceIte] at hl
  generalize (kget (kmap rowSV P) k).getD (.slice none 0 0) = u at hl
  have hlen := fun (ty : TypeId) => S.pics.len (P := Tryd.prog) (ty := ty) pics_t
  simp only [kmap_length] at hlen
  have hC := scontains_ok F A c l w h hF
  have hn := h.le
  unfold errV
  unfold takeE at hE
  generalize allNamed l = an at hE hC
  generalize khas P k = hs at hE hl
  generalize l.length = ln at hE hC hn ⊢
  generalize P.length = pn at hE hlen
  clear S h hF
  by_cases h0 : k < 0
  · rw [if_pos h0] at hE
    injection hE with hE
    subst hE
    have d0 : decide (k < 0) = true := decide_eq_true h0
    go_enter Tryd.func6, Tryd.ntmps6
    go_wp2_with fail
    go_ret
    exact ⟨rfl, Below.refl _ _⟩
  · rw [if_neg h0] at hE
    have d0 : decide (k < 0) = false := decide_eq_false h0
    cases hs with
    | true =>
      simp only [↓reduceIte] at hE
      injection hE with hE
      subst hE
      go_enter Tryd.func6, Tryd.ntmps6
      go_wp2_with fail
      go_ret
      exact ⟨rfl, Below.refl _ _⟩
    | false =>
      simp only [Bool.false_eq_true, ↓reduceIte] at hE
      by_cases h1 : 400 ≤ pn
      · rw [if_pos (.inl h1)] at hE
        injection hE with hE
        subst hE
        have d1 : decide (400 ≤ pn) = true := decide_eq_true h1
        go_enter Tryd.func6, Tryd.ntmps6
        go_wp2_with fail
        go_ret
        exact ⟨rfl, Below.refl _ _⟩
      · have d1 : decide (400 ≤ pn) = false := decide_eq_false h1
        by_cases h2 : 400 < ln
        · rw [if_pos (.inr h2)] at hE
          injection hE with hE
          subst hE
          have d2 : decide (400 < ln) = true := decide_eq_true h2
          go_enter Tryd.func6, Tryd.ntmps6
          go_wp2_with fail
          go_ret
          exact ⟨rfl, Below.refl _ _⟩
        · rw [if_neg (by omega)] at hE
          have d2 : decide (400 < ln) = false := decide_eq_false h2
          cases an with
          | true => simp at hE
          | false =>
            simp only [Bool.false_eq_true, ↓reduceIte] at hE
            injection hE with hE
            subst hE
            simp only [Bool.not_false] at hC
            go_enter Tryd.func6, Tryd.ntmps6
            go_wp2_with (go_at_call 19; refine hC.mono ?_; rintro e w1 ⟨rfl, hb1⟩)
            go_ret
            exact ⟨rfl, hb1⟩
end Go.Proofs.YthobnigjhedjaaaDoor
