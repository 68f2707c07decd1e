/-
  Several texts of this claim in one, in build order; each begins with its own remark, which says what it proves and under which conditions.
-/
import Derived.Test.YtfndhfekbbbliaaGreatDoorPackA
import Derived.Lib.ItoaLen
import Derived.Test.YtfndhfekbbbliaaGreatDoorPackI

/-
  Jobs as text, plain; how long a right job's text is. No condition: plain definitions and lemmas.
-/
namespace Go.Proofs.YtfndhfekbbbliaaGreatDoor
open Go.RowKit
set_option linter.unusedVariables false

def kindNames : List (List UInt8) := [[], [115, 111, 117, 114, 99, 101], [109, 97, 112], [102, 105, 108, 116, 101, 114], [115, 117, 98], [99, 111, 112, 121], [117, 110, 105, 111, 110], [102, 111, 108, 100], [101, 118, 101, 114, 121], [102, 105, 114, 115, 116], [115, 105, 110, 107]]
def kindName (k : Int) : List UInt8 := kindNames.getD k.toNat []
/-- The numbers of a node's line. -/
def numsOf (n : Nod) : List Int := if counted n.kind then n.from_ ++ [n.n] else n.from_
def nodHead (n : Nod) : List UInt8 := kindName n.kind ++ (numsOf n).flatMap fun k => 32 :: Lib.itoa k
def nodText (n : Nod) : List UInt8 := nodHead n ++ (if texted n.kind then 32 :: n.text.data.toList else []) ++ [10]
def jobText (l : List Nod) : List UInt8 := l.flatMap nodText
/-- A node within bounds. -/
structure Fit (n : Nod) : Prop where
  k1 : 1 ≤ n.kind
  k2 : n.kind ≤ 10
  fr : n.from_.length ≤ 4
  tx : n.text.size ≤ 120
theorem node_fit {l : List Nod} {i : Nat} {n : Nod} (h : nodeErr l i n = 0) : Fit n := by
  unfold nodeErr at h
  split at h
  · cases h
  rename_i h1
  split at h
  · cases h
  rename_i h2
  split at h
  · rename_i h3; exact absurd h h3
  split at h
  · cases h
  rename_i h4
  split at h
  · cases h
  have hin : inHigh n.kind ≤ 4 := by unfold inHigh; split <;> (try split) <;> omega
  refine ⟨by omega, by omega, by omega, ?_⟩
  have e : n.text.data.toList.length = n.text.size := by simp
  by_cases ht : texted n.kind = true
  · rw [if_pos ht] at h
    unfold textErr at h
    split at h
    · rename_i t hp
      unfold parseT at hp
      split at hp
      · cases hp
      · omega
    · rename_i k e2 hp
      exact absurd h (parse_err_pos hp)
  · have ht2 : texted n.kind = false := by cases hb : texted n.kind <;> simp_all
    have : ¬ n.text.size ≠ 0 := fun hne => h4 (.inl ⟨hne, ht2⟩)
    omega
theorem kind_len : ∀ l ∈ kindNames, l.length ≤ 6 := by decide
theorem kindName_len (k : Int) : (kindName k).length ≤ 6 := by
  unfold kindName
  rw [List.getD_eq_getElem?_getD]
  cases h : kindNames[k.toNat]? with
  | none => simp
  | some l => exact kind_len l (List.mem_of_getElem? h)
def I64n (n : Nod) : Prop := (∀ f ∈ n.from_, -9223372036854775808 ≤ f ∧ f ≤ 9223372036854775807) ∧ -9223372036854775808 ≤ n.n ∧ n.n ≤ 9223372036854775807
theorem numsOf_i64 {n : Nod} (h : I64n n) : ∀ f ∈ numsOf n, -9223372036854775808 ≤ f ∧ f ≤ 9223372036854775807 := by
  unfold numsOf
  split
  · intro f hf
    rcases List.mem_append.1 hf with hf | hf
    · exact h.1 f hf
    · rw [List.mem_singleton.1 hf]; exact h.2
  · exact h.1
theorem nums_len (l : List Int) (h : ∀ f ∈ l, -9223372036854775808 ≤ f ∧ f ≤ 9223372036854775807) : (l.flatMap fun k => (32 : UInt8) :: Lib.itoa k).length ≤ 22 * l.length := by
  induction l with
  | nil => simp
  | cons f r ih =>
    have h1 := h f List.mem_cons_self
    have h2 := Go.Lib.itoa_length_le f h1.1 h1.2
    have h3 := ih fun x hx => h x (List.mem_cons_of_mem _ hx)
    rw [List.flatMap_cons, List.length_append, List.length_cons, List.length_cons]; omega
theorem numsOf_len {n : Nod} (h : Fit n) : (numsOf n).length ≤ 5 := by
  have := h.fr
  unfold numsOf; split <;> simp <;> omega
theorem nodHead_len {n : Nod} (h : Fit n) (hi : I64n n) : (nodHead n).length ≤ 116 := by
  unfold nodHead
  rw [List.length_append]
  have h1 := kindName_len n.kind
  have h2 := nums_len _ (numsOf_i64 hi)
  have h3 := numsOf_len h
  omega
theorem nodText_len {n : Nod} (h : Fit n) (hi : I64n n) : (nodText n).length ≤ 238 := by
  unfold nodText
  rw [List.length_append, List.length_append]
  have h1 := nodHead_len h hi
  have h2 := h.tx
  have e : n.text.data.toList.length = n.text.size := by simp
  split
  · rw [List.length_cons]; simp only [List.length_cons, List.length_nil]; omega
  · simp only [List.length_cons, List.length_nil]; omega
theorem jobText_len {l : List Nod} (h : ∀ n ∈ l, Fit n ∧ I64n n) : (jobText l).length ≤ 238 * l.length := by
  induction l with
  | nil => simp [jobText]
  | cons n r ih =>
    have h1 := nodText_len (h n List.mem_cons_self).1 (h n List.mem_cons_self).2
    have h2 := ih fun x hx => h x (List.mem_cons_of_mem _ hx)
    unfold jobText at h2 ⊢
    rw [List.flatMap_cons, List.length_append, List.length_cons]; omega
end Go.Proofs.YtfndhfekbbbliaaGreatDoor
