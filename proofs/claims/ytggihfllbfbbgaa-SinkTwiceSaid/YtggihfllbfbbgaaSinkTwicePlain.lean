/-
  The walk of SinkTwice: it returns true, whatever the counts and the id. No condition.
-/
import Derived.Test.YtggihfllbfbbgaaSinkOrderWalk
import Derived.Test.YtggihfllbfbbgaaAbort
namespace Go.Proofs.Ytggihfllbfbbgaa
open Go.RowKit
set_option linter.unusedVariables false

/-- One sink of the call's own. -/
def One (B : Nat) (w : World) (gs : Nat) (S : SinkSt) : Prop := ∃ F : Nat → Prop, SinkAt w F gs S ∧ ∀ k, F k → B ≤ k ∧ k < w.heap.size
theorem One.next {B : Nat} {w w' : World} {gs : Nat} {S' : SinkSt} {F : Nat → Prop} (hB : B ≤ w.heap.size) (d : ∀ k, F k → B ≤ k ∧ k < w.heap.size) (hs : SinkAt w' (fun k => F k ∨ (w.heap.size ≤ k ∧ k < w'.heap.size)) gs S') (hf : Frm F w w') :
    One B w' gs S' ∧ Below B w w' := by
  have hz := hf.size
  refine ⟨⟨_, hs, ?_⟩, hf.below hB fun k hk => (d k hk).1⟩
  rintro k (h | ⟨h1, h2⟩)
  · exact ⟨(d k h).1, Nat.lt_of_lt_of_le (d k h).2 hz⟩
  · exact ⟨by omega, h2⟩

/-- What was sealed: so many records of each number. -/
def blocks (cs : List Nat) : List (Int × List Rec) := (List.range cs.length).map fun (j : Nat) => ((j : Int) + 1, List.replicate (cs.getD j 0) (recAt j))
theorem blocks_length (cs : List Nat) : (blocks cs).length = cs.length := by simp [blocks]
theorem blocks_snoc (cs : List Nat) (c : Nat) : blocks (cs ++ [c]) = blocks cs ++ [((cs.length : Int) + 1, List.replicate c (recAt cs.length))] := by
  unfold blocks
  rw [List.length_append, List.length_singleton, List.range_succ, List.map_append]
  congr 1
  · apply List.map_congr_left
    intro j hj
    have hj' : j < cs.length := List.mem_range.1 hj
    simp [List.getD, List.getElem?_append_left hj']
  · simp [List.getD]
theorem blocks_get (cs : List Nat) (j : Nat) (h : j < (blocks cs).length) : (blocks cs)[j] = ((j : Int) + 1, List.replicate (cs.getD j 0) (recAt j)) := by simp [blocks]
def sums (cs : List Nat) (u : Nat) : List Rec := ((blocks cs).take u).flatMap (·.2)
theorem sums_step (cs : List Nat) (j : Nat) (h : j < cs.length) : sums cs (j + 1) = sums cs j ++ List.replicate (cs.getD j 0) (recAt j) := by
  have h' : j < (blocks cs).length := by rw [blocks_length]; exact h
  unfold sums
  rw [List.take_succ_eq_append_getElem h', List.flatMap_append, blocks_get]
  simp
theorem sums_over (cs : List Nat) (j : Nat) (h : cs.length ≤ j) : sums cs j = (blocks cs).flatMap (·.2) := by
  unfold sums; rw [List.take_of_length_le (by rw [blocks_length]; exact h)]
theorem sums_sorted (cs : List Nat) (j : Nat) : (sums cs j).Pairwise (fun a b => a.num ≤ b.num) ∧ ∀ r ∈ sums cs j, r.num < (j : Int) := by
  induction j with
  | zero => simp [sums]
  | succ j ih =>
    rcases Nat.lt_or_ge j cs.length with h | h
    · rw [sums_step cs j h]
      refine ⟨List.pairwise_append.2 ⟨ih.1, ?_, ?_⟩, ?_⟩
      · rw [List.pairwise_replicate]; right; omega
      · intro a ha b hb
        have h1 := ih.2 a ha
        have h2 := (List.mem_replicate.1 hb).2
        subst h2
        show a.num ≤ (j : Int)
        omega
      · intro r hr
        rcases List.mem_append.1 hr with hr | hr
        · have := ih.2 r hr; omega
        · have h2 := (List.mem_replicate.1 hr).2
          subst h2
          show (j : Int) < ((j + 1 : Nat) : Int)
          omega
    · rw [sums_over cs (j + 1) (by omega), ← sums_over cs j h]
      exact ⟨ih.1, fun r hr => by have := ih.2 r hr; omega⟩
theorem sums_snoc (cs : List Nat) (c u : Nat) : (sums (cs ++ [c]) u).length = (sums cs u).length + if cs.length < u then c else 0 := by
  unfold sums
  rw [blocks_snoc]
  split
  · rename_i h
    rw [List.take_of_length_le (by rw [List.length_append, blocks_length]; simp; omega), List.take_of_length_le (by rw [blocks_length]; omega)]
    simp
  · rename_i h
    rw [List.take_append_of_le_length (by rw [blocks_length]; omega)]
    simp
theorem sums_le (cs : List Nat) (u : Nat) : (sums cs u).length ≤ ((blocks cs).flatMap (·.2)).length := by
  have h : blocks cs = (blocks cs).take u ++ (blocks cs).drop u := (List.take_append_drop u _).symm
  unfold sums
  conv => rhs; rw [h]
  rw [List.flatMap_append, List.length_append]; omega
theorem blocks_sum (cs : List Nat) (h : ∀ c ∈ cs, c ≤ 50) : ((blocks cs).flatMap (·.2)).length ≤ 50 * cs.length := by
  have key : ∀ j, j ≤ cs.length → (sums cs j).length ≤ 50 * j := by
    intro j
    induction j with
    | zero => intro _; simp [sums]
    | succ j ih =>
      intro hj
      rw [sums_step cs j (by omega), List.length_append, List.length_replicate]
      have := ih (by omega)
      have h2 : cs.getD j 0 ≤ 50 := by
        have hjl : j < cs.length := by omega
        simp [List.getD, List.getElem?_eq_getElem hjl]
        exact h _ (List.getElem_mem hjl)
      omega
  have := key cs.length (Nat.le_refl _)
  rw [sums_over cs _ (Nat.le_refl _)] at this
  exact this

/-- The first commit takes just the first ones. -/
theorem comm_first (cs : List Nat) (upto : Int) (j : Nat) (h1 : j ≤ (blocks cs).length) (h2 : ∀ i (hi : i < j) (h : i < (blocks cs).length), (blocks cs)[i].1 ≤ upto) (h3 : ∀ h : j < (blocks cs).length, upto < (blocks cs)[j].1) : (blocks cs).take j = (blocks cs).take upto.toNat := by
  rcases Nat.lt_trichotomy j upto.toNat with h | h | h
  · rcases Nat.lt_or_ge j (blocks cs).length with hl | hl
    · have := h3 hl
      rw [blocks_get] at this
      have : upto < (j : Int) + 1 := this
      omega
    · rw [List.take_of_length_le hl, List.take_of_length_le (by omega)]
  · rw [h]
  · have := h2 upto.toNat h (by omega)
    rw [blocks_get] at this
    have : ((upto.toNat : Nat) : Int) + 1 ≤ upto := this
    omega
end Go.Proofs.Ytggihfllbfbbgaa
