/-
  slices.Sort and slices.Compact at a row of one's own. No condition but where the row lies.
-/
import Derived.Test.YthobnigjhedjaaaDoorShareTake
namespace Go.Proofs.YthobnigjhedjaaaDoor
open Go.RowKit Go.Shelf
set_option linter.unusedVariables false

theorem flat_enc (l : List ByteArray) : l.flatMap strC = (l.map tlS).map encStr := by
  induction l with
  | nil => rfl
  | cons x l ih => rw [List.flatMap_cons, ih]; simp [strC, encStr, tlS]
theorem sort_row (base : Nat) (v : Value) (l : List ByteArray) (w : World) (h : w.ownsRow base 9 1 v l.length (l.flatMap strC)) (hn : l.length ≤ 400) :
    Calls Tryd.prog 23 #[v] w fun e w' => e = .returned (.tuple #[]) ∧ w'.ownsRow base 9 1 v l.length ((sortS l).map encStr) ∧ w.grownBy w' v.ownBlock := by
  have hsl := sortS_length l
  rw [flat_enc] at h
  rcases h.2 with ⟨rfl, hz⟩ | ⟨g, cap, cur, rfl, hbase, hcell, h1, h2, h3, h4⟩
  · have h0 : l = [] := List.eq_nil_of_length_eq_zero hz
    subst h0
    refine (AnyM.slices_Sort_string_none Tryd.sorts none 0 w).mono ?_
    rintro e w' ⟨rfl, rfl⟩
    exact ⟨rfl, ⟨by simp [hsl], .inl ⟨rfl, rfl⟩⟩, rfl, rfl, rfl, Nat.le_refl _, fun _ _ _ => rfl⟩
  · have hm : (l.map tlS).length = l.length := List.length_map _
    have hgl : g < w.heap.size := block_lt hcell
    have hS := AnyM.slices_Sort_string Tryd.sorts g 0 cap (l.map tlS) w (holds_of_block hcell (by rw [hm]; simpa using h4)) hgl (by rw [hm]; omega)
    rw [hm] at hS
    refine hS.mono ?_
    rintro e w' ⟨rfl, n, os, rfl⟩
    refine ⟨rfl, ?_, grownBy_sorted _⟩
    have := ownsRow_sorted (n := n) (os := os) (ts := sortS l) (ss := l.map tlS) (by rw [hsl, hm]) hbase hcell (by rw [hm]; exact h1) h2 h3
    rw [hm] at this
    exact this
theorem compact_row (base : Nat) (v : Value) (l : List ByteArray) (w : World) (h : w.ownsRow base 9 1 v l.length ((sortS l).map encStr)) (hn : l.length ≤ 400) (hz : ∀ x ∈ l, x.size ≤ maxLen) :
    Calls Tryd.prog 24 #[v] w fun e w' => ∃ A c, e = .returned (.slice A (shRow l).length c) ∧ SlA strE (StrRow w') w' A c (shRow l) ∧ w.grownBy w' v.ownBlock ∧ ∀ k, blk A = some k → base ≤ k := by
  have hsl := sortS_length l
  rcases h.2 with ⟨rfl, hz0⟩ | ⟨g, cap, cur, rfl, hbase, hcell, h1, h2, h3, h4⟩
  · have h0 : l = [] := List.eq_nil_of_length_eq_zero hz0
    subst h0
    have e0 : shRow [] = [] := by
      have := shRow_le []
      exact List.eq_nil_of_length_eq_zero (Nat.le_zero.1 this)
    refine (Any.slices_Compact_string_empty Tryd.compact none 0 w).mono ?_
    rintro e w' ⟨rfl, rfl⟩
    rw [e0]
    exact ⟨none, 0, rfl, SlA.nil _ _ _ _ _ (by unfold maxLen; omega), ⟨rfl, rfl, rfl, Nat.le_refl _, fun _ _ _ => rfl⟩, nofun⟩
  · have hgl : g < w.heap.size := block_lt hcell
    have hH := holds_of_block (ss := sortS l) hcell (by rw [hsl]; simpa using h4)
    have hC := Any.slices_Compact_string Tryd.compact g 0 cap (sortS l) w hH (by rw [hsl]; omega) (by rw [hsl]; exact h1)
    rw [hsl] at hC
    refine hC.mono ?_
    rintro e w' ⟨rfl, q, rfl⟩
    refine ⟨some ⟨g, 0, none⟩, cap, by rw [shRow_length]; rfl, ?_, ?_, ?_⟩
    · have hsz : (rawS l ++ List.replicate (l.length - (rawS l).length) []).toArray.size = (sortS l).toArray.size := by
        have := rawS_le l
        simp only [List.size_toArray, List.length_append, List.length_replicate]
        omega
      have hblk : (Go.Sort.putRow encStr (Go.Sort.ahead w q) g 0 (rawS l ++ List.replicate (l.length - (rawS l).length) []).toArray).heap[g]? = some (.cells (Go.Sort.putCells encStr 0 (rawS l ++ List.replicate (l.length - (rawS l).length) []).toArray cur) 9 (0, 0)) := by
        have := heap_sorted (n := q) (os := #[]) (rawS l ++ List.replicate (l.length - (rawS l).length) []).toArray hcell
        rw [Go.Sort.grow_empty] at this
        exact this
      refine ⟨by have := shRow_le l; omega, h2, fun i x hi => ?_⟩
      obtain ⟨hil, hie⟩ := List.getElem?_eq_some_iff.1 hi
      have hir : i < (rawS l).length := by rw [← shRow_length]; exact hil
      have h5 := Go.Sort.cell?_putRow encStr (Go.Sort.ahead w q) g 0 (sortS l).toArray (rawS l ++ List.replicate (l.length - (rawS l).length) []).toArray (Go.Sort.holds_ahead _ _ _ _ _ _ hH) hsz i (by simp only [List.size_toArray, List.length_append]; omega)
      have h6 : (rawS l ++ List.replicate (l.length - (rawS l).length) []).toArray[i]! = (rawS l)[i] := by
        rw [getElem!_pos _ i (by simp only [List.size_toArray, List.length_append]; omega)]
        rw [List.getElem_toArray, List.getElem_append_left hir]
      rw [h6] at h5
      refine ⟨g, 0, [.string x], rfl, ⟨_, _, hblk⟩, fun j u hj => ?_, rfl, hz x ((shRow_mem l x).1 (List.mem_of_getElem? hi))⟩
      cases j with
      | succ j => simp at hj
      | zero =>
        simp at hj
        subst hj
        have e2 : x = btS (rawS l)[i] := by
          have h7 := hi
          unfold shRow at h7
          rw [List.getElem?_map, List.getElem?_eq_getElem hir] at h7
          exact (Option.some.inj h7).symm
        rw [e2]
        rw [Nat.zero_add] at h5
        simp only [strE, Nat.mul_one, Nat.zero_add, Nat.add_zero]
        exact h5
    · have h := grownBy_sorted (w := w) (g := g) (n := q) (os := #[]) (rawS l ++ List.replicate (l.length - (rawS l).length) []).toArray
      rw [Go.Sort.grow_empty] at h
      exact h
    · intro k hk
      injection hk with hk
      rw [← hk]; exact hbase
end Go.Proofs.YthobnigjhedjaaaDoor
