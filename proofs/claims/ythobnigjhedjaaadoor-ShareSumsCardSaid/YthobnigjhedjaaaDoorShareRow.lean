/-
  A row of names sorted, each once. No condition: plain lemmas.
-/
import Derived.Test.YthobnigjhedjaaaDoorShareP
import Derived.Lib.SlicesCompact
import Derived.Lib.RowBridge
namespace Go.Proofs.YthobnigjhedjaaaDoor
set_option linter.unusedVariables false

def btS (l : List UInt8) : ByteArray := ⟨l.toArray⟩
def tlS (s : ByteArray) : List UInt8 := s.data.toList
theorem btS_tl (s : ByteArray) : btS (tlS s) = s := by simp [btS, tlS]
theorem tlS_bt (l : List UInt8) : tlS (btS l) = l := by simp [btS, tlS]
theorem upTo_succS {α : Type} [DecidableEq α] [Inhabited α] (d : Array α) (m : Nat) : Lib.compactUpTo d (m + 1) = Lib.compactUpTo d m ++ if Lib.keeps d m = true then [d[m]!] else [] := by
  unfold Lib.compactUpTo
  rw [List.range_succ, List.filter_append, List.map_append]
  congr 1
  by_cases h : Lib.keeps d m = true
  · simp [h]
  · simp [h]
theorem compact_sorted {zs : List (List UInt8)} (h : zs.Pairwise (· ≤ ·)) : ∀ m, m ≤ zs.length → (Lib.compactUpTo zs.toArray m).Pairwise (· < ·) ∧ ∀ x, x ∈ Lib.compactUpTo zs.toArray m ↔ x ∈ zs.take m
  | 0, _ => by simp [Lib.compactUpTo]
  | m + 1, hm => by
    obtain ⟨h1, h2⟩ := compact_sorted h m (by omega)
    have hlt : m < zs.length := by omega
    have ed : zs.toArray[m]! = zs[m] := by rw [getElem!_pos _ m (by simpa using hlt)]; simp
    have et : zs.take (m + 1) = zs.take m ++ [zs[m]] := List.take_succ_eq_append_getElem hlt
    rw [upTo_succS, et, ed]
    by_cases hk : Lib.keeps zs.toArray m = true
    · rw [if_pos hk]
      refine ⟨List.pairwise_append.2 ⟨h1, by simp, fun x hx y hy => ?_⟩, fun x => by rw [List.mem_append, List.mem_append, h2 x]⟩
      rw [List.mem_singleton.1 hy]
      have hx' := (h2 x).1 hx
      obtain ⟨i, hi, e⟩ := List.mem_iff_getElem.1 hx'
      rw [List.length_take] at hi
      rw [List.getElem_take] at e
      have him : i < m := by omega
      have h0 : m ≠ 0 := by omega
      have hne : zs[m] ≠ zs[m - 1]'(by omega) := by
        have h3 := of_decide_eq_true hk
        rcases h3 with h3 | h3
        · exact absurd h3 h0
        · have ed1 : zs.toArray[m - 1]! = zs[m - 1]'(by omega) := by rw [getElem!_pos _ (m - 1) (by simp; omega)]; simp
          rw [ed, ed1] at h3; exact h3
      have hp := List.pairwise_iff_getElem.1 h
      have h4 : zs[m - 1]'(by omega) ≤ zs[m] := hp (m - 1) m (by omega) hlt (by omega)
      have h5 : x ≤ zs[m - 1]'(by omega) := by
        rw [← e]
        by_cases e2 : i = m - 1
        · subst e2; exact List.le_refl _
        · exact hp i (m - 1) (by omega) (by omega) (by omega)
      rcases Decidable.em (x < zs[m]) with h6 | h6
      · exact h6
      · have h7 : zs[m] ≤ x := List.not_lt.1 h6
        exact absurd (List.le_antisymm (List.le_trans h7 h5) h4) hne
    · rw [if_neg hk, List.append_nil]
      refine ⟨h1, fun x => ?_⟩
      rw [h2 x, List.mem_append]
      refine ⟨.inl, ?_⟩
      rintro (h3 | h3)
      · exact h3
      · rw [List.mem_singleton.1 h3]
        have h4 : ¬ (m = 0 ∨ zs.toArray[m]! ≠ zs.toArray[m - 1]!) := fun h5 => hk (decide_eq_true h5)
        have h0 : m ≠ 0 := fun e => h4 (.inl e)
        have h5 : zs.toArray[m]! = zs.toArray[m - 1]! := Decidable.not_not.1 fun h6 => h4 (.inr h6)
        have ed1 : zs.toArray[m - 1]! = zs[m - 1]'(by omega) := by rw [getElem!_pos _ (m - 1) (by simp; omega)]; simp
        rw [ed, ed1] at h5
        rw [h5]
        exact List.mem_iff_getElem.2 ⟨m - 1, by rw [List.length_take]; omega, by rw [List.getElem_take]⟩
def sortS (l : List ByteArray) : List (List UInt8) := (l.map tlS).mergeSort (fun x y => decide (x ≤ y))
def rawS (l : List ByteArray) : List (List UInt8) := Lib.compact (sortS l)
def shRow (l : List ByteArray) : List ByteArray := (rawS l).map btS
theorem sortS_length (l : List ByteArray) : (sortS l).length = l.length := by unfold sortS; rw [List.length_mergeSort, List.length_map]
theorem sortS_sorted (l : List ByteArray) : (sortS l).Pairwise (· ≤ ·) := by
  have ht : ∀ a b c : List UInt8, decide (a ≤ b) = true → decide (b ≤ c) = true → decide (a ≤ c) = true := fun a b c h1 h2 => decide_eq_true (List.le_trans (of_decide_eq_true h1) (of_decide_eq_true h2))
  have hb : ∀ a b : List UInt8, (decide (a ≤ b) || decide (b ≤ a)) = true := fun a b => by
    rcases List.le_total a b with h | h
    · simp [h]
    · simp [h]
  exact (List.pairwise_mergeSort (le := fun x y : List UInt8 => decide (x ≤ y)) ht hb (l.map tlS)).imp fun h => of_decide_eq_true h
theorem rawS_facts (l : List ByteArray) : (rawS l).Pairwise (· < ·) ∧ ∀ x, x ∈ rawS l ↔ x ∈ l.map tlS := by
  obtain ⟨h1, h2⟩ := compact_sorted (sortS_sorted l) (sortS l).length (Nat.le_refl _)
  refine ⟨h1, fun x => (h2 x).trans ?_⟩
  rw [List.take_length]
  exact (List.mergeSort_perm _ _).mem_iff
theorem rawS_le (l : List ByteArray) : (rawS l).length ≤ l.length := by
  have := Lib.compact_length_le (sortS l)
  rw [sortS_length] at this
  exact this
theorem shRow_length (l : List ByteArray) : (shRow l).length = (rawS l).length := by unfold shRow; rw [List.length_map]
theorem shRow_le (l : List ByteArray) : (shRow l).length ≤ l.length := by rw [shRow_length]; exact rawS_le l
theorem shRow_nodup (l : List ByteArray) : (shRow l).Nodup := by
  unfold shRow
  rw [List.Nodup, List.pairwise_map]
  refine (rawS_facts l).1.imp fun {a b} hab e => ?_
  have e2 := congrArg tlS e
  rw [tlS_bt, tlS_bt] at e2
  rw [e2] at hab
  exact List.lt_irrefl _ hab
theorem shRow_mem (l : List ByteArray) (x : ByteArray) : x ∈ shRow l ↔ x ∈ l := by
  unfold shRow
  rw [List.mem_map]
  constructor
  · rintro ⟨y, hy, rfl⟩
    obtain ⟨z, hz, rfl⟩ := List.mem_map.1 (((rawS_facts l).2 y).1 hy)
    rw [btS_tl]; exact hz
  · intro h
    exact ⟨tlS x, ((rawS_facts l).2 _).2 (List.mem_map.2 ⟨x, h, rfl⟩), btS_tl x⟩
theorem firsts_row (l : List ByteArray) : firsts l l.length = (shRow l).length := firsts_all (shRow_nodup l) (shRow_mem l)
end Go.Proofs.YthobnigjhedjaaaDoor
