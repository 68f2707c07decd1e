/-
  Jobs, plain: who uses whom, input by input. No condition: plain definitions and lemmas.
-/
import Derived.Test.YtmbhfadidpkkhaaDoorJobPlain
namespace Go.Proofs.YtmbhfadidpkkhaaDoor
open Go.RowKit
set_option linter.unusedVariables false

/-- The first k inputs of node i, told in the rows. -/
def upk (rows : List (List Int)) (i : Nat) (fs : List Int) : Nat → List (List Int)
  | 0 => rows
  | k + 1 => match fs[k]? with
    | none => upk rows i fs k
    | some f => if (fs.take k).contains f = true then upk rows i fs k else (upk rows i fs k).modify f.toNat (· ++ [(i : Int)])
def upn (l : List Nod) : Nat → List (List Int)
  | 0 => List.replicate l.length []
  | i + 1 => match l[i]? with
    | none => upn l i
    | some n => upk (upn l i) i n.from_ n.from_.length
theorem upk_length (rows : List (List Int)) (i : Nat) (fs : List Int) (k : Nat) : (upk rows i fs k).length = rows.length := by
  induction k with
  | zero => rfl
  | succ k ih =>
    unfold upk
    split
    · exact ih
    · split
      · exact ih
      · rw [List.length_modify]; exact ih
theorem upn_length (l : List Nod) (i : Nat) : (upn l i).length = l.length := by
  induction i with
  | zero => simp [upn]
  | succ i ih =>
    unfold upn
    split
    · exact ih
    · rw [upk_length]; exact ih
theorem upk_get (rows : List (List Int)) (i : Nat) (fs : List Int) (hfs : ∀ f ∈ fs, 0 ≤ f) (k : Nat) (hk : k ≤ fs.length) (j : Nat) : (upk rows i fs k)[j]? = (rows[j]?).map fun r => r ++ if (fs.take k).contains (j : Int) = true then [(i : Int)] else [] := by
  induction k with
  | zero => simp [upk]
  | succ k ih =>
    have hlt : k < fs.length := by omega
    have ih := ih (by omega)
    unfold upk
    rw [List.getElem?_eq_getElem hlt]
    have ht : fs.take (k + 1) = fs.take k ++ [fs[k]] := List.take_succ_eq_append_getElem hlt
    have hct : ∀ x : Int, (fs.take (k + 1)).contains x = ((fs.take k).contains x || x == fs[k]) := fun x => by
      rw [Bool.eq_iff_iff, Bool.or_eq_true, beq_iff_eq, List.contains_iff_mem, List.contains_iff_mem, ht, List.mem_append, List.mem_singleton]
    have h0 := hfs fs[k] (List.getElem_mem hlt)
    simp only
    by_cases hc : (fs.take k).contains fs[k] = true
    · rw [if_pos hc, ih]
      congr 1
      funext r
      rw [hct]
      by_cases hj : (j : Int) = fs[k]
      · rw [hj, hc]; rfl
      · rw [show ((j : Int) == fs[k]) = false from by simp [hj], Bool.or_false]
    · rw [if_neg hc, List.getElem?_modify, ih]
      cases rows[j]? with
      | none => rfl
      | some r =>
        show some ((fun a => if fs[k].toNat = j then a ++ [(i : Int)] else a) _) = some _
        rw [hct]
        simp only []
        by_cases hj : (j : Int) = fs[k]
        · have hj2 : fs[k].toNat = j := by omega
          have hcf : (fs.take k).contains fs[k] = false := by simpa using hc
          rw [hj, hcf, if_pos hj2]
          simp
        · have hj2 : ¬ fs[k].toNat = j := by omega
          rw [show ((j : Int) == fs[k]) = false from by simp [hj], Bool.or_false, if_neg hj2]
theorem uses_take (l : List Nod) (f : Int) {i : Nat} (hi : i < l.length) : usesOf (l.take (i + 1)) f = usesOf (l.take i) f ++ if l[i].from_.contains f = true then [(i : Int)] else [] := by
  rw [List.take_succ_eq_append_getElem hi]
  unfold usesOf
  rw [List.zipIdx_append, List.filter_append, List.map_append]
  congr 1
  have e : 0 + (List.take i l).length = i := by rw [List.length_take]; omega
  by_cases h : l[i].from_.contains f = true
  · rw [if_pos h]
    simp only [List.zipIdx_cons, List.zipIdx_nil, List.filter_cons, h, if_true, List.filter_nil, List.map_cons, List.map_nil, e]
  · rw [if_neg h]
    simp only [List.zipIdx_cons, List.zipIdx_nil, List.filter_cons, h, List.filter_nil]
    rfl
theorem upn_get (l : List Nod) (hf : ∀ n ∈ l, ∀ f ∈ n.from_, 0 ≤ f) (i : Nat) (hi : i ≤ l.length) (j : Nat) (hj : j < l.length) : (upn l i)[j]? = some (usesOf (l.take i) (j : Int)) := by
  induction i with
  | zero => simp [upn, usesOf, hj]
  | succ i ih =>
    have hlt : i < l.length := by omega
    unfold upn
    rw [List.getElem?_eq_getElem hlt]
    simp only
    rw [upk_get _ _ _ (hf _ (List.getElem_mem hlt)) _ (Nat.le_refl _), ih (by omega), uses_take l _ hlt, List.take_length]
    rfl
theorem upn_all (l : List Nod) (hf : ∀ n ∈ l, ∀ f ∈ n.from_, 0 ≤ f) : upn l l.length = usesAll l := by
  apply List.ext_getElem?
  intro j
  rcases Nat.lt_or_ge j l.length with hj | hj
  · rw [upn_get l hf _ (Nat.le_refl _) j hj, List.take_length]
    unfold usesAll
    rw [List.getElem?_map, List.getElem?_range hj]; rfl
  · rw [List.getElem?_eq_none (by rw [upn_length]; exact hj), List.getElem?_eq_none (by unfold usesAll; simp; exact hj)]
/-- Of a job that is right: whom a node has ahead. -/
theorem from_zero {l : List Nod} {i : Nat} {fs : List Int} (h : fromErr l i fs = 0) : ∀ f ∈ fs, 0 ≤ f ∧ f < i := by
  induction fs with
  | nil => nofun
  | cons f fs ih =>
    unfold fromErr at h
    split at h
    · cases h
    · rename_i h1
      split at h
      · cases h
      · intro g hg
        rcases List.mem_cons.1 hg with rfl | hg
        · omega
        · exact ih h g hg
theorem node_zero {l : List Nod} {i : Nat} {n : Nod} (h : nodeErr l i n = 0) : ∀ f ∈ n.from_, 0 ≤ f ∧ f < i := by
  unfold nodeErr at h
  split at h
  · cases h
  · split at h
    · cases h
    · split at h
      · rename_i h1; exact absurd h h1
      · rename_i h1
        exact from_zero (by simpa using h1)
theorem nodes_zero {l : List Nod} : ∀ (s : List Nod) (i : Nat), nodesErr l i s = 0 → ∀ j (hj : j < s.length), nodeErr l (i + j) s[j] = 0 := by
  intro s
  induction s with
  | nil => intro i _ j hj; cases hj
  | cons n s ih =>
    intro i h j hj
    rw [nodes_cons] at h
    split at h
    · rename_i h1; exact absurd h h1
    · rename_i h1
      cases j with
      | zero => simpa using h1
      | succ j =>
        have := ih (i + 1) h j (by simpa using hj)
        rw [show i + (j + 1) = i + 1 + j from by omega]
        exact this
theorem job_from {l : List Nod} (h : jobErr l = 0) {i : Nat} (hi : i < l.length) : ∀ f ∈ l[i].from_, 0 ≤ f ∧ f < i := by
  have h1 := nodes_zero l 0 (job_parts h).2.1 i hi
  rw [Nat.zero_add] at h1
  exact node_zero h1
theorem job_from_pos {l : List Nod} (h : jobErr l = 0) : ∀ n ∈ l, ∀ f ∈ n.from_, 0 ≤ f := fun n hn f hf => by
  obtain ⟨i, hi, rfl⟩ := List.mem_iff_getElem.1 hn
  exact (job_from h hi f hf).1
theorem upk_mem {rows : List (List Int)} {i : Nat} {fs : List Int} {N : Nat} (hi : i < N) (hr : ∀ r ∈ rows, ∀ x ∈ r, 0 ≤ x ∧ x < N) (k : Nat) : ∀ r ∈ upk rows i fs k, ∀ x ∈ r, 0 ≤ x ∧ x < N := by
  induction k with
  | zero => exact hr
  | succ k ih =>
    unfold upk
    split
    · exact ih
    · split
      · exact ih
      · intro r hrm x hx
        obtain ⟨j, hj⟩ := List.getElem?_of_mem hrm
        rw [List.getElem?_modify] at hj
        cases hs : (upk rows i fs k)[j]? with
        | none => rw [hs] at hj; simp at hj
        | some r0 =>
          rw [hs] at hj
          simp at hj
          have h0 := ih r0 (List.mem_of_getElem? hs)
          split at hj
          · subst hj
            rcases List.mem_append.1 hx with hx | hx
            · exact h0 x hx
            · simp at hx; omega
          · subst hj; exact h0 x hx
theorem upk_rowlen {rows : List (List Int)} {i : Nat} {fs : List Int} {m : Nat} (hr : ∀ r ∈ rows, r.length ≤ m) (hfs : ∀ f ∈ fs, 0 ≤ f) (k : Nat) (hk : k ≤ fs.length) : ∀ r ∈ upk rows i fs k, r.length ≤ m + 1 := by
  intro r hrm
  obtain ⟨j, hj⟩ := List.getElem?_of_mem hrm
  rw [upk_get rows i fs hfs k hk] at hj
  cases hs : rows[j]? with
  | none => rw [hs] at hj; cases hj
  | some r0 =>
    rw [hs] at hj
    simp only [Option.map_some, Option.some.injEq] at hj
    subst hj
    have := hr r0 (List.mem_of_getElem? hs)
    split <;> simp <;> omega
theorem upn_mem {l : List Nod} {i : Nat} (hi : i ≤ l.length) : ∀ r ∈ upn l i, ∀ x ∈ r, 0 ≤ x ∧ x < l.length := by
  induction i with
  | zero => intro r hr x hx; simp [upn] at hr; rw [hr.2] at hx; cases hx
  | succ i ih =>
    unfold upn
    split
    · exact ih (by omega)
    · exact upk_mem (N := l.length) (by omega) (ih (by omega)) _
theorem upn_rowlen {l : List Nod} (hf : ∀ n ∈ l, ∀ f ∈ n.from_, 0 ≤ f) {i : Nat} (hi : i ≤ l.length) : ∀ r ∈ upn l i, r.length ≤ i := by
  induction i with
  | zero => intro r hr; simp [upn] at hr; rw [hr.2]; simp
  | succ i ih =>
    have hlt : i < l.length := by omega
    unfold upn
    rw [List.getElem?_eq_getElem hlt]
    exact upk_rowlen (ih (by omega)) (hf _ (List.getElem_mem hlt)) _ (Nat.le_refl _)
end Go.Proofs.YtmbhfadidpkkhaaDoor
