/-
  Maps as lists of pairs, of any keys: what is got, set, taken away. No condition: plain definitions and lemmas.
-/
import Derived.Test.YthobnigjhedjaaaDoorBase
namespace Go.Proofs.YthobnigjhedjaaaDoor
set_option linter.unusedVariables false

section
variable {κ α β : Type}
def kkeys (m : List (κ × α)) : List κ := m.map (·.1)
def kmap (f : α → β) (m : List (κ × α)) : List (κ × β) := m.map fun p => (p.1, f p.2)
theorem kmap_keys (f : α → β) (m : List (κ × α)) : kkeys (kmap f m) = kkeys m := by unfold kkeys kmap; rw [List.map_map]; rfl
theorem kmap_length (f : α → β) (m : List (κ × α)) : (kmap f m).length = m.length := by unfold kmap; rw [List.length_map]
end
section
variable {κ α β : Type} [DecidableEq κ]
def kget : List (κ × α) → κ → Option α
  | [], _ => none
  | p :: r, k => if p.1 = k then some p.2 else kget r k
def kset : List (κ × α) → κ → α → List (κ × α)
  | [], k, v => [(k, v)]
  | p :: r, k, v => if p.1 = k then (k, v) :: r else p :: kset r k v
def kdel (m : List (κ × α)) (k : κ) : List (κ × α) := m.filter (fun p => decide (p.1 ≠ k))
def khas (m : List (κ × α)) (k : κ) : Bool := (kget m k).isSome

theorem kget_none : ∀ {m : List (κ × α)} {k : κ}, k ∉ kkeys m → kget m k = none
  | [], k, _ => rfl
  | p :: r, k, h => by
    simp only [kkeys, List.map_cons, List.mem_cons, not_or] at h
    simp only [kget]
    rw [if_neg (fun e => h.1 e.symm)]
    exact kget_none h.2
theorem split_kkey : ∀ {m : List (κ × α)} {k : κ}, k ∈ kkeys m → ∃ a v b, m = a ++ (k, v) :: b ∧ k ∉ kkeys a
  | [], k, h => by simp [kkeys] at h
  | p :: r, k, h => by
    by_cases e : p.1 = k
    · exact ⟨[], p.2, r, by rw [← e]; rfl, by simp [kkeys]⟩
    · have h2 : k ∈ kkeys r := by
        simp only [kkeys, List.map_cons, List.mem_cons] at h
        rcases h with h | h
        · exact absurd h.symm e
        · exact h
      obtain ⟨a, v, b, h3, h4⟩ := split_kkey h2
      refine ⟨p :: a, v, b, by rw [h3]; rfl, ?_⟩
      simp only [kkeys, List.map_cons, List.mem_cons, not_or]
      exact ⟨fun e' => e e'.symm, h4⟩
theorem kget_split : ∀ {a : List (κ × α)} {k : κ} {v : α} {b : List (κ × α)}, k ∉ kkeys a → kget (a ++ (k, v) :: b) k = some v
  | [], k, v, b, _ => by simp [kget]
  | p :: a, k, v, b, h => by
    simp only [kkeys, List.map_cons, List.mem_cons, not_or] at h
    simp only [List.cons_append, kget]
    rw [if_neg (fun e => h.1 e.symm)]
    exact kget_split h.2
theorem kset_split : ∀ {a : List (κ × α)} {k : κ} {v u : α} {b : List (κ × α)}, k ∉ kkeys a → kset (a ++ (k, v) :: b) k u = a ++ (k, u) :: b
  | [], k, v, u, b, _ => by simp [kset]
  | p :: a, k, v, u, b, h => by
    simp only [kkeys, List.map_cons, List.mem_cons, not_or] at h
    simp only [List.cons_append, kset]
    rw [if_neg (fun e => h.1 e.symm), kset_split h.2]
theorem kset_none : ∀ {a : List (κ × α)} {k : κ} {u : α}, k ∉ kkeys a → kset a k u = a ++ [(k, u)]
  | [], k, u, _ => rfl
  | p :: a, k, u, h => by
    simp only [kkeys, List.map_cons, List.mem_cons, not_or] at h
    simp only [List.cons_append, kset]
    rw [if_neg (fun e => h.1 e.symm), kset_none h.2]
theorem kdel_none {a : List (κ × α)} {k : κ} (h : k ∉ kkeys a) : kdel a k = a := by
  unfold kdel
  rw [List.filter_eq_self]
  intro p hp
  exact decide_eq_true (fun e => h (List.mem_map.2 ⟨p, hp, e⟩))
theorem kdel_split {a b : List (κ × α)} {k : κ} {v : α} (h : k ∉ kkeys a) (h2 : k ∉ kkeys b) : kdel (a ++ (k, v) :: b) k = a ++ b := by
  have e1 := kdel_none h
  have e2 := kdel_none h2
  unfold kdel at *
  rw [List.filter_append, e1, List.filter_cons, e2]
  simp
theorem kget_kset (m : List (κ × α)) (k x : κ) (v : α) : kget (kset m k v) x = if x = k then some v else kget m x := by
  induction m with
  | nil =>
    simp only [kset, kget]
    by_cases e : x = k
    · rw [if_pos e.symm, if_pos e]
    · rw [if_neg (fun e' => e e'.symm), if_neg e]
  | cons p r ih =>
    simp only [kset]
    by_cases h : p.1 = k
    · rw [if_pos h]
      simp only [kget]
      by_cases e : x = k
      · rw [if_pos e.symm, if_pos e]
      · rw [if_neg (fun e' => e e'.symm), if_neg e, if_neg (fun e' => e (e'.symm.trans h))]
    · rw [if_neg h]
      simp only [kget]
      by_cases e : p.1 = x
      · rw [if_pos e, if_pos e, if_neg (fun e' => h (e.trans e'))]
      · rw [if_neg e, if_neg e, ih]
theorem kget_kdel (m : List (κ × α)) (k x : κ) : kget (kdel m k) x = if x = k then none else kget m x := by
  induction m with
  | nil => simp [kdel, kget]
  | cons p r ih =>
    unfold kdel at ih ⊢
    rw [List.filter_cons]
    by_cases h : p.1 = k
    · rw [show decide (p.1 ≠ k) = false from decide_eq_false (fun e => e h)]
      simp only [Bool.false_eq_true, ↓reduceIte, kget]
      rw [ih]
      by_cases e : x = k
      · rw [if_pos e, if_pos e]
      · rw [if_neg e, if_neg e, if_neg (fun e' => e (e'.symm.trans h))]
    · rw [show decide (p.1 ≠ k) = true from decide_eq_true h]
      simp only [↓reduceIte, kget]
      rw [ih]
      by_cases e : p.1 = x
      · rw [if_pos e, if_pos e, if_neg (fun e' => h (e.trans e'))]
      · rw [if_neg e, if_neg e]
theorem kget_none_iff (m : List (κ × α)) (k : κ) : kget m k = none ↔ k ∉ kkeys m := by
  refine ⟨fun h hk => ?_, kget_none⟩
  obtain ⟨a, v, b, rfl, ha⟩ := split_kkey hk
  rw [kget_split ha] at h
  cases h
theorem khas_iff (m : List (κ × α)) (k : κ) : khas m k = true ↔ k ∈ kkeys m := by
  unfold khas
  rw [Option.isSome_iff_ne_none, Ne, kget_none_iff]
  exact Decidable.not_not
theorem khas_no {m : List (κ × α)} {k : κ} (h : k ∉ kkeys m) : khas m k = false := by
  unfold khas; rw [kget_none h]; rfl
theorem kkeys_kset (m : List (κ × α)) (k x : κ) (v : α) : x ∈ kkeys (kset m k v) ↔ x = k ∨ x ∈ kkeys m := by
  rw [← Decidable.not_iff_not, ← kget_none_iff, kget_kset]
  by_cases e : x = k
  · simp [e]
  · rw [if_neg e, kget_none_iff]; simp [e]
theorem kkeys_kdel (m : List (κ × α)) (k x : κ) : x ∈ kkeys (kdel m k) ↔ x ≠ k ∧ x ∈ kkeys m := by
  rw [← Decidable.not_iff_not, ← kget_none_iff, kget_kdel]
  by_cases e : x = k
  · simp [e]
  · rw [if_neg e, kget_none_iff]; simp [e]
theorem kkeys_sub (m : List (κ × α)) (k : κ) : (kkeys (kdel m k)).Sublist (kkeys m) := List.filter_sublist.map _
theorem kdel_nodup {m : List (κ × α)} (h : (kkeys m).Nodup) (k : κ) : (kkeys (kdel m k)).Nodup := h.sublist (kkeys_sub m k)
theorem kset_nodup {m : List (κ × α)} (h : (kkeys m).Nodup) (k : κ) (v : α) : (kkeys (kset m k v)).Nodup := by
  by_cases hk : k ∈ kkeys m
  · obtain ⟨a, u, b, rfl, ha⟩ := split_kkey hk
    rw [kset_split ha]
    simpa [kkeys] using h
  · rw [kset_none hk]
    unfold kkeys at hk h ⊢
    rw [List.map_append, List.nodup_append]
    refine ⟨h, by simp, fun x hx y hy e => ?_⟩
    simp at hy
    exact hk (hy ▸ e ▸ hx)
theorem mem_kget {m : List (κ × α)} (h : (kkeys m).Nodup) {k : κ} {v : α} (hm : (k, v) ∈ m) : kget m k = some v := by
  have hk : k ∈ kkeys m := List.mem_map.2 ⟨_, hm, rfl⟩
  obtain ⟨a, u, b, rfl, ha⟩ := split_kkey hk
  rw [kget_split ha]
  rcases List.mem_append.1 hm with h1 | h1
  · exact absurd (List.mem_map.2 ⟨_, h1, rfl⟩) ha
  · rcases List.mem_cons.1 h1 with h1 | h1
    · injection h1 with _ h1; rw [h1]
    · unfold kkeys at h
      rw [List.map_append, List.map_cons, List.nodup_append] at h
      exact absurd (List.mem_map.2 ⟨_, h1, rfl⟩) (List.nodup_cons.1 h.2.1).1
theorem kget_mem : ∀ {m : List (κ × α)} {k : κ} {v : α}, kget m k = some v → (k, v) ∈ m
  | [], k, v, h => by cases h
  | p :: r, k, v, h => by
    simp only [kget] at h
    by_cases e : p.1 = k
    · rw [if_pos e] at h; injection h with h; subst h; subst e; exact List.mem_cons_self
    · rw [if_neg e] at h; exact List.mem_cons_of_mem _ (kget_mem h)
theorem kdel_length {m : List (κ × α)} (h : (kkeys m).Nodup) {k : κ} (hk : k ∈ kkeys m) : (kdel m k).length + 1 = m.length := by
  obtain ⟨a, u, b, rfl, ha⟩ := split_kkey hk
  have hb : k ∉ kkeys b := by
    unfold kkeys at h
    rw [List.map_append, List.map_cons, List.nodup_append] at h
    exact (List.nodup_cons.1 h.2.1).1
  rw [kdel_split ha hb]
  simp; omega

/-! ### Values turned -/
theorem kmap_get (f : α → β) (m : List (κ × α)) (k : κ) : kget (kmap f m) k = (kget m k).map f := by
  induction m with
  | nil => rfl
  | cons p r ih =>
    simp only [kmap, List.map_cons, kget] at ih ⊢
    by_cases e : p.1 = k
    · rw [if_pos e, if_pos e]; rfl
    · rw [if_neg e, if_neg e]; exact ih
theorem kmap_set (f : α → β) (m : List (κ × α)) (k : κ) (v : α) : kmap f (kset m k v) = kset (kmap f m) k (f v) := by
  induction m with
  | nil => rfl
  | cons p r ih =>
    simp only [kmap, List.map_cons, kset] at ih ⊢
    by_cases e : p.1 = k
    · rw [if_pos e, if_pos e]; rfl
    · rw [if_neg e, if_neg e, List.map_cons, ih]
theorem kmap_del (f : α → β) (m : List (κ × α)) (k : κ) : kmap f (kdel m k) = kdel (kmap f m) k := by
  unfold kmap kdel
  rw [List.filter_map]; rfl
theorem kset_length (m : List (κ × α)) (k : κ) (v : α) : (kset m k v).length ≤ m.length + 1 := by
  by_cases hk : k ∈ kkeys m
  · obtain ⟨a, u, b, rfl, ha⟩ := split_kkey hk
    rw [kset_split ha]; simp
  · rw [kset_none hk]; simp
end
end Go.Proofs.YthobnigjhedjaaaDoor
