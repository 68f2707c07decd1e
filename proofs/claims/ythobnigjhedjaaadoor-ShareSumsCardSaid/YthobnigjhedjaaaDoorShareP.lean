/-
  The share, as plain data: pictures by number, counts by file. No condition: plain definitions and lemmas.
-/
import Derived.Test.YthobnigjhedjaaaDoorKMapP
namespace Go.Proofs.YthobnigjhedjaaaDoor
set_option linter.unusedVariables false

instance memDec (f : ByteArray) (l : List ByteArray) : Decidable (f ∈ l) := decidable_of_iff (l.any (fun x => decide (x = f)) = true) (by simp)
abbrev CMap := List (ByteArray × Int)
abbrev FMap := List (Int × List ByteArray)
def cget (C : CMap) (f : ByteArray) : Int := (kget C f).getD 0
def inc1 (C : CMap) (f : ByteArray) : CMap := kset C f (cget C f + 1)
def dec1 (C : CMap) (f : ByteArray) : CMap := if cget C f - 1 = 0 then kdel (kset C f (cget C f - 1)) f else kset C f (cget C f - 1)
def incs (C : CMap) (l : List ByteArray) : CMap := l.foldl inc1 C
def decs (C : CMap) (l : List ByteArray) : CMap := l.foldl dec1 C
def ksum (C : CMap) : Int := (C.map (·.2)).sum

theorem incs_snoc (C : CMap) (l : List ByteArray) (f : ByteArray) : incs C (l ++ [f]) = inc1 (incs C l) f := by unfold incs; rw [List.foldl_append]; rfl
theorem decs_snoc (C : CMap) (l : List ByteArray) (f : ByteArray) : decs C (l ++ [f]) = dec1 (decs C l) f := by unfold decs; rw [List.foldl_append]; rfl
theorem cget_kset (C : CMap) (f x : ByteArray) (v : Int) : cget (kset C f v) x = if x = f then v else cget C x := by
  unfold cget; rw [kget_kset]
  by_cases e : x = f
  · rw [if_pos e, if_pos e]; rfl
  · rw [if_neg e, if_neg e]
theorem incs_get : ∀ (l : List ByteArray) (C : CMap) (f : ByteArray), l.Nodup → kget (incs C l) f = if f ∈ l then some (cget C f + 1) else kget C f
  | [], C, f, _ => by simp [incs]
  | x :: l, C, f, h => by
    obtain ⟨hx, hl⟩ := List.nodup_cons.1 h
    have h1 := incs_get l (inc1 C x) f hl
    show kget (incs (inc1 C x) l) f = _
    rw [h1]
    by_cases e : f = x
    · subst e
      rw [if_neg hx, if_pos List.mem_cons_self]
      unfold inc1; rw [kget_kset, if_pos rfl]
    · by_cases hf : f ∈ l
      · rw [if_pos hf, if_pos (List.mem_cons_of_mem _ hf)]
        unfold inc1; rw [cget_kset, if_neg e]
      · rw [if_neg hf, if_neg (by simp [e, hf])]
        unfold inc1; rw [kget_kset, if_neg e]
theorem decs_get : ∀ (l : List ByteArray) (C : CMap) (f : ByteArray), l.Nodup → kget (decs C l) f = if f ∈ l then (if cget C f - 1 = 0 then none else some (cget C f - 1)) else kget C f
  | [], C, f, _ => by simp [decs]
  | x :: l, C, f, h => by
    obtain ⟨hx, hl⟩ := List.nodup_cons.1 h
    have h1 := decs_get l (dec1 C x) f hl
    have h2 : kget (dec1 C x) f = if f = x then (if cget C x - 1 = 0 then none else some (cget C x - 1)) else kget C f := by
      unfold dec1
      by_cases h0 : cget C x - 1 = 0
      · rw [if_pos h0, if_pos h0, kget_kdel, kget_kset]
        by_cases e : f = x
        · rw [if_pos e, if_pos e]
        · rw [if_neg e, if_neg e, if_neg e]
      · rw [if_neg h0, if_neg h0, kget_kset]
    show kget (decs (dec1 C x) l) f = _
    rw [h1]
    by_cases e : f = x
    · subst e
      rw [if_neg hx, if_pos List.mem_cons_self, h2, if_pos rfl]
    · have h3 : cget (dec1 C x) f = cget C f := by unfold cget; rw [h2, if_neg e]
      by_cases hf : f ∈ l
      · rw [if_pos hf, if_pos (List.mem_cons_of_mem _ hf), h3]
      · rw [if_neg hf, if_neg (by simp [e, hf]), h2, if_neg e]
theorem ksum_inc1 (C : CMap) (f : ByteArray) : ksum (inc1 C f) = ksum C + 1 := by
  unfold inc1 cget ksum
  by_cases hk : f ∈ kkeys C
  · obtain ⟨a, u, b, rfl, ha⟩ := split_kkey hk
    rw [kget_split ha, kset_split ha]
    simp [List.sum_append]; omega
  · rw [kget_none hk, kset_none hk]
    simp [List.sum_append]
theorem ksum_incs : ∀ (l : List ByteArray) (C : CMap), ksum (incs C l) = ksum C + l.length
  | [], C => by simp [incs]
  | x :: l, C => by
    show ksum (incs (inc1 C x) l) = _
    rw [ksum_incs l, ksum_inc1]; simp; omega

/-! ### What counts say -/
def cnt (P : FMap) (f : ByteArray) : Nat := (P.filter fun p => decide (f ∈ p.2)).length
structure ShInv (P : FMap) (C : CMap) : Prop where
  nodup : (kkeys P).Nodup
  rows : ∀ p ∈ P, p.2.Nodup
  has : ∀ f, kget C f = if cnt P f = 0 then none else some (cnt P f : Int)
theorem cnt_append (a b : FMap) (f : ByteArray) : cnt (a ++ b) f = cnt a f + cnt b f := by unfold cnt; rw [List.filter_append, List.length_append]
theorem cnt_one (k : Int) (l : List ByteArray) (f : ByteArray) : cnt [(k, l)] f = if f ∈ l then 1 else 0 := by
  unfold cnt
  by_cases h : f ∈ l <;> simp [h]
theorem cnt_le (P : FMap) (f : ByteArray) : cnt P f ≤ P.length := List.length_filter_le _ _
theorem ShInv.nil : ShInv [] [] := ⟨by simp [kkeys], by simp, fun f => by simp [kget, cnt]⟩
theorem ShInv.cg {P : FMap} {C : CMap} (h : ShInv P C) (f : ByteArray) : cget C f = cnt P f := by
  unfold cget
  rw [h.has f]
  by_cases e : cnt P f = 0
  · rw [if_pos e, e]; rfl
  · rw [if_neg e]; rfl
theorem ShInv.take {P : FMap} {C : CMap} (h : ShInv P C) {k : Int} (hk : k ∉ kkeys P) {l : List ByteArray} (hl : l.Nodup) : ShInv (kset P k l) (incs C l) := by
  refine ⟨kset_nodup h.nodup _ _, fun p hp => ?_, fun f => ?_⟩
  · rw [kset_none hk] at hp
    rcases List.mem_append.1 hp with hp | hp
    · exact h.rows p hp
    · rw [List.mem_singleton.1 hp]; exact hl
  · rw [kset_none hk, cnt_append, cnt_one, incs_get l C f hl, h.has f, h.cg f]
    by_cases hf : f ∈ l
    · rw [if_pos hf, if_pos hf, if_neg (by omega)]; rfl
    · rw [if_neg hf, if_neg hf]; rfl
theorem ShInv.drop {P : FMap} {C : CMap} (h : ShInv P C) {k : Int} {l : List ByteArray} (hk : kget P k = some l) : ShInv (kdel P k) (decs C l) := by
  have hm := kget_mem hk
  have hkk : k ∈ kkeys P := List.mem_map.2 ⟨_, hm, rfl⟩
  refine ⟨kdel_nodup h.nodup _, fun p hp => h.rows p (List.mem_filter.1 hp).1, fun f => ?_⟩
  have hl := h.rows _ hm
  rw [decs_get l C f hl, h.has f, h.cg f]
  obtain ⟨a, u, b, rfl, ha⟩ := split_kkey hkk
  rw [kget_split ha] at hk
  injection hk with hk
  subst hk
  have hb : k ∉ kkeys b := by
    have := h.nodup
    unfold kkeys at this
    rw [List.map_append, List.map_cons, List.nodup_append] at this
    exact (List.nodup_cons.1 this.2.1).1
  rw [kdel_split ha hb]
  have e : cnt (a ++ (k, u) :: b) f = cnt (a ++ b) f + if f ∈ u then 1 else 0 := by
    rw [show (k, u) :: b = [(k, u)] ++ b from rfl, cnt_append, cnt_append, cnt_append, cnt_one]; omega
  rw [e]
  by_cases hf : f ∈ u
  · rw [if_pos hf, if_pos hf]
    by_cases h0 : cnt (a ++ b) f = 0
    · rw [if_pos h0, if_pos (by omega)]
    · rw [if_neg h0, if_neg (by omega)]
      congr 1; omega
  · rw [if_neg hf, if_neg hf]; rfl
theorem ShInv.empty {C : CMap} (h : ShInv [] C) : C = [] := by
  cases C with
  | nil => rfl
  | cons p r =>
    have := h.has p.1
    simp [kget, cnt] at this
theorem ShInv.pos {P : FMap} {C : CMap} (h : ShInv P C) {f : ByteArray} (hf : f ∈ kkeys C) : 1 ≤ cget C f := by
  rw [h.cg f]
  have h1 := h.has f
  by_cases e : cnt P f = 0
  · rw [if_pos e, kget_none_iff] at h1; exact absurd hf h1
  · omega
theorem ShInv.le {P : FMap} {C : CMap} (h : ShInv P C) (f : ByteArray) : 0 ≤ cget C f ∧ cget C f ≤ P.length := by
  rw [h.cg f]
  have := cnt_le P f
  omega
theorem incs_le (C : CMap) (l : List ByteArray) (f : ByteArray) (n : Int) (hl : l.Nodup) (h : ∀ x, 0 ≤ cget C x ∧ cget C x ≤ n) : 0 ≤ cget (incs C l) f ∧ cget (incs C l) f ≤ n + 1 := by
  have h1 := h f
  unfold cget at h1 ⊢
  rw [incs_get l C f hl]
  by_cases hf : f ∈ l
  · rw [if_pos hf]; unfold cget; simp only [Option.getD_some]; omega
  · rw [if_neg hf]; omega
theorem decs_le (C : CMap) (l : List ByteArray) (f : ByteArray) (n : Int) (hl : l.Nodup) (h : ∀ x, 0 ≤ cget C x ∧ cget C x ≤ n) : -1 ≤ cget (decs C l) f ∧ cget (decs C l) f ≤ n := by
  have h1 := h f
  unfold cget at h1 ⊢
  rw [decs_get l C f hl]
  by_cases hf : f ∈ l
  · rw [if_pos hf]
    unfold cget
    by_cases h0 : (kget C f).getD 0 - 1 = 0
    · rw [if_pos h0]; simp only [Option.getD_none]; omega
    · rw [if_neg h0]; simp only [Option.getD_some]; omega
  · rw [if_neg hf]; omega

/-! ### Sums over keys in any order -/
theorem sum_perm {a b : List Int} (h : a.Perm b) : a.sum = b.sum := by
  induction h with
  | nil => rfl
  | cons x _ ih => simp [ih]
  | swap x y l => simp; omega
  | trans _ _ h1 h2 => exact h1.trans h2
theorem ksum_keys {C : CMap} (h : (kkeys C).Nodup) : ((kkeys C).map (cget C)).sum = ksum C := by
  unfold ksum kkeys
  rw [List.map_map]
  congr 1
  refine List.map_congr_left fun p hp => ?_
  show cget C p.1 = p.2
  unfold cget
  rw [mem_kget h (show (p.1, p.2) ∈ C from hp)]; rfl
theorem ksum_perm {C : CMap} (h : (kkeys C).Nodup) {l : List ByteArray} (hl : l.Perm (kkeys C)) : (l.map (cget C)).sum = ksum C := by
  rw [sum_perm (hl.map (cget C)), ksum_keys h]

/-! ### How many are the first of their kind -/
def firsts (l : List ByteArray) : Nat → Nat
  | 0 => 0
  | k + 1 => firsts l k + (if h : k < l.length then (if l[k] ∈ l.take k then 0 else 1) else 0)
theorem firsts_dedup (l : List ByteArray) : ∀ k, k ≤ l.length → ∃ d : List ByteArray, d.Nodup ∧ d.length = firsts l k ∧ ∀ x, x ∈ d ↔ x ∈ l.take k
  | 0, _ => ⟨[], by simp, rfl, by simp⟩
  | k + 1, hk => by
    obtain ⟨d, h1, h2, h3⟩ := firsts_dedup l k (by omega)
    have hlt : k < l.length := by omega
    have e : l.take (k + 1) = l.take k ++ [l[k]] := List.take_succ_eq_append_getElem hlt
    by_cases hm : l[k] ∈ l.take k
    · refine ⟨d, h1, ?_, fun x => ?_⟩
      · simp only [firsts]; rw [dif_pos hlt, if_pos hm]; exact h2
      · rw [e, List.mem_append, h3 x]
        constructor
        · exact .inl
        · rintro (h | h)
          · exact h
          · rw [List.mem_singleton.1 h]; exact hm
    · refine ⟨d ++ [l[k]], ?_, ?_, fun x => ?_⟩
      · rw [List.nodup_append]
        refine ⟨h1, by simp, fun x hx y hy e => ?_⟩
        simp at hy
        exact hm ((h3 _).1 (hy ▸ e ▸ hx))
      · simp only [firsts]; rw [dif_pos hlt, if_neg hm, List.length_append, h2]; rfl
      · rw [e, List.mem_append, List.mem_append, h3 x]
theorem nodup_length {a b : List ByteArray} (ha : a.Nodup) (hb : b.Nodup) (h : ∀ x, x ∈ a ↔ x ∈ b) : a.length = b.length :=
  ((List.perm_ext_iff_of_nodup ha hb).2 h).length_eq
theorem firsts_all {l m : List ByteArray} (hm : m.Nodup) (h : ∀ x, x ∈ m ↔ x ∈ l) : firsts l l.length = m.length := by
  obtain ⟨d, h1, h2, h3⟩ := firsts_dedup l l.length (Nat.le_refl _)
  rw [← h2]
  exact nodup_length h1 hm fun x => by rw [h3 x, List.take_length, h x]
theorem firsts_le (l : List ByteArray) : ∀ k, firsts l k ≤ k
  | 0 => Nat.le_refl _
  | k + 1 => by
    have := firsts_le l k
    simp only [firsts]
    split
    · split <;> omega
    · omega
end Go.Proofs.YthobnigjhedjaaaDoor
