/-
  Plain part of LsmLast: entries found by key; what put, flush and compaction make of them. No condition: plain definitions and lemmas.
-/
import Derived.Test.YthobnigjhedjaaaDoorTabs
import Derived.Test.YthobnigjhedjaaaDoorKMapP
namespace Go.Proofs.YthobnigjhedjaaaDoor
open Go.Sort hiding Below
set_option linter.unusedVariables false

/-- The first entry of a key. -/
def efind (l : List Ent) (k : ByteArray) : Option Ent := l.find? fun e => decide (e.key = k)
theorem efind_app (a b : List Ent) (k : ByteArray) : efind (a ++ b) k = (efind a k).or (efind b k) := List.find?_append
theorem efind_nil (k : ByteArray) : efind [] k = none := rfl
theorem efind_cons (x : Ent) (l : List Ent) (k : ByteArray) : efind (x :: l) k = if x.key = k then some x else efind l k := by
  unfold efind
  rw [List.find?_cons]
  by_cases e : x.key = k <;> simp [e]
theorem efind_none {l : List Ent} {k : ByteArray} : efind l k = none ↔ ∀ x ∈ l, x.key ≠ k := by
  unfold efind; rw [List.find?_eq_none]; simp
theorem efind_some {l : List Ent} {k : ByteArray} {e : Ent} (h : efind l k = some e) : e ∈ l ∧ e.key = k := by
  have h1 := List.mem_of_find?_eq_some h
  have h2 := List.find?_some h
  exact ⟨h1, by simpa using h2⟩
theorem efind_mem {l : List Ent} (h : KeysApart l) {e : Ent} (he : e ∈ l) : efind l e.key = some e := by
  induction l with
  | nil => cases he
  | cons x l ih =>
    have h1 := List.pairwise_cons.1 h
    rw [efind_cons]
    rcases List.mem_cons.1 he with rfl | he
    · rw [if_pos rfl]
    · rw [if_neg (h1.1 e he)]; exact ih h1.2 he
theorem apart_perm {a b : List Ent} (hp : b.Perm a) (h : KeysApart a) : KeysApart b := (hp.symm.pairwise_iff (fun {x y} hxy e => hxy e.symm)).1 h
theorem efind_perm {a b : List Ent} (hp : b.Perm a) (h : KeysApart a) (k : ByteArray) : efind b k = efind a k := by
  cases hx : efind a k with
  | none => rw [efind_none] at hx ⊢; exact fun x hb => hx x (hp.mem_iff.1 hb)
  | some e =>
    obtain ⟨h1, rfl⟩ := efind_some hx
    exact efind_mem (apart_perm hp h) (hp.mem_iff.2 h1)
theorem apart_nodup {a : List Ent} (h : KeysApart a) : a.Nodup := h.imp fun {a b} hne e => hne (by rw [e])
theorem apart_ext {a b : List Ent} (ha : KeysApart a) (hb : KeysApart b) (h : ∀ k, efind a k = efind b k) : a.Perm b := by
  refine (List.perm_ext_iff_of_nodup (apart_nodup ha) (apart_nodup hb)).2 fun x => ⟨fun hx => ?_, fun hx => ?_⟩
  · have h1 := efind_mem ha hx
    rw [h] at h1
    exact (efind_some h1).1
  · have h1 := efind_mem hb hx
    rw [← h] at h1
    exact (efind_some h1).1
theorem efind_add (m : List Ent) (x : Ent) (k : ByteArray) : efind (mixAdd m x) k = (efind m k).or (efind [x] k) := by
  unfold mixAdd
  split
  · exact efind_app _ _ _
  · rename_i hf
    rw [efind_cons, efind_nil]
    by_cases e : x.key = k
    · rw [if_pos e]
      cases hx : efind m k with
      | some y => rfl
      | none =>
        refine absurd (fresh_iff.2 fun y hy e2 => ?_) hf
        exact efind_none.1 hx y hy (e2.trans e)
    · rw [if_neg e]; simp
theorem efind_fold : ∀ (l m : List Ent) (k : ByteArray), efind (l.foldl mixAdd m) k = (efind m k).or (efind l k)
  | [], m, k => by simp [efind_nil]
  | x :: l, m, k => by
    rw [List.foldl_cons, efind_fold l, efind_add, Option.or_assoc, ← efind_app]; rfl
theorem efind_mixed (ls : List (List Ent)) (k : ByteArray) : efind (mixed ls) k = efind ls.flatten k := by
  unfold mixed; rw [efind_fold, efind_nil]; rfl
theorem mixed_one {l : List Ent} (h : KeysApart l) : mixed [l] = l := by
  unfold mixed
  rw [show [l].flatten = l by simp, mixFold_new h (fun x _ y hy => absurd hy List.not_mem_nil), List.nil_append]
theorem mixFold_sub : ∀ (l m : List Ent), ∀ x ∈ l.foldl mixAdd m, x ∈ m ∨ x ∈ l
  | [], m, x, h => .inl h
  | y :: l, m, x, h => by
    rw [List.foldl_cons] at h
    rcases mixFold_sub l _ x h with h | h
    · unfold mixAdd at h
      split at h
      · rcases List.mem_append.1 h with h | h
        · exact .inl h
        · exact .inr (by rw [List.mem_singleton.1 h]; exact List.mem_cons_self)
      · exact .inl h
    · exact .inr (List.mem_cons_of_mem _ h)
theorem mixed_sub (ls : List (List Ent)) : ∀ x ∈ mixed ls, x ∈ ls.flatten := fun x h => by
  rcases mixFold_sub _ _ x h with h | h
  · cases h
  · exact h
/-- Sorted and apart: they rise. -/
theorem rises_of {q : List Ent} (ha : KeysApart q) (hs : q.Pairwise (fun a b => ltOf entCf b a = false)) : Rises q := by
  unfold Rises
  unfold KeysApart at ha
  induction q with
  | nil => exact .nil
  | cons x q ih =>
    have h1 := List.pairwise_cons.1 hs
    have h2 := List.pairwise_cons.1 ha
    refine List.pairwise_cons.2 ⟨fun y hy => ?_, ih h2.2 h1.2⟩
    have h3 := h1.1 y hy
    rw [entLt] at h3
    cases h4 : kLt x.key y.key with
    | true => rfl
    | false => exact absurd (kLt_tri h4 h3) (h2.1 y hy)
/-! ### A store -/
abbrev EMap := List (ByteArray × Ent)
def evals (F : EMap) : List Ent := F.map (·.2)
def EKeyed (F : EMap) : Prop := (kkeys F).Nodup ∧ ∀ p ∈ F, p.2.key = p.1
theorem EKeyed.apart {F : EMap} (h : EKeyed F) : KeysApart (evals F) := by
  obtain ⟨h1, h2⟩ := h
  unfold KeysApart evals
  unfold kkeys at h1
  rw [List.Nodup, List.pairwise_map] at h1
  rw [List.pairwise_map]
  exact h1.imp_of_mem fun {a b} ha hb hab e => hab (by rw [← h2 a ha, ← h2 b hb]; exact e)
theorem EKeyed.nil : EKeyed [] := ⟨List.nodup_nil, nofun⟩
theorem kset_mem {α : Type} {F : List (ByteArray × α)} {k : ByteArray} {e : α} : ∀ p ∈ kset F k e, p = (k, e) ∨ p ∈ F := by
  intro p hp
  induction F with
  | nil => exact .inl (List.mem_singleton.1 hp)
  | cons q r ih =>
    simp only [kset] at hp
    by_cases h : q.1 = k
    · rw [if_pos h] at hp
      rcases List.mem_cons.1 hp with h | h
      · exact .inl h
      · exact .inr (List.mem_cons_of_mem _ h)
    · rw [if_neg h] at hp
      rcases List.mem_cons.1 hp with h | h
      · exact .inr (by rw [h]; exact List.mem_cons_self)
      · exact (ih h).imp id (List.mem_cons_of_mem _)
theorem EKeyed.set {F : EMap} (h : EKeyed F) (e : Ent) : EKeyed (kset F e.key e) := by
  refine ⟨kset_nodup h.1 _ _, fun p hp => ?_⟩
  rcases kset_mem p hp with rfl | hp
  · rfl
  · exact h.2 p hp
theorem efind_vals {F : EMap} (h : ∀ p ∈ F, p.2.key = p.1) (k : ByteArray) : efind (evals F) k = kget F k := by
  induction F with
  | nil => rfl
  | cons p r ih =>
    unfold evals at ih ⊢
    rw [List.map_cons, efind_cons]
    simp only [kget]
    rw [h p List.mem_cons_self, ih fun q hq => h q (List.mem_cons_of_mem _ hq)]
theorem efind_set {F : EMap} (h : EKeyed F) (e : Ent) (k : ByteArray) : efind (evals (kset F e.key e)) k = if k = e.key then some e else efind (evals F) k := by
  rw [efind_vals (h.set e).2, kget_kset, efind_vals h.2]
/-- What is found. -/
def view (F : EMap) (L : List (List Ent)) (k : ByteArray) : Option Ent := efind (evals F ++ L.flatten) k
/-- All entries. -/
def allOf (F : EMap) (L : List (List Ent)) : List Ent := mixed (evals F :: L)
theorem view_all (F : EMap) (L : List (List Ent)) (k : ByteArray) : efind (allOf F L) k = view F L k := by
  unfold allOf; rw [efind_mixed]; rfl
theorem all_apart (F : EMap) (L : List (List Ent)) : KeysApart (allOf F L) := mixed_apart _
structure LsmOk (limit : Nat) (F : EMap) (L : List (List Ent)) : Prop where
  keyed : EKeyed F
  ents : ∀ e ∈ evals F ++ L.flatten, entOk e
  rise : ∀ l ∈ L, TabOk l ∧ l ≠ []
  many : (allOf F L).length ≤ 400
  less : F.length < limit
theorem view_put {F : EMap} (h : EKeyed F) (L : List (List Ent)) (e : Ent) (k : ByteArray) : view (kset F e.key e) L k = if k = e.key then some e else view F L k := by
  unfold view
  rw [efind_app, efind_app, efind_set h]
  by_cases hk : k = e.key
  · rw [if_pos hk, if_pos hk]; rfl
  · rw [if_neg hk, if_neg hk]
/-- Lists that hold the same keys hold as many. -/
theorem apart_len {a b : List Ent} (ha : KeysApart a) (h : ∀ x ∈ a, ∃ y ∈ b, y.key = x.key) : a.length ≤ b.length := by
  induction a generalizing b with
  | nil => simp
  | cons x a ih =>
    have h1 := List.pairwise_cons.1 ha
    obtain ⟨y, hy, hk⟩ := h x List.mem_cons_self
    obtain ⟨b1, b2, rfl⟩ := List.append_of_mem hy
    have := ih (b := b1 ++ b2) h1.2 fun z hz => by
      obtain ⟨u, hu, huk⟩ := h z (List.mem_cons_of_mem _ hz)
      refine ⟨u, ?_, huk⟩
      rcases List.mem_append.1 hu with hu | hu
      · exact List.mem_append_left _ hu
      · rcases List.mem_cons.1 hu with rfl | hu
        · exact absurd (hk.symm.trans huk) (h1.1 z hz)
        · exact List.mem_append_right _ hu
    simp only [List.length_cons, List.length_append] at this ⊢
    omega
theorem all_len_le {F F' : EMap} {L L' : List (List Ent)} (h : ∀ k e, view F' L' k = some e → view F L k ≠ none) : (allOf F' L').length ≤ (allOf F L).length := by
  refine apart_len (all_apart _ _) fun x hx => ?_
  have h1 := efind_mem (all_apart _ _) hx
  rw [view_all] at h1
  have h2 := h _ _ h1
  rw [← view_all] at h2
  cases h3 : efind (allOf F L) x.key with
  | none => exact absurd h3 h2
  | some y => exact ⟨y, efind_some h3⟩
theorem vals_len (F : EMap) : (evals F).length = F.length := by unfold evals; rw [List.length_map]
theorem fresh_len {F : EMap} (h : EKeyed F) (L : List (List Ent)) : F.length ≤ (allOf F L).length := by
  rw [← vals_len]
  refine apart_len h.apart fun x hx => ?_
  have h1 : view F L x.key = some x := by unfold view; rw [efind_app, efind_mem h.apart hx]; rfl
  rw [← view_all] at h1
  exact ⟨x, efind_some h1⟩
/-- What is put. -/
theorem put_many {F : EMap} {L : List (List Ent)} (h : EKeyed F) (e : Ent) (hm : (allOf F L).length ≤ 400) (hf : efind (allOf F L) e.key ≠ none ∨ (allOf F L).length < 400) : (allOf (kset F e.key e) L).length ≤ 400 := by
  have hv := view_put h L e
  by_cases h0 : efind (allOf F L) e.key = none
  · have h1 : (allOf F L).length < 400 := hf.resolve_left (fun h => h h0)
    have : (allOf (kset F e.key e) L).length ≤ (e :: allOf F L).length := by
      refine apart_len (all_apart _ _) fun x hx => ?_
      have h1 := efind_mem (all_apart _ _) hx
      rw [view_all, hv] at h1
      by_cases hk : x.key = e.key
      · exact ⟨e, List.mem_cons_self, hk.symm⟩
      · rw [if_neg hk, ← view_all] at h1
        exact ⟨x, List.mem_cons_of_mem _ (efind_some h1).1, rfl⟩
    rw [List.length_cons] at this
    omega
  · refine Nat.le_trans (all_len_le fun k x hx => ?_) hm
    rw [hv] at hx
    by_cases hk : k = e.key
    · rw [hk, ← view_all]; exact h0
    · rw [if_neg hk] at hx; rw [hx]; simp
theorem put_ents {F : EMap} {L : List (List Ent)} {e : Ent} (h : ∀ x ∈ evals F ++ L.flatten, entOk x) (he : entOk e) : ∀ x ∈ evals (kset F e.key e) ++ L.flatten, entOk x := fun x hx => by
  rcases List.mem_append.1 hx with hx | hx
  · obtain ⟨p, hp, rfl⟩ := List.mem_map.1 hx
    rcases kset_mem p hp with rfl | hp
    · exact he
    · exact h _ (List.mem_append_left _ (List.mem_map.2 ⟨p, hp, rfl⟩))
  · exact h x (List.mem_append_right _ hx)
/-- What is flushed: a list of the fresh ones, ahead. -/
theorem view_flush {F : EMap} (h : EKeyed F) (L : List (List Ent)) {n : List Ent} (hp : n.Perm (evals F)) (k : ByteArray) : view [] (n :: L) k = view F L k := by
  unfold view
  rw [List.flatten_cons]
  show efind (n ++ L.flatten) k = _
  rw [efind_app, efind_app, efind_perm hp h.apart]
theorem flush_ok {limit : Nat} {F : EMap} {L : List (List Ent)} (h : EKeyed F) (he : ∀ x ∈ evals F ++ L.flatten, entOk x) (hr : ∀ l ∈ L, TabOk l ∧ l ≠ []) (hm : (allOf F L).length ≤ 400) (hl : 0 < limit) {n : List Ent} (hp : n.Perm (evals F)) (hs : n.Pairwise (fun a b => ltOf entCf b a = false)) (h0 : n ≠ []) : TabOk n ∧ LsmOk limit [] (n :: L) := by
  have ht : TabOk n := by
    refine ⟨?_, fun x hx => he x (List.mem_append_left _ (hp.mem_iff.1 hx)), rises_of (apart_perm hp h.apart) hs⟩
    rw [hp.length_eq, vals_len]
    exact Nat.le_trans (fresh_len h L) hm
  refine ⟨ht, .nil, fun x hx => ?_, fun l hl => ?_, ?_, hl⟩
  · rcases List.mem_append.1 hx with hx | hx
    · cases hx
    · rw [List.flatten_cons] at hx
      rcases List.mem_append.1 hx with hx | hx
      · exact ht.2.1 x hx
      · exact he x (List.mem_append_right _ hx)
  · rcases List.mem_cons.1 hl with rfl | hl
    · exact ⟨ht, h0⟩
    · exact hr l hl
  · refine Nat.le_trans (all_len_le fun k x hx => ?_) hm
    rw [view_flush h L hp] at hx; rw [hx]; simp
/-- What is compacted where nothing is dead: one list of all. -/
theorem view_compact {F : EMap} {L : List (List Ent)} {a : List Ent} (hp : a.Perm (allOf F L)) (k : ByteArray) : view [] (if a = [] then [] else [a]) k = view F L k := by
  rw [← view_all F L, ← efind_perm hp (all_apart _ _)]
  unfold view
  split
  · rename_i h; subst h; rfl
  · show efind ([] ++ [a].flatten) k = _
    simp
theorem compact_ok {limit : Nat} {F : EMap} {L : List (List Ent)} (h : LsmOk limit F L) {a : List Ent} (hp : a.Perm (allOf F L)) (hs : a.Pairwise (fun a b => ltOf entCf b a = false)) : TabOk a ∧ LsmOk limit [] (if a = [] then [] else [a]) := by
  have ht : TabOk a := ⟨by rw [hp.length_eq]; exact h.many, fun x hx => h.ents x (by have := mixed_sub _ x (hp.mem_iff.1 hx); rwa [List.flatten_cons] at this), rises_of (apart_perm hp (all_apart _ _)) hs⟩
  have hlim : 0 < limit := Nat.lt_of_le_of_lt (Nat.zero_le _) h.less
  refine ⟨ht, .nil, fun x hx => ?_, fun l hl => ?_, ?_, hlim⟩
  · rcases List.mem_append.1 hx with hx | hx
    · cases hx
    · split at hx
      · cases hx
      · simp at hx; exact ht.2.1 x hx
  · split at hl
    · cases hl
    · rename_i h0; rw [List.mem_singleton.1 hl]; exact ⟨ht, h0⟩
  · refine Nat.le_trans (all_len_le fun k x hx => ?_) h.many
    rw [view_compact hp] at hx; rw [hx]; simp
end Go.Proofs.YthobnigjhedjaaaDoor
