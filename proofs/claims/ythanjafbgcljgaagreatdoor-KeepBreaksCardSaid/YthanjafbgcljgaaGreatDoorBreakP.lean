/-
  Plain part of KeepBreaks: what files a disk has, whatever breaks. No condition: definitions and lemmas.
-/
import Derived.Test.YthanjafbgcljgaaGreatDoorPlainIds
import Derived.Test.YthanjafbgcljgaaGreatDoorClean
namespace Go.Proofs.YthanjafbgcljgaaGreatDoor
open Go.RowKit Go.Shelf
set_option linter.unusedVariables false

def rems (T : List ByteArray) : List DOp := T.map .rem
theorem mem_rems : ∀ (T : List ByteArray) (fs : SMap) (p : ByteArray × Value), p ∈ runOps fs (rems T) ↔ p ∈ fs ∧ p.1 ∉ T
  | [], fs, p => by simp [rems, runOps]
  | x :: T, fs, p => by
    have h := mem_rems T (fdel fs x) p
    have e : runOps fs (rems (x :: T)) = runOps (fdel fs x) (rems T) := rfl
    rw [e, h]
    unfold fdel
    rw [List.mem_filter, List.mem_cons]
    constructor
    · rintro ⟨⟨h1, h2⟩, h3⟩
      exact ⟨h1, fun h => h.elim (fun e => of_decide_eq_true h2 e) h3⟩
    · rintro ⟨h1, h2⟩
      exact ⟨⟨h1, decide_eq_true fun e => h2 (.inl e)⟩, fun h => h2 (.inr h)⟩
theorem rems_snoc (T : List ByteArray) (x : ByteArray) : rems (T ++ [x]) = rems T ++ [.rem x] := by simp [rems]
theorem rems_take (T : List ByteArray) (m : Nat) : (rems T).take m = rems (T.take m) := by simp [rems, List.map_take]
theorem rems_len : ∀ (T : List ByteArray) (fs : SMap), (runOps fs (rems T)).length ≤ fs.length
  | [], fs => Nat.le_refl _
  | x :: T, fs => Nat.le_trans (rems_len T (fdel fs x)) (List.length_filter_le _ _)
theorem fset_has {fs : SMap} {k : ByteArray} {v : Value} : (k, v) ∈ fset fs k v := by
  induction fs with
  | nil => exact List.mem_singleton.2 rfl
  | cons p r ih =>
    simp only [fset]
    by_cases e : p.1 = k
    · rw [if_pos e]; exact List.mem_cons_self
    · rw [if_neg e]; exact List.mem_cons_of_mem _ ih
theorem fset_old {fs : SMap} {k : ByteArray} {v : Value} {p : ByteArray × Value} (h : p ∈ fs) (hk : p.1 ≠ k) : p ∈ fset fs k v := by
  induction fs with
  | nil => cases h
  | cons q r ih =>
    simp only [fset]
    by_cases e : q.1 = k
    · rw [if_pos e]
      rcases List.mem_cons.1 h with rfl | h
      · exact absurd e hk
      · exact List.mem_cons_of_mem _ h
    · rw [if_neg e]
      rcases List.mem_cons.1 h with rfl | h
      · exact List.mem_cons_self
      · exact List.mem_cons_of_mem _ (ih h)
theorem fset_len (fs : SMap) (k : ByteArray) (v : Value) : (fset fs k v).length ≤ fs.length + 1 := by
  induction fs with
  | nil => simp [fset]
  | cons q r ih =>
    simp only [fset]
    by_cases e : q.1 = k
    · rw [if_pos e]; simp
    · rw [if_neg e]; simp; exact ih
/-- Each file is half one, or a picture as it was given; one is no lesser than the greatest that was saved. -/
structure FilesAt (w : World) (fs : SMap) (safe given : Int) (pic : Int → List UInt8) : Prop where
  pics : ∀ p ∈ fs, (p.1 = halfN ∧ ∃ x, BlobAt w p.2 (sealB x) ∧ (sealB x).length ≤ 60000) ∨ ∃ id, Good id ∧ id ≤ given ∧ p.1 = picN id ∧ BlobAt w p.2 (sealB (pic id))
  has : 0 < safe → ∃ id, safe ≤ id ∧ Good id ∧ picN id ∈ skeys fs
  lens : ∀ id, Good id → (sealB (pic id)).length ≤ 60000
section
variable {w w' : World} {fs : SMap} {safe given : Int} {pic : Int → List UInt8}
theorem FilesAt.qk (h : FilesAt w fs safe given pic) (hq : QKeep w w') : FilesAt w' fs safe given pic :=
  ⟨fun p hp => (h.pics p hp).imp (fun ⟨h1, x, h2, h3⟩ => ⟨h1, x, h2.qk hq, h3⟩) (fun ⟨id, h1, h2, h3, h4⟩ => ⟨id, h1, h2, h3, h4.qk hq⟩), h.has, h.lens⟩
theorem FilesAt.below (h : FilesAt w fs safe given pic) (hb : Below w.heap.size w w') : FilesAt w' fs safe given pic := h.qk (QKeep.below hb)
theorem FilesAt.all (h : FilesAt w fs safe given pic) : Pics w fs := fun p hp => by
  rcases h.pics p hp with ⟨h1, h2⟩ | ⟨id, h1, h2, h3, h4⟩
  · exact ⟨.inl h1, h2⟩
  · exact ⟨.inr ⟨id, h1, h3⟩, _, h4, h.lens id h1⟩
theorem FilesAt.more (h : FilesAt w fs safe given pic) {g : Int} (hg : given ≤ g) : FilesAt w fs safe g pic :=
  ⟨fun p hp => (h.pics p hp).imp id (fun ⟨id, h1, h2, h3⟩ => ⟨id, h1, by omega, h3⟩), h.has, h.lens⟩
theorem FilesAt.half (h : FilesAt w fs safe given pic) {v : Value} {x : List UInt8} (hv : BlobAt w v (sealB x)) (hx : (sealB x).length ≤ 60000) : FilesAt w (fset fs halfN v) safe given pic := by
  refine ⟨fun p hp => ?_, fun hs => ?_, h.lens⟩
  · rcases mem_fset hp with rfl | hp
    · exact .inl ⟨rfl, x, hv, hx⟩
    · exact h.pics p hp
  · obtain ⟨id, h1, h2, h3⟩ := h.has hs
    obtain ⟨p, hp, e⟩ := List.mem_map.1 h3
    exact ⟨id, h1, h2, List.mem_map.2 ⟨p, fset_old hp (by rw [e]; exact pic_half id), e⟩⟩
theorem FilesAt.saved (h : FilesAt w fs safe given pic) {k : Int} (hk : Good k) (hgk : given ≤ k) {v : Value} (hv : BlobAt w v (sealB (pic k))) {s : Int} (hs : s = safe ∨ s = k) :
    FilesAt w ((DOp.ren halfN (picN k)).run (fset fs halfN v)) s k pic := by
  have e : fgetD zB (fset fs halfN v) halfN = v := by
    by_cases hm : halfN ∈ skeys fs
    · obtain ⟨a, u, b, rfl, ha⟩ := split_key hm
      rw [fset_split ha, fgetD_split _ ha]
    · rw [fset_none hm, fgetD_split _ hm]
  have e2 : (DOp.ren halfN (picN k)).run (fset fs halfN v) = fset (fdel (fset fs halfN v) halfN) (picN k) v := by
    show fset _ _ _ = _
    rw [e]
  rw [e2]
  refine ⟨fun p hp => ?_, fun h0 => ?_, h.lens⟩
  · rcases mem_fset hp with rfl | hp
    · exact .inr ⟨k, hk, Int.le_refl _, rfl, hv⟩
    · have hn : p.1 ≠ halfN := of_decide_eq_true (List.mem_filter.1 hp).2
      rcases mem_fset (mem_fdel hp) with rfl | hp
      · exact absurd rfl hn
      · exact (h.pics p hp).imp id (fun ⟨id, h1, h2, h3⟩ => ⟨id, h1, by omega, h3⟩)
  · rcases hs with rfl | rfl
    · obtain ⟨id, h1, h2, h3⟩ := h.has h0
      obtain ⟨p, hp, e⟩ := List.mem_map.1 h3
      by_cases hidk : picN id = picN k
      · exact ⟨id, h1, h2, by rw [hidk]; exact List.mem_map.2 ⟨_, fset_has, rfl⟩⟩
      · have h4 : p ∈ fset fs halfN v := fset_old hp (by rw [e]; exact pic_half id)
        have h5 : p ∈ fdel (fset fs halfN v) halfN := List.mem_filter.2 ⟨h4, decide_eq_true (by rw [e]; exact pic_half id)⟩
        exact ⟨id, h1, h2, List.mem_map.2 ⟨p, fset_old h5 (by rw [e]; exact hidk), e⟩⟩
    · exact ⟨s, Int.le_refl _, hk, List.mem_map.2 ⟨_, fset_has, rfl⟩⟩
theorem ids_has (h : FilesAt w fs safe given pic) {id : Int} : id ∈ idsOf fs ↔ Good id ∧ picN id ∈ skeys fs := by
  constructor
  · intro hi
    obtain ⟨h1, h2⟩ := ids_mem h.all hi
    exact ⟨h1, fhas_iff.1 h2⟩
  · rintro ⟨h1, h2⟩
    exact (has_ids h.all h1).1 (fhas_iff.2 h2)
theorem FilesAt.ids_le (h : FilesAt w fs safe given pic) {id : Int} (hi : id ∈ idsOf fs) : id ≤ given := by
  obtain ⟨h1, h2⟩ := (ids_has h).1 hi
  obtain ⟨p, hp, e⟩ := List.mem_map.1 h2
  rcases h.pics p hp with ⟨h3, _⟩ | ⟨j, h3, h4, h5, _⟩
  · exact absurd (e.symm.trans h3) (pic_half id)
  · have := picN_inj (by have := h1.1; omega) (by have := h3.1; omega) (e.symm.trans h5)
    omega
theorem FilesAt.blob (h : FilesAt w fs safe given pic) (hn : (skeys fs).Nodup) {id : Int} (hi : id ∈ idsOf fs) : BlobAt w (fgetD zB fs (picN id)) (sealB (pic id)) ∧ (sealB (pic id)).length ≤ 60000 := by
  obtain ⟨h1, h2⟩ := (ids_has h).1 hi
  obtain ⟨p, hp, e⟩ := List.mem_map.1 h2
  refine ⟨?_, h.lens id h1⟩
  rw [← e, fgetD_mem zB hn (show (p.1, p.2) ∈ fs from hp)]
  rcases h.pics p hp with ⟨h3, _⟩ | ⟨j, h3, h4, h5, h6⟩
  · exact absurd (e.symm.trans h3) (pic_half id)
  · have := picN_inj (by have := h1.1; omega) (by have := h3.1; omega) (e.symm.trans h5)
    rw [this]; exact h6
/-- What is cleaned away is none of those that stay. -/
theorem FilesAt.cleaned (h : FilesAt w fs safe given pic) {zs : List Int} {F : Nat} {T : List ByteArray} (hp : zs.Perm (idsOf fs)) (hs : zs.Pairwise (· ≤ ·)) (hF : 0 < zs.length → F < zs.length) (hT : ∀ x ∈ T, memB (stayN zs F) x = false) : FilesAt w (runOps fs (rems T)) safe given pic := by
  refine ⟨fun p hp => h.pics p ((mem_rems T fs p).1 hp).1, fun h0 => ?_, h.lens⟩
  obtain ⟨id, h1, h2, h3⟩ := h.has h0
  have hi : id ∈ zs := hp.mem_iff.2 ((ids_has h).2 ⟨h2, h3⟩)
  have hl : 0 < zs.length := List.length_pos_iff.2 (List.ne_nil_of_mem hi)
  have hl1 : zs.length - 1 < zs.length := by omega
  have hm : zs[zs.length - 1] ∈ idsOf fs := hp.mem_iff.1 (List.getElem_mem hl1)
  obtain ⟨h4, h5⟩ := (ids_has h).1 hm
  have hmax := last_max hs (List.ne_nil_of_mem hi) hl1 id hi
  refine ⟨zs[zs.length - 1], by omega, h4, ?_⟩
  obtain ⟨p, hpp, e⟩ := List.mem_map.1 h5
  refine List.mem_map.2 ⟨p, (mem_rems T fs p).2 ⟨hpp, fun ht => ?_⟩, e⟩
  have hno := hT _ ht
  rw [e] at hno
  refine memB_no.1 hno (List.mem_map.2 ⟨zs[zs.length - 1], ?_, rfl⟩)
  have hFl := hF hl
  refine List.mem_iff_getElem.2 ⟨zs.length - 1 - F, by rw [List.length_drop]; omega, ?_⟩
  rw [List.getElem_drop]
  congr 1
  omega
end
end Go.Proofs.YthanjafbgcljgaaGreatDoor
