/-
  For KeepPlain's end: the pictures that stay where some names are taken away, plain; List and Latest of a disk whose pictures are known. Condition: the table of powers of ten reads as the library's text lays it.
-/
import Derived.Test.YtapabhglcdikeaaGreatDoorPlainBits
import Derived.Test.YtapabhglcdikeaaGreatDoorLatest
namespace Go.Proofs.YtapabhglcdikeaaGreatDoor
open Go.RowKit Go.Shelf
set_option linter.unusedVariables false

theorem mem_stay {zs : List Int} {F : Nat} {id : Int} (hg : ∀ x ∈ zs, Good x) (hG : Good id) : memB (stayN zs F) (picN id) = decide (id ∈ zs.drop F) := by
  rw [Bool.eq_iff_iff, memB_iff, decide_eq_true_iff]
  unfold stayN
  rw [List.mem_map]
  constructor
  · rintro ⟨j, hj, e⟩
    have hgj := hg j (List.mem_of_mem_drop hj)
    rw [← picN_inj (by have := hgj.1; omega) (by have := hG.1; omega) e]; exact hj
  · intro h; exact ⟨id, h, rfl⟩
theorem pics_key {w : World} {fs : SMap} (hP : Pics w fs) (hh : fhas fs halfN = false) : ∀ p ∈ fs, ∃ id, Good id ∧ p.1 = picN id := fun p hp => by
  rcases (hP p hp).1 with e | ⟨id, hG, e⟩
  · exact absurd (List.mem_map.2 ⟨p, hp, e⟩) (fhas_not hh)
  · exact ⟨id, hG, e⟩
theorem idsOf_filter {fs : SMap} (key : ∀ p ∈ fs, ∃ id, Good id ∧ p.1 = picN id) (f : ByteArray → Bool) : idsOf (fs.filter fun p => f p.1) = (idsOf fs).filter fun id => f (picN id) := by
  induction fs with
  | nil => rfl
  | cons p r ih =>
    obtain ⟨id, hG, e⟩ := key p List.mem_cons_self
    have ih2 := ih fun q hq => key q (List.mem_cons_of_mem _ hq)
    have h1 : ∀ r : SMap, idsOf (p :: r) = id :: idsOf r := fun r => by simp [idsOf, skeys, e, idOf_pic hG]
    rw [h1, List.filter_cons, List.filter_cons, ← e]
    cases hf : f p.1 with
    | true => simp only [if_true]; rw [h1, ih2]
    | false => simp only [Bool.false_eq_true, if_false]; rw [ih2]
theorem filter_drop {zs : List Int} (h : zs.Nodup) (F : Nat) : (zs.filter fun x => decide (x ∈ zs.drop F)) = zs.drop F := by
  have e : zs = zs.take F ++ zs.drop F := (List.take_append_drop F zs).symm
  generalize zs.take F = a at e
  generalize zs.drop F = b at e ⊢
  subst e
  rw [List.filter_append]
  have h1 : (a.filter fun x => decide (x ∈ b)) = [] := List.filter_eq_nil_iff.2 fun x hx hb => (List.nodup_append.1 h).2.2 x hx x (of_decide_eq_true hb) rfl
  have h2 : (b.filter fun x => decide (x ∈ b)) = b := List.filter_eq_self.2 fun x hx => decide_eq_true hx
  rw [h1, h2]; rfl
theorem ids_keep {w : World} {fs : SMap} {zs : List Int} (F : Nat) (hP : Pics w fs) (hh : fhas fs halfN = false) (hp : (idsOf fs).Perm zs) (hs : zs.Pairwise (· < ·)) : (idsOf (keepF fs (stayN zs F))).Perm (zs.drop F) := by
  unfold keepF
  rw [idsOf_filter (pics_key hP hh) (memB (stayN zs F))]
  have hg : ∀ x ∈ zs, Good x := fun x hx => (ids_mem hP (hp.mem_iff.2 hx)).1
  have h1 : ((idsOf fs).filter fun id => memB (stayN zs F) (picN id)) = (idsOf fs).filter fun id => decide (id ∈ zs.drop F) :=
    List.filter_congr fun id hid => mem_stay hg (hg id (hp.mem_iff.1 hid))
  rw [h1]
  have h2 := hp.filter fun id => decide (id ∈ zs.drop F)
  rw [filter_drop (hs.imp fun {a b} h e => by omega) F] at h2
  exact h2
theorem pics_keep {w : World} {fs : SMap} {stay : List ByteArray} (hP : Pics w fs) : Pics w (keepF fs stay) := fun p hp => hP p ((List.mem_filter.1 hp).1)
theorem half_keep {fs : SMap} {stay : List ByteArray} (h : fhas fs halfN = false) : fhas (keepF fs stay) halfN = false := by
  cases e : fhas (keepF fs stay) halfN with
  | false => rfl
  | true =>
    obtain ⟨p, hp, e2⟩ := List.mem_map.1 (fhas_iff.1 e)
    exact absurd (List.mem_map.2 ⟨p, (List.mem_filter.1 hp).1, e2⟩) (fhas_not h)
theorem pic_blob_ {w : World} {fs : SMap} (hn : (skeys fs).Nodup) (hP : Pics w fs) {id : Int} (hG : Good id) (h : fhas fs (picN id) = true) : ∃ x, BlobAt w (fgetD zB fs (picN id)) (sealB x) ∧ (sealB x).length ≤ 60000 := by
  obtain ⟨p, hp, e⟩ := List.mem_map.1 (fhas_iff.1 h)
  obtain ⟨_, x, h1, h2⟩ := hP p hp
  refine ⟨x, ?_, h2⟩
  rw [← e, fgetD_mem zB hn (show (p.1, p.2) ∈ fs from hp)]
  exact h1
/-- A disk whose pictures are zs. -/
structure Has (w0 w : World) (g : Nat) (S : DState) (zs : List Int) : Prop where
  disk : DiskIn w0 w g S
  pics : Pics w S.now
  half : fhas S.now halfN = false
  ids : (idsOf S.now).Perm zs
  sorted : zs.Pairwise (· < ·)
  few : zs.length ≤ 1000
theorem Has.below {w0 w w' : World} {g : Nat} {S : DState} {zs : List Int} (h : Has w0 w g S zs) (hb : Below w.heap.size w w') : Has w0 w' g S zs :=
  ⟨h.disk.below hb, h.pics.qk (QKeep.below hb), h.half, h.ids, h.sorted, h.few⟩
theorem Has.len {w0 w : World} {g : Nat} {S : DState} {zs : List Int} (h : Has w0 w g S zs) : S.now.length = zs.length := by rw [← ids_full h.pics h.half, h.ids.length_eq]
theorem Has.good {w0 w : World} {g : Nat} {S : DState} {zs : List Int} (h : Has w0 w g S zs) : ∀ x ∈ zs, Good x := fun x hx => (ids_mem h.pics (h.ids.mem_iff.2 hx)).1
theorem list_plain (w0 : World) (g : Nat) (S : DState) (zs : List Int) (w : World) (h : Has w0 w g S zs) (hT : PowTab w0) :
    Calls Tryz.prog 13 #[.pointer (some ⟨g, 0, none⟩)] w fun e w' => ∃ A c, e = .returned (.slice A zs.length c) ∧ SlA (intE .i64) (Quiet w') w' A c zs ∧ Below w.heap.size w w' := by
  refine (klist_ok w0 g S w h.disk hT h.pics (fun h2 => by rw [h.half] at h2; cases h2) (by rw [h.len]; have := h.few; omega)).mono ?_
  rintro e w9 ⟨zs9, v9, rfl, hr9, hp9, hs9, hb9⟩
  have hzs9 : zs9 = zs := same_sorted (hp9.trans h.ids) hs9 h.sorted
  rw [hzs9] at hr9
  obtain ⟨A9, c9, rfl, hsl9⟩ := row_ints hr9 (fun x hx => (h.good x hx).i64)
  exact ⟨A9, c9, rfl, hsl9, hb9⟩
theorem latest_plain (w0 : World) (g : Nat) (S : DState) (zs : List Int) (w : World) (h : Has w0 w g S zs) (hT : PowTab w0) :
    Calls Tryz.prog 7 #[.pointer (some ⟨g, 0, none⟩)] w fun e w' => ((zs = [] ∧ e = .returned (.tuple #[.int .i64 0, .slice none 0 0, .iface 48 (.int .i64 6)])) ∨
      (0 < zs.length ∧ ∃ id A n c, e = .returned (.tuple #[.int .i64 id, .slice A n c, .nilIface]))) ∧ Below w.heap.size w w' := by
  obtain ⟨pic, hpic⟩ : ∃ pic : Int → List UInt8, ∀ j ∈ idsOf S.now, BlobAt w (fgetD zB S.now (picN j)) (sealB (pic j)) ∧ (sealB (pic j)).length ≤ 60000 := by
    have hex : ∀ j, ∃ x : List UInt8, j ∈ idsOf S.now → BlobAt w (fgetD zB S.now (picN j)) (sealB x) ∧ (sealB x).length ≤ 60000 := fun j => by
      by_cases hj : j ∈ idsOf S.now
      · have hm := ids_mem h.pics hj
        obtain ⟨x, hx1, hx2⟩ := pic_blob_ h.disk.nodup h.pics hm.1 hm.2
        exact ⟨x, fun _ => ⟨hx1, hx2⟩⟩
      · exact ⟨[], fun h => absurd h hj⟩
    obtain ⟨f, hf⟩ := Classical.axiomOfChoice hex
    exact ⟨f, hf⟩
  refine (klatest_ok w0 g S pic w h.disk hT h.pics (fun h2 => by rw [h.half] at h2; cases h2) (by rw [h.len]; have := h.few; omega) hpic).mono ?_
  rintro e w' ⟨hor, hb⟩
  refine ⟨?_, hb⟩
  rcases hor with ⟨h0, he⟩ | ⟨kk, A12, c12, hkk, hmax, he, hs12⟩
  · left
    refine ⟨?_, he⟩
    have hp := h.ids
    rw [h0] at hp
    exact (List.perm_nil.1 hp.symm)
  · right
    exact ⟨List.length_pos_of_mem (h.ids.mem_iff.1 hkk), kk, _, _, _, he⟩
end Go.Proofs.YtapabhglcdikeaaGreatDoor
