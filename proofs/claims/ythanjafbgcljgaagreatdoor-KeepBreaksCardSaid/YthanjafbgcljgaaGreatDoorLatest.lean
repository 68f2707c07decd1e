/-
  Package keep: the contract of Latest. Conditions: those of List; what each picture holds.
-/
import Derived.Test.YthanjafbgcljgaaGreatDoorKeepList
namespace Go.Proofs.YthanjafbgcljgaaGreatDoor
open Go.RowKit Go.Shelf
set_option linter.unusedVariables false

theorem ids_mem {w : World} {fs : SMap} (hP : Pics w fs) {id : Int} (h : id ∈ idsOf fs) : Good id ∧ fhas fs (picN id) = true := by
  obtain ⟨n, hn, hi⟩ := List.mem_filterMap.1 h
  obtain ⟨p, hp, rfl⟩ := List.mem_map.1 hn
  rcases (hP p hp).1 with e | ⟨j, hj, e⟩
  · rw [e, idOf_half] at hi; cases hi
  · rw [e, idOf_pic hj] at hi
    injection hi with hi; subst hi
    exact ⟨hj, fhas_iff.2 (e ▸ hn)⟩
theorem ints_cell {w : World} {base : Nat} {v : Value} {zs : List Int} (h : w.ownsRow base 3 1 v zs.length (ints zs)) (h0 : zs ≠ []) : ∃ g cap, v = .slice (some ⟨g, 0, none⟩) zs.length cap ∧ ∀ i (hi : i < zs.length), w.cell? ⟨g, i, none⟩ = some (.int .i64 zs[i]) := by
  rcases h.2 with ⟨_, h1⟩ | ⟨g, cap, cur, rfl, hb, hh, hnc, hcm, hcs, ht⟩
  · exact absurd (List.eq_nil_of_length_eq_zero (by simpa using h1)) h0
  · refine ⟨g, cap, rfl, fun i hi => (cell_of_row w g i cur _ (0, 0) hh).trans ?_⟩
    have h2 : (cur.toList.take (zs.length * 1))[i]? = (ints zs)[i]? := by rw [ht]
    rw [List.getElem?_take_of_lt (by omega), Array.getElem?_toList] at h2
    rw [h2]; simp [ints, hi]
theorem last_max {zs : List Int} (h : zs.Pairwise (· ≤ ·)) (h0 : zs ≠ []) (hl : zs.length - 1 < zs.length) : ∀ j ∈ zs, j ≤ zs[zs.length - 1] := by
  intro j hj
  obtain ⟨i, hi, rfl⟩ := List.mem_iff_getElem.1 hj
  by_cases e : i = zs.length - 1
  · subst e; exact Int.le_refl _
  · exact List.pairwise_iff_getElem.1 h i (zs.length - 1) hi hl (by omega)
set_option maxRecDepth 100000 in
set_option maxHeartbeats 4000000 in
theorem klatest_ok (w0 : World) (g : Nat) (S : DState) (pic : Int → List UInt8) (w : World) (D : DiskIn w0 w g S) (hT : PowTab w0) (hP : Pics w S.now) (hsy : fhas S.now halfN = true → SynVar w0) (hn : S.now.length ≤ 1000000000)
    (hpic : ∀ id ∈ idsOf S.now, BlobAt w (fgetD zB S.now (picN id)) (sealB (pic id)) ∧ (sealB (pic id)).length ≤ 60000) :
    Calls Tryz.prog 6 #[.pointer (some ⟨g, 0, none⟩)] w fun e w' => ((idsOf S.now = [] ∧ e = .returned (.tuple #[.int .i64 0, .slice none 0 0, .iface 45 (.int .i64 6)])) ∨
      ∃ id A c, id ∈ idsOf S.now ∧ (∀ j ∈ idsOf S.now, j ≤ id) ∧ e = .returned (.tuple #[.int .i64 id, .slice A (pic id).length c, .nilIface]) ∧ SlA bytE (· < w'.heap.size) w' A c (pic id)) ∧ Below w.heap.size w w' := by
  have HD := Lib.hid D
  have HP := Lib.hid hP
  have HPIC := Lib.hid hpic
  have HL := Lib.hid (klist_ok w0 g S w D hT hP hsy hn)
  clear D hP hpic hsy
  go_enter Tryz.func6, Tryz.ntmps6
  go_wp2_with fail
  refine HL.out.mono ?_
  rintro e w1 ⟨zs, v, rfl, hr1, hp1, hs1, hb1⟩
  by_cases h0 : zs = []
  · subst h0
    have hv : v = .slice none 0 0 ∨ ∃ g cap, v = .slice (some ⟨g, 0, none⟩) 0 cap := by
      rcases hr1.2 with ⟨h, _⟩ | ⟨g, cap, _, h, _⟩
      · exact .inl h
      · exact .inr ⟨g, cap, h⟩
    have HNIL : Hid (idsOf S.now = []) := hp1.nil_eq.symm
    have HB1 := Lib.hid hb1
    clear hr1 hp1 hs1 hb1
    rcases hv with rfl | ⟨g1, cap, rfl⟩
    all_goals
      go_wp2_with fail
      exact bodyPost_ret (v := .tuple #[.int .i64 0, .slice none 0 0, .iface 45 (.int .i64 6)]) (by simp [results, Tryz.results6, go_sem]) rfl ⟨.inl ⟨HNIL.out, rfl⟩, HB1.out⟩
  · obtain ⟨g1, cap, rfl, hc⟩ := ints_cell hr1 h0
    have hlen : 0 < zs.length := List.length_pos_iff.2 h0
    have hle : zs.length ≤ 1000000000 := by
      rw [hp1.length_eq]
      have h1 := List.length_filterMap_le idOf (skeys S.now)
      have h2 : (skeys S.now).length = S.now.length := by simp [skeys]
      unfold idsOf; omega
    have hl : zs.length - 1 < zs.length := by omega
    have hcl := hc (zs.length - 1) hl
    obtain ⟨id, hid⟩ : ∃ id, id = zs[zs.length - 1] := ⟨_, rfl⟩
    have hmem : id ∈ idsOf S.now := hp1.mem_iff.1 (by rw [hid]; exact List.getElem_mem hl)
    have HMAX : Hid (∀ j ∈ idsOf S.now, j ≤ id) := fun j hj => by rw [hid]; exact last_max hs1 h0 hl j (hp1.mem_iff.2 hj)
    rw [← hid] at hcl
    obtain ⟨hG, hfh⟩ := ids_mem HP.out hmem
    obtain ⟨hbl, hbn⟩ := HPIC.out id hmem
    have hhas : hasE S (picN id) = none := by simp [hasE, named_pic hG, hfh]
    have D1 := HD.out.below hb1
    have HR := Lib.hid (kread_yes w0 g S id (pic id) w1 D1 hG (hT.at_ D1) hhas (hbl.qk (QKeep.below hb1)) (by omega))
    have HB1 := Lib.hid hb1
    have HMEM := Lib.hid hmem
    obtain ⟨m, hm⟩ : ∃ m, zs.length = m + 1 := ⟨zs.length - 1, by omega⟩
    rw [hm] at hcl hle
    rw [hm]
    simp only [Nat.add_sub_cancel] at hcl
    clear hr1 hp1 hs1 hb1 hc hmem hbl hhas D1 hid h0 hl hlen hfh hm
    go_wp2_with fail
    refine HR.out.mono ?_
    rintro e w2 ⟨A2, c2, rfl, hs2, hb2⟩
    have HB2 := Lib.hid (HB1.out.trans (hb2.mono HB1.out.size))
    have HS2 := Lib.hid hs2
    clear hs2 hb2
    go_wp2_with fail
    exact bodyPost_ret (v := .tuple #[.int .i64 id, .slice A2 (pic id).length c2, .nilIface]) (by simp [results, Tryz.results6, go_sem]) rfl ⟨.inr ⟨id, A2, c2, HMEM.out, HMAX.out, rfl, HS2.out⟩, HB2.out⟩
end Go.Proofs.YthanjafbgcljgaaGreatDoor
