/-
  Package keep: the contract of List. Conditions: what lies on the disk are pictures, sealed, and at most a half one; the library's tables and errors as its text lays them; at most 10^9 files.
-/
import Derived.Test.YthanjafbgcljgaaGreatDoorSave
import Derived.Sort.OwnSortedInts
import Derived.Shelf.SortM.Plain
import Derived.Shelf.SortM.SortNone
import Derived.Shelf.Strconv.Atoi
import Derived.Shelf.Strconv.AtoiErr
import Derived.Shelf.Small.Wraps
namespace Go.Proofs.YthanjafbgcljgaaGreatDoor
open Go.RowKit Go.Shelf
set_option linter.unusedVariables false

/-! ### Plain: which pictures there are -/
def idOf (n : ByteArray) : Option Int := match Lib.atoi (Lib.trimPrefix n.data.toList picHead.data.toList) with
  | some id => if n = picN id ∧ 1 ≤ id ∧ id ≤ 1000000000 then some id else none
  | none => none
theorem idOf_pic {id : Int} (h : Good id) : idOf (picN id) = some id := by
  unfold idOf
  rw [cut_head, atoi_itoa (by have := h.1; omega)]
  exact if_pos ⟨rfl, h.1, h.2⟩
theorem atoi_none : Lib.atoi halfN.data.toList = none := by decide +kernel
theorem half_head : Lib.hasPrefix halfN.data.toList picHead.data.toList = false := by decide +kernel
theorem half_cut : Lib.trimPrefix halfN.data.toList picHead.data.toList = halfN.data.toList := by decide +kernel
theorem idOf_half : idOf halfN = none := by
  unfold idOf
  rw [half_cut, atoi_none]
def idsOf (fs : SMap) : List Int := (skeys fs).filterMap idOf

/-- A sealed picture, whole or not yet named. -/
def PicAt (w : World) (p : ByteArray × Value) : Prop := (p.1 = halfN ∨ ∃ id, Good id ∧ p.1 = picN id) ∧ ∃ x, BlobAt w p.2 (sealB x) ∧ (sealB x).length ≤ 60000
def Pics (w : World) (fs : SMap) : Prop := ∀ p ∈ fs, PicAt w p
theorem PicAt.qk {w w' : World} {p : ByteArray × Value} (h : PicAt w p) (hq : QKeep w w') : PicAt w' p := by
  obtain ⟨h1, x, h2, h3⟩ := h; exact ⟨h1, x, h2.qk hq, h3⟩
theorem Pics.qk {w w' : World} {fs : SMap} (h : Pics w fs) (hq : QKeep w w') : Pics w' fs := fun p hp => (h p hp).qk hq
theorem fgetD_mem (z : Value) {fs : SMap} (hn : (skeys fs).Nodup) {k : ByteArray} {v : Value} (h : (k, v) ∈ fs) : fgetD z fs k = v := by
  obtain ⟨a, b, rfl⟩ := List.append_of_mem h
  refine fgetD_split z fun hk => ?_
  unfold skeys at hn hk
  rw [List.map_append, List.map_cons, List.nodup_append] at hn
  exact hn.2.2 k hk k (List.mem_cons_self) rfl

/-! ### The library -/
/-- The variable that Atoi's error holds. -/
def SynVar (w : World) : Prop := ∃ ev, w.cell? ⟨Tryz.atoi_ren.g 15, 0, none⟩ = some ev ∧ (ev = .nilIface ∨ ∃ te pe, ev = .iface te pe)
theorem SynVar.below {w w' : World} (h : SynVar w) (hb : Below w.heap.size w w') : SynVar w' := by
  obtain ⟨ev, h1, h2⟩ := h
  exact ⟨ev, (hb.cell (cell_lt h1)).trans h1, h2⟩
theorem atoi_ok (id : Int) (w : World) (hG : Good id) : Calls Tryz.prog 26 #[.string ⟨(Lib.itoa id).toArray⟩] w fun e w' => e = .returned (.tuple #[.int .i64 id, .nilIface]) ∧ Below w.heap.size w w' := by
  refine (Any.strconv_Atoi { Tryz.atoi with } ⟨(Lib.itoa id).toArray⟩ id (by have := itoa_len hG; show (Lib.itoa id).toArray.size ≤ 18; simp; omega) (atoi_itoa (by have := hG.1; omega)) w).mono ?_
  rintro e w' ⟨he, t, rfl⟩
  exact ⟨he, Lib.bytesWorld_below _ _ _⟩
theorem atoi_half (w : World) (hv : SynVar w) : Calls Tryz.prog 26 #[.string halfN] w fun e w' => ∃ N, e = .returned (.tuple #[.int .i64 0, .iface 97 (.pointer (some ⟨N, 0, none⟩))]) ∧ Below w.heap.size w w' := by
  obtain ⟨ev, h1, h2⟩ := hv
  refine (Any.strconv_Atoi_err Tryz.atoi halfN (by decide) atoi_none ev w h1 h2).mono ?_
  rintro e w' ⟨N, he, _, _, hb⟩
  exact ⟨N, he, hb⟩
theorem cutp_pic (id : Int) (w : World) : Calls Tryz.prog 25 #[.string (picN id), .string picHead] w fun e w' => e = .returned (.tuple #[.string ⟨(Lib.itoa id).toArray⟩, .bool true]) ∧ w' = w := by
  have := Any.strings_CutPrefix Tryz.cutp (picN id) picHead w
  rw [cut_head, has_head] at this
  exact this
theorem cutp_half (w : World) : Calls Tryz.prog 25 #[.string halfN, .string picHead] w fun e w' => e = .returned (.tuple #[.string halfN, .bool false]) ∧ w' = w := by
  have := Any.strings_CutPrefix Tryz.cutp halfN picHead w
  rw [half_cut, half_head] at this
  exact this
def ints (zs : List Int) : List Value := zs.map (Value.int .i64)
def sortI (zs : List Int) : List Int := zs.mergeSort fun x y => decide (x ≤ y)
theorem sorti_ok (base : Nat) (v : Value) (zs : List Int) (w : World) (h : w.ownsRow base 3 1 v zs.length (ints zs)) (hn : zs.length ≤ 1000000000000) : Calls Tryz.prog 27 #[v] w fun e w' => e = .returned (.tuple #[]) ∧ w'.ownsRow base 3 1 v zs.length (ints (sortI zs)) ∧ ∀ B W, B ≤ base → Below B W w → Below B W w' := by
  have hl : (sortI zs).length = zs.length := by simp [sortI]
  rcases h.2 with ⟨rfl, h0⟩ | ⟨g, cap, cur, rfl, hb, hh, hnc, hcm, hcs, ht⟩
  · refine (AnyM.slices_Sort_int_none Tryz.sorti none 0 w).mono ?_
    rintro e w' ⟨he, rfl⟩
    have hz : zs = [] := List.eq_nil_of_length_eq_zero (by simpa using h0)
    subst hz
    exact ⟨he, by simpa [sortI] using h, fun _ _ _ hb => hb⟩
  · have hgl := block_lt hh
    have ht' : cur.toList.take zs.length = zs.map (Value.int .i64) := by rw [Nat.mul_one] at ht; exact ht
    refine (AnyM.slices_Sort_int Tryz.sorti g 0 cap zs w (holds_of_blockI hh ht') hgl (by omega)).mono ?_
    rintro e w' ⟨he, m, os, rfl⟩
    refine ⟨he, ownsRow_sortedI hl hb hh hnc hcm (by simpa using hcs), fun B W hB hw => hw.grown (grownBy_sortedI _) (by omega) fun k e => ?_⟩
    injection e with e; subst e; omega

/-! ### List -/
def gotI (L : List ByteArray) (k : Nat) : List Int := (L.take k).filterMap idOf
theorem gotI_len (L : List ByteArray) (k : Nat) : (gotI L k).length ≤ L.length := by
  unfold gotI
  have h1 := List.length_filterMap_le idOf (L.take k)
  rw [List.length_take] at h1
  omega
theorem gotI_none {L : List ByteArray} {k : Nat} (hk : k < L.length) (h : idOf L[k] = none) : gotI L (k + 1) = gotI L k := by
  unfold gotI
  rw [List.take_succ_eq_append_getElem hk, List.filterMap_append]; simp [h]
theorem gotI_some {L : List ByteArray} {k : Nat} {id : Int} (hk : k < L.length) (h : idOf L[k] = some id) : gotI L (k + 1) = gotI L k ++ [id] := by
  unfold gotI
  rw [List.take_succ_eq_append_getElem hk, List.filterMap_append]; simp [h]
theorem ints_snoc (zs : List Int) (id : Int) : ints (zs ++ [id]) = ints zs ++ [.int .i64 id] := by simp [ints]
theorem info_int_ : (Tryz.prog.info? 3).map (fun i => (i.zero, i.size, i.bytes)) = some (some (.int .i64 0), 1, 8) := by kernel_rfl
theorem row_below {w w' : World} {base n size : Nat} {e : TypeId} {v : Value} {xs : List Value} (h : w.ownsRow base e size v n xs) (hb : Below w.heap.size w w') : w'.ownsRow base e size v n xs := by
  obtain ⟨h1, h2⟩ := h
  refine ⟨h1, ?_⟩
  rcases h2 with h2 | ⟨g, cap, cur, rfl, hbs, hh, r⟩
  · exact .inl h2
  · exact .inr ⟨g, cap, cur, rfl, hbs, (hb.block g (block_lt hh)).trans hh, r⟩
set_option maxRecDepth 100000 in
set_option maxHeartbeats 4000000 in
theorem klist_ok (w0 : World) (g : Nat) (S : DState) (w : World) (D : DiskIn w0 w g S) (hT : PowTab w0) (hP : Pics w S.now) (hsy : fhas S.now halfN = true → SynVar w0) (hn : S.now.length ≤ 1000000000) :
    Calls Tryz.prog 12 #[.pointer (some ⟨g, 0, none⟩)] w fun e w' => ∃ zs v, e = .returned v ∧ w'.ownsRow w.heap.size 3 1 v zs.length (ints zs) ∧ zs.Perm (idsOf S.now) ∧ zs.Pairwise (· ≤ ·) ∧ Below w.heap.size w w' := by
  have HD := Lib.hid D
  have HP := Lib.hid hP
  have HSY := Lib.hid hsy
  have hnd := D.nodup
  clear D hP hsy
  go_enter Tryz.func12, Tryz.ntmps12
  go_wp2_with fail
  refine (names_in w0 g S w HD.out (by omega)).mono ?_
  rintro e w2 ⟨A2, c2, L, rfl, hs2, hp2, hb2⟩
  have hLn : L.length ≤ 1000000000 := by rw [hp2.length_eq]; simpa [skeys] using hn
  have HS2 := Lib.hid hs2
  have HP2 := Lib.hid hp2
  have HB2 := Lib.hid hb2
  clear hs2 hp2 hb2
  go_wp2_with fail
  go_loopw [3, 15] (fun v i wr => ∃ k : Nat, k ≤ L.length ∧ i = .int .i64 k ∧ Hid (wr.ownsRow w2.heap.size 3 1 v (gotI L k).length (ints (gotI L k))) ∧ Hid (Below w2.heap.size w2 wr)) (fun _ i _ => L.length - (intOf i).toNat)
  case atStart => exact ⟨0, Nat.zero_le _, rfl, World.ownsRow_nil _ _ _ _, Below.refl _ _⟩
  case round =>
    obtain ⟨k, hk, rfl, HR, HB⟩ := hrel
    have hz2 := HB2.out.size
    by_cases hlt : k < L.length
    · obtain ⟨bb, off, rfl, hbq, hcell, hsz⟩ := HS2.out.str_ hlt
      have hcell2 := (HB.out.cell (p := ⟨bb, off + k, none⟩) hbq.lt).trans hcell
      have hmem : L[k] ∈ skeys S.now := HP2.out.mem_iff.1 (List.getElem_mem hlt)
      obtain ⟨p, hpm, hpk⟩ := List.mem_map.1 hmem
      obtain ⟨hnm, x, hbl, hxl⟩ := HP.out p hpm
      have HG := Lib.hid (gotI_len L k)
      have HDR := Lib.hid (HD.out.below (HB2.out.trans (HB.out.mono hz2)))
      have hzr := HB.out.size
      rcases hnm with hnm | ⟨id, hG, hnm⟩
      · have e1 : L[k] = halfN := hpk.symm.trans hnm
        have HN := Lib.hid (gotI_none hlt (by rw [e1]; exact idOf_half))
        have hsyn : SynVar w0 := HSY.out (fhas_iff.2 (by rw [← e1]; exact hmem))
        have HSV : Hid (SynVar wr) := hsyn.below HDR.out.all
        rw [e1] at hcell2
        clear hcell hmem hpm hpk hbl hbq
        go_wp2_with fail
        refine (cutp_half wr).mono ?_
        rintro e w3 ⟨rfl, rfl⟩
        go_wp2_with fail
        refine (atoi_half w3 HSV.out).mono ?_
        rintro e w4 ⟨N, rfl, hb4⟩
        have HB5 := Lib.hid (HB.out.trans (hb4.mono hzr))
        have HR4 : Hid (w4.ownsRow w2.heap.size 3 1 u3 (gotI L (k + 1)).length (ints (gotI L (k + 1)))) := by
          show World.ownsRow _ _ _ _ _ _ _
          rw [HN.out]; exact row_below HR.out hb4
        clear hb4
        go_wp2_with fail
        refine ⟨⟨k + 1, by omega, by congr 1, HR4.out, HB5.out⟩, ?_⟩
        simp [intOf]; omega
      · have e1 : L[k] = picN id := hpk.symm.trans hnm
        have HN := Lib.hid (gotI_some hlt (by rw [e1]; exact idOf_pic hG))
        have hfh : fhas S.now (picN id) = true := fhas_iff.2 (by rw [← e1]; exact hmem)
        have hhas : hasE S (picN id) = none := by simp [hasE, named_pic hG, hfh]
        have hpv : fgetD zB S.now (picN id) = p.2 := fgetD_mem zB hnd (by rw [← hnm]; exact hpm)
        have HBL : Hid (BlobAt wr (fgetD zB S.now (picN id)) (sealB x)) := by
          show BlobAt _ _ _
          rw [hpv]; exact hbl.qk (QKeep.below (HB2.out.trans (HB.out.mono hz2)))
        rw [e1] at hcell2
        clear hcell hmem hpm hpk hbl hbq hpv hfh
        go_wp2_with fail
        refine (cutp_pic id wr).mono ?_
        rintro e w3 ⟨rfl, rfl⟩
        go_wp2_with fail
        refine (atoi_ok id w3 hG).mono ?_
        rintro e w4 ⟨rfl, hb4⟩
        have D4 := Lib.hid (HDR.out.below hb4)
        have HB4 := Lib.hid (HB.out.trans (hb4.mono hzr))
        have HR4 := Lib.hid (row_below HR.out hb4)
        have HBL4 := Lib.hid (HBL.out.qk (QKeep.below hb4))
        clear hb4
        go_wp2_with fail
        refine (good_yes hG w4).mono ?_
        rintro e w5 ⟨rfl, rfl⟩
        go_wp2_with fail
        refine (kname_ok id w5 hG (hT.at_ D4.out)).mono ?_
        rintro e w6 ⟨rfl, hb6⟩
        have D6 := Lib.hid (D4.out.below hb6)
        have HB6 := Lib.hid (HB4.out.trans (hb6.mono HB4.out.size))
        have HR6 := Lib.hid (row_below HR4.out hb6)
        have HBL6 := Lib.hid (HBL4.out.qk (QKeep.below hb6))
        clear hb6
        go_wp2_with fail
        refine (kread_yes w0 g S id x w6 D6.out hG (hT.at_ D6.out) hhas HBL6.out (by omega)).mono ?_
        rintro e w7 ⟨A7, c7, rfl, -, hb7⟩
        have hB7 := HB6.out.trans (hb7.mono HB6.out.size)
        have HR7 := Lib.hid (row_below HR6.out hb7)
        have hz7 := hB7.size
        have hgl := HG.out
        obtain ⟨m, hm⟩ : ∃ m, m = (gotI L k).length := ⟨_, rfl⟩
        rw [← hm] at HR7 hgl
        clear hb7
        go_wp2_with (at_builtin; refine wpList_push rfl _ _ 32 rfl w2.heap.size 3 (.int .i64 0) 1 8 Tryz.underlying32 info_int_ rfl (by decide) u3 m (ints (gotI L k)) rfl HR7.out [.int .i64 id] rfl rfl ?_ ?_ ?_ hB7.size hB7 (Nat.le_refl _) ?_)
        · rintro u hu; simp at hu; subst hu; rfl
        · unfold maxLen; omega
        · omega
        · intro v' w8 hown8 hg8 hb8 _
          have HR8 : Hid (w8.ownsRow w2.heap.size 3 1 v' (gotI L (k + 1)).length (ints (gotI L (k + 1)))) := by
            show World.ownsRow _ _ _ _ _ _ _
            rw [HN.out, ints_snoc, List.length_append]; exact hown8
          have HB8 := Lib.hid hb8
          clear hown8 hg8 hb8 hB7
          go_wp2_with fail
          refine ⟨⟨k + 1, by omega, by congr 1, HR8.out, HB8.out⟩, ?_⟩
          simp [intOf]; omega
    · obtain rfl : k = L.length := by omega
      have hgl := gotI_len L L.length
      go_wp2_with fail
      refine (sorti_ok w2.heap.size u3 (gotI L L.length) wr HR.out (by omega)).mono ?_
      rintro e w3 ⟨rfl, hr3, hb3⟩
      have HB3 := Lib.hid (HB2.out.trans ((hb3 _ _ (Nat.le_refl _) HB.out).mono hz2))
      have HR3 : Hid (w3.ownsRow w.heap.size 3 1 u3 (sortI (gotI L L.length)).length (ints (sortI (gotI L L.length)))) := by
        have e : (sortI (gotI L L.length)).length = (gotI L L.length).length := by simp [sortI]
        show World.ownsRow _ _ _ _ _ _ _
        rw [e]; exact ownsRow_base_a hr3 hz2
      clear hr3 hb3
      go_wp2_with fail
      go_ret
      refine ⟨_, _, rfl, HR3.out, ?_, ?_, HB3.out⟩
      · have e : gotI L L.length = L.filterMap idOf := by unfold gotI; rw [List.take_length]
        rw [e]
        exact (List.mergeSort_perm _ _).trans (HP2.out.filterMap _)
      · have := List.pairwise_mergeSort (le := fun (x y : Int) => decide (x ≤ y)) (by intro a b c; simp; omega) (by intro a b; simp; omega) (gotI L L.length)
        exact this.imp fun {a b} h => by simpa using h
end Go.Proofs.YthanjafbgcljgaaGreatDoor
