/-
  KeepPlain at a text of at most 20000 bytes: it returns true. Conditions: the table of powers of ten and the variable errors.errorType read as the library's text lays them.
-/
import Derived.Test.YtapabhglcdikeaaGreatDoorPlainBits
import Derived.Test.YtapabhglcdikeaaGreatDoorPlainEnd
namespace Go.Proofs.YtapabhglcdikeaaGreatDoor
open Go.RowKit Go.Shelf
set_option linter.unusedVariables false

structure PInv (w wr : World) (g : Nat) (S : DState) (v : Value) (zs : List Int) (i : Nat) : Prop where
  disk : DiskIn w wr g S
  pics : Pics wr S.now
  half : fhas S.now halfN = false
  ids : (idsOf S.now).Perm zs
  sorted : zs.Pairwise (· < ·)
  calm : Calm S (4 * i)
  row : ∃ A c, v = .slice A zs.length c ∧ SlA (intE .i64) (Quiet wr) wr A c zs ∧ (A = none → c = 0)
  le : zs.length ≤ i
theorem PInv.below {w wr wr' : World} {g : Nat} {S : DState} {v : Value} {zs : List Int} {i : Nat} (h : PInv w wr g S v zs i) (hb : Below wr.heap.size wr wr') : PInv w wr' g S v zs i :=
  ⟨h.disk.below hb, h.pics.qk (QKeep.below hb), h.half, h.ids, h.sorted, h.calm, by obtain ⟨A, c, e, h, h2⟩ := h.row; exact ⟨A, c, e, h.qk (QKeep.below hb), h2⟩, h.le⟩
theorem PInv.good {w wr : World} {g : Nat} {S : DState} {v : Value} {zs : List Int} {i : Nat} (h : PInv w wr g S v zs i) : ∀ x ∈ zs, Good x := fun x hx => (ids_mem h.pics (h.ids.mem_iff.2 hx)).1
theorem PInv.len {w wr : World} {g : Nat} {S : DState} {v : Value} {zs : List Int} {i : Nat} (h : PInv w wr g S v zs i) : S.now.length = zs.length := by rw [← ids_full h.pics h.half, h.ids.length_eq]
theorem PInv.next {w wr : World} {g : Nat} {S : DState} {v : Value} {zs : List Int} {i : Nat} (h : PInv w wr g S v zs i) : PInv w wr g S v zs (i + 1) :=
  ⟨h.disk, h.pics, h.half, h.ids, h.sorted, h.calm.more (by omega), h.row, by have := h.le; omega⟩
theorem SlA.take_ {α : Type} {E : Elt α} {F : Nat → Prop} {w : World} {A : Option Addr} {c : Nat} {l : List α} {k : Nat} (h : SlA E F w A c l) : SlA E F w A c (l.take k) :=
  ⟨by have := h.1; rw [List.length_take]; omega, h.2.1, fun i x hx => h.2.2 i x (by rw [List.getElem?_take] at hx; split at hx; exact hx; cases hx)⟩
def intC (n : Int) : List Value := [.int .i64 n]
theorem src_ints {F : Nat → Prop} {w : World} {A : Option Addr} {c : Nat} {l : List Int} (h : SlA (intE .i64) F w A c l) : Src Tryz.prog 1 32 (.slice A l.length c) l.length (l.flatMap intC) w :=
  Src.of_sl (P := Tryz.prog) (E := intE .i64) (tx := 32) h Tryz.underlying32 intC (fun cs x hx => hx.1) (fun _ => rfl) (fun x u hu => by simp [intC] at hu; subst hu; rfl)
theorem own_ints {w : World} {A : Option Addr} {c n : Nat} {l : List Int} (h : OwnS w 3 1 A c n (l.flatMap intC)) (hn : n = l.length) (hI : ∀ x ∈ l, I64 x) : SlA (intE .i64) (Quiet w) w A c l :=
  OwnS.sl (E := intE .i64) intC (fun _ => rfl) h hn (fun k e => by obtain ⟨cur, hc⟩ := h.tag e; exact ⟨_, _, _, hc, by decide, by decide⟩) (fun x hx => ⟨rfl, hI x hx⟩)
theorem max_last {zs : List Int} {n : Nat} {kk : Int} (hs : zs.Pairwise (· < ·)) (hn : zs.length = n + 1) (hk : kk ∈ zs) (hm : ∀ j ∈ zs, j ≤ kk) : zs[n]'(by omega) = kk := by
  obtain ⟨i, hi, rfl⟩ := List.mem_iff_getElem.1 hk
  by_cases e : i = n
  · subst e; rfl
  · have h1 := List.pairwise_iff_getElem.1 hs i n hi (by omega) (by omega)
    have h2 := hm zs[n] (List.getElem_mem _)
    omega
theorem src_empty (A : Option Addr) (c : Nat) (w : World) : Src Tryz.prog 1 32 (.slice A 0 c) 0 [] w := by
  cases A with
  | none => exact Src.ofNil w Tryz.underlying32 c
  | some a => exact Src.ofSlice w Tryz.underlying32 a 0 c [] rfl (fun j u h => by simp at h) (fun u h => by simp at h)
theorem pic_blob {w : World} {fs : SMap} (hn : (skeys fs).Nodup) (hP : Pics w fs) {id : Int} (hG : Good id) (h : fhas fs (picN id) = true) : ∃ x, BlobAt w (fgetD zB fs (picN id)) (sealB x) ∧ (sealB x).length ≤ 60000 := by
  obtain ⟨p, hp, e⟩ := List.mem_map.1 (fhas_iff.1 h)
  obtain ⟨_, x, h1, h2⟩ := hP p hp
  refine ⟨x, ?_, h2⟩
  rw [← e, fgetD_mem zB hn (show (p.1, p.2) ∈ fs from hp)]
  exact h1
set_option maxRecDepth 100000 in
set_option maxHeartbeats 8000000 in
theorem plain_good (A0 : Option Addr) (c0 : Nat) (ids : List Int) (A1 : Option Addr) (c1 : Nat) (b : List UInt8) (many : Int) (w : World) (hi : SlA (intE .i64) (· < w.heap.size) w A0 c0 ids) (hb : SlA bytE (· < w.heap.size) w A1 c1 b) (hm : (Lit.int .i64 many).wf = true) (hT : PowTab w) (hE : ErrVar w) (hbl : b.length ≤ 20000) :
    Calls Tryz.prog 4 #[.slice A0 ids.length c0, .slice A1 b.length c1, .int .i64 many] w fun e w' => e = .returned (.bool true) ∧ Below w.heap.size w w' := by
  have HI := Lib.hid hi
  have HB := Lib.hid hb
  have hil := hi.le
  have q0 : decide (20000 < (b.length : Int)) = false := decide_eq_false (by omega)
  have hw0 : 0 < w.heap.size := by have := cell_lt hE; omega
  clear hi hb
  go_enter Tryz.func4, Tryz.ntmps4
  go_wp2_with fail
  refine (new_in w).mono ?_
  rintro e w1 ⟨g, rfl, hD1⟩
  have P1 : Hid (PInv w w1 g newS (.slice none 0 0) [] 0) := ⟨hD1, nofun, rfl, List.Perm.nil, List.Pairwise.nil, ⟨by decide, by decide, rfl, by decide⟩, ⟨none, 0, rfl, SlA.nil _ _ _ _ _ (by unfold maxLen; omega), fun _ => rfl⟩, Nat.le_refl _⟩
  clear hD1
  go_wp2_with fail
  go_loopw [8, 9] (fun av iv wr => ∃ (i : Nat) (zs : List Int) (S : DState), i ≤ ids.length ∧ i ≤ 30 ∧ iv = .int .i64 i ∧ Hid (PInv w wr g S av zs i)) (fun _ iv _ => 30 - (intOf iv).toNat)
  case atStart => exact ⟨0, [], newS, Nat.zero_le _, Nat.zero_le _, rfl, P1.out⟩
  case round =>
    obtain ⟨i, zs, S, hin, hi30, rfl, HP⟩ := hrel
    obtain ⟨AL, cL, rfl, hsl, hcl0⟩ := HP.out.row
    have HCL0 := Lib.hid hcl0
    clear hcl0
    have HSL := Lib.hid hsl
    have hzi := HP.out.le
    obtain ⟨wo, rfl⟩ : ∃ wo, wr = wo := ⟨_, rfl⟩
    clear hsl
    by_cases hrun : i < ids.length ∧ i < 30
    · obtain ⟨hr1, hr2⟩ := hrun
      have d1 : decide ((i : Int) < (ids.length : Int)) = true := decide_eq_true (by omega)
      have d2 : decide ((i : Int) < 30) = true := decide_eq_true (by omega)
      obtain ⟨bi, oi, rfl, hbi, hci, hwi⟩ := HI.out.int_ hr1
      have hci2 := (HP.out.disk.all.cell (p := ⟨bi, oi + i, none⟩) hbi).trans hci
      generalize ids[i] = id at hci hci2 hwi
      by_cases hG : Good id
      · have d3 : decide (id < 1) = false := decide_eq_false (by have := hG.1; omega)
        have d4 : decide (1000000000 < id) = false := decide_eq_false (by have := hG.2; omega)
        go_wp2_with fail
        go_loopw [10, 11] (fun ev kv wx => ∃ k q : Nat, k ≤ zs.length ∧ kv = .int .i64 k ∧ wx = wr.drewN q ∧ ((ev = .int .i64 0 ∧ Hid (id ∉ zs.take k)) ∨ (ev = .int .i64 8 ∧ Hid (id ∈ zs)))) (fun _ kv _ => zs.length - (intOf kv).toNat)
        case atStart => exact ⟨0, 0, Nat.zero_le _, rfl, rfl, .inl ⟨rfl, by simp [Hid]⟩⟩
        case round =>
          obtain ⟨k, q, hk, rfl, rfl, hev⟩ := hrel
          rcases hev with ⟨rfl, HNI⟩ | ⟨rfl, HIN⟩
          · by_cases hlt : k < zs.length
            · obtain ⟨ba, oa, rfl, hqa, hca, _⟩ := HSL.out.int_ hlt
              have HTS : Hid (zs.take (k + 1) = zs.take k ++ [zs[k]]) := List.take_succ_eq_append_getElem hlt
              have HMEM : Hid (zs[k] ∈ zs) := List.getElem_mem hlt
              by_cases heq : zs[k] = id
              · rw [heq] at hca HMEM
                go_wp2_with fail
                go_quiet (fail)
                go_wp2_with fail
                refine ⟨⟨k + 1, q + nq, by omega, by go_num, by simp, .inr ⟨rfl, HMEM⟩⟩, ?_⟩
                simp [intOf]; omega
              · have hne : (zs[k] == id) = false := beq_eq_false_iff_ne.2 heq
                have HN2 : Hid (id ∉ zs.take (k + 1)) := by
                  show ¬ _
                  rw [HTS.out]
                  intro h
                  rcases List.mem_append.1 h with h | h
                  · exact HNI.out h
                  · exact heq (List.mem_singleton.1 h).symm
                generalize zs[k] = y at hca hne
                clear heq HTS HMEM
                go_wp2_with fail
                go_quiet (fail)
                go_wp2_with fail
                refine ⟨⟨k + 1, q + nq, by omega, by go_num, by simp, .inl ⟨rfl, HN2⟩⟩, ?_⟩
                simp [intOf]; omega
            · as_aux_lemma =>
              obtain ⟨W, hW⟩ : ∃ W, W = wr.drewN q := ⟨_, rfl⟩
              have HNZ : Hid (id ∉ zs) := fun h => HNI.out (by rw [List.take_of_length_le (by omega)]; exact h)
              have HPW : Hid (PInv w W g S (.slice AL zs.length cL) zs i) := HP.out.below (by rw [hW]; exact bdrewN (Below.refl _ _) q)
              have HSLW : Hid (SlA (intE .i64) (Quiet W) W AL cL zs) := HSL.out.qk (by rw [hW]; exact QKeep.below (bdrewN (Below.refl _ _) q))
              have hciW : W.cell? ⟨bi, oi + i, none⟩ = some (.int .i64 id) := by rw [hW]; exact hci2
              rw [← hW]
              clear hW HP HSL hci2 HNI
              have hsrc := Src.of_sl (P := Tryz.prog) (tx := 28) (HB.out.keep (Same.below HPW.out.disk.all)) Tryz.underlying28 bytCells (fun cs x hx => hx) (fun _ => rfl) (fun x u hu => by simp [bytCells] at hu; subst hu; rfl)
              have HSRC := Lib.hid hsrc
              clear hsrc
              go_wp2_with (at_builtin; refine wpList_append_S rfl _ _ 28 28 rfl 5 _ 1 1 Tryz.underlying28 info_u8_ rfl (by decide) none 0 0 [] rfl (OwnS.nil _ _ _) _ rfl b.length (b.flatMap bytCells) HSRC.out (by unfold maxLen; omega) (by omega) ?_)
              intro A5 c5 w5 hown5 hg5 hat5
              have hB5 : Below W.heap.size W w5 := (Below.refl _ _).grown hg5 (Nat.le_refl _) (fun k e => by simp [blk] at e)
              have HA5 : Hid (∀ k, blk A5 = some k → W.heap.size ≤ k) := fun k e => by
                rcases hat5 with h | h
                · rw [h] at e; cases e
                · rw [h] at e; injection e with e; omega
              have HO5 : Hid (OwnS w5 5 1 A5 c5 b.length (b.flatMap bytCells)) := by
                have h := hown5
                try simp only [List.nil_append, Nat.zero_add] at h
                exact h
              have HB5 := Lib.hid hB5
              try simp only [Nat.zero_add]
              clear hown5 hg5 hat5 hB5 HSRC

              go_wp2_with (at_builtin; refine wpList_push_S (w0 := w5) rfl (.tmp 74) (.tmp 77) 28 rfl 5 _ 1 1 Tryz.underlying28 info_u8_ rfl (by decide) A5 c5 b.length (b.flatMap bytCells) rfl HO5.out [.int .u8 (i : Int)] rfl rfl (by simp [Value.oneCell']) (by unfold maxLen; omega) (by omega) ?_)
              intro A6 c6 w6 hown6 hg6 hat6
              have hB6 : Below W.heap.size W w6 := HB5.out.grown hg6 HB5.out.size (fun k e => HA5.out k e)
              obtain ⟨xb, hxb⟩ : ∃ xb, xb = b ++ [UInt8.ofNat i] := ⟨_, rfl⟩
              have hxl : xb.length = b.length + 1 := by rw [hxb]; simp
              have HX6 : Hid (SlA bytE (Quiet w6) w6 A6 c6 xb) := by
                have e : b.flatMap bytCells ++ [Value.int .u8 (i : Int)] = xb.flatMap bytCells := by
                  have e2 : ((UInt8.ofNat i).toNat : Int) = i := by rw [UInt8.toNat_ofNat']; omega
                  rw [hxb, List.flatMap_append]; simp [bytCells]; omega
                rw [e] at hown6
                exact OwnS.sl (E := bytE) bytCells (fun _ => rfl) hown6 hxl.symm (fun k e => own_quiet hown6 e) (fun x hx => rfl)
              have P6 := Lib.hid (HPW.out.below hB6)
              have HSL6 := Lib.hid (HSLW.out.qk (QKeep.below hB6))
              have hci6 := (hB6.cell (p := ⟨bi, oi + i, none⟩) (cell_lt hciW)).trans hciW
              have HXB := Lib.hid hxb
              have HXL := Lib.hid hxl
              clear hown6 hg6 hat6 hB6 HPW HSLW hciW HO5 HB5 HA5 hxb

              have hno : fhas S.now (picN id) = false := by
                cases h : fhas S.now (picN id) with
                | false => rfl
                | true => exact absurd (P6.out.ids.mem_iff.1 ((has_ids P6.out.pics hG).1 h)) HNZ.out
              have hseal : (sealB xb).length ≤ 60000 := by
                rw [sealB_length]
                have := numB_len (xb.length : Int)
                omega
              have HSV0 := save_ok w g S id A6 c6 xb w6 P6.out.disk hG hT hno (HX6.out.more fun k hk => hk.lt) hseal (P6.out.calm.fine (by omega))
              rw [hxl] at HSV0
              have HSV := Lib.hid HSV0
              clear HSV0
              go_wp2_with fail
              refine HSV.out.mono ?_
              rintro e w7 ⟨v, j, he, hs7⟩
              obtain rfl := saved_all hs7 P6.out.calm.stop
              obtain rfl : e = .returned .nilIface := he
              obtain ⟨S7, hS7⟩ : ∃ S7, S7 = saveS S id v 4 := ⟨_, rfl⟩
              have hnow : S7.now = S.now ++ [(picN id, v)] := by rw [hS7]; exact saveS_now P6.out.half hno
              have D7 : Hid (DiskIn w w7 g S7) := by rw [hS7]; exact hs7.disk
              have HPIC7 : Hid (Pics w7 S7.now) := by show Pics _ _; rw [hnow]; exact pics_snoc (P6.out.pics.qk hs7.keep) hG (hs7.blob (by omega)) hseal
              have HHALF7 : Hid (fhas S7.now halfN = false) := by show _ = _; rw [hnow]; exact half_snoc P6.out.half id v
              have HIDS7 : Hid (idsOf S7.now = idsOf S.now ++ [id]) := by show _ = _; rw [hnow]; exact idsOf_snoc S.now hG v
              have HCALM7 : Hid (Calm S7 (4 * (i + 1))) := by rw [hS7]; exact calm_saved P6.out.calm id v
              have HBL7 : Hid (BlobAt w7 (fgetD zB S7.now (picN id)) (sealB xb)) := by
                show BlobAt _ _ _
                rw [hnow, fgetD_split zB (fhas_not hno)]; exact hs7.blob (by omega)
              have HSL7 := Lib.hid (HSL6.out.qk hs7.keep)
              have HX7 := Lib.hid (HX6.out.qk hs7.keep)
              have HPERM : Hid ((idsOf S.now).Perm zs) := P6.out.ids
              have HSORT : Hid (zs.Pairwise (· < ·)) := P6.out.sorted
              have HGD : Hid (∀ x ∈ zs, Good x) := P6.out.good
              have hci7 := (D7.out.all.cell (p := ⟨bi, oi + i, none⟩) hbi).trans hci
              have HSEAL := Lib.hid hseal
              clear hs7 hnow hS7 hno hseal HSL6 HX6 P6 HSV hci6
              go_wp2_with fail
              refine (error_nil 0 w7).mono ?_
              rintro e w8 ⟨rfl, hw8⟩
              rw [← hw8]
              clear hw8
              go_wp2_with fail
              go_loopw [14] (fun kv wx => ∃ k3 q3 : Nat, k3 ≤ zs.length ∧ kv = .int .i64 k3 ∧ wx = w7.drewN q3 ∧ Hid (∀ j (hj : j < zs.length), j < k3 → zs[j] < id)) (fun kv _ => zs.length - (intOf kv).toNat)
              case atStart => exact ⟨0, 0, Nat.zero_le _, rfl, rfl, fun j _ h => by omega⟩
              case round =>
                obtain ⟨k3, q3, hk3, rfl, rfl, HLS⟩ := hrel
                have hcap := HSL7.out.1
                have hcm := HSL7.out.2.1
                by_cases hl3 : k3 < zs.length
                · obtain ⟨ba, oa, rfl, hqa, hca, _⟩ := HSL7.out.int_ hl3
                  by_cases hlt3 : zs[k3] < id
                  · as_aux_lemma =>
                    have HL2 : Hid (∀ j (hj : j < zs.length), j < k3 + 1 → zs[j] < id) := fun j hj h => by
                      by_cases e : j = k3
                      · subst e; exact hlt3
                      · exact HLS.out j hj (by omega)
                    have hd3 : decide (zs[k3] < id) = true := decide_eq_true hlt3
                    generalize zs[k3] = y at hca hd3
                    clear hlt3
                    go_wp2_with fail
                    go_quiet (fail)
                    go_wp2_with fail
                    refine ⟨⟨k3 + 1, q3 + nq, by omega, by go_num, by simp, HL2⟩, ?_⟩
                    simp [intOf]; omega
                  · as_aux_lemma =>
                    have hd3 : decide (zs[k3] < id) = false := decide_eq_false hlt3
                    have HGT : Hid (∀ hk : k3 < zs.length, id < zs[k3]) := fun _ => by
                      have h1 : zs[k3] ≠ id := fun e => HNZ.out (e ▸ List.getElem_mem hl3)
                      omega
                    generalize zs[k3] = y at hca hd3
                    clear hlt3
                    go_wp2_with fail
                    go_quiet (fail)
                    obtain ⟨W8, hW8⟩ : ∃ W8, W8 = (w7.drewN q3).drewN nq := ⟨_, rfl⟩
                    have HB78 : Hid (Below w7.heap.size w7 W8) := by rw [hW8]; exact bdrewN (bdrewN (Below.refl _ _) _) _
                    have HSL8 := Lib.hid (HSL7.out.qk (QKeep.below HB78.out))
                    have hci8 : W8.cell? ⟨bi, oi + i, none⟩ = some (.int .i64 id) := by rw [hW8]; exact hci7
                    have HS1 : Hid (Src Tryz.prog 1 32 (.slice (some ⟨ba, oa, none⟩) k3 cL) k3 ((zs.take k3).flatMap intC) W8) := by
                      have h := src_ints (HSL8.out.take_ (k := k3))
                      rw [List.length_take, Nat.min_eq_left hk3] at h
                      exact h
                    rw [← hW8]
                    clear hW8 hci7
                    go_wp2_with (at_builtin; refine wpList_append_S rfl _ _ 32 32 rfl 3 _ 1 8 Tryz.underlying32 info_int_ rfl (by decide) none 0 0 [] rfl (OwnS.nil _ _ _) _ rfl k3 ((zs.take k3).flatMap intC) HS1.out (by unfold maxLen; omega) (by omega) ?_)
                    intro A9 c9 w9 hown9 hg9 hat9
                    have hB9 : Below W8.heap.size W8 w9 := (Below.refl _ _).grown hg9 (Nat.le_refl _) (fun k e => by simp [blk] at e)
                    have HA9 : Hid (∀ k, blk A9 = some k → W8.heap.size ≤ k) := fun k e => by
                      rcases hat9 with h | h
                      · rw [h] at e; cases e
                      · rw [h] at e; injection e with e; omega
                    have HO9 : Hid (OwnS w9 3 1 A9 c9 k3 ((zs.take k3).flatMap intC)) := by
                      have h := hown9
                      try simp only [List.nil_append, Nat.zero_add] at h
                      exact h
                    have HB9 := Lib.hid hB9
                    try simp only [Nat.zero_add]
                    have hci9 := (hB9.cell (p := ⟨bi, oi + i, none⟩) (cell_lt hci8)).trans hci8
                    clear hown9 hg9 hat9 hB9 HS1
                    go_wp2_with (at_builtin; refine wpList_push_S (w0 := w9) rfl (.tmp 114) (.tmp 119) 32 rfl 3 _ 1 8 Tryz.underlying32 info_int_ rfl (by decide) A9 c9 k3 ((zs.take k3).flatMap intC) rfl HO9.out [.int .i64 id] rfl rfl (by simp [Value.oneCell']) (by unfold maxLen; omega) (by omega) ?_)
                    intro A10 c10 w10 hown10 hg10 hat10
                    have hB10 : Below W8.heap.size W8 w10 := HB9.out.grown hg10 HB9.out.size (fun k e => HA9.out k e)
                    have HA10 : Hid (∀ k, blk A10 = some k → W8.heap.size ≤ k) := fun k e => by
                      rcases hat10 with h | ⟨j, h, h2⟩
                      · exact HA9.out k (h ▸ e)
                      · rw [h] at e; injection e with e; subst e; exact Nat.le_trans HB9.out.size h2
                    have HO10 := Lib.hid hown10
                    have HB10 := Lib.hid hB10
                    have HSL10 := Lib.hid (HSL8.out.qk (QKeep.below hB10))
                    clear hown10 hg10 hat10 hB10 HO9 HA9 HB9

                    have HS3 : Hid (Src Tryz.prog 1 32 (.slice (some ⟨ba, oa + k3, none⟩) (zs.length - k3) (cL - k3)) (zs.length - k3) ((zs.drop k3).flatMap intC) w10) := by
                      have h := src_ints (HSL10.out.cut (k := k3) hk3)
                      rw [List.length_drop, show oa + k3 * (intE .i64).sz = oa + k3 from by simp [intE]] at h
                      exact h
                    have hck : ¬ cL = k3 := by omega
                    go_wp2_with (at_builtin; refine wpList_append_S rfl _ _ 32 32 rfl 3 _ 1 8 Tryz.underlying32 info_int_ rfl (by decide) A10 c10 (k3 + 1) _ rfl HO10.out _ rfl (zs.length - k3) ((zs.drop k3).flatMap intC) HS3.out (by unfold maxLen; omega) (by omega) ?_)

                    intro A11 c11 w11 hown11 hg11 hat11
                    have hB11 : Below W8.heap.size W8 w11 := HB10.out.grown hg11 HB10.out.size (fun k e => HA10.out k e)
                    have HNC : Hid (A11 = none → c11 = 0) := fun e => by
                      rcases hown11.2.2.2 with ⟨_, h⟩ | ⟨_, _, _, h, _⟩
                      · exact h
                      · rw [e] at h; cases h
                    obtain ⟨zs2, hzs2⟩ : ∃ zs2, zs2 = zs.take k3 ++ (id :: zs.drop k3) := ⟨_, rfl⟩
                    have hz2l : zs2.length = zs.length + 1 := by rw [hzs2]; simp; try omega
                    have hlen2 : k3 + 1 + (zs.length - k3) = zs2.length := by first | omega | (rw [hz2l]; rfl)
                    have HPERM2 : Hid ((idsOf S7.now).Perm zs2) := by
                      show (idsOf S7.now).Perm zs2
                      rw [HIDS7.out, hzs2]; exact (HPERM.out.append_right [id]).trans (perm_in zs id k3).symm
                    have HSORT2 : Hid (zs2.Pairwise (· < ·)) := by
                      show zs2.Pairwise _
                      rw [hzs2]; exact sorted_in HSORT.out HLS.out HGT.out
                    have HGD2 : Hid (∀ x ∈ zs2, Good x) := fun x hx => by
                      rw [hzs2] at hx
                      rcases List.mem_append.1 hx with hx | hx
                      · exact HGD.out x (List.mem_of_mem_take hx)
                      · rcases List.mem_cons.1 hx with rfl | hx
                        · exact hG
                        · exact HGD.out x (List.mem_of_mem_drop hx)
                    have HSL11 : Hid (SlA (intE .i64) (Quiet w11) w11 A11 c11 zs2) := by
                      exact (show ∀ xs n, OwnS w11 3 1 A11 c11 n xs → n = zs2.length → xs = zs2.flatMap intC → SlA (intE .i64) (Quiet w11) w11 A11 c11 zs2 from fun xs n h h1 h2 => by subst h2; exact own_ints h h1 (fun x hx => (HGD2.out x hx).i64)) _ _ hown11 hlen2 (by rw [hzs2]; simp [intC])
                    rw [show Value.slice A11 (k3 + 1 + (zs.length - k3)) c11 = Value.slice A11 zs2.length c11 from by rw [← hlen2]]
                    have HB711 : Hid (Below w7.heap.size w7 w11) := HB78.out.trans (hB11.mono HB78.out.size)
                    have P11 : Hid (PInv w w11 g S7 (.slice A11 zs2.length c11) zs2 (i + 1)) := ⟨D7.out.below HB711.out, HPIC7.out.qk (QKeep.below HB711.out), HHALF7.out, HPERM2.out, HSORT2.out, HCALM7.out, ⟨A11, c11, rfl, HSL11.out, HNC.out⟩, by rw [hz2l]; omega⟩
                    have HX11 := Lib.hid (HX7.out.qk (QKeep.below HB711.out))
                    have HBL11 := Lib.hid (HBL7.out.qk (QKeep.below HB711.out))
                    have hci11 := (hB11.cell (p := ⟨bi, oi + i, none⟩) (cell_lt hci8)).trans hci8
                    have HIDIN : Hid (id ∈ idsOf S7.now) := by show _ ∈ _; rw [HIDS7.out]; simp
                    have HZ2 := Lib.hid hz2l
                    clear hown11 hg11 hat11 hB11 hlen2 hzs2 HO10 HA10 HB10 HSL10 HSL8 HSL7 HB78 D7 HPIC7 HHALF7 HIDS7 HCALM7 HBL7 HX7 HB711 hci8 hci9 HLS HGT HS3 HPERM HSORT HGD
                    obtain ⟨pic, hpic⟩ : ∃ pic : Int → List UInt8, ∀ j ∈ idsOf S7.now, (BlobAt w11 (fgetD zB S7.now (picN j)) (sealB (pic j)) ∧ (sealB (pic j)).length ≤ 60000) ∧ (j = id → pic j = xb) := by
                      have hex : ∀ j, ∃ x : List UInt8, j ∈ idsOf S7.now → (BlobAt w11 (fgetD zB S7.now (picN j)) (sealB x) ∧ (sealB x).length ≤ 60000) ∧ (j = id → x = xb) := fun j => by
                        by_cases e : j = id
                        · exact ⟨xb, fun _ => ⟨⟨e ▸ HBL11.out, HSEAL.out⟩, fun _ => rfl⟩⟩
                        · by_cases hj : j ∈ idsOf S7.now
                          · have hm := ids_mem P11.out.pics hj
                            obtain ⟨x, hx1, hx2⟩ := pic_blob P11.out.disk.nodup P11.out.pics hm.1 hm.2
                            exact ⟨x, fun _ => ⟨⟨hx1, hx2⟩, fun h => absurd h e⟩⟩
                          · exact ⟨[], fun h => absurd h hj⟩
                      obtain ⟨f, hf⟩ := Classical.axiomOfChoice hex
                      exact ⟨f, hf⟩
                    have HLAT := Lib.hid (klatest_ok w g S7 pic w11 P11.out.disk hT P11.out.pics (fun h => by rw [P11.out.half] at h; cases h) (by rw [P11.out.len]; have := P11.out.le; omega) (fun j hj => (hpic j hj).1))
                    have HPICX : Hid (id ∈ idsOf S7.now → pic id = xb) := fun h => (hpic id h).2 rfl
                    clear hpic
                    go_wp2_with fail
                    refine HLAT.out.mono ?_
                    rintro e w12 ⟨hor, hb12⟩
                    rcases hor with ⟨h0, -⟩ | ⟨kk, A12, c12, hkk, hmax, rfl, hs12⟩
                    · have h := HIDIN.out
                      rw [h0] at h; cases h
                    · have P12 := Lib.hid (P11.out.below hb12)
                      have HSL12 := Lib.hid (HSL11.out.qk (QKeep.below hb12))
                      have HX12 := Lib.hid (HX11.out.qk (QKeep.below hb12))
                      have hci12 := (hb12.cell (p := ⟨bi, oi + i, none⟩) (cell_lt hci11)).trans hci11
                      obtain ⟨b11, o11, rfl, _, hlast, _⟩ := HSL12.out.int_ (k := zs.length) (by rw [HZ2.out]; omega)
                      have elast : zs2[zs.length]'(by rw [HZ2.out]; omega) = kk := max_last P11.out.sorted HZ2.out (P11.out.ids.mem_iff.1 hkk) (fun j hj => hmax j (P11.out.ids.mem_iff.2 hj))
                      rw [elast] at hlast
                      clear HLAT HSL11 HX11 HBL11 hb12 elast hci11 hmax
                      by_cases ek : kk = id
                      · have epic := HPICX.out (ek ▸ hkk)
                        subst ek
                        rw [epic] at hs12
                        rw [epic]
                        have v1 := conv_string (P := Tryz.prog) (src := 28) (dst := 9) hs12 Tryz.underlying28 Tryz.underlying5 Tryz.underlying9
                        have v2 := conv_string (P := Tryz.prog) (src := 28) (dst := 9) HX12.out Tryz.underlying28 Tryz.underlying5 Tryz.underlying9
                        rw [HXL.out] at v1 v2
                        rw [HXL.out]
                        rw [HZ2.out]
                        go_wp2_with fail
                        refine (klist_ok w g S7 w12 P12.out.disk hT P12.out.pics (fun h => by rw [P12.out.half] at h; cases h) (by rw [P12.out.len]; have := P12.out.le; omega)).mono ?_
                        rintro e w9 ⟨zs9, v9, rfl, hr9, hp9, hs9, hb9⟩
                        have hzs9 : zs9 = zs2 := same_sorted (hp9.trans P12.out.ids) hs9 P12.out.sorted
                        rw [hzs9] at hr9
                        obtain ⟨A9, c9, rfl, hsl9⟩ := row_ints hr9 (fun x hx => (P12.out.good x hx).i64)
                        have P9 := Lib.hid (P12.out.below hb9)
                        have HIS := Lib.hid (ints_same A9 (some ⟨b11, o11, none⟩) c9 c11 zs2 w9 _ _ hsl9 (HSL12.out.qk (QKeep.below hb9)))
                        rw [HZ2.out] at HIS
                        rw [HZ2.out]
                        clear hzs9 hr9 hp9 hs9 hb9 hsl9 P12 HSL12
                        go_wp2_with fail
                        refine HIS.out.mono ?_
                        rintro e w10 ⟨rfl, hb10⟩
                        have P10 := Lib.hid (P9.out.below hb10)
                        rw [HZ2.out] at P10
                        clear hb10 P9 HIS
                        go_wp2_with fail
                        refine ⟨⟨i + 1, zs2, S7, by omega, by omega, by congr 1, P10.out⟩, ?_⟩
                        simp [intOf]; omega
                      · have hkn : (kk == id) = false := beq_eq_false_iff_ne.2 ek
                        rw [HZ2.out]
                        go_wp2_with fail
                        refine (klist_ok w g S7 w12 P12.out.disk hT P12.out.pics (fun h => by rw [P12.out.half] at h; cases h) (by rw [P12.out.len]; have := P12.out.le; omega)).mono ?_
                        rintro e w9 ⟨zs9, v9, rfl, hr9, hp9, hs9, hb9⟩
                        have hzs9 : zs9 = zs2 := same_sorted (hp9.trans P12.out.ids) hs9 P12.out.sorted
                        rw [hzs9] at hr9
                        obtain ⟨A9, c9, rfl, hsl9⟩ := row_ints hr9 (fun x hx => (P12.out.good x hx).i64)
                        have P9 := Lib.hid (P12.out.below hb9)
                        have HIS := Lib.hid (ints_same A9 (some ⟨b11, o11, none⟩) c9 c11 zs2 w9 _ _ hsl9 (HSL12.out.qk (QKeep.below hb9)))
                        rw [HZ2.out] at HIS
                        rw [HZ2.out]
                        clear hzs9 hr9 hp9 hs9 hb9 hsl9 P12 HSL12
                        go_wp2_with fail
                        refine HIS.out.mono ?_
                        rintro e w10 ⟨rfl, hb10⟩
                        have P10 := Lib.hid (P9.out.below hb10)
                        rw [HZ2.out] at P10
                        clear hb10 P9 HIS
                        go_wp2_with fail
                        refine ⟨⟨i + 1, zs2, S7, by omega, by omega, by congr 1, P10.out⟩, ?_⟩
                        simp [intOf]; omega
                · obtain rfl : k3 = zs.length := by omega
                  have HGT : Hid (∀ hk : zs.length < zs.length, id < zs[zs.length]) := fun hk => absurd hk hl3
                  by_cases hz0 : zs = []
                  · subst hz0
                    have hc0 : AL = none → cL = 0 := HCL0.out
                    rcases AL with _ | ad
                    · as_aux_lemma =>
                      have hck := hc0 rfl
                      subst hck
                      simp only [List.length_nil] at *
                      go_wp2_with fail
                      go_quiet (fail)
                      obtain ⟨W8, hW8⟩ : ∃ W8, W8 = (w7.drewN q3).drewN nq := ⟨_, rfl⟩
                      have HB78 : Hid (Below w7.heap.size w7 W8) := by rw [hW8]; exact bdrewN (bdrewN (Below.refl _ _) _) _
                      have HSL8 := Lib.hid (HSL7.out.qk (QKeep.below HB78.out))
                      have hci8 : W8.cell? ⟨bi, oi + i, none⟩ = some (.int .i64 id) := by rw [hW8]; exact hci7
                      rw [← hW8]
                      clear hW8 hci7
                      go_wp2_with (at_builtin; refine wpList_append_S rfl _ _ 32 32 rfl 3 _ 1 8 Tryz.underlying32 info_int_ rfl (by decide) none 0 0 [] rfl (OwnS.nil _ _ _) _ rfl 0 [] (src_empty _ _ _) (by unfold maxLen; omega) (by omega) ?_)
                      intro A9 c9 w9 hown9 hg9 hat9
                      have hB9 : Below W8.heap.size W8 w9 := (Below.refl _ _).grown hg9 (Nat.le_refl _) (fun k e => by simp [blk] at e)
                      have HA9 : Hid (∀ k, blk A9 = some k → W8.heap.size ≤ k) := fun k e => by
                        rcases hat9 with h | h
                        · rw [h] at e; cases e
                        · rw [h] at e; injection e with e; omega
                      have HO9 : Hid (OwnS w9 3 1 A9 c9 0 ([] : List Value)) := by
                        have h := hown9
                        try simp only [List.nil_append, Nat.zero_add] at h
                        exact h
                      have HB9 := Lib.hid hB9
                      try simp only [Nat.zero_add]
                      have hci9 := (hB9.cell (p := ⟨bi, oi + i, none⟩) (cell_lt hci8)).trans hci8
                      clear hown9 hg9 hat9 hB9
                      go_wp2_with (at_builtin; refine wpList_push_S (w0 := w9) rfl (.tmp 114) (.tmp 119) 32 rfl 3 _ 1 8 Tryz.underlying32 info_int_ rfl (by decide) A9 c9 0 ([] : List Value) rfl HO9.out [.int .i64 id] rfl rfl (by simp [Value.oneCell']) (by unfold maxLen; omega) (by omega) ?_)
                      intro A10 c10 w10 hown10 hg10 hat10
                      have hB10 : Below W8.heap.size W8 w10 := HB9.out.grown hg10 HB9.out.size (fun k e => HA9.out k e)
                      have HA10 : Hid (∀ k, blk A10 = some k → W8.heap.size ≤ k) := fun k e => by
                        rcases hat10 with h | ⟨j, h, h2⟩
                        · exact HA9.out k (h ▸ e)
                        · rw [h] at e; injection e with e; subst e; exact Nat.le_trans HB9.out.size h2
                      have HO10 := Lib.hid hown10
                      have HB10 := Lib.hid hB10
                      have HSL10 := Lib.hid (HSL8.out.qk (QKeep.below hB10))
                      clear hown10 hg10 hat10 hB10 HO9 HA9 HB9

                      go_wp2_with (at_builtin; refine wpList_append_S rfl _ _ 32 32 rfl 3 _ 1 8 Tryz.underlying32 info_int_ rfl (by decide) A10 c10 (0 + 1) _ rfl HO10.out _ rfl 0 [] (src_empty _ _ _) (by unfold maxLen; omega) (by omega) ?_)

                      intro A11 c11 w11 hown11 hg11 hat11
                      have hB11 : Below W8.heap.size W8 w11 := HB10.out.grown hg11 HB10.out.size (fun k e => HA10.out k e)
                      have HNC : Hid (A11 = none → c11 = 0) := fun e => by
                        rcases hown11.2.2.2 with ⟨_, h⟩ | ⟨_, _, _, h, _⟩
                        · exact h
                        · rw [e] at h; cases h
                      obtain ⟨zs2, hzs2⟩ : ∃ zs2, zs2 = ([] : List Int).take 0 ++ (id :: ([] : List Int).drop 0) := ⟨_, rfl⟩
                      have hz2l : zs2.length = 1 := by rw [hzs2]; simp; try omega
                      have hlen2 : 1 = zs2.length := by first | omega | (rw [hz2l]; rfl)
                      have HPERM2 : Hid ((idsOf S7.now).Perm zs2) := by
                        show (idsOf S7.now).Perm zs2
                        rw [HIDS7.out, hzs2]; exact (HPERM.out.append_right [id]).trans (perm_in ([] : List Int) id 0).symm
                      have HSORT2 : Hid (zs2.Pairwise (· < ·)) := by
                        show zs2.Pairwise _
                        rw [hzs2]; exact sorted_in HSORT.out HLS.out HGT.out
                      have HGD2 : Hid (∀ x ∈ zs2, Good x) := fun x hx => by
                        rw [hzs2] at hx
                        rcases List.mem_append.1 hx with hx | hx
                        · exact HGD.out x (List.mem_of_mem_take hx)
                        · rcases List.mem_cons.1 hx with rfl | hx
                          · exact hG
                          · exact HGD.out x (List.mem_of_mem_drop hx)
                      have HSL11 : Hid (SlA (intE .i64) (Quiet w11) w11 A11 c11 zs2) := by
                        exact (show ∀ xs n, OwnS w11 3 1 A11 c11 n xs → n = zs2.length → xs = zs2.flatMap intC → SlA (intE .i64) (Quiet w11) w11 A11 c11 zs2 from fun xs n h h1 h2 => by subst h2; exact own_ints h h1 (fun x hx => (HGD2.out x hx).i64)) _ _ hown11 hlen2 (by rw [hzs2]; simp [intC])
                      rw [show Value.slice A11 (1) c11 = Value.slice A11 zs2.length c11 from by rw [← hlen2]]
                      have HB711 : Hid (Below w7.heap.size w7 w11) := HB78.out.trans (hB11.mono HB78.out.size)
                      have P11 : Hid (PInv w w11 g S7 (.slice A11 zs2.length c11) zs2 (i + 1)) := ⟨D7.out.below HB711.out, HPIC7.out.qk (QKeep.below HB711.out), HHALF7.out, HPERM2.out, HSORT2.out, HCALM7.out, ⟨A11, c11, rfl, HSL11.out, HNC.out⟩, by rw [hz2l]; omega⟩
                      have HX11 := Lib.hid (HX7.out.qk (QKeep.below HB711.out))
                      have HBL11 := Lib.hid (HBL7.out.qk (QKeep.below HB711.out))
                      have hci11 := (hB11.cell (p := ⟨bi, oi + i, none⟩) (cell_lt hci8)).trans hci8
                      have HIDIN : Hid (id ∈ idsOf S7.now) := by show _ ∈ _; rw [HIDS7.out]; simp
                      have HZ2 := Lib.hid hz2l
                      clear hown11 hg11 hat11 hB11 hlen2 hzs2 HO10 HA10 HB10 HSL10 HSL8 HSL7 HB78 D7 HPIC7 HHALF7 HIDS7 HCALM7 HBL7 HX7 HB711 hci8 hci9 HLS HGT HPERM HSORT HGD
                      obtain ⟨pic, hpic⟩ : ∃ pic : Int → List UInt8, ∀ j ∈ idsOf S7.now, (BlobAt w11 (fgetD zB S7.now (picN j)) (sealB (pic j)) ∧ (sealB (pic j)).length ≤ 60000) ∧ (j = id → pic j = xb) := by
                        have hex : ∀ j, ∃ x : List UInt8, j ∈ idsOf S7.now → (BlobAt w11 (fgetD zB S7.now (picN j)) (sealB x) ∧ (sealB x).length ≤ 60000) ∧ (j = id → x = xb) := fun j => by
                          by_cases e : j = id
                          · exact ⟨xb, fun _ => ⟨⟨e ▸ HBL11.out, HSEAL.out⟩, fun _ => rfl⟩⟩
                          · by_cases hj : j ∈ idsOf S7.now
                            · have hm := ids_mem P11.out.pics hj
                              obtain ⟨x, hx1, hx2⟩ := pic_blob P11.out.disk.nodup P11.out.pics hm.1 hm.2
                              exact ⟨x, fun _ => ⟨⟨hx1, hx2⟩, fun h => absurd h e⟩⟩
                            · exact ⟨[], fun h => absurd h hj⟩
                        obtain ⟨f, hf⟩ := Classical.axiomOfChoice hex
                        exact ⟨f, hf⟩
                      have HLAT := Lib.hid (klatest_ok w g S7 pic w11 P11.out.disk hT P11.out.pics (fun h => by rw [P11.out.half] at h; cases h) (by rw [P11.out.len]; have := P11.out.le; omega) (fun j hj => (hpic j hj).1))
                      have HPICX : Hid (id ∈ idsOf S7.now → pic id = xb) := fun h => (hpic id h).2 rfl
                      clear hpic
                      go_wp2_with fail
                      refine HLAT.out.mono ?_
                      rintro e w12 ⟨hor, hb12⟩
                      rcases hor with ⟨h0, -⟩ | ⟨kk, A12, c12, hkk, hmax, rfl, hs12⟩
                      · have h := HIDIN.out
                        rw [h0] at h; cases h
                      · have P12 := Lib.hid (P11.out.below hb12)
                        have HSL12 := Lib.hid (HSL11.out.qk (QKeep.below hb12))
                        have HX12 := Lib.hid (HX11.out.qk (QKeep.below hb12))
                        have hci12 := (hb12.cell (p := ⟨bi, oi + i, none⟩) (cell_lt hci11)).trans hci11
                        obtain ⟨b11, o11, rfl, _, hlast, _⟩ := HSL12.out.int_ (k := 0) (by rw [HZ2.out]; omega)
                        have elast : zs2[0]'(by rw [HZ2.out]; omega) = kk := max_last P11.out.sorted HZ2.out (P11.out.ids.mem_iff.1 hkk) (fun j hj => hmax j (P11.out.ids.mem_iff.2 hj))
                        rw [elast] at hlast
                        try simp only [Nat.add_zero] at hlast
                        clear HLAT HSL11 HX11 HBL11 hb12 elast hci11 hmax
                        by_cases ek : kk = id
                        · have epic := HPICX.out (ek ▸ hkk)
                          subst ek
                          rw [epic] at hs12
                          rw [epic]
                          have v1 := conv_string (P := Tryz.prog) (src := 28) (dst := 9) hs12 Tryz.underlying28 Tryz.underlying5 Tryz.underlying9
                          have v2 := conv_string (P := Tryz.prog) (src := 28) (dst := 9) HX12.out Tryz.underlying28 Tryz.underlying5 Tryz.underlying9
                          rw [HXL.out] at v1 v2
                          rw [HXL.out]
                          rw [HZ2.out]
                          go_wp2_with fail
                          refine (klist_ok w g S7 w12 P12.out.disk hT P12.out.pics (fun h => by rw [P12.out.half] at h; cases h) (by rw [P12.out.len]; have := P12.out.le; omega)).mono ?_
                          rintro e w9 ⟨zs9, v9, rfl, hr9, hp9, hs9, hb9⟩
                          have hzs9 : zs9 = zs2 := same_sorted (hp9.trans P12.out.ids) hs9 P12.out.sorted
                          rw [hzs9] at hr9
                          obtain ⟨A9, c9, rfl, hsl9⟩ := row_ints hr9 (fun x hx => (P12.out.good x hx).i64)
                          have P9 := Lib.hid (P12.out.below hb9)
                          have HIS := Lib.hid (ints_same A9 (some ⟨b11, o11, none⟩) c9 c11 zs2 w9 _ _ hsl9 (HSL12.out.qk (QKeep.below hb9)))
                          rw [HZ2.out] at HIS
                          rw [HZ2.out]
                          clear hzs9 hr9 hp9 hs9 hb9 hsl9 P12 HSL12
                          go_wp2_with fail
                          refine HIS.out.mono ?_
                          rintro e w10 ⟨rfl, hb10⟩
                          have P10 := Lib.hid (P9.out.below hb10)
                          rw [HZ2.out] at P10
                          clear hb10 P9 HIS
                          go_wp2_with fail
                          refine ⟨⟨i + 1, zs2, S7, by omega, by omega, by congr 1, P10.out⟩, ?_⟩
                          simp [intOf]; omega
                        · have hkn : (kk == id) = false := beq_eq_false_iff_ne.2 ek
                          rw [HZ2.out]
                          go_wp2_with fail
                          refine (klist_ok w g S7 w12 P12.out.disk hT P12.out.pics (fun h => by rw [P12.out.half] at h; cases h) (by rw [P12.out.len]; have := P12.out.le; omega)).mono ?_
                          rintro e w9 ⟨zs9, v9, rfl, hr9, hp9, hs9, hb9⟩
                          have hzs9 : zs9 = zs2 := same_sorted (hp9.trans P12.out.ids) hs9 P12.out.sorted
                          rw [hzs9] at hr9
                          obtain ⟨A9, c9, rfl, hsl9⟩ := row_ints hr9 (fun x hx => (P12.out.good x hx).i64)
                          have P9 := Lib.hid (P12.out.below hb9)
                          have HIS := Lib.hid (ints_same A9 (some ⟨b11, o11, none⟩) c9 c11 zs2 w9 _ _ hsl9 (HSL12.out.qk (QKeep.below hb9)))
                          rw [HZ2.out] at HIS
                          rw [HZ2.out]
                          clear hzs9 hr9 hp9 hs9 hb9 hsl9 P12 HSL12
                          go_wp2_with fail
                          refine HIS.out.mono ?_
                          rintro e w10 ⟨rfl, hb10⟩
                          have P10 := Lib.hid (P9.out.below hb10)
                          rw [HZ2.out] at P10
                          clear hb10 P9 HIS
                          go_wp2_with fail
                          refine ⟨⟨i + 1, zs2, S7, by omega, by omega, by congr 1, P10.out⟩, ?_⟩
                          simp [intOf]; omega
                    · by_cases hck : cL = 0
                      all_goals
                        as_aux_lemma =>
                        simp only [List.length_nil] at *
                        go_wp2_with fail
                        go_quiet (fail)
                        obtain ⟨W8, hW8⟩ : ∃ W8, W8 = (w7.drewN q3).drewN nq := ⟨_, rfl⟩
                        have HB78 : Hid (Below w7.heap.size w7 W8) := by rw [hW8]; exact bdrewN (bdrewN (Below.refl _ _) _) _
                        have HSL8 := Lib.hid (HSL7.out.qk (QKeep.below HB78.out))
                        have hci8 : W8.cell? ⟨bi, oi + i, none⟩ = some (.int .i64 id) := by rw [hW8]; exact hci7
                        rw [← hW8]
                        clear hW8 hci7
                        go_wp2_with (at_builtin; refine wpList_append_S rfl _ _ 32 32 rfl 3 _ 1 8 Tryz.underlying32 info_int_ rfl (by decide) none 0 0 [] rfl (OwnS.nil _ _ _) _ rfl 0 [] (src_empty _ _ _) (by unfold maxLen; omega) (by omega) ?_)
                        intro A9 c9 w9 hown9 hg9 hat9
                        have hB9 : Below W8.heap.size W8 w9 := (Below.refl _ _).grown hg9 (Nat.le_refl _) (fun k e => by simp [blk] at e)
                        have HA9 : Hid (∀ k, blk A9 = some k → W8.heap.size ≤ k) := fun k e => by
                          rcases hat9 with h | h
                          · rw [h] at e; cases e
                          · rw [h] at e; injection e with e; omega
                        have HO9 : Hid (OwnS w9 3 1 A9 c9 0 ([] : List Value)) := by
                          have h := hown9
                          try simp only [List.nil_append, Nat.zero_add] at h
                          exact h
                        have HB9 := Lib.hid hB9
                        try simp only [Nat.zero_add]
                        have hci9 := (hB9.cell (p := ⟨bi, oi + i, none⟩) (cell_lt hci8)).trans hci8
                        clear hown9 hg9 hat9 hB9
                        go_wp2_with (at_builtin; refine wpList_push_S (w0 := w9) rfl (.tmp 114) (.tmp 119) 32 rfl 3 _ 1 8 Tryz.underlying32 info_int_ rfl (by decide) A9 c9 0 ([] : List Value) rfl HO9.out [.int .i64 id] rfl rfl (by simp [Value.oneCell']) (by unfold maxLen; omega) (by omega) ?_)
                        intro A10 c10 w10 hown10 hg10 hat10
                        have hB10 : Below W8.heap.size W8 w10 := HB9.out.grown hg10 HB9.out.size (fun k e => HA9.out k e)
                        have HA10 : Hid (∀ k, blk A10 = some k → W8.heap.size ≤ k) := fun k e => by
                          rcases hat10 with h | ⟨j, h, h2⟩
                          · exact HA9.out k (h ▸ e)
                          · rw [h] at e; injection e with e; subst e; exact Nat.le_trans HB9.out.size h2
                        have HO10 := Lib.hid hown10
                        have HB10 := Lib.hid hB10
                        have HSL10 := Lib.hid (HSL8.out.qk (QKeep.below hB10))
                        clear hown10 hg10 hat10 hB10 HO9 HA9 HB9

                        go_wp2_with (at_builtin; refine wpList_append_S rfl _ _ 32 32 rfl 3 _ 1 8 Tryz.underlying32 info_int_ rfl (by decide) A10 c10 (0 + 1) _ rfl HO10.out _ rfl 0 [] (src_empty _ _ _) (by unfold maxLen; omega) (by omega) ?_)

                        intro A11 c11 w11 hown11 hg11 hat11
                        have hB11 : Below W8.heap.size W8 w11 := HB10.out.grown hg11 HB10.out.size (fun k e => HA10.out k e)
                        have HNC : Hid (A11 = none → c11 = 0) := fun e => by
                          rcases hown11.2.2.2 with ⟨_, h⟩ | ⟨_, _, _, h, _⟩
                          · exact h
                          · rw [e] at h; cases h
                        obtain ⟨zs2, hzs2⟩ : ∃ zs2, zs2 = ([] : List Int).take 0 ++ (id :: ([] : List Int).drop 0) := ⟨_, rfl⟩
                        have hz2l : zs2.length = 1 := by rw [hzs2]; simp; try omega
                        have hlen2 : 1 = zs2.length := by first | omega | (rw [hz2l]; rfl)
                        have HPERM2 : Hid ((idsOf S7.now).Perm zs2) := by
                          show (idsOf S7.now).Perm zs2
                          rw [HIDS7.out, hzs2]; exact (HPERM.out.append_right [id]).trans (perm_in ([] : List Int) id 0).symm
                        have HSORT2 : Hid (zs2.Pairwise (· < ·)) := by
                          show zs2.Pairwise _
                          rw [hzs2]; exact sorted_in HSORT.out HLS.out HGT.out
                        have HGD2 : Hid (∀ x ∈ zs2, Good x) := fun x hx => by
                          rw [hzs2] at hx
                          rcases List.mem_append.1 hx with hx | hx
                          · exact HGD.out x (List.mem_of_mem_take hx)
                          · rcases List.mem_cons.1 hx with rfl | hx
                            · exact hG
                            · exact HGD.out x (List.mem_of_mem_drop hx)
                        have HSL11 : Hid (SlA (intE .i64) (Quiet w11) w11 A11 c11 zs2) := by
                          exact (show ∀ xs n, OwnS w11 3 1 A11 c11 n xs → n = zs2.length → xs = zs2.flatMap intC → SlA (intE .i64) (Quiet w11) w11 A11 c11 zs2 from fun xs n h h1 h2 => by subst h2; exact own_ints h h1 (fun x hx => (HGD2.out x hx).i64)) _ _ hown11 hlen2 (by rw [hzs2]; simp [intC])
                        rw [show Value.slice A11 (1) c11 = Value.slice A11 zs2.length c11 from by rw [← hlen2]]
                        have HB711 : Hid (Below w7.heap.size w7 w11) := HB78.out.trans (hB11.mono HB78.out.size)
                        have P11 : Hid (PInv w w11 g S7 (.slice A11 zs2.length c11) zs2 (i + 1)) := ⟨D7.out.below HB711.out, HPIC7.out.qk (QKeep.below HB711.out), HHALF7.out, HPERM2.out, HSORT2.out, HCALM7.out, ⟨A11, c11, rfl, HSL11.out, HNC.out⟩, by rw [hz2l]; omega⟩
                        have HX11 := Lib.hid (HX7.out.qk (QKeep.below HB711.out))
                        have HBL11 := Lib.hid (HBL7.out.qk (QKeep.below HB711.out))
                        have hci11 := (hB11.cell (p := ⟨bi, oi + i, none⟩) (cell_lt hci8)).trans hci8
                        have HIDIN : Hid (id ∈ idsOf S7.now) := by show _ ∈ _; rw [HIDS7.out]; simp
                        have HZ2 := Lib.hid hz2l
                        clear hown11 hg11 hat11 hB11 hlen2 hzs2 HO10 HA10 HB10 HSL10 HSL8 HSL7 HB78 D7 HPIC7 HHALF7 HIDS7 HCALM7 HBL7 HX7 HB711 hci8 hci9 HLS HGT HPERM HSORT HGD
                        obtain ⟨pic, hpic⟩ : ∃ pic : Int → List UInt8, ∀ j ∈ idsOf S7.now, (BlobAt w11 (fgetD zB S7.now (picN j)) (sealB (pic j)) ∧ (sealB (pic j)).length ≤ 60000) ∧ (j = id → pic j = xb) := by
                          have hex : ∀ j, ∃ x : List UInt8, j ∈ idsOf S7.now → (BlobAt w11 (fgetD zB S7.now (picN j)) (sealB x) ∧ (sealB x).length ≤ 60000) ∧ (j = id → x = xb) := fun j => by
                            by_cases e : j = id
                            · exact ⟨xb, fun _ => ⟨⟨e ▸ HBL11.out, HSEAL.out⟩, fun _ => rfl⟩⟩
                            · by_cases hj : j ∈ idsOf S7.now
                              · have hm := ids_mem P11.out.pics hj
                                obtain ⟨x, hx1, hx2⟩ := pic_blob P11.out.disk.nodup P11.out.pics hm.1 hm.2
                                exact ⟨x, fun _ => ⟨⟨hx1, hx2⟩, fun h => absurd h e⟩⟩
                              · exact ⟨[], fun h => absurd h hj⟩
                          obtain ⟨f, hf⟩ := Classical.axiomOfChoice hex
                          exact ⟨f, hf⟩
                        have HLAT := Lib.hid (klatest_ok w g S7 pic w11 P11.out.disk hT P11.out.pics (fun h => by rw [P11.out.half] at h; cases h) (by rw [P11.out.len]; have := P11.out.le; omega) (fun j hj => (hpic j hj).1))
                        have HPICX : Hid (id ∈ idsOf S7.now → pic id = xb) := fun h => (hpic id h).2 rfl
                        clear hpic
                        go_wp2_with fail
                        refine HLAT.out.mono ?_
                        rintro e w12 ⟨hor, hb12⟩
                        rcases hor with ⟨h0, -⟩ | ⟨kk, A12, c12, hkk, hmax, rfl, hs12⟩
                        · have h := HIDIN.out
                          rw [h0] at h; cases h
                        · have P12 := Lib.hid (P11.out.below hb12)
                          have HSL12 := Lib.hid (HSL11.out.qk (QKeep.below hb12))
                          have HX12 := Lib.hid (HX11.out.qk (QKeep.below hb12))
                          have hci12 := (hb12.cell (p := ⟨bi, oi + i, none⟩) (cell_lt hci11)).trans hci11
                          obtain ⟨b11, o11, rfl, _, hlast, _⟩ := HSL12.out.int_ (k := 0) (by rw [HZ2.out]; omega)
                          have elast : zs2[0]'(by rw [HZ2.out]; omega) = kk := max_last P11.out.sorted HZ2.out (P11.out.ids.mem_iff.1 hkk) (fun j hj => hmax j (P11.out.ids.mem_iff.2 hj))
                          rw [elast] at hlast
                          try simp only [Nat.add_zero] at hlast
                          clear HLAT HSL11 HX11 HBL11 hb12 elast hci11 hmax
                          by_cases ek : kk = id
                          · have epic := HPICX.out (ek ▸ hkk)
                            subst ek
                            rw [epic] at hs12
                            rw [epic]
                            have v1 := conv_string (P := Tryz.prog) (src := 28) (dst := 9) hs12 Tryz.underlying28 Tryz.underlying5 Tryz.underlying9
                            have v2 := conv_string (P := Tryz.prog) (src := 28) (dst := 9) HX12.out Tryz.underlying28 Tryz.underlying5 Tryz.underlying9
                            rw [HXL.out] at v1 v2
                            rw [HXL.out]
                            rw [HZ2.out]
                            go_wp2_with fail
                            refine (klist_ok w g S7 w12 P12.out.disk hT P12.out.pics (fun h => by rw [P12.out.half] at h; cases h) (by rw [P12.out.len]; have := P12.out.le; omega)).mono ?_
                            rintro e w9 ⟨zs9, v9, rfl, hr9, hp9, hs9, hb9⟩
                            have hzs9 : zs9 = zs2 := same_sorted (hp9.trans P12.out.ids) hs9 P12.out.sorted
                            rw [hzs9] at hr9
                            obtain ⟨A9, c9, rfl, hsl9⟩ := row_ints hr9 (fun x hx => (P12.out.good x hx).i64)
                            have P9 := Lib.hid (P12.out.below hb9)
                            have HIS := Lib.hid (ints_same A9 (some ⟨b11, o11, none⟩) c9 c11 zs2 w9 _ _ hsl9 (HSL12.out.qk (QKeep.below hb9)))
                            rw [HZ2.out] at HIS
                            rw [HZ2.out]
                            clear hzs9 hr9 hp9 hs9 hb9 hsl9 P12 HSL12
                            go_wp2_with fail
                            refine HIS.out.mono ?_
                            rintro e w10 ⟨rfl, hb10⟩
                            have P10 := Lib.hid (P9.out.below hb10)
                            rw [HZ2.out] at P10
                            clear hb10 P9 HIS
                            go_wp2_with fail
                            refine ⟨⟨i + 1, zs2, S7, by omega, by omega, by congr 1, P10.out⟩, ?_⟩
                            simp [intOf]; omega
                          · have hkn : (kk == id) = false := beq_eq_false_iff_ne.2 ek
                            rw [HZ2.out]
                            go_wp2_with fail
                            refine (klist_ok w g S7 w12 P12.out.disk hT P12.out.pics (fun h => by rw [P12.out.half] at h; cases h) (by rw [P12.out.len]; have := P12.out.le; omega)).mono ?_
                            rintro e w9 ⟨zs9, v9, rfl, hr9, hp9, hs9, hb9⟩
                            have hzs9 : zs9 = zs2 := same_sorted (hp9.trans P12.out.ids) hs9 P12.out.sorted
                            rw [hzs9] at hr9
                            obtain ⟨A9, c9, rfl, hsl9⟩ := row_ints hr9 (fun x hx => (P12.out.good x hx).i64)
                            have P9 := Lib.hid (P12.out.below hb9)
                            have HIS := Lib.hid (ints_same A9 (some ⟨b11, o11, none⟩) c9 c11 zs2 w9 _ _ hsl9 (HSL12.out.qk (QKeep.below hb9)))
                            rw [HZ2.out] at HIS
                            rw [HZ2.out]
                            clear hzs9 hr9 hp9 hs9 hb9 hsl9 P12 HSL12
                            go_wp2_with fail
                            refine HIS.out.mono ?_
                            rintro e w10 ⟨rfl, hb10⟩
                            have P10 := Lib.hid (P9.out.below hb10)
                            rw [HZ2.out] at P10
                            clear hb10 P9 HIS
                            go_wp2_with fail
                            refine ⟨⟨i + 1, zs2, S7, by omega, by omega, by congr 1, P10.out⟩, ?_⟩
                            simp [intOf]; omega
                  · have hzp : 0 < zs.length := List.length_pos_iff.2 hz0
                    obtain ⟨ba, oa, rfl, -, -, -⟩ := HSL7.out.int_ hzp
                    by_cases hck : cL = zs.length
                    · as_aux_lemma =>
                      subst hck
                      go_wp2_with fail
                      go_quiet (fail)
                      obtain ⟨W8, hW8⟩ : ∃ W8, W8 = (w7.drewN q3).drewN nq := ⟨_, rfl⟩
                      have HB78 : Hid (Below w7.heap.size w7 W8) := by rw [hW8]; exact bdrewN (bdrewN (Below.refl _ _) _) _
                      have HSL8 := Lib.hid (HSL7.out.qk (QKeep.below HB78.out))
                      have hci8 : W8.cell? ⟨bi, oi + i, none⟩ = some (.int .i64 id) := by rw [hW8]; exact hci7
                      have HS1 : Hid (Src Tryz.prog 1 32 (.slice (some ⟨ba, oa, none⟩) zs.length zs.length) zs.length (zs.flatMap intC) W8) := src_ints HSL8.out
                      rw [← hW8]
                      clear hW8 hci7
                      go_wp2_with (at_builtin; refine wpList_append_S rfl _ _ 32 32 rfl 3 _ 1 8 Tryz.underlying32 info_int_ rfl (by decide) none 0 0 [] rfl (OwnS.nil _ _ _) _ rfl zs.length (zs.flatMap intC) HS1.out (by unfold maxLen; omega) (by omega) ?_)
                      intro A9 c9 w9 hown9 hg9 hat9
                      have hB9 : Below W8.heap.size W8 w9 := (Below.refl _ _).grown hg9 (Nat.le_refl _) (fun k e => by simp [blk] at e)
                      have HA9 : Hid (∀ k, blk A9 = some k → W8.heap.size ≤ k) := fun k e => by
                        rcases hat9 with h | h
                        · rw [h] at e; cases e
                        · rw [h] at e; injection e with e; omega
                      have HO9 : Hid (OwnS w9 3 1 A9 c9 zs.length (zs.flatMap intC)) := by
                        have h := hown9
                        try simp only [List.nil_append, Nat.zero_add] at h
                        exact h
                      have HB9 := Lib.hid hB9
                      try simp only [Nat.zero_add]
                      have hci9 := (hB9.cell (p := ⟨bi, oi + i, none⟩) (cell_lt hci8)).trans hci8
                      clear hown9 hg9 hat9 hB9 HS1
                      go_wp2_with (at_builtin; refine wpList_push_S (w0 := w9) rfl (.tmp 114) (.tmp 119) 32 rfl 3 _ 1 8 Tryz.underlying32 info_int_ rfl (by decide) A9 c9 zs.length (zs.flatMap intC) rfl HO9.out [.int .i64 id] rfl rfl (by simp [Value.oneCell']) (by unfold maxLen; omega) (by omega) ?_)
                      intro A10 c10 w10 hown10 hg10 hat10
                      have hB10 : Below W8.heap.size W8 w10 := HB9.out.grown hg10 HB9.out.size (fun k e => HA9.out k e)
                      have HA10 : Hid (∀ k, blk A10 = some k → W8.heap.size ≤ k) := fun k e => by
                        rcases hat10 with h | ⟨j, h, h2⟩
                        · exact HA9.out k (h ▸ e)
                        · rw [h] at e; injection e with e; subst e; exact Nat.le_trans HB9.out.size h2
                      have HO10 := Lib.hid hown10
                      have HB10 := Lib.hid hB10
                      have HSL10 := Lib.hid (HSL8.out.qk (QKeep.below hB10))
                      clear hown10 hg10 hat10 hB10 HO9 HA9 HB9

                      go_wp2_with (at_builtin; refine wpList_append_S rfl _ _ 32 32 rfl 3 _ 1 8 Tryz.underlying32 info_int_ rfl (by decide) A10 c10 (zs.length + 1) _ rfl HO10.out _ rfl 0 [] (src_empty _ _ _) (by unfold maxLen; omega) (by omega) ?_)

                      intro A11 c11 w11 hown11 hg11 hat11
                      have hB11 : Below W8.heap.size W8 w11 := HB10.out.grown hg11 HB10.out.size (fun k e => HA10.out k e)
                      have HNC : Hid (A11 = none → c11 = 0) := fun e => by
                        rcases hown11.2.2.2 with ⟨_, h⟩ | ⟨_, _, _, h, _⟩
                        · exact h
                        · rw [e] at h; cases h
                      obtain ⟨zs2, hzs2⟩ : ∃ zs2, zs2 = zs.take zs.length ++ (id :: zs.drop zs.length) := ⟨_, rfl⟩
                      have hz2l : zs2.length = zs.length + 1 := by rw [hzs2]; simp; try omega
                      have hlen2 : zs.length + 1 = zs2.length := by first | omega | (rw [hz2l]; rfl)
                      have HPERM2 : Hid ((idsOf S7.now).Perm zs2) := by
                        show (idsOf S7.now).Perm zs2
                        rw [HIDS7.out, hzs2]; exact (HPERM.out.append_right [id]).trans (perm_in zs id zs.length).symm
                      have HSORT2 : Hid (zs2.Pairwise (· < ·)) := by
                        show zs2.Pairwise _
                        rw [hzs2]; exact sorted_in HSORT.out HLS.out HGT.out
                      have HGD2 : Hid (∀ x ∈ zs2, Good x) := fun x hx => by
                        rw [hzs2] at hx
                        rcases List.mem_append.1 hx with hx | hx
                        · exact HGD.out x (List.mem_of_mem_take hx)
                        · rcases List.mem_cons.1 hx with rfl | hx
                          · exact hG
                          · exact HGD.out x (List.mem_of_mem_drop hx)
                      have HSL11 : Hid (SlA (intE .i64) (Quiet w11) w11 A11 c11 zs2) := by
                        exact (show ∀ xs n, OwnS w11 3 1 A11 c11 n xs → n = zs2.length → xs = zs2.flatMap intC → SlA (intE .i64) (Quiet w11) w11 A11 c11 zs2 from fun xs n h h1 h2 => by subst h2; exact own_ints h h1 (fun x hx => (HGD2.out x hx).i64)) _ _ hown11 hlen2 (by rw [hzs2]; simp [intC])
                      rw [show Value.slice A11 (zs.length + 1) c11 = Value.slice A11 zs2.length c11 from by rw [← hlen2]]
                      have HB711 : Hid (Below w7.heap.size w7 w11) := HB78.out.trans (hB11.mono HB78.out.size)
                      have P11 : Hid (PInv w w11 g S7 (.slice A11 zs2.length c11) zs2 (i + 1)) := ⟨D7.out.below HB711.out, HPIC7.out.qk (QKeep.below HB711.out), HHALF7.out, HPERM2.out, HSORT2.out, HCALM7.out, ⟨A11, c11, rfl, HSL11.out, HNC.out⟩, by rw [hz2l]; omega⟩
                      have HX11 := Lib.hid (HX7.out.qk (QKeep.below HB711.out))
                      have HBL11 := Lib.hid (HBL7.out.qk (QKeep.below HB711.out))
                      have hci11 := (hB11.cell (p := ⟨bi, oi + i, none⟩) (cell_lt hci8)).trans hci8
                      have HIDIN : Hid (id ∈ idsOf S7.now) := by show _ ∈ _; rw [HIDS7.out]; simp
                      have HZ2 := Lib.hid hz2l
                      clear hown11 hg11 hat11 hB11 hlen2 hzs2 HO10 HA10 HB10 HSL10 HSL8 HSL7 HB78 D7 HPIC7 HHALF7 HIDS7 HCALM7 HBL7 HX7 HB711 hci8 hci9 HLS HGT HPERM HSORT HGD
                      obtain ⟨pic, hpic⟩ : ∃ pic : Int → List UInt8, ∀ j ∈ idsOf S7.now, (BlobAt w11 (fgetD zB S7.now (picN j)) (sealB (pic j)) ∧ (sealB (pic j)).length ≤ 60000) ∧ (j = id → pic j = xb) := by
                        have hex : ∀ j, ∃ x : List UInt8, j ∈ idsOf S7.now → (BlobAt w11 (fgetD zB S7.now (picN j)) (sealB x) ∧ (sealB x).length ≤ 60000) ∧ (j = id → x = xb) := fun j => by
                          by_cases e : j = id
                          · exact ⟨xb, fun _ => ⟨⟨e ▸ HBL11.out, HSEAL.out⟩, fun _ => rfl⟩⟩
                          · by_cases hj : j ∈ idsOf S7.now
                            · have hm := ids_mem P11.out.pics hj
                              obtain ⟨x, hx1, hx2⟩ := pic_blob P11.out.disk.nodup P11.out.pics hm.1 hm.2
                              exact ⟨x, fun _ => ⟨⟨hx1, hx2⟩, fun h => absurd h e⟩⟩
                            · exact ⟨[], fun h => absurd h hj⟩
                        obtain ⟨f, hf⟩ := Classical.axiomOfChoice hex
                        exact ⟨f, hf⟩
                      have HLAT := Lib.hid (klatest_ok w g S7 pic w11 P11.out.disk hT P11.out.pics (fun h => by rw [P11.out.half] at h; cases h) (by rw [P11.out.len]; have := P11.out.le; omega) (fun j hj => (hpic j hj).1))
                      have HPICX : Hid (id ∈ idsOf S7.now → pic id = xb) := fun h => (hpic id h).2 rfl
                      clear hpic
                      go_wp2_with fail
                      refine HLAT.out.mono ?_
                      rintro e w12 ⟨hor, hb12⟩
                      rcases hor with ⟨h0, -⟩ | ⟨kk, A12, c12, hkk, hmax, rfl, hs12⟩
                      · have h := HIDIN.out
                        rw [h0] at h; cases h
                      · have P12 := Lib.hid (P11.out.below hb12)
                        have HSL12 := Lib.hid (HSL11.out.qk (QKeep.below hb12))
                        have HX12 := Lib.hid (HX11.out.qk (QKeep.below hb12))
                        have hci12 := (hb12.cell (p := ⟨bi, oi + i, none⟩) (cell_lt hci11)).trans hci11
                        obtain ⟨b11, o11, rfl, _, hlast, _⟩ := HSL12.out.int_ (k := zs.length) (by rw [HZ2.out]; omega)
                        have elast : zs2[zs.length]'(by rw [HZ2.out]; omega) = kk := max_last P11.out.sorted HZ2.out (P11.out.ids.mem_iff.1 hkk) (fun j hj => hmax j (P11.out.ids.mem_iff.2 hj))
                        rw [elast] at hlast
                        clear HLAT HSL11 HX11 HBL11 hb12 elast hci11 hmax
                        by_cases ek : kk = id
                        · have epic := HPICX.out (ek ▸ hkk)
                          subst ek
                          rw [epic] at hs12
                          rw [epic]
                          have v1 := conv_string (P := Tryz.prog) (src := 28) (dst := 9) hs12 Tryz.underlying28 Tryz.underlying5 Tryz.underlying9
                          have v2 := conv_string (P := Tryz.prog) (src := 28) (dst := 9) HX12.out Tryz.underlying28 Tryz.underlying5 Tryz.underlying9
                          rw [HXL.out] at v1 v2
                          rw [HXL.out]
                          rw [HZ2.out]
                          go_wp2_with fail
                          refine (klist_ok w g S7 w12 P12.out.disk hT P12.out.pics (fun h => by rw [P12.out.half] at h; cases h) (by rw [P12.out.len]; have := P12.out.le; omega)).mono ?_
                          rintro e w9 ⟨zs9, v9, rfl, hr9, hp9, hs9, hb9⟩
                          have hzs9 : zs9 = zs2 := same_sorted (hp9.trans P12.out.ids) hs9 P12.out.sorted
                          rw [hzs9] at hr9
                          obtain ⟨A9, c9, rfl, hsl9⟩ := row_ints hr9 (fun x hx => (P12.out.good x hx).i64)
                          have P9 := Lib.hid (P12.out.below hb9)
                          have HIS := Lib.hid (ints_same A9 (some ⟨b11, o11, none⟩) c9 c11 zs2 w9 _ _ hsl9 (HSL12.out.qk (QKeep.below hb9)))
                          rw [HZ2.out] at HIS
                          rw [HZ2.out]
                          clear hzs9 hr9 hp9 hs9 hb9 hsl9 P12 HSL12
                          go_wp2_with fail
                          refine HIS.out.mono ?_
                          rintro e w10 ⟨rfl, hb10⟩
                          have P10 := Lib.hid (P9.out.below hb10)
                          rw [HZ2.out] at P10
                          clear hb10 P9 HIS
                          go_wp2_with fail
                          refine ⟨⟨i + 1, zs2, S7, by omega, by omega, by congr 1, P10.out⟩, ?_⟩
                          simp [intOf]; omega
                        · have hkn : (kk == id) = false := beq_eq_false_iff_ne.2 ek
                          rw [HZ2.out]
                          go_wp2_with fail
                          refine (klist_ok w g S7 w12 P12.out.disk hT P12.out.pics (fun h => by rw [P12.out.half] at h; cases h) (by rw [P12.out.len]; have := P12.out.le; omega)).mono ?_
                          rintro e w9 ⟨zs9, v9, rfl, hr9, hp9, hs9, hb9⟩
                          have hzs9 : zs9 = zs2 := same_sorted (hp9.trans P12.out.ids) hs9 P12.out.sorted
                          rw [hzs9] at hr9
                          obtain ⟨A9, c9, rfl, hsl9⟩ := row_ints hr9 (fun x hx => (P12.out.good x hx).i64)
                          have P9 := Lib.hid (P12.out.below hb9)
                          have HIS := Lib.hid (ints_same A9 (some ⟨b11, o11, none⟩) c9 c11 zs2 w9 _ _ hsl9 (HSL12.out.qk (QKeep.below hb9)))
                          rw [HZ2.out] at HIS
                          rw [HZ2.out]
                          clear hzs9 hr9 hp9 hs9 hb9 hsl9 P12 HSL12
                          go_wp2_with fail
                          refine HIS.out.mono ?_
                          rintro e w10 ⟨rfl, hb10⟩
                          have P10 := Lib.hid (P9.out.below hb10)
                          rw [HZ2.out] at P10
                          clear hb10 P9 HIS
                          go_wp2_with fail
                          refine ⟨⟨i + 1, zs2, S7, by omega, by omega, by congr 1, P10.out⟩, ?_⟩
                          simp [intOf]; omega
                    · as_aux_lemma =>
                      go_wp2_with fail
                      go_quiet (fail)
                      obtain ⟨W8, hW8⟩ : ∃ W8, W8 = (w7.drewN q3).drewN nq := ⟨_, rfl⟩
                      have HB78 : Hid (Below w7.heap.size w7 W8) := by rw [hW8]; exact bdrewN (bdrewN (Below.refl _ _) _) _
                      have HSL8 := Lib.hid (HSL7.out.qk (QKeep.below HB78.out))
                      have hci8 : W8.cell? ⟨bi, oi + i, none⟩ = some (.int .i64 id) := by rw [hW8]; exact hci7
                      have HS1 : Hid (Src Tryz.prog 1 32 (.slice (some ⟨ba, oa, none⟩) zs.length cL) zs.length (zs.flatMap intC) W8) := src_ints HSL8.out
                      rw [← hW8]
                      clear hW8 hci7
                      go_wp2_with (at_builtin; refine wpList_append_S rfl _ _ 32 32 rfl 3 _ 1 8 Tryz.underlying32 info_int_ rfl (by decide) none 0 0 [] rfl (OwnS.nil _ _ _) _ rfl zs.length (zs.flatMap intC) HS1.out (by unfold maxLen; omega) (by omega) ?_)
                      intro A9 c9 w9 hown9 hg9 hat9
                      have hB9 : Below W8.heap.size W8 w9 := (Below.refl _ _).grown hg9 (Nat.le_refl _) (fun k e => by simp [blk] at e)
                      have HA9 : Hid (∀ k, blk A9 = some k → W8.heap.size ≤ k) := fun k e => by
                        rcases hat9 with h | h
                        · rw [h] at e; cases e
                        · rw [h] at e; injection e with e; omega
                      have HO9 : Hid (OwnS w9 3 1 A9 c9 zs.length (zs.flatMap intC)) := by
                        have h := hown9
                        try simp only [List.nil_append, Nat.zero_add] at h
                        exact h
                      have HB9 := Lib.hid hB9
                      try simp only [Nat.zero_add]
                      have hci9 := (hB9.cell (p := ⟨bi, oi + i, none⟩) (cell_lt hci8)).trans hci8
                      clear hown9 hg9 hat9 hB9 HS1
                      go_wp2_with (at_builtin; refine wpList_push_S (w0 := w9) rfl (.tmp 114) (.tmp 119) 32 rfl 3 _ 1 8 Tryz.underlying32 info_int_ rfl (by decide) A9 c9 zs.length (zs.flatMap intC) rfl HO9.out [.int .i64 id] rfl rfl (by simp [Value.oneCell']) (by unfold maxLen; omega) (by omega) ?_)
                      intro A10 c10 w10 hown10 hg10 hat10
                      have hB10 : Below W8.heap.size W8 w10 := HB9.out.grown hg10 HB9.out.size (fun k e => HA9.out k e)
                      have HA10 : Hid (∀ k, blk A10 = some k → W8.heap.size ≤ k) := fun k e => by
                        rcases hat10 with h | ⟨j, h, h2⟩
                        · exact HA9.out k (h ▸ e)
                        · rw [h] at e; injection e with e; subst e; exact Nat.le_trans HB9.out.size h2
                      have HO10 := Lib.hid hown10
                      have HB10 := Lib.hid hB10
                      have HSL10 := Lib.hid (HSL8.out.qk (QKeep.below hB10))
                      clear hown10 hg10 hat10 hB10 HO9 HA9 HB9

                      go_wp2_with (at_builtin; refine wpList_append_S rfl _ _ 32 32 rfl 3 _ 1 8 Tryz.underlying32 info_int_ rfl (by decide) A10 c10 (zs.length + 1) _ rfl HO10.out _ rfl 0 [] (src_empty _ _ _) (by unfold maxLen; omega) (by omega) ?_)

                      intro A11 c11 w11 hown11 hg11 hat11
                      have hB11 : Below W8.heap.size W8 w11 := HB10.out.grown hg11 HB10.out.size (fun k e => HA10.out k e)
                      have HNC : Hid (A11 = none → c11 = 0) := fun e => by
                        rcases hown11.2.2.2 with ⟨_, h⟩ | ⟨_, _, _, h, _⟩
                        · exact h
                        · rw [e] at h; cases h
                      obtain ⟨zs2, hzs2⟩ : ∃ zs2, zs2 = zs.take zs.length ++ (id :: zs.drop zs.length) := ⟨_, rfl⟩
                      have hz2l : zs2.length = zs.length + 1 := by rw [hzs2]; simp; try omega
                      have hlen2 : zs.length + 1 = zs2.length := by first | omega | (rw [hz2l]; rfl)
                      have HPERM2 : Hid ((idsOf S7.now).Perm zs2) := by
                        show (idsOf S7.now).Perm zs2
                        rw [HIDS7.out, hzs2]; exact (HPERM.out.append_right [id]).trans (perm_in zs id zs.length).symm
                      have HSORT2 : Hid (zs2.Pairwise (· < ·)) := by
                        show zs2.Pairwise _
                        rw [hzs2]; exact sorted_in HSORT.out HLS.out HGT.out
                      have HGD2 : Hid (∀ x ∈ zs2, Good x) := fun x hx => by
                        rw [hzs2] at hx
                        rcases List.mem_append.1 hx with hx | hx
                        · exact HGD.out x (List.mem_of_mem_take hx)
                        · rcases List.mem_cons.1 hx with rfl | hx
                          · exact hG
                          · exact HGD.out x (List.mem_of_mem_drop hx)
                      have HSL11 : Hid (SlA (intE .i64) (Quiet w11) w11 A11 c11 zs2) := by
                        exact (show ∀ xs n, OwnS w11 3 1 A11 c11 n xs → n = zs2.length → xs = zs2.flatMap intC → SlA (intE .i64) (Quiet w11) w11 A11 c11 zs2 from fun xs n h h1 h2 => by subst h2; exact own_ints h h1 (fun x hx => (HGD2.out x hx).i64)) _ _ hown11 hlen2 (by rw [hzs2]; simp [intC])
                      rw [show Value.slice A11 (zs.length + 1) c11 = Value.slice A11 zs2.length c11 from by rw [← hlen2]]
                      have HB711 : Hid (Below w7.heap.size w7 w11) := HB78.out.trans (hB11.mono HB78.out.size)
                      have P11 : Hid (PInv w w11 g S7 (.slice A11 zs2.length c11) zs2 (i + 1)) := ⟨D7.out.below HB711.out, HPIC7.out.qk (QKeep.below HB711.out), HHALF7.out, HPERM2.out, HSORT2.out, HCALM7.out, ⟨A11, c11, rfl, HSL11.out, HNC.out⟩, by rw [hz2l]; omega⟩
                      have HX11 := Lib.hid (HX7.out.qk (QKeep.below HB711.out))
                      have HBL11 := Lib.hid (HBL7.out.qk (QKeep.below HB711.out))
                      have hci11 := (hB11.cell (p := ⟨bi, oi + i, none⟩) (cell_lt hci8)).trans hci8
                      have HIDIN : Hid (id ∈ idsOf S7.now) := by show _ ∈ _; rw [HIDS7.out]; simp
                      have HZ2 := Lib.hid hz2l
                      clear hown11 hg11 hat11 hB11 hlen2 hzs2 HO10 HA10 HB10 HSL10 HSL8 HSL7 HB78 D7 HPIC7 HHALF7 HIDS7 HCALM7 HBL7 HX7 HB711 hci8 hci9 HLS HGT HPERM HSORT HGD
                      obtain ⟨pic, hpic⟩ : ∃ pic : Int → List UInt8, ∀ j ∈ idsOf S7.now, (BlobAt w11 (fgetD zB S7.now (picN j)) (sealB (pic j)) ∧ (sealB (pic j)).length ≤ 60000) ∧ (j = id → pic j = xb) := by
                        have hex : ∀ j, ∃ x : List UInt8, j ∈ idsOf S7.now → (BlobAt w11 (fgetD zB S7.now (picN j)) (sealB x) ∧ (sealB x).length ≤ 60000) ∧ (j = id → x = xb) := fun j => by
                          by_cases e : j = id
                          · exact ⟨xb, fun _ => ⟨⟨e ▸ HBL11.out, HSEAL.out⟩, fun _ => rfl⟩⟩
                          · by_cases hj : j ∈ idsOf S7.now
                            · have hm := ids_mem P11.out.pics hj
                              obtain ⟨x, hx1, hx2⟩ := pic_blob P11.out.disk.nodup P11.out.pics hm.1 hm.2
                              exact ⟨x, fun _ => ⟨⟨hx1, hx2⟩, fun h => absurd h e⟩⟩
                            · exact ⟨[], fun h => absurd h hj⟩
                        obtain ⟨f, hf⟩ := Classical.axiomOfChoice hex
                        exact ⟨f, hf⟩
                      have HLAT := Lib.hid (klatest_ok w g S7 pic w11 P11.out.disk hT P11.out.pics (fun h => by rw [P11.out.half] at h; cases h) (by rw [P11.out.len]; have := P11.out.le; omega) (fun j hj => (hpic j hj).1))
                      have HPICX : Hid (id ∈ idsOf S7.now → pic id = xb) := fun h => (hpic id h).2 rfl
                      clear hpic
                      go_wp2_with fail
                      refine HLAT.out.mono ?_
                      rintro e w12 ⟨hor, hb12⟩
                      rcases hor with ⟨h0, -⟩ | ⟨kk, A12, c12, hkk, hmax, rfl, hs12⟩
                      · have h := HIDIN.out
                        rw [h0] at h; cases h
                      · have P12 := Lib.hid (P11.out.below hb12)
                        have HSL12 := Lib.hid (HSL11.out.qk (QKeep.below hb12))
                        have HX12 := Lib.hid (HX11.out.qk (QKeep.below hb12))
                        have hci12 := (hb12.cell (p := ⟨bi, oi + i, none⟩) (cell_lt hci11)).trans hci11
                        obtain ⟨b11, o11, rfl, _, hlast, _⟩ := HSL12.out.int_ (k := zs.length) (by rw [HZ2.out]; omega)
                        have elast : zs2[zs.length]'(by rw [HZ2.out]; omega) = kk := max_last P11.out.sorted HZ2.out (P11.out.ids.mem_iff.1 hkk) (fun j hj => hmax j (P11.out.ids.mem_iff.2 hj))
                        rw [elast] at hlast
                        clear HLAT HSL11 HX11 HBL11 hb12 elast hci11 hmax
                        by_cases ek : kk = id
                        · have epic := HPICX.out (ek ▸ hkk)
                          subst ek
                          rw [epic] at hs12
                          rw [epic]
                          have v1 := conv_string (P := Tryz.prog) (src := 28) (dst := 9) hs12 Tryz.underlying28 Tryz.underlying5 Tryz.underlying9
                          have v2 := conv_string (P := Tryz.prog) (src := 28) (dst := 9) HX12.out Tryz.underlying28 Tryz.underlying5 Tryz.underlying9
                          rw [HXL.out] at v1 v2
                          rw [HXL.out]
                          rw [HZ2.out]
                          go_wp2_with fail
                          refine (klist_ok w g S7 w12 P12.out.disk hT P12.out.pics (fun h => by rw [P12.out.half] at h; cases h) (by rw [P12.out.len]; have := P12.out.le; omega)).mono ?_
                          rintro e w9 ⟨zs9, v9, rfl, hr9, hp9, hs9, hb9⟩
                          have hzs9 : zs9 = zs2 := same_sorted (hp9.trans P12.out.ids) hs9 P12.out.sorted
                          rw [hzs9] at hr9
                          obtain ⟨A9, c9, rfl, hsl9⟩ := row_ints hr9 (fun x hx => (P12.out.good x hx).i64)
                          have P9 := Lib.hid (P12.out.below hb9)
                          have HIS := Lib.hid (ints_same A9 (some ⟨b11, o11, none⟩) c9 c11 zs2 w9 _ _ hsl9 (HSL12.out.qk (QKeep.below hb9)))
                          rw [HZ2.out] at HIS
                          rw [HZ2.out]
                          clear hzs9 hr9 hp9 hs9 hb9 hsl9 P12 HSL12
                          go_wp2_with fail
                          refine HIS.out.mono ?_
                          rintro e w10 ⟨rfl, hb10⟩
                          have P10 := Lib.hid (P9.out.below hb10)
                          rw [HZ2.out] at P10
                          clear hb10 P9 HIS
                          go_wp2_with fail
                          refine ⟨⟨i + 1, zs2, S7, by omega, by omega, by congr 1, P10.out⟩, ?_⟩
                          simp [intOf]; omega
                        · have hkn : (kk == id) = false := beq_eq_false_iff_ne.2 ek
                          rw [HZ2.out]
                          go_wp2_with fail
                          refine (klist_ok w g S7 w12 P12.out.disk hT P12.out.pics (fun h => by rw [P12.out.half] at h; cases h) (by rw [P12.out.len]; have := P12.out.le; omega)).mono ?_
                          rintro e w9 ⟨zs9, v9, rfl, hr9, hp9, hs9, hb9⟩
                          have hzs9 : zs9 = zs2 := same_sorted (hp9.trans P12.out.ids) hs9 P12.out.sorted
                          rw [hzs9] at hr9
                          obtain ⟨A9, c9, rfl, hsl9⟩ := row_ints hr9 (fun x hx => (P12.out.good x hx).i64)
                          have P9 := Lib.hid (P12.out.below hb9)
                          have HIS := Lib.hid (ints_same A9 (some ⟨b11, o11, none⟩) c9 c11 zs2 w9 _ _ hsl9 (HSL12.out.qk (QKeep.below hb9)))
                          rw [HZ2.out] at HIS
                          rw [HZ2.out]
                          clear hzs9 hr9 hp9 hs9 hb9 hsl9 P12 HSL12
                          go_wp2_with fail
                          refine HIS.out.mono ?_
                          rintro e w10 ⟨rfl, hb10⟩
                          have P10 := Lib.hid (P9.out.below hb10)
                          rw [HZ2.out] at P10
                          clear hb10 P9 HIS
                          go_wp2_with fail
                          refine ⟨⟨i + 1, zs2, S7, by omega, by omega, by congr 1, P10.out⟩, ?_⟩
                          simp [intOf]; omega
          · rcases Nat.lt_or_ge k zs.length with hkl | hkl
            all_goals
              as_aux_lemma =>
              obtain ⟨W, hW⟩ : ∃ W, W = wr.drewN q := ⟨_, rfl⟩
              have HPW : Hid (PInv w W g S (.slice AL zs.length cL) zs i) := HP.out.below (by rw [hW]; exact bdrewN (Below.refl _ _) q)
              have HSLW : Hid (SlA (intE .i64) (Quiet W) W AL cL zs) := HSL.out.qk (by rw [hW]; exact QKeep.below (bdrewN (Below.refl _ _) q))
              have hciW : W.cell? ⟨bi, oi + i, none⟩ = some (.int .i64 id) := by rw [hW]; exact hci2
              rw [← hW]
              clear hW HP HSL hci2 hci
              have hsrc := Src.of_sl (P := Tryz.prog) (tx := 28) (HB.out.keep (Same.below HPW.out.disk.all)) Tryz.underlying28 bytCells (fun cs x hx => hx) (fun _ => rfl) (fun x u hu => by simp [bytCells] at hu; subst hu; rfl)
              have HSRC := Lib.hid hsrc
              clear hsrc
              go_wp2_with (at_builtin; refine wpList_append_S rfl _ _ 28 28 rfl 5 _ 1 1 Tryz.underlying28 info_u8_ rfl (by decide) none 0 0 [] rfl (OwnS.nil _ _ _) _ rfl b.length (b.flatMap bytCells) HSRC.out (by unfold maxLen; omega) (by omega) ?_)
              intro A5 c5 w5 hown5 hg5 hat5
              have hB5 : Below W.heap.size W w5 := (Below.refl _ _).grown hg5 (Nat.le_refl _) (fun k e => by simp [blk] at e)
              have HA5 : Hid (∀ k, blk A5 = some k → W.heap.size ≤ k) := fun k e => by
                rcases hat5 with h | h
                · rw [h] at e; cases e
                · rw [h] at e; injection e with e; omega
              have HO5 : Hid (OwnS w5 5 1 A5 c5 b.length (b.flatMap bytCells)) := by
                have h := hown5
                try simp only [List.nil_append, Nat.zero_add] at h
                exact h
              have HB5 := Lib.hid hB5
              try simp only [Nat.zero_add]
              clear hown5 hg5 hat5 hB5 HSRC
              go_wp2_with (at_builtin; refine wpList_push_S (w0 := w5) rfl (.tmp 74) (.tmp 77) 28 rfl 5 _ 1 1 Tryz.underlying28 info_u8_ rfl (by decide) A5 c5 b.length (b.flatMap bytCells) rfl HO5.out [.int .u8 (i : Int)] rfl rfl (by simp [Value.oneCell']) (by unfold maxLen; omega) (by omega) ?_)
              intro A6 c6 w6 hown6 hg6 hat6
              have hB6 : Below W.heap.size W w6 := HB5.out.grown hg6 HB5.out.size (fun k e => HA5.out k e)
              obtain ⟨xb, hxb⟩ : ∃ xb, xb = b ++ [UInt8.ofNat i] := ⟨_, rfl⟩
              have hxl : xb.length = b.length + 1 := by rw [hxb]; simp
              have HX6 : Hid (SlA bytE (Quiet w6) w6 A6 c6 xb) := by
                have e : b.flatMap bytCells ++ [Value.int .u8 (i : Int)] = xb.flatMap bytCells := by
                  have e2 : ((UInt8.ofNat i).toNat : Int) = i := by rw [UInt8.toNat_ofNat']; omega
                  rw [hxb, List.flatMap_append]; simp [bytCells]; omega
                rw [e] at hown6
                exact OwnS.sl (E := bytE) bytCells (fun _ => rfl) hown6 hxl.symm (fun k e => own_quiet hown6 e) (fun x hx => rfl)
              have P6 := Lib.hid (HPW.out.below hB6)
              have HSL6 := Lib.hid (HSLW.out.qk (QKeep.below hB6))
              have hci6 := (hB6.cell (p := ⟨bi, oi + i, none⟩) (cell_lt hciW)).trans hciW
              have HXB := Lib.hid hxb
              have HXL := Lib.hid hxl
              clear hown6 hg6 hat6 hB6 HPW HSLW hciW HO5 HB5 HA5 hxb
              have HIDS : Hid (id ∈ idsOf S.now) := P6.out.ids.mem_iff.2 HIN.out
              obtain ⟨xo, hxo1, hxo2⟩ := pic_blob P6.out.disk.nodup P6.out.pics hG ((has_ids P6.out.pics hG).2 HIDS.out)
              have HSV := Lib.hid (save_clash w g S id A6 c6 (b.length + 1) xo w6 P6.out.disk hG hT ((has_ids P6.out.pics hG).2 HIDS.out) hxo1 (by omega))
              clear hxo1 hxo2
              go_wp2_with fail
              refine HSV.out.mono ?_
              rintro e w7 ⟨rfl, hb7⟩
              have P7 := Lib.hid (P6.out.below hb7)
              have HSL7 := Lib.hid (HSL6.out.qk (QKeep.below hb7))
              clear hb7 HSV
              go_wp2_with fail
              refine (error_errno 8 8 w7 (hE.below P7.out.disk.all hw0)).mono ?_
              rintro e w8 ⟨rfl, hb8⟩
              have P8 := Lib.hid (P7.out.below hb8)
              have HSL8 := Lib.hid (HSL7.out.qk (QKeep.below hb8))
              clear hb8 P7 HSL7 P6 HSL6 HX6
              go_wp2_with fail
              refine (klist_ok w g S w8 P8.out.disk hT P8.out.pics (fun h => by rw [P8.out.half] at h; cases h) (by rw [P8.out.len]; have := P8.out.le; omega)).mono ?_
              rintro e w9 ⟨zs9, v9, rfl, hr9, hp9, hs9, hb9⟩
              have hzs9 : zs9 = zs := same_sorted (hp9.trans P8.out.ids) hs9 P8.out.sorted
              rw [hzs9] at hr9
              obtain ⟨A9, c9, rfl, hsl9⟩ := row_ints hr9 (fun x hx => (P8.out.good x hx).i64)
              have P9 := Lib.hid (P8.out.below hb9)
              have HIS := Lib.hid (ints_same A9 AL c9 cL zs w9 _ _ hsl9 (HSL8.out.qk (QKeep.below hb9)))
              clear hzs9 hr9 hp9 hs9 hb9 hsl9 P8 HSL8
              go_wp2_with fail
              refine HIS.out.mono ?_
              rintro e w10 ⟨rfl, hb10⟩
              have P10 := Lib.hid (P9.out.below hb10)
              clear hb10 P9 HIS
              go_wp2_with fail
              refine ⟨⟨i + 1, zs, S, by omega, by omega, by congr 1, P10.out.next⟩, ?_⟩
              simp [intOf]; omega
      · obtain ⟨wq, hwq⟩ : ∃ wq, wq = wr := ⟨_, rfl⟩
        have HWQ := Lib.hid hwq
        clear hwq
        by_cases h1 : id < 1
        · as_aux_lemma =>
          have d3 : decide (id < 1) = true := decide_eq_true h1
          go_wp2_with fail
          go_loopw [10, 11] (fun ev kv wx => ev = .int .i64 1 ∧ kv = .int .i64 0 ∧ wx = wq) (fun _ _ _ => 0)
          case atStart => exact ⟨rfl, rfl, HWQ.out.symm⟩
          case round =>
            obtain ⟨rfl, rfl, hwx⟩ := hrel
            rw [hwx]
            rcases Nat.lt_or_ge 0 zs.length with hkl | hkl
            all_goals
              as_aux_lemma =>
              obtain ⟨W, hW⟩ : ∃ W, W = wq := ⟨_, rfl⟩
              have HPW : Hid (PInv w W g S (.slice AL zs.length cL) zs i) := by rw [hW, HWQ.out]; exact HP.out
              have HSLW : Hid (SlA (intE .i64) (Quiet W) W AL cL zs) := by rw [hW, HWQ.out]; exact HSL.out
              have hciW : W.cell? ⟨bi, oi + i, none⟩ = some (.int .i64 id) := by rw [hW, HWQ.out]; exact hci2
              rw [← hW]
              clear hW HP HSL hci2 hci hwx
              have hsrc := Src.of_sl (P := Tryz.prog) (tx := 28) (HB.out.keep (Same.below HPW.out.disk.all)) Tryz.underlying28 bytCells (fun cs x hx => hx) (fun _ => rfl) (fun x u hu => by simp [bytCells] at hu; subst hu; rfl)
              have HSRC := Lib.hid hsrc
              clear hsrc
              go_wp2_with (at_builtin; refine wpList_append_S rfl _ _ 28 28 rfl 5 _ 1 1 Tryz.underlying28 info_u8_ rfl (by decide) none 0 0 [] rfl (OwnS.nil _ _ _) _ rfl b.length (b.flatMap bytCells) HSRC.out (by unfold maxLen; omega) (by omega) ?_)
              intro A5 c5 w5 hown5 hg5 hat5
              have hB5 : Below W.heap.size W w5 := (Below.refl _ _).grown hg5 (Nat.le_refl _) (fun k e => by simp [blk] at e)
              have HA5 : Hid (∀ k, blk A5 = some k → W.heap.size ≤ k) := fun k e => by
                rcases hat5 with h | h
                · rw [h] at e; cases e
                · rw [h] at e; injection e with e; omega
              have HO5 : Hid (OwnS w5 5 1 A5 c5 b.length (b.flatMap bytCells)) := by
                have h := hown5
                try simp only [List.nil_append, Nat.zero_add] at h
                exact h
              have HB5 := Lib.hid hB5
              try simp only [Nat.zero_add]
              clear hown5 hg5 hat5 hB5 HSRC
              go_wp2_with (at_builtin; refine wpList_push_S (w0 := w5) rfl (.tmp 74) (.tmp 77) 28 rfl 5 _ 1 1 Tryz.underlying28 info_u8_ rfl (by decide) A5 c5 b.length (b.flatMap bytCells) rfl HO5.out [.int .u8 (i : Int)] rfl rfl (by simp [Value.oneCell']) (by unfold maxLen; omega) (by omega) ?_)
              intro A6 c6 w6 hown6 hg6 hat6
              have hB6 : Below W.heap.size W w6 := HB5.out.grown hg6 HB5.out.size (fun k e => HA5.out k e)
              obtain ⟨xb, hxb⟩ : ∃ xb, xb = b ++ [UInt8.ofNat i] := ⟨_, rfl⟩
              have hxl : xb.length = b.length + 1 := by rw [hxb]; simp
              have HX6 : Hid (SlA bytE (Quiet w6) w6 A6 c6 xb) := by
                have e : b.flatMap bytCells ++ [Value.int .u8 (i : Int)] = xb.flatMap bytCells := by
                  have e2 : ((UInt8.ofNat i).toNat : Int) = i := by rw [UInt8.toNat_ofNat']; omega
                  rw [hxb, List.flatMap_append]; simp [bytCells]; omega
                rw [e] at hown6
                exact OwnS.sl (E := bytE) bytCells (fun _ => rfl) hown6 hxl.symm (fun k e => own_quiet hown6 e) (fun x hx => rfl)
              have P6 := Lib.hid (HPW.out.below hB6)
              have HSL6 := Lib.hid (HSLW.out.qk (QKeep.below hB6))
              have hci6 := (hB6.cell (p := ⟨bi, oi + i, none⟩) (cell_lt hciW)).trans hciW
              have HXB := Lib.hid hxb
              have HXL := Lib.hid hxl
              clear hown6 hg6 hat6 hB6 HPW HSLW hciW HO5 HB5 HA5 hxb
              have HSV := Lib.hid (save_range g id A6 c6 (b.length + 1) w6 hG)
              go_wp2_with fail
              refine HSV.out.mono ?_
              rintro e w7 ⟨rfl, hw7⟩
              rw [hw7]
              clear HSV
              go_wp2_with fail
              refine (error_errno 1 1 w6 (hE.below P6.out.disk.all hw0)).mono ?_
              rintro e w8 ⟨rfl, hb8⟩
              have P8 := Lib.hid (P6.out.below hb8)
              have HSL8 := Lib.hid (HSL6.out.qk (QKeep.below hb8))
              clear hb8 P6 HSL6 HX6 hw7
              go_wp2_with fail
              refine (klist_ok w g S w8 P8.out.disk hT P8.out.pics (fun h => by rw [P8.out.half] at h; cases h) (by rw [P8.out.len]; have := P8.out.le; omega)).mono ?_
              rintro e w9 ⟨zs9, v9, rfl, hr9, hp9, hs9, hb9⟩
              have hzs9 : zs9 = zs := same_sorted (hp9.trans P8.out.ids) hs9 P8.out.sorted
              rw [hzs9] at hr9
              obtain ⟨A9, c9, rfl, hsl9⟩ := row_ints hr9 (fun x hx => (P8.out.good x hx).i64)
              have P9 := Lib.hid (P8.out.below hb9)
              have HIS := Lib.hid (ints_same A9 AL c9 cL zs w9 _ _ hsl9 (HSL8.out.qk (QKeep.below hb9)))
              clear hzs9 hr9 hp9 hs9 hb9 hsl9 P8 HSL8
              go_wp2_with fail
              refine HIS.out.mono ?_
              rintro e w10 ⟨rfl, hb10⟩
              have P10 := Lib.hid (P9.out.below hb10)
              clear hb10 P9 HIS
              go_wp2_with fail
              refine ⟨⟨i + 1, zs, S, by omega, by omega, by congr 1, P10.out.next⟩, ?_⟩
              simp [intOf]; omega
        · as_aux_lemma =>
          have d3 : decide (id < 1) = false := decide_eq_false h1
          have d4 : decide (1000000000 < id) = true := decide_eq_true (by rcases Int.lt_or_le 1000000000 id with h | h; exact h; exact absurd ⟨by omega, h⟩ hG)
          go_wp2_with fail
          go_loopw [10, 11] (fun ev kv wx => ev = .int .i64 1 ∧ kv = .int .i64 0 ∧ wx = wq) (fun _ _ _ => 0)
          case atStart => exact ⟨rfl, rfl, HWQ.out.symm⟩
          case round =>
            obtain ⟨rfl, rfl, hwx⟩ := hrel
            rw [hwx]
            rcases Nat.lt_or_ge 0 zs.length with hkl | hkl
            all_goals
              as_aux_lemma =>
              obtain ⟨W, hW⟩ : ∃ W, W = wq := ⟨_, rfl⟩
              have HPW : Hid (PInv w W g S (.slice AL zs.length cL) zs i) := by rw [hW, HWQ.out]; exact HP.out
              have HSLW : Hid (SlA (intE .i64) (Quiet W) W AL cL zs) := by rw [hW, HWQ.out]; exact HSL.out
              have hciW : W.cell? ⟨bi, oi + i, none⟩ = some (.int .i64 id) := by rw [hW, HWQ.out]; exact hci2
              rw [← hW]
              clear hW HP HSL hci2 hci hwx
              have hsrc := Src.of_sl (P := Tryz.prog) (tx := 28) (HB.out.keep (Same.below HPW.out.disk.all)) Tryz.underlying28 bytCells (fun cs x hx => hx) (fun _ => rfl) (fun x u hu => by simp [bytCells] at hu; subst hu; rfl)
              have HSRC := Lib.hid hsrc
              clear hsrc
              go_wp2_with (at_builtin; refine wpList_append_S rfl _ _ 28 28 rfl 5 _ 1 1 Tryz.underlying28 info_u8_ rfl (by decide) none 0 0 [] rfl (OwnS.nil _ _ _) _ rfl b.length (b.flatMap bytCells) HSRC.out (by unfold maxLen; omega) (by omega) ?_)
              intro A5 c5 w5 hown5 hg5 hat5
              have hB5 : Below W.heap.size W w5 := (Below.refl _ _).grown hg5 (Nat.le_refl _) (fun k e => by simp [blk] at e)
              have HA5 : Hid (∀ k, blk A5 = some k → W.heap.size ≤ k) := fun k e => by
                rcases hat5 with h | h
                · rw [h] at e; cases e
                · rw [h] at e; injection e with e; omega
              have HO5 : Hid (OwnS w5 5 1 A5 c5 b.length (b.flatMap bytCells)) := by
                have h := hown5
                try simp only [List.nil_append, Nat.zero_add] at h
                exact h
              have HB5 := Lib.hid hB5
              try simp only [Nat.zero_add]
              clear hown5 hg5 hat5 hB5 HSRC
              go_wp2_with (at_builtin; refine wpList_push_S (w0 := w5) rfl (.tmp 74) (.tmp 77) 28 rfl 5 _ 1 1 Tryz.underlying28 info_u8_ rfl (by decide) A5 c5 b.length (b.flatMap bytCells) rfl HO5.out [.int .u8 (i : Int)] rfl rfl (by simp [Value.oneCell']) (by unfold maxLen; omega) (by omega) ?_)
              intro A6 c6 w6 hown6 hg6 hat6
              have hB6 : Below W.heap.size W w6 := HB5.out.grown hg6 HB5.out.size (fun k e => HA5.out k e)
              obtain ⟨xb, hxb⟩ : ∃ xb, xb = b ++ [UInt8.ofNat i] := ⟨_, rfl⟩
              have hxl : xb.length = b.length + 1 := by rw [hxb]; simp
              have HX6 : Hid (SlA bytE (Quiet w6) w6 A6 c6 xb) := by
                have e : b.flatMap bytCells ++ [Value.int .u8 (i : Int)] = xb.flatMap bytCells := by
                  have e2 : ((UInt8.ofNat i).toNat : Int) = i := by rw [UInt8.toNat_ofNat']; omega
                  rw [hxb, List.flatMap_append]; simp [bytCells]; omega
                rw [e] at hown6
                exact OwnS.sl (E := bytE) bytCells (fun _ => rfl) hown6 hxl.symm (fun k e => own_quiet hown6 e) (fun x hx => rfl)
              have P6 := Lib.hid (HPW.out.below hB6)
              have HSL6 := Lib.hid (HSLW.out.qk (QKeep.below hB6))
              have hci6 := (hB6.cell (p := ⟨bi, oi + i, none⟩) (cell_lt hciW)).trans hciW
              have HXB := Lib.hid hxb
              have HXL := Lib.hid hxl
              clear hown6 hg6 hat6 hB6 HPW HSLW hciW HO5 HB5 HA5 hxb
              have HSV := Lib.hid (save_range g id A6 c6 (b.length + 1) w6 hG)
              go_wp2_with fail
              refine HSV.out.mono ?_
              rintro e w7 ⟨rfl, hw7⟩
              rw [hw7]
              clear HSV
              go_wp2_with fail
              refine (error_errno 1 1 w6 (hE.below P6.out.disk.all hw0)).mono ?_
              rintro e w8 ⟨rfl, hb8⟩
              have P8 := Lib.hid (P6.out.below hb8)
              have HSL8 := Lib.hid (HSL6.out.qk (QKeep.below hb8))
              clear hb8 P6 HSL6 HX6 hw7
              go_wp2_with fail
              refine (klist_ok w g S w8 P8.out.disk hT P8.out.pics (fun h => by rw [P8.out.half] at h; cases h) (by rw [P8.out.len]; have := P8.out.le; omega)).mono ?_
              rintro e w9 ⟨zs9, v9, rfl, hr9, hp9, hs9, hb9⟩
              have hzs9 : zs9 = zs := same_sorted (hp9.trans P8.out.ids) hs9 P8.out.sorted
              rw [hzs9] at hr9
              obtain ⟨A9, c9, rfl, hsl9⟩ := row_ints hr9 (fun x hx => (P8.out.good x hx).i64)
              have P9 := Lib.hid (P8.out.below hb9)
              have HIS := Lib.hid (ints_same A9 AL c9 cL zs w9 _ _ hsl9 (HSL8.out.qk (QKeep.below hb9)))
              clear hzs9 hr9 hp9 hs9 hb9 hsl9 P8 HSL8
              go_wp2_with fail
              refine HIS.out.mono ?_
              rintro e w10 ⟨rfl, hb10⟩
              have P10 := Lib.hid (P9.out.below hb10)
              clear hb10 P9 HIS
              go_wp2_with fail
              refine ⟨⟨i + 1, zs, S, by omega, by omega, by congr 1, P10.out.next⟩, ?_⟩
              simp [intOf]; omega
    · as_aux_lemma =>
      have HX : Hid (Has w wr g S zs) := ⟨HP.out.disk, HP.out.pics, HP.out.half, HP.out.ids, HP.out.sorted, by have := HP.out.le; omega⟩
      have HCALM := Lib.hid HP.out.calm
      have hleave : (ids.length ≤ i ∧ decide (i < ids.length) = false) ∨ (i < ids.length ∧ 30 ≤ i) := by
        by_cases c1 : i < ids.length
        · exact .inr ⟨c1, by omega⟩
        · exact .inl ⟨by omega, decide_eq_false c1⟩
      have hzl : zs.length ≤ 30 := by omega
      clear HP hrun
      rcases hleave with ⟨d1, d2⟩ | ⟨d1, d2⟩
      all_goals
        as_aux_lemma =>
        by_cases hm1 : many < 1
        · have d3 : decide (many < 1) = true := decide_eq_true hm1
          go_wp2_with fail
          refine (clean_range g many _ hm1).mono ?_
          rintro e w1 ⟨rfl, rfl⟩
          go_wp2_with fail
          refine (error_errno 1 1 _ (hE.below HX.out.disk.all hw0)).mono ?_
          rintro e w2 ⟨rfl, hb2⟩
          have HX2 := Lib.hid (HX.out.below hb2)
          have HSL2 := Lib.hid (HSL.out.qk (QKeep.below hb2))
          clear hb2
          go_wp2_with fail
          refine (list_plain w g S zs w2 HX2.out hT).mono ?_
          rintro e w3 ⟨A3, c3, rfl, hs3, hb3⟩
          have HX3 := Lib.hid (HX2.out.below hb3)
          have HIS := Lib.hid (ints_same A3 AL c3 cL zs w3 _ _ hs3 (HSL2.out.qk (QKeep.below hb3)))
          clear hb3 hs3
          go_wp2_with fail
          refine HIS.out.mono ?_
          rintro e w4 ⟨rfl, hb4⟩
          have HX4 := Lib.hid (HX3.out.below hb4)
          clear hb4 HIS
          go_wp2_with fail
          refine (latest_plain w g S zs w4 HX4.out hT).mono ?_
          rintro e w5 ⟨hor, hb5⟩
          have HB5 : Hid (Below w.heap.size w w5) := HX4.out.disk.all.trans (hb5.mono HX4.out.disk.all.size)
          clear hb5
          rcases hor with ⟨hz, rfl⟩ | ⟨hz, id, A6, n6, c6, rfl⟩
          · have dz : decide (0 < zs.length) = false := by rw [hz]; rfl
            clear hz
            go_wp2_with fail
            go_ret
            exact ⟨rfl, HB5.out⟩
          · have dz : decide (0 < zs.length) = true := decide_eq_true hz
            clear hz
            go_wp2_with fail
            go_ret
            exact ⟨rfl, HB5.out⟩
        · have d3 : decide (many < 1) = false := decide_eq_false hm1
          obtain ⟨m, rfl⟩ : ∃ m : Nat, many = m := ⟨many.toNat, by omega⟩
          have HCL := Lib.hid (clean_ok w g S m (4 * i) wr HX.out.disk hT HX.out.pics HX.out.half HCALM.out (by omega) (by rw [HX.out.len]; omega) (by omega) (WalkArith.wf_i64 (by have := bounds_i64 hm; omega)))
          go_wp2_with fail
          refine HCL.out.mono ?_
          rintro e w1 ⟨rfl, hq1, zs9, S', hD1, hp9, hs9, hnow, -⟩
          have hzs9 : zs9 = zs := same_sorted (hp9.trans HX.out.ids) hs9 HX.out.sorted
          rw [hzs9] at hnow
          have HX1 : Hid (Has w w1 g S' (zs.drop (zs.length - m))) := by
            refine ⟨hD1, ?_, ?_, ?_, ?_, ?_⟩
            · rw [hnow]; exact pics_keep (HX.out.pics.qk hq1)
            · rw [hnow]; exact half_keep HX.out.half
            · rw [hnow]; exact ids_keep _ HX.out.pics HX.out.half HX.out.ids HX.out.sorted
            · exact HX.out.sorted.sublist (List.drop_sublist _ _)
            · rw [List.length_drop]; omega
          have HSL1 := Lib.hid (HSL.out.qk hq1)
          clear hq1 hD1 hp9 hs9 hnow hzs9 HX HSL HCL HCALM
          go_wp2_with fail
          refine (error_nil 0 w1).mono ?_
          rintro e w2 ⟨rfl, rfl⟩
          by_cases hlt : m < zs.length
          · have d4 : decide (m < zs.length) = true := decide_eq_true hlt
            obtain ⟨lo, hlo⟩ : ∃ lo, zs.length = lo + m := ⟨zs.length - m, by omega⟩
            have hlo2 : zs.length - m = lo := by omega
            rw [hlo2] at HX1
            obtain ⟨ba, oa, rfl, hba_, hca_, hwa_⟩ := HSL1.out.int_ (k := 0) (by omega)
            clear hba_ hca_ hwa_
            have hcut := HSL1.out.cut (k := lo) (by omega)
            rw [show oa + lo * (intE .i64).sz = oa + lo from by simp [intE]] at hcut
            have HCUT := Lib.hid hcut
            have hsub : (zs.length : Int) - (m : Int) = (lo : Int) := by omega
            have hcl := HSL1.out.1
            have hck : ¬ cL = lo := by omega
            have HDL : Hid ((zs.drop lo).length = m) := by show _ = _; rw [List.length_drop]; omega
            have hml : zs.length - lo = m := by omega
            have hm0 : 0 < m := by omega
            have HLO := Lib.hid hlo
            clear hcut hlo hlo2
            go_wp2_with fail
            refine (list_plain w g S' (zs.drop lo) w1 HX1.out hT).mono ?_
            rintro e w3 ⟨A3, c3, rfl, hs3, hb3⟩
            have HX3 := Lib.hid (HX1.out.below hb3)
            have HIS := Lib.hid (ints_same A3 (some ⟨ba, oa + lo, none⟩) c3 (cL - lo) (zs.drop lo) w3 _ _ hs3 (HCUT.out.qk (QKeep.below hb3)))
            rw [HDL.out] at HIS
            rw [HDL.out]
            clear hb3 hs3
            go_wp2_with fail
            refine HIS.out.mono ?_
            rintro e w4 ⟨rfl, hb4⟩
            have HX4 := Lib.hid (HX3.out.below hb4)
            clear hb4 HIS
            go_wp2_with fail
            refine (latest_plain w g S' (zs.drop lo) w4 HX4.out hT).mono ?_
            rintro e w5 ⟨hor, hb5⟩
            have HB5 : Hid (Below w.heap.size w w5) := HX4.out.disk.all.trans (hb5.mono HX4.out.disk.all.size)
            clear hb5
            rcases hor with ⟨hz, rfl⟩ | ⟨hz, id, A6, n6, c6, rfl⟩
            · exfalso; have h := HDL.out; rw [hz] at h; simp at h; omega
            · have dz : decide (0 < m) = true := decide_eq_true (by omega)
              clear hz
              go_wp2_with fail
              go_ret
              exact ⟨rfl, HB5.out⟩
          · have d4 : decide (m < zs.length) = false := decide_eq_false hlt
            rw [show zs.length - m = 0 from by omega, List.drop_zero] at HX1
            go_wp2_with fail
            refine (list_plain w g S' zs w1 HX1.out hT).mono ?_
            rintro e w3 ⟨A3, c3, rfl, hs3, hb3⟩
            have HX3 := Lib.hid (HX1.out.below hb3)
            have HIS := Lib.hid (ints_same A3 AL c3 cL zs w3 _ _ hs3 (HSL1.out.qk (QKeep.below hb3)))
            clear hb3 hs3
            go_wp2_with fail
            refine HIS.out.mono ?_
            rintro e w4 ⟨rfl, hb4⟩
            have HX4 := Lib.hid (HX3.out.below hb4)
            clear hb4 HIS
            go_wp2_with fail
            refine (latest_plain w g S' zs w4 HX4.out hT).mono ?_
            rintro e w5 ⟨hor, hb5⟩
            have HB5 : Hid (Below w.heap.size w w5) := HX4.out.disk.all.trans (hb5.mono HX4.out.disk.all.size)
            clear hb5
            rcases hor with ⟨hz, rfl⟩ | ⟨hz, id, A6, n6, c6, rfl⟩
            · have dz : decide (0 < zs.length) = false := by rw [hz]; rfl
              clear hz
              go_wp2_with fail
              go_ret
              exact ⟨rfl, HB5.out⟩
            · have dz : decide (0 < zs.length) = true := decide_eq_true (by omega)
              clear hz
              go_wp2_with fail
              go_ret
              exact ⟨rfl, HB5.out⟩
end Go.Proofs.YtapabhglcdikeaaGreatDoor
