/-
  Package keep: the contract of Clean, whatever stops it. Conditions: a disk that holds pictures and half ones, at least one to stay; fewer than 10^11 steps.
-/
import Derived.Test.YthanjafbgcljgaaGreatDoorClean
import Derived.Test.YthanjafbgcljgaaGreatDoorBreakP
namespace Go.Proofs.YthanjafbgcljgaaGreatDoor
open Go.RowKit Go.Shelf
set_option linter.unusedVariables false

/-- The names that are gone behind k of them. -/
def goneN (stay L : List ByteArray) (k : Nat) : List ByteArray := (L.take k).filter fun x => !memB stay x
theorem goneN_zero (stay L : List ByteArray) : goneN stay L 0 = [] := by simp [goneN]
theorem goneN_len (stay L : List ByteArray) (k : Nat) : (goneN stay L k).length ≤ k := Nat.le_trans (List.length_filter_le _ _) (by rw [List.length_take]; omega)
theorem goneN_stay {stay L : List ByteArray} {k : Nat} (hk : k < L.length) (h : memB stay L[k] = true) : goneN stay L (k + 1) = goneN stay L k := by
  unfold goneN
  rw [List.take_succ_eq_append_getElem hk, List.filter_append]
  simp [h]
theorem goneN_go {stay L : List ByteArray} {k : Nat} (hk : k < L.length) (h : memB stay L[k] = false) : goneN stay L (k + 1) = goneN stay L k ++ [L[k]] := by
  unfold goneN
  rw [List.take_succ_eq_append_getElem hk, List.filter_append]
  simp [h]
theorem goneN_no {stay L : List ByteArray} {k : Nat} : ∀ x ∈ goneN stay L k, memB stay x = false := fun x hx => by
  have := (List.mem_filter.1 hx).2
  simpa using this
theorem goneN_has {fs : SMap} {stay L : List ByteArray} {k : Nat} (hk : k < L.length) (hp : L.Perm (skeys fs)) (hn : L.Nodup) : fhas (runOps fs (rems (goneN stay L k))) L[k] = true := by
  obtain ⟨p, hpm, e⟩ := List.mem_map.1 (hp.mem_iff.1 (List.getElem_mem hk))
  refine fhas_iff.2 (List.mem_map.2 ⟨p, (mem_rems _ fs p).2 ⟨hpm, fun hx => ?_⟩, e⟩)
  rw [e] at hx
  have h1 := (List.mem_filter.1 hx).1
  obtain ⟨j, hj, e2⟩ := List.mem_iff_getElem.1 h1
  rw [List.length_take] at hj
  rw [List.getElem_take] at e2
  have := (List.getElem_inj hn).1 e2
  omega
/-- A disk of which names T were removed. -/
def goneS (S : DState) (T : List ByteArray) : DState := { S with now := runOps S.now (rems T), since := S.since ++ rems T, steps := S.steps + T.length }
theorem goneS_nil (S : DState) : goneS S [] = S := by simp [goneS, rems, runOps]
theorem goneS_snoc (S : DState) (T : List ByteArray) (x : ByteArray) : doneS (goneS S T) (.rem x) = goneS S (T ++ [x]) := by
  unfold goneS doneS
  simp only [rems_snoc, runOps_snoc, List.append_assoc, List.length_append, List.length_singleton]
  congr 1
  omega
theorem goneS_ok {S : DState} (h : DiskFine S) (T : List ByteArray) (hT : T.length ≤ 1000) : DiskOk (goneS S T) :=
  ⟨by have := h.st0; simp only [goneS]; omega, by have := h.st1; simp only [goneS]; omega, h.sp0, h.sp1, by have := h.len; simp only [goneS, rems, List.length_append, List.length_map]; omega⟩
/-- What Clean leaves. -/
def CleanPost (w0 w : World) (g : Nat) (S : DState) (many : Int) (e : Ending) (w' : World) : Prop :=
  (∃ v, e = .returned v) ∧ QKeep w w' ∧ ∃ zs S' T, DiskIn w0 w' g S' ∧ zs.Perm (idsOf S.now) ∧ zs.Pairwise (· ≤ ·) ∧ (∀ x ∈ T, memB (stayN zs (zs.length - many.toNat)) x = false) ∧ (S' = goneS S T ∨ S' = syncS (goneS S T)) ∧ T.length ≤ S.now.length ∧ (S.stop = -1 → S' = syncS (goneS S T))
set_option maxRecDepth 100000 in
set_option maxHeartbeats 4000000 in
theorem clean_any (w0 : World) (g : Nat) (S : DState) (many : Int) (w : World) (D : DiskIn w0 w g S) (hT : PowTab w0) (hP : Pics w S.now) (hsy : SynVar w0) (hC : DiskFine S) (hl : S.now.length ≤ 500) (hm : 1 ≤ many) (hmi : I64 many) :
    Calls Tryz.prog 9 #[.pointer (some ⟨g, 0, none⟩), .int .i64 many] w (CleanPost w0 w g S many) := by
  have HD := Lib.hid D
  have HP := Lib.hid hP
  have HC := Lib.hid hC
  have hnd := D.nodup
  have hmb := (bounds_i64 hmi).2
  have HL := Lib.hid (klist_ok w0 g S w D hT hP (fun _ => hsy) (by omega))
  clear D hP hC
  go_enter Tryz.func9, Tryz.ntmps9
  go_wp2_with fail
  refine HL.out.mono ?_
  rintro e w1 ⟨zs, v, rfl, hr1, hp1, hs1, hb1⟩
  have hzl : zs.length ≤ S.now.length := by
    rw [hp1.length_eq]
    have h1 := List.length_filterMap_le idOf (skeys S.now)
    have h2 : (skeys S.now).length = S.now.length := by simp [skeys]
    unfold idsOf; omega
  have HZG : Hid (∀ id ∈ zs, Good id) := fun id hid => (ids_mem HP.out (hp1.mem_iff.1 hid)).1
  have HPZ := Lib.hid hp1
  have HSZ := Lib.hid hs1
  have HB1 := Lib.hid hb1
  obtain ⟨F, hF⟩ : ∃ F, F = zs.length - many.toNat := ⟨_, rfl⟩
  obtain ⟨z, hz⟩ : ∃ z, z = zs.length := ⟨_, rfl⟩
  have e1 : max 0 (wrap64 ((z : Int) - many)) = (F : Int) := by rw [IntWalk.wrap64_in _ (by omega)]; omega
  have e1' : max 0 ((z : Int) - many) = (F : Int) := by omega
  have hFz : F ≤ z := by omega
  have HF := Lib.hid hF
  have HZ := Lib.hid hz
  have e2 : z = 0 → max 0 (wrap64 (-many)) = 0 ∧ max 0 (wrap64 (0 - many)) = 0 ∧ F = 0 := fun h => by
    refine ⟨?_, ?_, by omega⟩
    · rw [IntWalk.wrap64_in _ (by omega)]; omega
    · rw [IntWalk.wrap64_in _ (by omega)]; omega
  have hF1 : 0 < z → F < z := fun h => by omega
  have hsl : (stayN zs F).length = z - F := by unfold stayN; rw [List.length_map, List.length_drop, hz]
  have HVIEW : ∃ gl, Hid (∀ i (hi : i < zs.length), w1.cell? ⟨gl, i, none⟩ = some (.int .i64 zs[i])) ∧ ((v = .slice none 0 0 ∧ z = 0) ∨ (∃ g2 cap, v = .slice (some ⟨g2, 0, none⟩) 0 cap ∧ z = 0 ∧ cap ≤ maxLen) ∨ ∃ cap, v = .slice (some ⟨gl, 0, none⟩) z cap ∧ z ≤ cap ∧ cap ≤ maxLen ∧ 0 < z) := by
    rcases row_view hr1 with ⟨e, hz0⟩ | ⟨g2, cap, e, hcap, hcm, hgl, hcell⟩
    · exact ⟨0, fun i hi => absurd hi (by rw [hz0]; simp), .inl ⟨e, by rw [hz, hz0]; rfl⟩⟩
    · refine ⟨g2, hcell, ?_⟩
      by_cases h0 : z = 0
      · exact .inr (.inl ⟨g2, cap, by rw [e, ← hz, h0], h0, hcm⟩)
      · exact .inr (.inr ⟨cap, by rw [e, hz], by omega, hcm, by omega⟩)
  obtain ⟨gl, HCL, hview⟩ := HVIEW
  have HE2 := Lib.hid e2
  have hzb : z ≤ 500 := by omega
  have HF1 := Lib.hid hF1
  clear hr1 hp1 hs1 hb1 hF hz HL e2 hF1
  rcases hview with ⟨rfl, h0⟩ | ⟨g2, cap, rfl, h0, hcm⟩ | ⟨cap, rfl, hcap, hcm, h0⟩
  rotate_left 2
  have hcF : ¬ cap = F := by have := HF1.out h0; omega
  rotate_left
  obtain ⟨e3, e4, e5⟩ := HE2.out h0
  rotate_left
  obtain ⟨e3, e4, e5⟩ := HE2.out h0
  all_goals
    go_wp2_with fail
  all_goals
    go_loopw [6, 25] (fun v i wr => ∃ k : Nat, k ≤ z - F ∧ i = .int .i64 k ∧ Hid (wr.ownsRow w1.heap.size 9 1 v k (strs ((stayN zs F).take k))) ∧ Hid (Below w1.heap.size w1 wr)) (fun _ i _ => (z - F) - (intOf i).toNat)
    case atStart => exact ⟨0, Nat.zero_le _, rfl, World.ownsRow_nil _ _ _ _, Below.refl _ _⟩
    case round =>
      obtain ⟨k, hk, rfl, HR, HB⟩ := hrel
      have hz1 := HB1.out.size
      have hzr := HB.out.size
      by_cases hlt : k < z - F
      · first
          | (exfalso; omega)
          | (have hi : F + k < zs.length := by have := HZ.out; omega
             have hcell := (HB.out.cell (p := ⟨gl, F + k, none⟩) (cell_lt (HCL.out (F + k) hi))).trans (HCL.out (F + k) hi)
             have hG : Good zs[F + k] := HZG.out _ (List.getElem_mem hi)
             have HSN : Hid ((stayN zs F).take (k + 1) = (stayN zs F).take k ++ [picN zs[F + k]]) := by
               show _ = _
               rw [List.take_succ_eq_append_getElem (by rw [hsl]; exact hlt)]
               simp [stayN]
             have DR := Lib.hid (HD.out.below (HB1.out.trans (HB.out.mono hz1)))
             generalize zs[F + k] = id at hcell hG HSN
             clear hi
             go_wp2_with fail
             refine (kname_ok id wr hG (hT.at_ DR.out)).mono ?_
             rintro e w2 ⟨rfl, hb2⟩
             have hB2 := HB.out.trans (hb2.mono hzr)
             have hR2 := row_below HR.out hb2
             clear hb2
             go_wp2_with (at_builtin; refine wpList_push rfl _ _ 53 rfl w1.heap.size 9 (.string ⟨#[]⟩) 1 16 Tryz.underlying53 info_str_ rfl (by decide) u6 k _ rfl hR2 [.string (picN id)] rfl rfl ?_ ?_ ?_ hB2.size hB2 (Nat.le_refl _) ?_)
             · rintro u hu; simp at hu; subst hu; rfl
             · unfold maxLen; omega
             · omega
             · intro v' w3 hown3 hg3 hb3 _
               have HR3 : Hid (w3.ownsRow w1.heap.size 9 1 v' (k + 1) (strs ((stayN zs F).take (k + 1)))) := by
                 show World.ownsRow _ _ _ _ _ _ _
                 rw [HSN.out]
                 have e : strs ((stayN zs F).take k ++ [picN id]) = strs ((stayN zs F).take k) ++ [.string (picN id)] := by simp [strs]
                 rw [e]; exact hown3
               have HB3 := Lib.hid hb3
               clear hown3 hg3 hb3 hB2 hR2
               go_wp2_with fail
               refine ⟨⟨k + 1, by omega, by congr 1, HR3.out, HB3.out⟩, ?_⟩
               simp [intOf]; omega)
      · have hkz : k = z - F := by omega
        subst hkz
        have HRS : Hid (wr.ownsRow w1.heap.size 9 1 u6 (stayN zs F).length (strs (stayN zs F))) := by
          have h := HR.out
          rw [List.take_of_length_le (by rw [hsl]; exact Nat.le_refl _)] at h
          show World.ownsRow _ _ _ _ _ _ _
          rw [hsl]; exact h
        have hstl : ∀ s ∈ stayN zs F, s.size ≤ maxLen := fun s hs => by
          obtain ⟨id, hid, rfl⟩ := List.mem_map.1 hs
          exact picN_le (HZG.out id (List.mem_of_mem_drop hid))
        obtain ⟨A6, c6, hv6, hs6⟩ := row_strs HRS.out hstl
        rw [hsl] at hv6
        subst hv6
        have HS6 := Lib.hid hs6
        have DR := Lib.hid (HD.out.below (HB1.out.trans (HB.out.mono hz1)))
        have HQR := Lib.hid (QKeep.below (HB1.out.trans (HB.out.mono hz1)))
        obtain ⟨stay, hstay⟩ : ∃ stay, stay = stayN zs F := ⟨_, rfl⟩
        rw [← hstay] at HS6 hsl
        have HSTAY := Lib.hid hstay
        rw [← hsl]
        clear hs6 HRS hstl hstay HR HB hlt hk hsl
        go_wp2_with fail
        refine (names_in w0 g S wr DR.out (by omega)).mono ?_
        rintro e w2 ⟨A2, c2, L, rfl, hs2, hp2, hb2⟩
        have hLl : L.length = S.now.length := by rw [hp2.length_eq]; simp [skeys]
        have hLn : L.length ≤ 500 := by omega
        have HLL := Lib.hid hLl
        have HND : Hid (L.Nodup) := hp2.nodup_iff.2 hnd
        have HS2 := Lib.hid hs2
        have HP2 := Lib.hid hp2
        have HS6B := Lib.hid (HS6.out.qk (QKeep.below hb2))
        have D2 := Lib.hid (DR.out.below hb2)
        have HQ2 := Lib.hid (HQR.out.trans (QKeep.below hb2))
        clear hs2 hp2 hb2 HS6 DR HQR hLl
        go_wp2_with fail
        go_loopw [38] (fun i wx => ∃ k : Nat, k ≤ L.length ∧ i = .int .i64 k ∧ Hid (DiskIn w0 wx g (goneS S (goneN stay L k))) ∧ Hid (QKeep w2 wx)) (fun i _ => L.length - (intOf i).toNat)
        case atStart => exact ⟨0, Nat.zero_le _, rfl, by rw [goneN_zero, goneS_nil]; exact D2.out, QKeep.refl _⟩
        case round =>
          obtain ⟨k, hk, rfl, HDX, HQX⟩ := hrel
          have HOKX : Hid (DiskOk (goneS S (goneN stay L k))) := goneS_ok HC.out _ (by have := goneN_len stay L k; omega)
          have HFINA : Hid (∀ (wz : World) (S' : DState), QKeep wr wz → DiskIn w0 wz g S' → (S' = goneS S (goneN stay L k) ∨ S' = syncS (goneS S (goneN stay L k))) → (S.stop = -1 → S' = syncS (goneS S (goneN stay L k))) → QKeep w wz ∧ ∃ zs S' T, DiskIn w0 wz g S' ∧ zs.Perm (idsOf S.now) ∧ zs.Pairwise (· ≤ ·) ∧ (∀ x ∈ T, memB (stayN zs (zs.length - many.toNat)) x = false) ∧ (S' = goneS S T ∨ S' = syncS (goneS S T)) ∧ T.length ≤ S.now.length ∧ (S.stop = -1 → S' = syncS (goneS S T))) := fun wz S' h1 h2 h3 h4 =>
            ⟨HQ2.out.trans (HQX.out.trans h1), zs, S', goneN stay L k, h2, HPZ.out, HSZ.out, by rw [← HF.out, ← HSTAY.out]; exact goneN_no, h3, by have := goneN_len stay L k; have := HLL.out; omega, h4⟩
          by_cases hlt : k < L.length
          · obtain ⟨bb, off, rfl, hbq, hcell, hsz⟩ := HS2.out.str_ hlt
            have hcell2 := (World.cell?_of_block (a := ⟨bb, off + k, none⟩) (HQX.out bb hbq)).trans hcell
            have HCON := Lib.hid (contains_ok A6 c6 stay L[k] _ wr (HS6B.out.qk HQX.out))
            have HLK : Hid (namedB L[k] = true) := by
              obtain ⟨p, hpm, hpk⟩ := List.mem_map.1 (HP2.out.mem_iff.1 (List.getElem_mem hlt))
              show _ = _
              rcases (HP.out p hpm).1 with e | ⟨id, h1, h2⟩
              · rw [← hpk, e]; exact named_half
              · rw [← hpk, h2]; exact named_pic h1
            have HHAS : Hid (fhas (goneS S (goneN stay L k)).now L[k] = true) := goneN_has hlt HP2.out HND.out
            have HST : Hid (memB stay L[k] = true → goneN stay L (k + 1) = goneN stay L k) := fun h => goneN_stay hlt h
            have HGO : Hid (memB stay L[k] = false → goneN stay L (k + 1) = goneN stay L k ++ [L[k]]) := fun h => goneN_go hlt h
            generalize hx : L[k] = x at hcell2 HCON HLK HHAS HST HGO hsz
            clear hx hcell hbq
            cases hm : memB stay x with
            | true =>
              rw [hm] at HCON
              have HN1 := Lib.hid (HST.out hm)
              go_wp2_with fail
              refine HCON.out.mono ?_
              rintro e w3 ⟨rfl, rfl⟩
              go_wp2_with fail
              refine ⟨⟨k + 1, by omega, by congr 1, by rw [HN1.out]; exact HDX.out, HQX.out⟩, ?_⟩
              simp [intOf]; omega
            | false =>
              rw [hm] at HCON
              cases hst : stoppedB (goneS S (goneN stay L k)) with
              | true =>
                have hr : stepE (goneS S (goneN stay L k)) (hasE (goneS S (goneN stay L k)) x) = some 7 := by simp [stepE, hst]
                have HREM := Lib.hid (remove_ok w0 g _ x wr HDX.out hsz HOKX.out _ hr)
                have HNS : Hid (S.stop ≠ -1) := fun e => by
                  have : (goneS S (goneN stay L k)).stop = -1 := e
                  rw [never_stopped this] at hst; cases hst
                clear hr hst
                go_wp2_with fail
                refine HCON.out.mono ?_
                rintro e w3 ⟨rfl, rfl⟩
                go_wp2_with fail
                refine HREM.out.mono ?_
                rintro e w4 ⟨he, q4, hD4⟩
                obtain rfl : e = .returned (errV (some 7)) := he
                unfold errV
                have D4 : Hid (DiskIn w0 w4 g (goneS S (goneN stay L k))) := hD4
                have HQ4 := Lib.hid q4
                clear q4 hD4
                go_wp2_with fail
                go_ret
                exact ⟨⟨_, rfl⟩, HFINA.out w4 _ HQ4.out D4.out (.inl rfl) (fun e => absurd e HNS.out)⟩
              | false =>
                have hr : stepE (goneS S (goneN stay L k)) (hasE (goneS S (goneN stay L k)) x) = none := by
                  have h2 := HHAS.out
                  have h3 := HLK.out
                  simp [stepE, hst, hasE, h3, h2]
                have HN1 : Hid (doneS (goneS S (goneN stay L k)) (.rem x) = goneS S (goneN stay L (k + 1))) := by
                  show _ = _
                  rw [goneS_snoc, HGO.out hm]
                have HREM := Lib.hid (remove_ok w0 g _ x wr HDX.out hsz HOKX.out none hr)
                clear hr hst
                go_wp2_with fail
                refine HCON.out.mono ?_
                rintro e w3 ⟨rfl, rfl⟩
                go_wp2_with fail
                refine HREM.out.mono ?_
                rintro e w4 ⟨he, q4, hD4⟩
                obtain rfl : e = .returned .nilIface := he
                have D4 : Hid (DiskIn w0 w4 g (goneS S (goneN stay L (k + 1)))) := by
                  show DiskIn _ _ _ _
                  rw [← HN1.out]; exact hD4
                have HQ4 := Lib.hid (HQX.out.trans q4)
                clear q4 hD4
                go_wp2_with fail
                refine ⟨⟨k + 1, by omega, by congr 1, D4.out, HQ4.out⟩, ?_⟩
                simp [intOf]; omega
          · have hkl : k = L.length := by omega
            subst hkl
            cases hst : stoppedB (goneS S (goneN stay L L.length)) with
            | true =>
              have HNS : Hid (S.stop ≠ -1) := fun e => by
                have : (goneS S (goneN stay L L.length)).stop = -1 := e
                rw [never_stopped this] at hst; cases hst
              go_wp2_with fail
              refine (sync_no w0 g _ wr HDX.out hst).mono ?_
              rintro e w3 ⟨rfl, q3⟩
              have HQ3 := Lib.hid (QKeep.below q3)
              have D3 := Lib.hid (HDX.out.below q3)
              clear q3
              unfold errV
              go_wp2_with fail
              go_ret
              exact ⟨⟨_, rfl⟩, HFINA.out w3 _ HQ3.out D3.out (.inl rfl) (fun e => absurd e HNS.out)⟩
            | false =>
              go_wp2_with fail
              refine (sync_ok w0 g _ wr HDX.out HOKX.out hst).mono ?_
              rintro e w3 ⟨rfl, q3, hD3⟩
              have D3 := Lib.hid hD3
              have HQ3 := Lib.hid q3
              clear q3 hD3
              go_wp2_with fail
              go_ret
              exact ⟨⟨_, rfl⟩, HFINA.out w3 _ HQ3.out D3.out (.inr rfl) (fun _ => rfl)⟩
end Go.Proofs.YthanjafbgcljgaaGreatDoor
