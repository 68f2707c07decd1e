/-
  The walk of ShareSums: it returns true. No condition.
-/
import Derived.Test.YthobnigjhedjaaaDoorShareSumsP
import Derived.BigQuiet
import Derived.Deep.CutBlock
namespace Go.Proofs.YthobnigjhedjaaaDoor
open Go.RowKit
set_option linter.unusedVariables false

/-- The two names of the first picture. -/
theorem lit_aa {w : World} {g : Nat} {fr : Nat × Nat} (h : w.heap[g]? = some (.cells #[.string aS, .string aS] 9 fr)) : SlA strE (· = g) w (some ⟨g, 0, none⟩) 2 [aS, aS] := by
  refine ⟨by simp, by unfold maxLen; omega, fun i x hi => ?_⟩
  have hx : x = aS := by
    have := List.mem_of_getElem? hi
    simp at this; exact this
  subst hx
  have hi2 : i < 2 := (List.getElem?_eq_some_iff.1 hi).1
  refine ⟨g, 0, [.string aS], rfl, rfl, fun j u hj => ?_, rfl, by decide⟩
  cases j with
  | succ j => simp at hj
  | zero =>
    simp at hj
    subst hj
    have := cell_of_row w g (0 + (i * 1 + 0)) _ _ _ h
    simp only [strE]
    rw [this]
    rcases i with _ | _ | i
    · rfl
    · rfl
    · omega
theorem str_keyS {a b : ByteArray} : (a.toList == b.toList) = decide (a = b) := by
  rw [Lib.toList_data, Lib.toList_data]
  by_cases e : a = b
  · subst e; simp
  · rw [decide_eq_false e]
    refine beq_eq_false_iff_ne.2 fun h => e ?_
    cases a; cases b
    congr 1
    exact Array.toList_inj.1 h
/-- What the first-flag says. -/
def FirstB (m : List ByteArray) (k : Nat) (hk : k < m.length) (j : Nat) (b : Bool) : Prop := (b = true → m[k] ∉ m.take j) ∧ (b = false → m[k] ∈ m.take j)
set_option maxRecDepth 100000 in
set_option maxHeartbeats 4000000 in
theorem shareSums_walk (A : Option Addr) (c : Nat) (l : List (List ByteArray)) (w : World) (hl : SlA (slE strE) (· < w.heap.size) w A c l) :
    Calls Tryd.prog 3 #[.slice A l.length c] w fun e w' => e = .returned (.bool true) ∧ Below w.heap.size w w' := by
  have hle := hl.le
  have H := Lib.hid hl
  have hN := share_new w
  clear hl
  go_enter Tryd.func3, Tryd.ntmps3
  go_wp2_with fail
  refine hN.mono ?_
  rintro e w1 ⟨g, bp, bc, rfl, S1, hg, hbp, hbc, hb1⟩
  have HS1 := Lib.hid S1
  have HB1 := Lib.hid hb1
  have HBP := Lib.hid hbp
  have HBC := Lib.hid hbc
  clear S1 hb1 hbp hbc hN
  obtain ⟨W2, hW2⟩ : ∃ W2, W2 = w1.alloc (.cells #[.string aS, .string aS] 9) := ⟨_, rfl⟩
  have hb2 : Below w1.heap.size w1 W2 := by rw [hW2]; exact (Below.refl _ _).alloc (Nat.le_refl _) _
  have hx2 : W2.heap[w1.heap.size]? = some (.cells #[.string aS, .string aS] 9 (0, 0)) := by rw [hW2]; exact heap_alloc_new _ _
  have hT := take_yes (· = w1.heap.size) g bp bc [] [] 3 (some ⟨w1.heap.size, 0, none⟩) 2 [aS, aS] W2 (HS1.out.below hb2) (by decide) (lit_aa hx2) (fun k hk => by rw [hk]; exact block_lt hx2) take_first (fun x => by rw [cget_nil]; omega)
  have HB2 : Hid (Below w.heap.size w W2) := HB1.out.trans (hb2.mono HB1.out.size)
  clear hb2 hx2
  unfold aS at hW2
  simp only [List.length_cons, List.length_nil] at hT
  go_wp2_with fail
  rw [← hW2]
  refine hT.mono ?_
  rintro e w3 ⟨r1, hr1, rfl, S3, F3⟩
  have HB3 : Hid (Below w.heap.size w w3) := Below.frmOn HB2.out F3 (shF_ge HBP.out HBC.out)
  have hC := count_ok g bp bc _ _ aS w3 S3 (by decide)
  rw [count_first] at hC
  have I3 : ShInv (pl (kset [] 3 r1)) (incs [] (shRow [aS, aS])) := by
    unfold pl
    rw [kmap_set, hr1]
    exact inv_first.take (by simp [pl, kmap, kkeys]) (shRow_nodup _)
  have hD := drop_ok g bp bc _ _ 3 r1 w3 S3 (by decide) rfl (by rw [hr1]; exact shRow_nodup _) (fun x => by
    have h1 := I3.le x
    rw [pl_length] at h1
    have h2 := kset_length ([] : PMapS) 3 r1
    simp only [List.length_nil] at h2
    omega)
  have HI4 : Hid (ShInv (pl (kdel (kset [] 3 r1) 3)) (decs (incs [] (shRow [aS, aS])) r1.xs)) := by
    show ShInv _ _
    rw [pl_del]
    exact I3.drop rfl
  have e0 : kdel (kset ([] : PMapS) 3 r1) 3 = [] := rfl
  rw [e0] at hD HI4
  have e1 := HI4.out.empty
  rw [e1] at hD
  clear hT S3 F3 I3 hr1 HI4 e0 e1 hW2 HS1
  go_wp2_with fail
  refine hC.mono ?_
  rintro e w3' ⟨rfl, rfl⟩
  go_wp2_with fail
  refine hD.mono ?_
  rintro e w4 ⟨rfl, S4, F4⟩
  have HB4 : Hid (Below w.heap.size w w4) := Below.frmOn HB3.out F4 (shF_ge HBP.out HBC.out)
  have HT4 : Hid (∃ P C, TakeSt w g bp bc 0 0 w4 P C) := ⟨[], [], S4, ShInv.nil, nofun, Nat.le_refl _, rfl, by omega, HB4.out⟩
  clear hC hD S4 F4 HB3 HB2 HB1
  go_upto_block 0 with (fail)
  go_cut [7, 8] from 9 to 92 (fun tv iv wx => ∃ (i : Nat) (t : Int), i ≤ 30 ∧ tv = .int .i64 t ∧ iv = .int .i64 i ∧ Hid (∃ P C, TakeSt w g bp bc i t wx P C))
  case first =>
    go_wp2_with fail
    go_loopw [7, 8] (fun tv iv wr => ∃ (i : Nat) (t : Int), i ≤ l.length ∧ i ≤ 30 ∧ tv = .int .i64 t ∧ iv = .int .i64 i ∧ Hid (∃ P C, TakeSt w g bp bc i t wr P C)) (fun _ iv _ => l.length - (intOf iv).toNat)
    case atStart => exact ⟨0, 0, Nat.zero_le _, by omega, rfl, rfl, HT4⟩
    case round =>
      obtain ⟨i, t, hi, hi3, rfl, rfl, HTI⟩ := hrel
      by_cases hlt : i < l.length ∧ i < 30
      · obtain ⟨hl1, hl2⟩ := hlt
        have d0 : decide (i < l.length) = true := decide_eq_true hl1
        have d1 : decide (i < 30) = true := decide_eq_true hl2
        obtain ⟨P, C, T⟩ := HTI.out
        obtain ⟨b0, o0, A', c', rfl, hb0, x0, hs⟩ := (H.out.keep (Same.below T.bel)).sl_ hl1
        have hz : w.heap.size ≤ wr.heap.size := T.bel.size
        have hFk : ∀ k, k < w.heap.size → k < wr.heap.size := fun k hk => by omega
        have hb0' : b0 < wr.heap.size := by omega
        have htb := T.small
        have hwf : (Lit.int .i64 (i : Int)).wf = true := WalkArith.wf_i64 (by omega)
        obtain ⟨m, hm⟩ : ∃ m, m = l[i] := ⟨_, rfl⟩
        rw [← hm] at x0 hs
        cases hE : takeE P i m with
        | some er =>
          have hT := take_no (· < w.heap.size) g bp bc P C i A' c' m wr er T.at_ hwf hs hFk hE
          unfold errV at hT
          have HNX : Hid (∀ W', Below wr.heap.size wr W' → TakeSt w g bp bc (i + 1) t W' P C) := fun W' hb => T.no hb
          clear T hs hE hm HTI hwf
          go_wp2_with fail
          refine hT.mono ?_
          rintro e w5 ⟨rfl, hb5⟩
          have HT5 := Lib.hid (HNX.out w5 hb5)
          clear hT hb5 HNX
          go_wp2_with fail
          go_roundw
          case rel => exact ⟨i + 1, t, by omega, by omega, rfl, by go_num, ⟨P, C, HT5.out⟩⟩
          case measure => simp [intOf]; omega
        | none =>
          have hml : m.length ≤ 400 := (takeE_none hE).2.2.2.1
          have hT := take_yes (· < w.heap.size) g bp bc P C i A' c' m wr T.at_ hwf hs hFk hE (T.cnt hi3)
          have HNX : Hid (∀ (W' : World) (r : RowS), r.xs = shRow m → ShAt W' g bp bc (kset P (i : Int) r) (incs C (shRow m)) → Frm (shF bp bc) wr W' → TakeSt w g bp bc (i + 1) (t + firsts m m.length) W' (kset P (i : Int) r) (incs C (shRow m))) := fun W' r hr hs hf => T.yes HBP.out HBC.out hml hr hs hf
          have HX : Hid (∀ W', Below w.heap.size w W' → W'.cell? ⟨b0, o0 + i, none⟩ = some (.slice A' m.length c') ∧ SlA strE (· < w.heap.size) W' A' c' m) := fun W' hb => by
            have hsm : ∀ k, k < w.heap.size → W'.heap[k]? = wr.heap[k]? := fun k hk => (hb.block k hk).trans (T.bel.block k hk).symm
            refine ⟨?_, hs.keep hsm⟩
            rw [← x0]
            exact World.cell?_of_block (hsm b0 hb0)
          have hfl := firsts_le m
          have HFL := Lib.hid hfl
          clear T hs hE hm HTI hwf hfl
          go_wp2_with fail
          refine hT.mono ?_
          rintro e w5 ⟨r, hr, rfl, S5, F5⟩
          have HT5 := Lib.hid (HNX.out w5 r hr S5 F5)
          clear hT HNX S5 F5 hr
          obtain ⟨x5, hs5⟩ := HX.out w5 HT5.out.bel
          have HS5 := Lib.hid hs5
          have hb5 : b0 < w5.heap.size := Nat.lt_of_lt_of_le hb0 HT5.out.bel.size
          clear hs5 HX x0 hb0'
          go_wp2_with fail
          go_loopw [7, 10] (fun tv kv wx => ∃ k q : Nat, k ≤ m.length ∧ tv = .int .i64 (t + firsts m k) ∧ kv = .int .i64 k ∧ wx = w5.drewN q) (fun _ kv _ => m.length - (intOf kv).toNat)
          case atStart => exact ⟨0, 0, Nat.zero_le _, by simp [firsts], rfl, rfl⟩
          case round =>
            obtain ⟨k, q, hk, rfl, rfl, rfl⟩ := hrel
            by_cases hkl : k < m.length
            · go_wp2_with fail
              go_loopw [11, 12] (fun fv jv wy => ∃ (fb : Bool) (j q' : Nat), j ≤ k ∧ fv = .bool fb ∧ Hid (FirstB m k hkl j fb) ∧ jv = .int .i64 j ∧ wy = w5.drewN q') (fun _ jv _ => k - (intOf jv).toNat)
              case atStart => exact ⟨true, 0, q, Nat.zero_le _, rfl, ⟨fun _ => by simp, nofun⟩, rfl, rfl⟩
              case round =>
                obtain ⟨fb, j, q', hj, rfl, HFB, rfl, rfl⟩ := hrel
                by_cases hjk : j < k
                · obtain ⟨b1, o1, rfl, hb1, y0, hz0⟩ := HS5.out.str_ (k := j) (by omega)
                  obtain ⟨_, _, e1, _, y1, hz1⟩ := HS5.out.str_ (k := k) hkl
                  injection e1 with e1
                  injection e1 with e1 e2 _
                  subst e1; subst e2
                  have hb15 : b1 < w5.heap.size := Nat.lt_of_lt_of_le hb1 HT5.out.bel.size
                  have hTK : m.take (j + 1) = m.take j ++ [m[j]] := List.take_succ_eq_append_getElem (by omega)
                  cases fb with
                  | false =>
                    have HFN : Hid (FirstB m k hkl (j + 1) false) := ⟨nofun, fun _ => by rw [hTK]; exact List.mem_append_left _ (HFB.out.2 rfl)⟩
                    clear hTK y0 y1 hz0 hz1 HFB
                    go_wp2_with fail
                    go_quiet (fail)
                    go_wp2_with fail
                    go_roundw
                    case rel => exact ⟨false, j + 1, q' + nq, by omega, rfl, HFN, by go_num, by simp⟩
                    case measure => simp [intOf]; omega
                  | true =>
                    have h1 : m[k] ∉ m.take j := HFB.out.1 rfl
                    have HFN : Hid (FirstB m k hkl (j + 1) (!(m[j].toList == m[k].toList))) := by
                      show FirstB _ _ _ _ _
                      rw [str_keyS]
                      by_cases e : m[j] = m[k]
                      · rw [decide_eq_true e]
                        exact ⟨nofun, fun _ => by rw [hTK, e]; simp⟩
                      · rw [decide_eq_false e]
                        refine ⟨fun _ h => ?_, nofun⟩
                        rw [hTK] at h
                        rcases List.mem_append.1 h with h | h
                        · exact h1 h
                        · exact e (List.mem_singleton.1 h).symm
                    obtain ⟨y, hy⟩ : ∃ y, y = m[j] := ⟨_, rfl⟩
                    obtain ⟨z, hz⟩ : ∃ z, z = m[k] := ⟨_, rfl⟩
                    rw [← hy, ← hz] at HFN
                    rw [← hy] at y0
                    rw [← hz] at y1
                    clear hTK hz0 hz1 HFB h1 hy hz
                    go_wp2_with fail
                    go_quiet (fail)
                    go_wp2_with fail
                    go_roundw
                    case rel => exact ⟨_, j + 1, q' + nq, by omega, rfl, HFN, by go_num, by simp⟩
                    case measure => simp [intOf]; omega
                · have e : j = k := by omega
                  subst e
                  cases fb with
                  | false =>
                    have hf : firsts m (j + 1) = firsts m j := by
                      have h1 : m[j] ∈ m.take j := HFB.out.2 rfl
                      simp only [firsts]
                      rw [dif_pos hkl, if_pos h1]; rfl
                    have HF1 := Lib.hid hf
                    clear hf
                    go_wp2_with fail
                    go_roundw
                    case rel => exact ⟨j + 1, q', by omega, by rw [HF1.out], by go_num, rfl⟩
                    case measure => simp [intOf]; omega
                  | true =>
                    have hf : firsts m (j + 1) = firsts m j + 1 := by
                      have h1 : m[j] ∉ m.take j := HFB.out.1 rfl
                      simp only [firsts]
                      rw [dif_pos hkl, if_neg h1]
                    have HF1 := Lib.hid hf
                    have h2 := HFL.out j
                    clear hf
                    go_wp2_with fail
                    go_roundw
                    case rel => exact ⟨j + 1, q', by omega, by rw [HF1.out]; go_num, by go_num, rfl⟩
                    case measure => simp [intOf]; omega
            · go_wp2_with fail
              go_roundw
              case rel =>
                have e : k = m.length := by omega
                exact ⟨i + 1, _, by omega, by omega, rfl, by go_num, ⟨_, _, by rw [e]; exact HT5.out.drewN q⟩⟩
              case measure => simp [intOf]; omega
      · by_cases h1 : i < l.length
        · have h2 : ¬ i < 30 := fun h => hlt ⟨h1, h⟩
          go_wp2_with fail
          go_meet
          case rel => exact ⟨i, t, hi3, rfl, rfl, HTI⟩
        · go_wp2_with fail
          go_meet
          case rel => exact ⟨i, t, hi3, rfl, rfl, HTI⟩
  case rest =>
    obtain ⟨w5, rfl⟩ : ∃ wx, wx = wc := ⟨_, rfl⟩
    obtain ⟨i, t, hi3, rfl, rfl, HTI⟩ := hcut
    obtain ⟨P, C, T⟩ := HTI.out
    have hPL : P.length ≤ 30 := Nat.le_trans T.len hi3
    have hCL := T.many hi3
    have hL := live_ok g bp bc P C w5 T.at_ (by omega)
    have HT := Lib.hid T
    have hts := T.small
    clear T HTI HT4 HB4
    go_wp2_with fail
    refine hL.mono ?_
    rintro e w6 ⟨A6, c6, ls, rfl, hs6, hp6, hb6⟩
    obtain ⟨hsum, hpos⟩ := HT.out.sums hp6
    have HS6 := Lib.hid (HT.out.at_.below hb6)
    have HL6 := Lib.hid (hs6.more (F' := fun k => k < w6.heap.size) fun k hk => hk.1.lt)
    have HB6 := Lib.hid hb6
    have hln := hs6.1
    have hl12 : ls.length ≤ 12000 := by rw [hp6.length_eq]; simpa [kkeys] using hCL
    have hlc := hs6.2.1
    obtain ⟨vs, hvs⟩ : ∃ vs, vs = ls.map (cget C) := ⟨_, rfl⟩
    rw [← hvs] at hsum hpos
    have HVA : Hid (∀ (j : Nat) (h : j < ls.length), ∃ h' : j < vs.length, vs[j] = cget C ls[j]) := fun j h => by
      refine ⟨by rw [hvs, List.length_map]; exact h, ?_⟩
      subst hvs
      rw [List.getElem_map]
    have hvl : vs.length = ls.length := by rw [hvs, List.length_map]
    have HVL := Lib.hid hvl
    have HSUM := Lib.hid hsum
    have HPOS := Lib.hid hpos
    clear hL hs6 hp6 hb6 hvs hvl hsum hpos
    obtain ⟨ln, hlnn⟩ : ∃ ln, ln = ls.length := ⟨_, rfl⟩
    have HLN := Lib.hid hlnn
    rw [← hlnn] at hln hl12 ⊢
    clear hlnn
    go_wp2_with fail
    go_loopw [14, 15] (fun nv iv wx => ∃ j : Nat, j ≤ ln ∧ nv = .int .i64 ((vs.take j).sum) ∧ iv = .int .i64 j ∧ wx = w6) (fun _ iv _ => ln - (intOf iv).toNat)
    case atStart => exact ⟨0, Nat.zero_le _, by simp, rfl, rfl⟩
    case round =>
      obtain ⟨j, hj, rfl, rfl, rfl⟩ := hrel
      by_cases hlt : j < ln
      · have hjl : j < ls.length := by rw [← HLN.out]; exact hlt
        obtain ⟨b0, o0, rfl, hb0, x0, hz⟩ := HL6.out.str_ hjl
        have hb0' : b0 < wr.heap.size := hb0
        have hC := count_ok g bp bc P C ls[j] wr HS6.out hz
        obtain ⟨hjv, hve⟩ := HVA.out j hjl
        rw [← hve] at hC
        have hst := sum_take_succ vs j hjv
        have h1 := (take_sum_le vs j fun x hx => by have := HPOS.out x hx; omega)
        have h2 := (take_sum_le vs (j + 1) fun x hx => by have := HPOS.out x hx; omega)
        have h3 := HPOS.out vs[j] (List.getElem_mem hjv)
        rw [HSUM.out] at h1 h2
        have HST := Lib.hid hst
        rw [hst] at h2
        generalize vs[j] = cv at hC h2 h3 HST
        have hdc : decide (cv < 1) = false := decide_eq_false (by omega)
        generalize ls[j] = y at x0 hC
        clear hb0 hve hst hz
        obtain ⟨sm, hsm⟩ : ∃ sm, sm = (vs.take j).sum := ⟨_, rfl⟩
        rw [← hsm] at h1 h2 HST ⊢
        clear hsm
        go_wp2_with fail
        refine hC.mono ?_
        rintro e w7 ⟨rfl, rfl⟩
        go_wp2_with fail
        go_roundw
        case rel => exact ⟨j + 1, by omega, by rw [HST.out], by go_num, trivial⟩
        case measure => simp [intOf]; omega
      · have hje : (vs.take j).sum = t := by
          rw [List.take_of_length_le (by rw [HVL.out, ← HLN.out]; omega)]
          exact HSUM.out
        rw [hje]
        have hP := pictures_ok g bp bc P C wr HS6.out (by omega)
        go_wp2_with fail
        refine hP.mono ?_
        rintro e w7 ⟨A7, c7, ps, rfl, hs7, hp7, hb7⟩
        have hpl : ps.length = P.length := by rw [hp7.length_eq]; simp [kkeys]
        have HND : Hid ps.Nodup := hp7.nodup_iff.2 (by rw [← pl_keys]; exact HT.out.inv.nodup)
        have HPM := Lib.hid hp7
        have h1 := hs7.1
        have h2 := hs7.2.1
        have HSL : Hid (SlA (intE .i64) (IntRow w7) w7 A7 c7 ps) := hs7.more fun k hk => hk.1
        have HD : Hid (DropSt wr g bp bc P [] w7 P C) := ⟨HS6.out.below hb7, HT.out.inv, fun x => by simp, by simp, Frm.ofBelow hb7⟩
        have HBR : Hid (Below w.heap.size w wr) := HT.out.bel.trans (HB6.out.mono HT.out.bel.size)
        obtain ⟨pn, hpn⟩ : ∃ pn, pn = ps.length := ⟨_, rfl⟩
        have HPN := Lib.hid hpn
        rw [← hpn] at h1 hpl ⊢
        have HPP := Lib.hid hpl
        have hp30 : pn ≤ 30 := by omega
        clear hs7 hp7 hb7 hP hpn hpl HSUM HPOS HVA HVL HLN HL6 hje
        go_wp2_with fail
        go_loopw [18] (fun iv wx => ∃ m : Nat, 2 * m ≤ pn + 1 ∧ iv = .int .i64 ((2 * m : Nat) : Int) ∧ Hid (∃ P' C', DropSt wr g bp bc P (evs ps m) wx P' C') ∧ Hid (SlA (intE .i64) (IntRow wx) wx A7 c7 ps)) (fun iv _ => pn + 2 - (intOf iv).toNat)
        case atStart => exact ⟨0, by omega, rfl, ⟨P, C, HD.out⟩, HSL⟩
        case round =>
          obtain ⟨w8, rfl⟩ : ∃ wx, wx = wr := ⟨_, rfl⟩
          obtain ⟨m, hm, rfl, HDI, HLI⟩ := hrel
          by_cases hlt : 2 * m < pn
          · have hli : 2 * m < ps.length := by rw [← HPN.out]; exact hlt
            obtain ⟨b0, o0, rfl, hb0, x0, hz⟩ := HLI.out.int_ hli
            obtain ⟨P', C', D⟩ := HDI.out
            have hin : ps[2 * m] ∈ kkeys P' := (D.keys _).2 ⟨HPM.out.mem_iff.1 (List.getElem_mem hli), evs_new HND.out hli⟩
            obtain ⟨r, hr⟩ := kget_some hin
            have hD := drop_ok g bp bc P' C' ps[2 * m] r w8 D.at_ hz hr (D.rows hr) (D.small (by omega))
            have HNX : Hid (∀ W', ShAt W' g bp bc (kdel P' ps[2 * m]) (decs C' r.xs) → Frm (shF bp bc) w8 W' → ∃ P2 C2, DropSt wr g bp bc P (evs ps (m + 1)) W' P2 C2) := fun W' hs hf => by
              rw [evs_succ hli]
              exact ⟨_, _, D.next hr hs hf⟩
            have HST : Hid (∀ W', Frm (shF bp bc) w8 W' → SlA (intE .i64) (IntRow W') W' (some ⟨b0, o0, none⟩) c7 ps) := fun W' hf => ints_stay D.at_ HLI.out hf
            have hb0' : b0 < w8.heap.size := hb0.lt
            clear D hin hr hb0 hz HDI HLI
            obtain ⟨P2, hP2⟩ : ∃ P2, P2 = kdel P' ps[2 * m] := ⟨_, rfl⟩
            rw [← hP2] at hD HNX
            generalize ps[2 * m] = y at x0 hD
            clear hP2
            obtain ⟨m2, hm2⟩ : ∃ m2, m2 = 2 * m := ⟨_, rfl⟩
            rw [← hm2] at hlt hm x0 ⊢
            have HM2 := Lib.hid hm2
            clear hm2
            go_wp2_with fail
            refine hD.mono ?_
            rintro e w9 ⟨rfl, hs9, hf9⟩
            have HH2 := Lib.hid (HNX.out w9 hs9 hf9)
            have HH3 := Lib.hid (HST.out w9 hf9)
            clear hs9 hf9 hD HNX HST
            go_wp2_with fail
            go_roundw
            case rel => exact ⟨m + 1, by have := HM2.out; omega, by rw [show ((2 * (m + 1) : Nat) : Int) = (m2 : Int) + 2 by have := HM2.out; omega], HH2.out, HH3⟩
            case measure => simp [intOf]; omega
          · obtain ⟨P', C', D⟩ := HDI.out
            have hev := evs_length ps m (by rw [← HPN.out]; exact hm)
            have hdl := D.len
            have hpp := HPP.out
            rw [hev, ← hpp] at hdl
            have hK := keep0_ok g bp bc P' C' w8 D.at_ D.inv (by omega)
            have HFR := Lib.hid D.frm
            have hp2 : P'.length = pn / 2 := by omega
            obtain ⟨qn, hqn⟩ : ∃ qn, qn = P'.length := ⟨_, rfl⟩
            rw [← hqn] at hK hp2
            have HP2 := Lib.hid hp2
            clear D HDI HLI hev hdl hpp hqn hp2
            go_wp2_with fail
            refine hK.mono ?_
            rintro e w9 ⟨A9, c9, rfl, S9, F9⟩
            have hLv := live_ok g bp bc [] [] w9 S9 (by simp)
            have HS9 := Lib.hid S9
            have HB9 : Hid (Below w.heap.size w w9) := Below.frmOn (Below.frmOn HBR.out HFR.out (shF_ge HBP.out HBC.out)) F9 (shF_ge HBP.out HBC.out)
            have hq : (qn : Int) = (pn : Int) / 2 := by have := HP2.out; omega
            clear S9 F9 hK
            go_wp2_with fail
            refine hLv.mono ?_
            rintro e w10 ⟨A10, c10, l10, rfl, hs10, hp10, hb10⟩
            obtain rfl : l10 = [] := List.Perm.eq_nil hp10
            have hPc := pictures_ok g bp bc [] [] w10 (HS9.out.below hb10) (by simp)
            have HB10 : Hid (Below w.heap.size w w10) := HB9.out.trans (hb10.mono HB9.out.size)
            clear hs10 hp10 hb10 hLv
            go_wp2_with fail
            refine hPc.mono ?_
            rintro e w11 ⟨A11, c11, l11, rfl, hs11, hp11, hb11⟩
            obtain rfl : l11 = [] := List.Perm.eq_nil hp11
            have HB11 : Hid (Below w.heap.size w w11) := HB10.out.trans (hb11.mono HB10.out.size)
            clear hs11 hp11 hb11 hPc
            go_wp2_with fail
            go_ret
            exact ⟨rfl, HB11.out⟩
end Go.Proofs.YthobnigjhedjaaaDoor
