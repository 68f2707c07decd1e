/-
  The walk of DenSubs: it returns true. Conditions: the two variables of Atoi's errors hold errors, the table of powers of ten stands.
-/
import Derived.Test.YtcmhbhdiepkndaaGreatDoorPackJ
namespace Go.Proofs.YtcmhbhdiepkndaaGreatDoor
open Go.RowKit Go.ChangeShapes Go.WideShapes Go.Shelf
set_option linter.unusedVariables false

set_option maxRecDepth 100000 in
set_option maxHeartbeats 2000000 in
theorem denSubs_walk (A : Option Addr) (c : Nat) (d : List Rec) (m : Int) (w : World) (hl : SlA recE (· < w.heap.size) w A c d) (wm : (Lit.int .i64 m).wf = true) (hv : ErrVars w) (hT : PowTab w) :
    Calls Tryz.prog 3 #[.slice A d.length c, .int .i64 m] w fun e w' => e = .returned (.bool true) ∧ Below w.heap.size w w' := by
  have hdl := hl.le
  have hmi := i64_of_wf wm
  have HWH : Hid (∀ (kind : Int) (text : ByteArray) (W : World), I64 kind → text.size ≤ maxLen → jobErr (lineJ ⟨kind, [], text, 0⟩) = 0 → kind ≠ 1 → kind ≠ 10 → Below w.heap.size w W →
      Calls Tryz.prog 5 #[.agg #[.int .i64 kind, .slice none 0 0, .string text, .int .i64 0], .slice A d.length c] W (WholePost kind text 0 d W)) := fun kind text W h1 h2 h3 h4 h5 hb =>
    whole_ok kind text 0 (· < W.heap.size) A c d W h1 h2 rfl h3 h4 h5 ((hl.keep fun k hk => hb.block k hk).more fun k hk => Nat.lt_of_lt_of_le hk hb.size) (fun _ h => h) (hv.below hb) (hT.below hb)
  obtain ⟨W1, hW1⟩ : ∃ W1, W1 = w.alloc (.cells (litS.flatMap recCells).toArray 30) := ⟨_, rfl⟩
  have hB1 : Below w.heap.size w W1 := by rw [hW1]; exact (Below.refl _ _).alloc (Nat.le_refl _) _
  have hg1 : W1.heap[w.heap.size]? = some (.cells (litS.flatMap recCells).toArray 30 (0, 0)) := by rw [hW1]; exact heap_alloc_new _ _
  have hlit : SlA recE (· < W1.heap.size) W1 (some ⟨w.heap.size, 0, none⟩) 1 litS := lit_recs litS hg1 (by decide) (block_lt hg1) (fun x hx => by
    simp only [litS, List.mem_cons, List.not_mem_nil, or_false] at hx
    subst hx; exact recOk_lit rfl)
  have HFACT := Lib.hid (whole_ok 4 (txtMod 2) 0 (· < W1.heap.size) (some ⟨w.heap.size, 0, none⟩) 1 litS W1 rfl (by decide) rfl (job_mod (by decide) (by decide)) (by decide) (by decide) hlit (fun _ h => h) (hv.below hB1) (hT.below hB1))
  have HB1 := Lib.hid hB1
  have HW1 := Lib.hid hW1
  clear hl hv hT hg1 hlit hB1 hW1 wm
  go_enter Tryz.func3, Tryz.ntmps3
  go_wp2_with fail
  have e1 : w.alloc (.cells #[.string ⟨#[97]⟩, .int .i64 3, .int .i64 0] 30) = W1 := HW1.out.symm
  rw [e1]
  clear e1 HW1
  refine HFACT.out.mono ?_
  rintro e w2 ⟨_, hfa, hb2⟩
  obtain ⟨A2, c2, out2, rfl, hg2, hs2⟩ := hfa litS_ok
  rw [litS_run] at hg2
  obtain ⟨x2, rfl, hk2, hx2⟩ := hg2.one (k := ⟨#[97, 47, 49]⟩) (by intro r hr; simp only [List.mem_cons, List.not_mem_nil, or_false] at hr; subst hr; rfl) (by simp)
  obtain ⟨b2, o2, A3, c3, rfl, _, y0, y1, _, hn2⟩ := hs2.lin_ (k := 0) (by simp)
  have hcap2 := hs2.1
  simp only [List.getElem_cons_zero, Nat.zero_mul, Nat.add_zero] at y0 y1 hn2
  rw [hk2] at y0
  rw [show List.length [x2] = 1 from rfl] at hcap2 ⊢
  have HB2 := Lib.hid (HB1.out.trans (hb2.mono HB1.out.size))
  clear hg2 hs2 hn2 hx2 hb2 hfa HFACT HB1 hk2 y1
  go_wp2_with fail
  clear y0 hcap2
  refine (HWH.out 2 txtN w2 rfl (by decide) job_n (by decide) (by decide) HB2.out).mono ?_
  rintro e w3 ⟨hno, hyes, hb3⟩
  have HB3 := Lib.hid (HB2.out.trans (hb3.mono HB2.out.size))
  by_cases h0 : dataErr [d] = 0
  · obtain ⟨A4, c4, pl, rfl, hg4, hs4⟩ := hyes h0
    have hko : KeysOk d := (data_len h0).2
    rw [run_map d hko] at hg4
    by_cases hm : 1 ≤ m ∧ m ≤ 9
    · obtain ⟨m, rfl⟩ : ∃ k : Nat, m = (k : Int) := ⟨m.toNat, by omega⟩
      have hm1 : 1 ≤ m := by omega
      have hm9 : m ≤ 9 := by omega
      have HG4 := Lib.hid hg4
      have HS4 := Lib.hid (hs4.more (F' := (· < w3.heap.size)) fun k hk => hk.2)
      have hpl300 : pl.length ≤ 300 := Nat.le_trans hg4.len_le (data_len h0).1
      have H0 := Lib.hid h0
      have d1 : decide (m < 1) = false := decide_eq_false (by omega)
      have d9 : decide (9 < m) = false := decide_eq_false (by omega)
      clear hno hyes hb3 hg4 hs4 hko h0 hmi hm
      go_wp2_with fail
      refine (digits_ok (m : Int) w3 (by omega)).mono ?_
      rintro e w4 ⟨rfl, hb4⟩
      have htm := txt_mod hm1 hm9
      have hts : (⟨(Lib.itoa (m : Int)).toArray⟩ : ByteArray).size ≤ 3 := by
        have h : (⟨#[110, 37]⟩ : ByteArray).size + (⟨(Lib.itoa (m : Int)).toArray⟩ : ByteArray).size = 3 := by rw [← ByteArray.size_append, htm]; rfl
        omega
      have HTM := Lib.hid htm
      have HB4 := Lib.hid (HB3.out.trans (hb4.mono HB3.out.size))
      have HS4b := Lib.hid ((HS4.out.keep fun k hk => hb4.block k hk).more (F' := (· < w4.heap.size)) fun k hk => by have := hb4.size; omega)
      clear htm hb4 HS4
      generalize (⟨(Lib.itoa (m : Int)).toArray⟩ : ByteArray) = tm at hts HTM ⊢
      go_wp2_with fail
      rw [HTM.out]
      clear HTM hts
      refine (HWH.out 4 (txtMod m) w4 rfl (by unfold maxLen; show 3 ≤ _; omega) (job_mod hm1 hm9) (by decide) (by decide) HB4.out).mono ?_
      rintro e w5 ⟨_, hyes, hb5⟩
      obtain ⟨A5, c5, ox, rfl, hg5, hs5⟩ := hyes H0.out
      rw [(run_sub hm1 hm9 d).1] at hg5
      have HG5 := Lib.hid hg5
      have hz4 := hb5.size
      have HS5 := Lib.hid (hs5.more (F' := (· < w5.heap.size)) fun k hk => hk.2)
      have HB5 := Lib.hid (HB4.out.trans (hb5.mono HB4.out.size))
      have HS4c := Lib.hid ((HS4b.out.keep fun k hk => hb5.block k hk).more (F' := (· < w5.heap.size)) fun k hk => by omega)
      have hoxl := hs5.le
      have HQ : Hid (∀ k : ByteArray, k.size ≤ 37 → ∀ j : Int, -9 < j → j < 9 → numsOf ox (subKey k j) = subN m j (numsAt d k)) := fun k hk j h1 h2 => by rw [hg5.of, sub_nums hm1 hm9 d k hk h1 h2]
      have HP : Hid (∀ x ∈ pl, x.nums = numsAt d x.key) := HG4.out.nums
      have HPL : Hid (∀ x ∈ pl, x.nums.length ≤ 300) := fun x hx => by
        rw [HG4.out.nums x hx]
        unfold numsAt
        rw [List.length_map]
        exact Nat.le_trans (List.length_filter_le _ _) (data_len H0.out).1
      have HC : Hid ((∀ y ∈ pl, y.key.size ≤ 37) → ox.length = cntAll m pl) := fun h => sub_count hm1 hm9 HG4.out HG5.out h
      clear hyes hb5 hg5 hs5 HS4b HG5 HG4 HWH HB4 HB3 HB2
      obtain ⟨xl, hxl⟩ : ∃ n, n = ox.length := ⟨_, rfl⟩
      rw [← hxl] at HC hoxl ⊢
      have HXL := Lib.hid hxl
      clear hxl
      go_wp2_with fail
      go_loopw [11, 12] (fun nv iv wr => ∃ i : Nat, i ≤ pl.length ∧ iv = .int .i64 i ∧ nv = .int .i64 (cntAll m (pl.take i) : Nat) ∧ Hid (∀ y ∈ pl.take i, y.key.size ≤ 37) ∧ Hid (Below w5.heap.size w5 wr)) (fun _ iv _ => pl.length - (intOf iv).toNat)
      case atStart => exact ⟨0, Nat.zero_le _, rfl, rfl, (fun y hy => by simp at hy), Below.refl _ _⟩
      case round =>
        obtain ⟨i, hi, rfl, rfl, HK37, HBx⟩ := hrel
        by_cases hlt : i < pl.length
        · obtain ⟨b7, o7, A7, c7, rfl, hb7, p0, p1, hks, hn7⟩ := HS4c.out.lin_ hlt
          have hcap := HS4c.out.1
          have HX : Hid (pl[i].nums = numsAt d pl[i].key) := HP.out _ (List.getElem_mem hlt)
          have hP3 := HPL.out _ (List.getElem_mem hlt)
          have HTS := Lib.hid (List.take_succ_eq_append_getElem hlt)
          generalize pl[i] = x at p0 p1 hks hn7 HX hP3 HTS
          have q0 := (HBx.out.cell (p := ⟨b7, o7 + i * 2, none⟩) hb7).trans p0
          have q1 := (HBx.out.cell (p := ⟨b7, o7 + i * 2 + 1, none⟩) hb7).trans p1
          by_cases hk : x.key.size ≤ 37
          · have dk : decide (37 < x.key.size) = false := decide_eq_false (by omega)
            have HQX : Hid (∀ j : Int, -9 < j → j < 9 → numsOf ox (subKey x.key j) = subN m j x.nums) := fun j h1 h2 => by rw [HQ.out x.key hk j h1 h2, HX.out]
            have HTK : Hid (∀ y ∈ pl.take (i + 1), y.key.size ≤ 37) := fun y hy => by
              rw [HTS.out] at hy
              rcases List.mem_append.1 hy with hy | hy
              · exact HK37.out y hy
              · rw [List.mem_singleton.1 hy]; exact hk
            have HCS : Hid (cntAll m (pl.take (i + 1)) = cntAll m (pl.take i) + cntK m x (2 * m - 1)) := by show _ = _; rw [HTS.out, cntAll_snoc]
            have hcb : cntAll m (pl.take i) ≤ 5100 := by
              refine Nat.le_trans (cntAll_le m _) ?_
              have h1 : (pl.take i).length ≤ 300 := by rw [List.length_take]; omega
              exact Nat.le_trans (Nat.mul_le_mul h1 (show 2 * m - 1 ≤ 17 by omega)) (by omega)
            generalize cntAll m (pl.take i) = n0 at hcb HCS ⊢
            have HL7 := Lib.hid hn7
            have HCK := Lib.hid (cntK_succ m x)
            have HCL := Lib.hid (cntK_le m x)
            have HHK : Hid (∀ t : Nat, hasK m x t = !(subN m ((t : Int) + 1 - m) x.nums).isEmpty) := fun t => rfl
            have HC0 : Hid (cntK m x 0 = 0) := rfl
            clear HTS HX HK37 hn7 HQ
            obtain ⟨cf, hcf⟩ : ∃ cf : Nat → Nat, cf = cntK m x := ⟨_, rfl⟩
            rw [← hcf] at HCS HCK HCL HC0
            obtain ⟨hf, hhf⟩ : ∃ hf : Nat → Bool, hf = hasK m x := ⟨_, rfl⟩
            rw [← hhf] at HCK HHK
            clear hcf hhf
            obtain ⟨xk, P⟩ := x
            simp only at q0 q1 hks HL7 hP3 hk dk HQX HHK
            have hc7 := HL7.out.1
            have hz5 := HBx.out.size
            go_wp2_with fail
            clear q0 q1
            go_loopw [11, 13] (fun nv kv wx => ∃ (t nn : Nat) (kk : Int), t ≤ 2 * m - 1 ∧ kk = (t : Int) + 1 - m ∧ kv = .int .i64 kk ∧ nv = .int .i64 (nn : Int) ∧ nn ≤ 5100 + t ∧ Hid (nn = n0 + cf t) ∧ Hid (Below w5.heap.size w5 wx)) (fun _ kv _ => (m - intOf kv).toNat)
            case atStart => exact ⟨0, n0, _, Nat.zero_le _, rfl, (by first | rfl | (congr 1; omega)), rfl, by omega, (by show _ = _; rw [HC0.out]; rfl), HBx⟩
            case round =>
              clear HBx hz5
              obtain ⟨t, nn, kk, ht, hkk, rfl, rfl, hnb, HNN, HBx⟩ := hrel
              have hz5 := HBx.out.size
              by_cases hkm : kk < m
              · have dkm : decide (kk < m) = true := decide_eq_true hkm
                have hk1 : -9 < kk := by omega
                have hk2 : kk < 9 := by omega
                have HQK := Lib.hid (HQX.out kk hk1 hk2)
                have HHT : Hid (hf t = !(subN m kk P).isEmpty) := by show _ = _; rw [HHK.out t, hkk]
                have HCT := Lib.hid (HCK.out t)
                have q0 := (HBx.out.cell (p := ⟨b7, o7 + i * 2, none⟩) hb7).trans p0
                have q1 := (HBx.out.cell (p := ⟨b7, o7 + i * 2 + 1, none⟩) hb7).trans p1
                obtain ⟨wk, hwk⟩ : ∃ wk : World, wk = wr := ⟨_, rfl⟩
                rw [← hwk] at HBx hz5 q0 q1 ⊢
                clear hwk
                have HKK := Lib.hid hkk
                clear hkk
                go_wp2_with fail
                clear q0 q1
                go_loopw [14, 15] (fun wv jv wx => ∃ j : Nat, j ≤ P.length ∧ jv = .int .i64 j ∧ Hid (wx.ownsRow wk.heap.size 3 1 wv (subN m kk (P.take j)).length ((subN m kk (P.take j)).flatMap intC)) ∧ Hid (Below wk.heap.size wk wx)) (fun _ jv _ => P.length - (intOf jv).toNat)
                case atStart => exact ⟨0, Nat.zero_le _, rfl, World.ownsRow_nil _ _ _ _, Below.refl _ _⟩
                case round =>
                  obtain ⟨j, hj, rfl, HO, HBk⟩ := hrel
                  have hB5 : Below w5.heap.size w5 wr := HBx.out.trans (HBk.out.mono HBx.out.size)
                  have q0 := (hB5.cell (p := ⟨b7, o7 + i * 2, none⟩) hb7).trans p0
                  have q1 := (hB5.cell (p := ⟨b7, o7 + i * 2 + 1, none⟩) hb7).trans p1
                  have HB5r := Lib.hid hB5
                  have hzr := hB5.size
                  clear hB5
                  by_cases hjl : j < P.length
                  · obtain ⟨bp, op, rfl, hbp, d7, hw7⟩ := HL7.out.int_ hjl
                    have z7 := (HB5r.out.cell (p := ⟨bp, op + j, none⟩) hbp).trans d7
                    have HTJ := Lib.hid (List.take_succ_eq_append_getElem hjl)
                    have hx64 := i64_of_wf hw7
                    generalize P[j] = y at d7 z7 HTJ hx64
                    have hmd := mod_range hm1 hm9 y
                    have hlen : (subN m kk (P.take j)).length ≤ 300 := by
                      refine Nat.le_trans (subN_len m kk _) ?_
                      rw [List.length_take]; omega
                    have hm0 : ((m : Int) == 0) = false := beq_eq_false_iff_ne.2 (by omega)
                    obtain ⟨ym, hym⟩ : ∃ ym, ym = y.tmod (m : Int) := ⟨_, rfl⟩
                    rw [← hym] at hmd
                    have hym2 : y.tmod (m : Int) = ym := hym.symm
                    have HYM := Lib.hid hym2
                    clear hym d7 hw7
                    by_cases hye : ym = kk
                    · have HSN : Hid (subN m kk (P.take (j + 1)) = subN m kk (P.take j) ++ [y]) := by show _ = _; rw [HTJ.out, subN_snoc, if_pos (by rw [HYM.out]; exact hye)]
                      have dy : (ym == kk) = true := beq_iff_eq.2 hye
                      clear hye HTJ
                      go_wp2_with (at_builtin; refine wpList_push (w0 := wr) rfl _ _ 26 rfl wk.heap.size 3 (.int .i64 0) 1 8 Tryz.underlying26 info_int rfl (by decide) u14 (subN m kk (P.take j)).length _ rfl HO.out [.int .i64 y] (by simp [Act.eval]) rfl ?_ ?_ ?_ HBk.out.size HBk.out (Nat.le_refl _) ?_)
                      · intro u hu; rw [List.mem_singleton.1 hu]; rfl
                      · unfold maxLen; omega
                      · omega
                      · intro v8 w8 hown8 hg8 hb8 hat8
                        have HO8 : Hid (w8.ownsRow wk.heap.size 3 1 v8 (subN m kk (P.take (j + 1))).length ((subN m kk (P.take (j + 1))).flatMap intC)) := by
                          rw [HSN.out, List.length_append, List.length_singleton, List.flatMap_append]
                          exact hown8
                        have HB8 := Lib.hid hb8
                        clear hown8 hg8 hb8 hat8 HO HBk HSN
                        go_wp2_with fail
                        refine ⟨⟨j + 1, by omega, by go_num, HO8, HB8⟩, ?_⟩
                        simp [intOf]; omega
                    · have HSN : Hid (subN m kk (P.take (j + 1)) = subN m kk (P.take j)) := by show _ = _; rw [HTJ.out, subN_snoc, if_neg (by rw [HYM.out]; exact hye), List.append_nil]
                      have dy : (ym == kk) = false := beq_eq_false_iff_ne.2 hye
                      clear hye HTJ
                      go_wp2_with fail
                      go_roundw
                      case rel => exact ⟨j + 1, by omega, by go_num, by rw [HSN.out]; exact HO, HBk⟩
                      case measure => simp [intOf]; omega
                  · have hje : j = P.length := by omega
                    have dj : decide (j < P.length) = false := decide_eq_false hjl
                    have hO := HO.out
                    rw [hje, List.take_length] at hO
                    have HWF : Hid (∀ y ∈ subN m kk P, (Lit.int .i64 y).wf = true) := fun y hy => by
                      obtain ⟨q, hq⟩ := List.getElem?_of_mem (List.mem_filter.1 hy).1
                      obtain ⟨_, _, _, _, _, _, hw⟩ := HL7.out.2.2 q y hq
                      exact hw.2
                    obtain ⟨Aw, cw, hwv, _, hslw⟩ := own_sl (E := intE .i64) (l := subN m kk P) intC (fun _ => rfl) (by decide) hO (fun y hy => ⟨rfl, HWF.out y hy⟩)
                    obtain rfl := hwv
                    have HSW := Lib.hid hslw
                    have hwl : (subN m kk P).length ≤ 300 := Nat.le_trans (subN_len m kk P) (by omega)
                    clear hO hslw HO HWF
                    go_wp2_with fail
                    refine (digits_ok kk wr (by omega)).mono ?_
                    rintro e w9 ⟨rfl, hb9⟩
                    have HSK : Hid (xk ++ ⟨#[47]⟩ ++ ⟨(Lib.itoa kk).toArray⟩ = subKey xk kk) := by show _ = _; unfold subKey; rw [ByteArray.append_assoc]
                    have hsz : (⟨(Lib.itoa kk).toArray⟩ : ByteArray).size ≤ 21 := by
                      show (Lib.itoa kk).toArray.size ≤ 21
                      simpa using Go.Lib.itoa_length_le kk (by omega) (by omega)
                    generalize (⟨(Lib.itoa kk).toArray⟩ : ByteArray) = sk at HSK hsz ⊢
                    have HB9 := Lib.hid (HB5r.out.trans (hb9.mono HB5r.out.size))
                    have hz9 := HB9.out.size
                    have r0 := (HB9.out.cell (p := ⟨b7, o7 + i * 2, none⟩) hb7).trans p0
                    have HSW9 := Lib.hid ((HSW.out.keep fun k hk => hb9.block k hk).more (F' := fun _ => True) fun k hk => trivial)
                    have HN9 := Lib.hid (nums_ok (fun _ => True) A5 c5 ox (subKey xk kk) w9 ((HS5.out.keep fun k hk => HB9.out.block k hk).more fun k hk => trivial))
                    rw [← HXL.out] at HN9
                    clear q0 q1 hb9 HSW
                    go_wp2_with fail
                    rw [HSK.out]
                    clear HSK hsz
                    refine HN9.out.mono ?_
                    rintro e w10 ⟨A10, c10, rfl, hs10, rfl⟩
                    rw [HQK.out] at hs10 ⊢
                    have HIS := Lib.hid (ints_same A10 Aw c10 cw (subN m kk P) w9 (fun _ => True) (fun _ => True) hs10 HSW9.out)
                    have hcap10 := hs10.1
                    have hcapw := HSW9.out.1
                    have HNE : Hid (∀ b, b = decide (0 < (subN m kk P).length) → cf (t + 1) = cf t + if b then 1 else 0) := fun b hb => by
                      rw [HCT.out, HHT.out, hb]
                      cases subN m kk P with
                      | nil => rfl
                      | cons a l => simp
                    obtain ⟨L, hL⟩ : ∃ L, L = (subN m kk P).length := ⟨_, rfl⟩
                    rw [← hL] at HIS HNE hwl hcap10 hcapw ⊢
                    clear hs10 HN9 HQK HHT HCT HSW9 hL
                    go_wp2_with fail
                    refine HIS.out.mono ?_
                    rintro e w11 ⟨rfl, q11, rfl⟩
                    have HB11 : Hid (Below w5.heap.size w5 (w9.drewN q11)) := bdrewN HB9.out q11
                    have hkk1 := HKK.out
                    by_cases hL0 : 0 < L
                    · have dL : decide (0 < L) = true := decide_eq_true hL0
                      have hc1 : cf (t + 1) = cf t + 1 := HNE.out true dL.symm
                      have HCC : Hid (nn + 1 = n0 + cf (t + 1)) := by show _ = _; rw [HNN.out, hc1]; omega
                      clear HNE HIS hc1
                      go_wp2_with fail
                      refine ⟨⟨t + 1, nn + 1, kk + 1, by omega, by omega, by go_num, by go_num, by omega, HCC, HB11⟩, ?_⟩
                      simp [intOf]; omega
                    · have dL : decide (0 < L) = false := decide_eq_false hL0
                      have hc1 : cf (t + 1) = cf t := HNE.out false dL.symm
                      have HCC : Hid (nn = n0 + cf (t + 1)) := by show _ = _; rw [HNN.out, hc1]
                      clear HNE HIS hc1
                      go_wp2_with fail
                      refine ⟨⟨t + 1, nn, kk + 1, by omega, by omega, by go_num, rfl, by omega, HCC, HB11⟩, ?_⟩
                      simp [intOf]; omega
              · have dkm : decide (kk < m) = false := decide_eq_false hkm
                have hte : t = 2 * m - 1 := by omega
                subst hte
                have hsum : nn = cntAll m (pl.take (i + 1)) := by rw [HNN.out, HCS.out]
                rw [hsum]
                clear hsum
                go_wp2_with fail
                refine ⟨⟨i + 1, by omega, by go_num, rfl, HTK, HBx⟩, ?_⟩
                simp [intOf]; omega
          · have dk : decide (37 < x.key.size) = true := decide_eq_true (by omega)
            clear HTS HX HP HPL HC HQ hn7 HK37
            go_wp2_with fail
            go_ret
            exact ⟨rfl, HB5.out.trans (HBx.out.mono HB5.out.size)⟩
        · have di : decide (i < pl.length) = false := decide_eq_false hlt
          have hie : i = pl.length := by omega
          subst hie
          have hcc : cntAll m (pl.take pl.length) = xl := by rw [HC.out (fun y hy => HK37.out y (by rw [List.take_length]; exact hy)), List.take_length]
          rw [hcc]
          clear hcc HC HK37 HP HPL HQ
          go_wp2_with fail
          go_ret
          exact ⟨rfl, HB5.out.trans (HBx.out.mono HB5.out.size)⟩
    · clear hno hyes hb3 h0 hg4 hs4 HWH
      by_cases hn1 : m < 1
      · have d1 : decide (m < 1) = true := decide_eq_true hn1
        go_wp2_with fail
        go_ret
        exact ⟨rfl, HB3.out⟩
      · have d1 : decide (m < 1) = false := decide_eq_false hn1
        have d3 : decide (9 < m) = true := decide_eq_true (by omega)
        go_wp2_with fail
        go_ret
        exact ⟨rfl, HB3.out⟩
  · have e0 := hno h0
    subst e0
    clear hno hyes hb3 h0 HWH
    go_wp2_with fail
    go_ret
    exact ⟨rfl, HB3.out⟩
end Go.Proofs.YtcmhbhdiepkndaaGreatDoor
