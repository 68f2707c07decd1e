/-
  The walk of DenCounts: it returns true. Conditions: the two variables of Atoi's errors hold errors, the table of powers of ten stands.
-/
import Derived.Test.YtmbhfadidpkkhaaGreatDoorPackJ
import Derived.Deep.QuietTactic
import Derived.BigQuiet
namespace Go.Proofs.YtmbhfadidpkkhaaGreatDoor
open Go.RowKit Go.ChangeShapes Go.WideShapes Go.Shelf
set_option linter.unusedVariables false

theorem fact_first : (runLog ⟨9, [0], ⟨#[]⟩, 0⟩ (logOf litA)).2 = [⟨keyA, 2, 0⟩] := by kernel_rfl
theorem nums_q (F : Nat → Prop) (A : Option Addr) (c : Nat) (out : List Lin) (k : ByteArray) (w : World) (t : Nat) (hl : SlA linE F w A c out) :
    Calls Tryz.prog 12 #[.slice A out.length c, .string k] (w.drewN t) fun e w' => ∃ A' c', e = .returned (.slice A' (numsOf out k).length c') ∧ SlA (intE .i64) F w A' c' (numsOf out k) ∧ w' = w.drewN t :=
  (nums_ok F A c out k (w.drewN t) (hl.keep fun _ _ => rfl)).mono fun e w' ⟨A', c', he, hs, hw⟩ => ⟨A', c', he, hs.keep fun _ _ => rfl, hw.symm⟩
theorem take_one (l : List Int) (h : l ≠ []) : ∃ x l', l = x :: l' ∧ l.take 1 = [x] := by
  obtain ⟨x, l', rfl⟩ := List.exists_cons_of_ne_nil h
  exact ⟨x, l', rfl, rfl⟩
set_option maxRecDepth 100000 in
set_option maxHeartbeats 4000000 in
theorem denCounts_walk (A : Option Addr) (c : Nat) (d : List Rec) (n : Int) (w : World) (hl : SlA recE (· < w.heap.size) w A c d) (wn : (Lit.int .i64 n).wf = true) (hv : ErrVars w) (hT : PowTab w) :
    Calls Tryz.prog 5 #[.slice A d.length c, .int .i64 n] w fun e w' => e = .returned (.bool true) ∧ Below w.heap.size w w' := by
  have hdl := hl.le
  have HWH : Hid (∀ (kind : Int) (text : ByteArray) (nn : Int) (W : World), I64 nn → I64 kind → text.size ≤ maxLen → jobErr (lineJ ⟨kind, [], text, nn⟩) = 0 → kind ≠ 1 → kind ≠ 10 → Below w.heap.size w W →
      Calls Tryz.prog 11 #[.agg #[.int .i64 kind, .slice none 0 0, .string text, .int .i64 nn], .slice A d.length c] W (WholePost kind text nn d W)) := fun kind text nn W h0 h1 h2 h3 h4 h5 hb =>
    whole_ok kind text nn (· < W.heap.size) A c d W h1 h2 h0 h3 h4 h5 ((hl.keep fun k hk => hb.block k hk).more fun k hk => Nat.lt_of_lt_of_le hk hb.size) (fun _ h => h) (hv.below hb) (hT.below hb)
  obtain ⟨W1, hW1⟩ : ∃ W1, W1 = w.alloc (.cells (litA.flatMap recCells).toArray 39) := ⟨_, rfl⟩
  have hB1 : Below w.heap.size w W1 := by rw [hW1]; exact (Below.refl _ _).alloc (Nat.le_refl _) _
  have hg1 : W1.heap[w.heap.size]? = some (.cells (litA.flatMap recCells).toArray 39 (0, 0)) := by rw [hW1]; exact heap_alloc_new _ _
  have hlit : SlA recE (· < W1.heap.size) W1 (some ⟨w.heap.size, 0, none⟩) 2 litA := lit_recs litA hg1 (by decide) (block_lt hg1) (fun x hx => by
    simp only [litA, List.mem_cons, List.not_mem_nil, or_false] at hx
    rcases hx with rfl | rfl <;> exact recOk_lit rfl)
  have HFACT := Lib.hid (whole_ok 9 ⟨#[]⟩ 0 (· < W1.heap.size) (some ⟨w.heap.size, 0, none⟩) 2 litA W1 rfl (Nat.zero_le _) rfl job_first (by decide) (by decide) hlit (fun _ h => h) (hv.below hB1) (hT.below hB1))
  have HB1 := Lib.hid hB1
  have HW1 := Lib.hid hW1
  clear hl hv hT hg1 hlit hB1 hW1
  go_enter Tryz.func5, Tryz.ntmps5
  go_wp2_with fail
  have e1 : w.alloc (.cells #[.string ⟨#[97]⟩, .int .i64 2, .int .i64 0, .string ⟨#[97]⟩, .int .i64 3, .int .i64 0] 39) = W1 := HW1.out.symm
  rw [e1]
  clear e1 HW1
  refine HFACT.out.mono ?_
  rintro e w2 ⟨_, hfa, hb2⟩
  obtain ⟨A2, c2, out2, rfl, hg2, hs2⟩ := hfa litA_ok
  rw [fact_first] at hg2
  obtain ⟨x2, rfl, -, hx2⟩ := hg2.one (k := keyA) (by intro r hr; rw [List.mem_singleton.1 hr]) (by simp)
  obtain ⟨b2, o2, A3, c3, rfl, _, y0, y1, _, hn2⟩ := hs2.lin_ (k := 0) (by simp)
  have hcap2 := hs2.1
  simp only [List.getElem_cons_zero, Nat.zero_mul, Nat.add_zero] at y0 y1 hn2
  rw [hx2] at y1 hn2
  obtain ⟨b3, o3, rfl, _, z1, _⟩ := hn2.int_ (k := 0) (by simp)
  have hcap3 := hn2.1
  have z1 : w2.cell? ⟨b3, o3, none⟩ = some (.int .i64 2) := z1
  have y1 : w2.cell? ⟨b2, o2 + 1, none⟩ = some (.slice (some ⟨b3, o3, none⟩) 1 c3) := y1
  rw [show List.length [x2] = 1 from rfl] at hcap2 ⊢
  have hcap3 : 1 ≤ c3 := hcap3
  have HB2 := Lib.hid (HB1.out.trans (hb2.mono HB1.out.size))
  clear hg2 hs2 hn2 hx2 hb2 hfa HFACT HB1
  go_wp2_with fail
  clear y0 y1 z1 hcap2 hcap3
  refine (HWH.out 2 txtN 0 w2 rfl rfl (by decide) job_n (by decide) (by decide) HB2.out).mono ?_
  rintro e w3 ⟨hno, hyes, hb3⟩
  have HB3 := Lib.hid (HB2.out.trans (hb3.mono HB2.out.size))
  by_cases h0 : dataErr [d] = 0
  · obtain ⟨A4, c4, pl, rfl, hg4, hs4⟩ := hyes h0
    have hpl := hs4.le
    by_cases hnr : 1 ≤ n ∧ n ≤ 3
    · obtain ⟨hn1, hn3⟩ := hnr
      have d1 : decide (n < 1) = false := decide_eq_false (by omega)
      have d3 : decide (3 < n) = false := decide_eq_false (by omega)
      obtain ⟨N, rfl⟩ : ∃ N : Nat, n = N := ⟨n.toNat, by omega⟩
      have hN1 : 1 ≤ N := by omega
      have hN3 : N ≤ 3 := by omega
      have hko : KeysOk d := (data_len h0).2
      rw [run_map d hko] at hg4
      have HG4 := Lib.hid hg4
      have HS4 := Lib.hid (hs4.more (F' := (· < w3.heap.size)) fun k hk => hk.2)
      have HKO := Lib.hid hko
      have H0 := Lib.hid h0
      have HJC := Lib.hid (job_copy N hN1 hN3)
      have HPL : Hid (∀ k, (numsAt d k).length ≤ 300) := fun k => by
        unfold numsAt
        rw [List.length_map]
        exact Nat.le_trans (List.length_filter_le _ _) (data_len h0).1
      clear hno hyes hb3 hg4 hs4 hko h0
      go_wp2_with fail
      refine (HWH.out 9 ⟨#[]⟩ 0 w3 rfl rfl (Nat.zero_le _) job_first (by decide) (by decide) HB3.out).mono ?_
      rintro e w4 ⟨_, hyes, hb4⟩
      obtain ⟨A5, c5, oa, rfl, hg5, hs5⟩ := hyes H0.out
      have HG5 := Lib.hid hg5
      have hz3 := hb4.size
      have HS5 := Lib.hid (hs5.more (F' := (· < w4.heap.size)) fun k hk => hk.2)
      have HB4 := Lib.hid (HB3.out.trans (hb4.mono HB3.out.size))
      have HS4b := Lib.hid ((HS4.out.keep fun k hk => hb4.block k hk).more (F' := (· < w4.heap.size)) fun k hk => by omega)
      have hoa := hs5.le
      clear hyes hb4 hg5 hs5 HS4
      go_wp2_with fail
      refine (HWH.out 5 ⟨#[]⟩ (N : Int) w4 wn rfl (Nat.zero_le _) HJC.out.1 (by decide) (by decide) HB4.out).mono ?_
      rintro e w5 ⟨_, hyes, hb5⟩
      obtain ⟨A6, c6, ob, rfl, hg6, hs6⟩ := hyes H0.out
      have HG6 := Lib.hid hg6
      have HS6 := Lib.hid (hs6.more (F' := (· < w5.heap.size)) fun k hk => hk.2)
      have hz4 := hb5.size
      have HB5 := Lib.hid (HB4.out.trans (hb5.mono HB4.out.size))
      have HS4c := Lib.hid ((HS4b.out.keep fun k hk => hb5.block k hk).more (F' := (· < w5.heap.size)) fun k hk => by omega)
      have HS5b := Lib.hid ((HS5.out.keep fun k hk => hb5.block k hk).more (F' := (· < w5.heap.size)) fun k hk => by omega)
      have hob := hs6.le
      clear hyes hb5 hg6 hs6 HS4b HS5
      go_wp2_with fail
      refine (HWH.out 8 ⟨#[]⟩ (N : Int) w5 wn rfl (Nat.zero_le _) HJC.out.2 (by decide) (by decide) HB5.out).mono ?_
      rintro e w6 ⟨_, hyes, hb6⟩
      obtain ⟨A7, c7, oc, rfl, hg7, hs7⟩ := hyes H0.out
      have HG7 := Lib.hid hg7
      have HS7 := Lib.hid (hs7.more (F' := (· < w6.heap.size)) fun k hk => hk.2)
      have hz5 := hb6.size
      have HB6 := Lib.hid (HB5.out.trans (hb6.mono HB5.out.size))
      have HS4d := Lib.hid ((HS4c.out.keep fun k hk => hb6.block k hk).more (F' := (· < w6.heap.size)) fun k hk => by omega)
      have HS5c := Lib.hid ((HS5b.out.keep fun k hk => hb6.block k hk).more (F' := (· < w6.heap.size)) fun k hk => by omega)
      have HS6b := Lib.hid ((HS6.out.keep fun k hk => hb6.block k hk).more (F' := (· < w6.heap.size)) fun k hk => by omega)
      have hoc := hs7.le
      clear hyes hb6 hg7 hs7 HS4c HS5b HS6
      have hla : oa.length = pl.length := HG5.out.len0 HG4.out fun k => by
        rw [first_at d HKO.out]
        cases numsAt d k <;> simp
      have HQ : Hid (∀ k, numsOf oa k = (numsAt d k).take 1 ∧ numsOf ob k = (numsAt d k).flatMap (List.replicate N) ∧ numsOf oc k = chunkS N (numsAt d k)) := fun k => ⟨by rw [HG5.out.of, first_at d HKO.out], by rw [HG6.out.of, copy_at N hN3 d HKO.out], by rw [HG7.out.of, every_at N hN1 hN3 d HKO.out]⟩
      have HP : Hid (∀ x ∈ pl, x.nums = numsAt d x.key ∧ x.nums ≠ []) := fun x hx => ⟨HG4.out.nums x hx, HG4.out.pos hx⟩
      have HNA := Lib.hid (fun k t => nums_q (· < w6.heap.size) A5 c5 oa k w6 t HS5c.out)
      have HNB := Lib.hid (fun k t => nums_q (· < w6.heap.size) A6 c6 ob k w6 t HS6b.out)
      have HNC := Lib.hid (fun k t => nums_q (· < w6.heap.size) A7 c7 oc k w6 t HS7.out)
      rw [hla] at HNA ⊢
      clear HS5c HS6b HS7 HG4 HG5 HG6 HG7 hla HKO hoa HWH HB5 HB4 HB3 HB2 HJC
      go_wp2_with fail
      go_loopw [14] (fun iv wr => ∃ i t : Nat, i ≤ pl.length ∧ iv = .int .i64 i ∧ wr = w6.drewN t) (fun iv _ => pl.length - (intOf iv).toNat)
      case atStart => exact ⟨0, 0, Nat.zero_le _, rfl, rfl⟩
      case round =>
        obtain ⟨i, t, hi, rfl, rfl⟩ := hrel
        by_cases hlt : i < pl.length
        · obtain ⟨b7, o7, A7', c7', rfl, _, p0, p1, _, hn7⟩ := HS4d.out.lin_ hlt
          have hcap := HS4d.out.1
          have HX : Hid (pl[i].nums = numsAt d pl[i].key ∧ pl[i].nums ≠ []) := HP.out _ (List.getElem_mem hlt)
          generalize pl[i] = x at p0 p1 hn7 HX
          obtain ⟨xk, P⟩ := x
          simp only at p0 p1 hn7 HX
          have hX := HX.out.1
          obtain ⟨h, l', hPl, hP1⟩ := take_one P HX.out.2
          have hq := HQ.out xk
          have hP3 := HPL.out xk
          rw [← hX] at hq hP3
          have HNA2 := Lib.hid (HNA.out xk t)
          have HNB2 := Lib.hid (HNB.out xk t)
          have HNC2 := Lib.hid (HNC.out xk t)
          rw [hq.1, hP1] at HNA2
          rw [hq.2.1, copy_len] at HNB2
          rw [hq.2.2, chunk_len] at HNC2
          obtain ⟨b0, off0, rfl, _, z0, -⟩ := hn7.int_ (k := 0) (by rw [hPl]; simp)
          have hP0 : P[0]'(by rw [hPl]; simp) = h := by simp [hPl]
          rw [hP0, Nat.add_zero] at z0
          have hc7 := hn7.1
          have hLpos : 0 < P.length := by rw [hPl]; simp
          have HN7 := Lib.hid hn7
          have HCG : Hid (∀ k, k < P.length / N → (chunkS N P)[k]? = some (((P.drop (k * N)).take N).foldl addW 0)) := fun k hk => by
            unfold chunkS; rw [List.getElem?_map, List.getElem?_range hk]; rfl
          have hCl : (chunkS N P).length = P.length / N := chunk_len N P
          have hQN : P.length / N * N ≤ P.length := Nat.div_mul_le_self _ _
          obtain ⟨q, hqe⟩ : ∃ q, q = P.length / N := ⟨_, rfl⟩
          rw [← hqe] at HNC2 HCG hQN hCl
          obtain ⟨M, hM⟩ : ∃ M, M = N * P.length := ⟨_, rfl⟩
          rw [← hM] at HNB2
          have hM1 : (N : Int) * (P.length : Int) = (M : Int) := by rw [hM]; simp
          have hMb : M ≤ 900 := by rw [hM]; exact Nat.le_trans (Nat.mul_le_mul hN3 hP3) (by omega)
          have hmul : IntKind.i64.wrap ((N : Int) * (P.length : Int)) = (M : Int) := by rw [hM1]; exact IntWalk.i64_in _ (by omega)
          have hquo : (P.length : Int).tdiv (N : Int) = (q : Int) := by rw [hqe]; rfl
          have hN0 : ((N : Int) == 0) = false := beq_eq_false_iff_ne.2 (by omega)
          have HqN := Lib.hid hQN
          have hq300 : q ≤ 300 := Nat.le_trans (by rw [hqe]; exact Nat.div_le_self _ _) hP3
          clear hn7 HX hX hq hPl hP1 hP0 hM hM1 hqe hQN
          go_wp2_with fail
          refine HNA2.out.mono ?_
          rintro e w7 ⟨A8, c8, rfl, hs8, rfl⟩
          obtain ⟨b8, o8, rfl, _, z8, -⟩ := hs8.int_ (k := 0) (by simp)
          simp only [List.getElem_cons_zero, Nat.add_zero] at z8
          have hc8 : 1 ≤ c8 := hs8.1
          rw [show List.length [h] = 1 from rfl]
          clear hs8
          go_wp2_with fail
          refine HNB2.out.mono ?_
          rintro e w7 ⟨A9, c9, rfl, hs9, rfl⟩
          clear hs9
          go_wp2_with fail
          refine HNC2.out.mono ?_
          rintro e w7 ⟨A10, c10, rfl, hs10, rfl⟩
          have HS10 := Lib.hid hs10
          clear hs10 HNA2 HNB2 HNC2
          go_wp2_with fail
          go_quiet (fail)
          go_wp2_with fail
          clear z0 z8 p0 p1 hmul hquo
          go_loopw [19] (fun kv wx => ∃ k t : Nat, k ≤ q ∧ kv = .int .i64 k ∧ wx = w6.drewN t) (fun kv _ => q - (intOf kv).toNat)
          case atStart => exact ⟨0, _, Nat.zero_le _, rfl, by simp; rfl⟩
          case round =>
            obtain ⟨k, t2, hk, rfl, rfl⟩ := hrel
            by_cases hlk : k < q
            · obtain ⟨K, hK⟩ : ∃ K, K = k * N := ⟨_, rfl⟩
              have hKN : K + N ≤ P.length := by
                have h1 : (k + 1) * N ≤ q * N := Nat.mul_le_mul_right N hlk
                rw [Nat.succ_mul, ← hK] at h1
                exact Nat.le_trans h1 HqN.out
              have hm1 : IntKind.i64.wrap ((k : Int) * (N : Int)) = (K : Int) := by
                rw [show (k : Int) * (N : Int) = (K : Int) from by rw [hK]; simp]; exact IntWalk.i64_in _ (by omega)
              have hm2 : IntKind.i64.wrap (((k : Int) + 1) * (N : Int)) = ((K + N : Nat) : Int) := by
                rw [show ((k : Int) + 1) * (N : Int) = ((K + N : Nat) : Int) from by rw [hK, Int.add_mul]; simp]; exact IntWalk.i64_in _ (by omega)
              have hCk := HCG.out k hlk
              rw [← hK] at hCk
              have hkc : k < (chunkS N P).length := by rw [hCl]; exact hlk
              obtain ⟨bs, os, rfl, _, d10, -⟩ := HS10.out.int_ hkc
              rw [List.getElem?_eq_getElem hkc] at hCk
              rw [Option.some.inj hCk] at d10
              have hc10 := HS10.out.1
              rw [hCl] at hc10
              have HFS := Lib.hid (fun t h => foldK_succ addW 0 ((P.drop K).take N) (k := t) h)
              have hfl : ((P.drop K).take N).length = N := by rw [List.length_take, List.length_drop]; omega
              have HCX : Hid (∀ t, t < N → ((P.drop K).take N)[t]? = P[K + t]?) := fun t ht => by
                rw [List.getElem?_take, if_pos ht, List.getElem?_drop]
              clear hCk hkc hK
              generalize (P.drop K).take N = C at d10 HFS hfl HCX
              go_wp2_with fail
              go_loopw [20, 21] (fun sv jv wx => ∃ t : Nat, t ≤ N ∧ sv = .int .i64 ((C.take t).foldl addW 0) ∧ jv = .int .i64 ((K + t : Nat) : Int) ∧ wx = w6.drewN t2) (fun _ jv _ => K + N - (intOf jv).toNat)
              case atStart => exact ⟨0, Nat.zero_le _, rfl, rfl, rfl⟩
              case round =>
                obtain ⟨t, ht, rfl, rfl, rfl⟩ := hrel
                by_cases hlt2 : t < N
                · have dt : decide (K + t < K + N) = true := decide_eq_true (by omega)
                  have hKt : K + t < P.length := by omega
                  obtain ⟨bp, op, hbp, _, d7, -⟩ := HN7.out.int_ hKt
                  injection hbp with hbp
                  injection hbp with hb1 hb2
                  subst hb1
                  subst hb2
                  have htC : t < C.length := by rw [hfl]; exact hlt2
                  have hs := HFS.out t htC
                  have hcx := HCX.out t hlt2
                  rw [List.getElem?_eq_getElem htC, List.getElem?_eq_getElem hKt] at hcx
                  rw [Option.some.inj hcx] at hs
                  clear hcx htC
                  have HSS := Lib.hid hs
                  clear hs
                  generalize P[K + t] = x at d7 HSS
                  generalize (C.take t).foldl addW 0 = s at HSS ⊢
                  rw [show addW s x = wrap64 (s + x) from rfl] at HSS
                  go_wp2_with fail
                  go_roundw
                  case rel => exact ⟨t + 1, by omega, by rw [HSS.out], by go_num, trivial⟩
                  case measure => simp [intOf]; omega
                · have dt : decide (K + t < K + N) = false := decide_eq_false (by omega)
                  have hte : t = N := by omega
                  subst hte
                  rw [List.take_of_length_le (by omega)]
                  generalize C.foldl addW 0 = s at d10 ⊢
                  clear HFS HCX
                  go_wp2_with fail
                  refine ⟨⟨k + 1, t2, by omega, by go_num, rfl⟩, ?_⟩
                  simp [intOf]; omega
            · have dk : decide (k < q) = false := decide_eq_false hlk
              clear HCG HS10 HN7 hk hlk
              go_wp2_with fail
              refine ⟨⟨i + 1, t2, by omega, by go_num, rfl⟩, ?_⟩
              simp [intOf]; omega
        · have di : decide (i < pl.length) = false := decide_eq_false hlt
          clear HS4d HQ HP HNA HNB HNC HPL hi hlt
          go_wp2_with fail
          go_ret
          exact ⟨rfl, HB6.out.os, HB6.out.tape, HB6.out.output, HB6.out.size, HB6.out.block⟩
    · clear hno hyes hb3 h0 hg4 hs4 HWH
      by_cases hn1 : n < 1
      · have d1 : decide (n < 1) = true := decide_eq_true hn1
        go_wp2_with fail
        go_ret
        exact ⟨rfl, HB3.out⟩
      · have d1 : decide (n < 1) = false := decide_eq_false hn1
        have d3 : decide (3 < n) = true := decide_eq_true (by omega)
        go_wp2_with fail
        go_ret
        exact ⟨rfl, HB3.out⟩
  · have e0 := hno h0
    subst e0
    clear hno hyes hb3 h0 HWH
    go_wp2_with fail
    go_ret
    exact ⟨rfl, HB3.out⟩
end Go.Proofs.YtmbhfadidpkkhaaGreatDoor
