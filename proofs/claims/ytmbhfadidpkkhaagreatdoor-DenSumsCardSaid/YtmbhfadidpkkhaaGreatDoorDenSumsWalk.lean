/-
  The walk of DenSums: it returns true. Conditions: the two variables of Atoi's errors hold errors, the table of powers of ten stands.
-/
import Derived.Test.YtmbhfadidpkkhaaGreatDoorPackJ
namespace Go.Proofs.YtmbhfadidpkkhaaGreatDoor
open Go.RowKit Go.ChangeShapes Go.WideShapes Go.Shelf
set_option linter.unusedVariables false

def wsum (s x : Int) : Int := wrap64 (s + x)
def wmost (s x : Int) : Int := if s < x then x else s
theorem sum_at (d : List Rec) (h : KeysOk d) (k : ByteArray) : numsAt (runLog ⟨7, [0], txtSum, 0⟩ (logOf d)).2 k = scanN wsum 0 (numsAt d k) := by
  rw [fold_at txtSum d h k]; have e : (fun s x => evalOf txtSum x s) = wsum := funext fun s => funext fun x => ev_sum x s
  rw [e]
theorem most_at (d : List Rec) (h : KeysOk d) (k : ByteArray) : numsAt (runLog ⟨7, [0], txtMax, 0⟩ (logOf d)).2 k = scanN wmost 0 (numsAt d k) := by
  rw [fold_at txtMax d h k]; have e : (fun s x => evalOf txtMax x s) = wmost := funext fun s => funext fun x => ev_max x s
  rw [e]
theorem fact_run : (runLog ⟨7, [0], txtSum, 0⟩ (logOf litA)).2 = [⟨keyA, 2, 0⟩, ⟨keyA, 5, 0⟩] := by kernel_rfl
set_option maxRecDepth 100000 in
set_option maxHeartbeats 2000000 in
theorem denSums_walk (A : Option Addr) (c : Nat) (d : List Rec) (w : World) (hl : SlA recE (· < w.heap.size) w A c d) (hv : ErrVars w) (hT : PowTab w) :
    Calls Tryz.prog 4 #[.slice A d.length c] w fun e w' => e = .returned (.bool true) ∧ Below w.heap.size w w' := by
  have hdl := hl.le
  have HWH : Hid (∀ (kind : Int) (text : ByteArray) (W : World), I64 kind → text.size ≤ maxLen → jobErr (lineJ ⟨kind, [], text, 0⟩) = 0 → kind ≠ 1 → kind ≠ 10 → Below w.heap.size w W →
      Calls Tryz.prog 11 #[.agg #[.int .i64 kind, .slice none 0 0, .string text, .int .i64 0], .slice A d.length c] W (WholePost kind text 0 d W)) := fun kind text W h1 h2 h3 h4 h5 hb =>
    whole_ok kind text 0 (· < W.heap.size) A c d W h1 h2 rfl h3 h4 h5 ((hl.keep fun k hk => hb.block k hk).more fun k hk => Nat.lt_of_lt_of_le hk hb.size) (fun _ h => h) (hv.below hb) (hT.below hb)
  obtain ⟨W1, hW1⟩ : ∃ W1, W1 = w.alloc (.cells (litA.flatMap recCells).toArray 39) := ⟨_, rfl⟩
  have hB1 : Below w.heap.size w W1 := by rw [hW1]; exact (Below.refl _ _).alloc (Nat.le_refl _) _
  have hg1 : W1.heap[w.heap.size]? = some (.cells (litA.flatMap recCells).toArray 39 (0, 0)) := by rw [hW1]; exact heap_alloc_new _ _
  have hlit : SlA recE (· < W1.heap.size) W1 (some ⟨w.heap.size, 0, none⟩) 2 litA := lit_recs litA hg1 (by decide) (block_lt hg1) (fun x hx => by
    simp only [litA, List.mem_cons, List.not_mem_nil, or_false] at hx
    rcases hx with rfl | rfl <;> exact recOk_lit rfl)
  have HFACT := Lib.hid (whole_ok 7 txtSum 0 (· < W1.heap.size) (some ⟨w.heap.size, 0, none⟩) 2 litA W1 rfl (by decide) rfl job_sum (by decide) (by decide) hlit (fun _ h => h) (hv.below hB1) (hT.below hB1))
  have HB1 := Lib.hid hB1
  have HW1 := Lib.hid hW1
  clear hl hv hT hg1 hlit hB1 hW1
  go_enter Tryz.func4, Tryz.ntmps4
  go_wp2_with fail
  have e1 : w.alloc (.cells #[.string ⟨#[97]⟩, .int .i64 2, .int .i64 0, .string ⟨#[97]⟩, .int .i64 3, .int .i64 0] 39) = W1 := HW1.out.symm
  rw [e1]
  clear e1 HW1
  refine HFACT.out.mono ?_
  rintro e w2 ⟨_, hfa, hb2⟩
  obtain ⟨A2, c2, out2, rfl, hg2, hs2⟩ := hfa litA_ok
  rw [fact_run] at hg2
  obtain ⟨x2, rfl, -, hx2⟩ := hg2.one (k := keyA) (by intro r hr; simp only [List.mem_cons, List.not_mem_nil, or_false] at hr; rcases hr with rfl | rfl <;> rfl) (by simp)
  obtain ⟨b2, o2, A3, c3, rfl, _, y0, y1, _, hn2⟩ := hs2.lin_ (k := 0) (by simp)
  have hcap2 := hs2.1
  simp only [List.getElem_cons_zero, Nat.zero_mul, Nat.add_zero] at y0 y1 hn2
  rw [hx2] at y1 hn2
  obtain ⟨b3, o3, rfl, _, z1, _⟩ := hn2.int_ (k := 1) (by simp)
  have hcap3 := hn2.1
  have z1 : w2.cell? ⟨b3, o3 + 1, none⟩ = some (.int .i64 5) := z1
  have y1 : w2.cell? ⟨b2, o2 + 1, none⟩ = some (.slice (some ⟨b3, o3, none⟩) 2 c3) := y1
  rw [show List.length [x2] = 1 from rfl] at hcap2 ⊢
  have hcap3 : 2 ≤ c3 := hcap3
  have HB2 := Lib.hid (HB1.out.trans (hb2.mono HB1.out.size))
  clear hg2 hs2 hn2 hx2 hb2 hfa HFACT HB1
  go_wp2_with fail
  clear y0 y1 z1 hcap2 hcap3
  refine (HWH.out 2 txtN w2 rfl (by decide) job_n (by decide) (by decide) HB2.out).mono ?_
  rintro e w3 ⟨hno, hyes, hb3⟩
  have HB3 := Lib.hid (HB2.out.trans (hb3.mono HB2.out.size))
  by_cases h0 : dataErr [d] = 0
  · obtain ⟨A4, c4, pl, rfl, hg4, hs4⟩ := hyes h0
    have hko : KeysOk d := (data_len h0).2
    rw [run_map d hko] at hg4
    have HG4 := Lib.hid hg4
    have HS4 := Lib.hid (hs4.more (F' := (· < w3.heap.size)) fun k hk => hk.2)
    have HKO := Lib.hid hko
    have H0 := Lib.hid h0
    have hpl := hs4.le
    clear hno hyes hb3 hg4 hs4 hko h0
    go_wp2_with fail
    refine (HWH.out 7 txtSum w3 rfl (by decide) job_sum (by decide) (by decide) HB3.out).mono ?_
    rintro e w4 ⟨_, hyes, hb4⟩
    obtain ⟨A5, c5, oa, rfl, hg5, hs5⟩ := hyes H0.out
    have HG5 := Lib.hid hg5
    have hz3 := hb4.size
    have HS5 := Lib.hid (hs5.more (F' := (· < w4.heap.size)) fun k hk => hk.2)
    have HB4 := Lib.hid (HB3.out.trans (hb4.mono HB3.out.size))
    have HS4b := Lib.hid ((HS4.out.keep fun k hk => hb4.block k hk).more (F' := (· < w4.heap.size)) fun k hk => by omega)
    have hoa := hs5.le
    clear hyes hb4 hg5 hs5 HS4
    go_wp2_with fail
    refine (HWH.out 7 txtMax w4 rfl (by decide) job_max (by decide) (by decide) HB4.out).mono ?_
    rintro e w5 ⟨_, hyes, hb5⟩
    obtain ⟨A6, c6, ob, rfl, hg6, hs6⟩ := hyes H0.out
    have HG6 := Lib.hid hg6
    have HS6 := Lib.hid (hs6.more (F' := (· < w5.heap.size)) fun k hk => hk.2)
    have hz4 := hb5.size
    have HB5 := Lib.hid (HB4.out.trans (hb5.mono HB4.out.size))
    have HS4c := Lib.hid ((HS4b.out.keep fun k hk => hb5.block k hk).more (F' := (· < w5.heap.size)) fun k hk => by omega)
    have HS5b := Lib.hid ((HS5.out.keep fun k hk => hb5.block k hk).more (F' := (· < w5.heap.size)) fun k hk => by omega)
    have hob := hs6.le
    have hla : oa.length = pl.length := HG5.out.len0 HG4.out fun k => by rw [sum_at d HKO.out, scanN_nil]
    have hlb : ob.length = pl.length := HG6.out.len0 HG4.out fun k => by rw [most_at d HKO.out, scanN_nil]
    have HQ : Hid (∀ k, numsOf oa k = scanN wsum 0 (numsAt d k) ∧ numsOf ob k = scanN wmost 0 (numsAt d k)) := fun k => ⟨by rw [HG5.out.of, sum_at d HKO.out], by rw [HG6.out.of, most_at d HKO.out]⟩
    have HP : Hid (∀ x ∈ pl, x.nums = numsAt d x.key) := HG4.out.nums
    have HNA := Lib.hid (fun k => nums_ok (· < w5.heap.size) A5 c5 oa k w5 HS5b.out)
    have HNB := Lib.hid (fun k => nums_ok (· < w5.heap.size) A6 c6 ob k w5 HS6.out)
    rw [hla] at HNA ⊢
    rw [hlb] at HNB ⊢
    clear hyes hb5 hg6 hs6 HS4b HS5 HS5b HS6 HG4 HG5 HG6 hla hlb HKO hoa hob HWH HB4 HB3 HB2
    go_wp2_with fail
    go_loopw [10] (fun iv wr => ∃ i : Nat, i ≤ pl.length ∧ iv = .int .i64 i ∧ w5 = wr) (fun iv _ => pl.length - (intOf iv).toNat)
    case atStart => exact ⟨0, Nat.zero_le _, rfl, rfl⟩
    case round =>
      obtain ⟨i, hi, rfl, rfl⟩ := hrel
      by_cases hlt : i < pl.length
      · obtain ⟨b7, o7, A7, c7, rfl, _, p0, p1, _, hn7⟩ := HS4c.out.lin_ hlt
        have hcap := HS4c.out.1
        have HX : Hid (pl[i].nums = numsAt d pl[i].key) := HP.out _ (List.getElem_mem hlt)
        generalize pl[i] = x at p0 p1 hn7 HX
        obtain ⟨xk, P⟩ := x
        simp only at p0 p1 hn7 HX
        have hX : P = numsAt d xk := HX.out
        have hq := HQ.out xk
        rw [← hX] at hq
        have HNA2 := Lib.hid (HNA.out xk)
        have HNB2 := Lib.hid (HNB.out xk)
        have hPl := hn7.le
        have HN7 := Lib.hid hn7
        have hc7 := hn7.1
        unfold NumsPost at HNA2 HNB2
        rw [hq.1] at HNA2
        rw [hq.2] at HNB2
        have hl1 := scanN_len wsum P 0
        have hl2 := scanN_len wmost P 0
        have HGA := Lib.hid (scanN_get wsum P 0)
        have HGB := Lib.hid (scanN_get wmost P 0)
        clear hn7 HX hX hq
        generalize scanN wsum 0 P = QA at HNA2 HGA hl1
        generalize scanN wmost 0 P = QB at HNB2 HGB hl2
        go_wp2_with fail
        refine HNA2.out.mono ?_
        rintro e w6 ⟨A8, c8, rfl, hs8, rfl⟩
        have HS8 := Lib.hid hs8
        have hc8 := hs8.1
        clear hs8
        go_wp2_with fail
        refine HNB2.out.mono ?_
        rintro e w6 ⟨A9, c9, rfl, hs9, rfl⟩
        have HS9 := Lib.hid hs9
        have hc9 := hs9.1
        clear hs9 HNA2 HNB2
        rw [hl1] at hc8
        rw [hl2] at hc9
        go_wp2_with fail
        clear p0 p1
        go_loopw [11, 12, 16] (fun sv mv kv wx => ∃ k : Nat, k ≤ P.length ∧ kv = .int .i64 k ∧ sv = .int .i64 ((P.take k).foldl wsum 0) ∧ mv = .int .i64 ((P.take k).foldl wmost 0) ∧ w5 = wx) (fun _ _ kv _ => P.length - (intOf kv).toNat)
        case atStart => exact ⟨0, Nat.zero_le _, rfl, rfl, rfl, rfl⟩
        case round =>
          obtain ⟨k, hk, rfl, rfl, rfl, rfl⟩ := hrel
          by_cases hlk : k < P.length
          · obtain ⟨bp, op, rfl, _, d7, hw7⟩ := HN7.out.int_ hlk
            obtain ⟨bq, oq, rfl, _, d8, hw8⟩ := HS8.out.int_ (k := k) (by rw [hl1]; exact hlk)
            obtain ⟨br, or_, rfl, _, d9, _⟩ := HS9.out.int_ (k := k) (by rw [hl2]; exact hlk)
            have hqa : QA[k]'(by rw [hl1]; exact hlk) = (P.take (k + 1)).foldl wsum 0 := by
              have h := HGA.out k hlk
              rw [List.getElem?_eq_getElem (by rw [hl1]; exact hlk)] at h
              exact Option.some.inj h
            have hqb : QB[k]'(by rw [hl2]; exact hlk) = (P.take (k + 1)).foldl wmost 0 := by
              have h := HGB.out k hlk
              rw [List.getElem?_eq_getElem (by rw [hl2]; exact hlk)] at h
              exact Option.some.inj h
            have hsa := foldK_succ wsum 0 P hlk
            have hsb := foldK_succ wmost 0 P hlk
            rw [hqa] at d8
            rw [hqb] at d9
            rw [hsa] at d8
            rw [hsb] at d9
            have HSA := Lib.hid hsa
            have HSB := Lib.hid hsb
            clear hqa hqb hsa hsb
            generalize P[k] = x at d7 d8 d9 HSA HSB
            generalize (P.take k).foldl wsum 0 = s at d8 HSA ⊢
            generalize (P.take k).foldl wmost 0 = m at d9 HSB ⊢
            rw [show wsum s x = wrap64 (s + x) from rfl] at d8 HSA
            by_cases hmx : m < x
            · have dm : decide (m < x) = true := decide_eq_true hmx
              rw [show wmost m x = x from if_pos hmx] at d9 HSB
              go_wp2_with fail
              go_roundw
              case rel => exact ⟨k + 1, by omega, by go_num, by rw [HSA.out], by rw [HSB.out], trivial⟩
              case measure => simp [intOf]; omega
            · have dm : decide (m < x) = false := decide_eq_false hmx
              rw [show wmost m x = m from if_neg hmx] at d9 HSB
              go_wp2_with fail
              go_roundw
              case rel => exact ⟨k + 1, by omega, by go_num, by rw [HSA.out], by rw [HSB.out], trivial⟩
              case measure => simp [intOf]; omega
          · have dk : decide (k < P.length) = false := decide_eq_false hlk
            clear HGA HGB HS8 HS9 HN7 hk hlk
            go_wp2_with fail
            refine ⟨⟨i + 1, by omega, by go_num, trivial⟩, ?_⟩
            simp [intOf]; omega
      · have di : decide (i < pl.length) = false := decide_eq_false hlt
        clear HS4c HQ HP HNA HNB hi hlt
        go_wp2_with fail
        go_ret
        exact ⟨rfl, HB5.out⟩
  · have e0 := hno h0
    subst e0
    clear hno hyes hb3 h0 HWH
    go_wp2_with fail
    go_ret
    exact ⟨rfl, HB3.out⟩
end Go.Proofs.YtmbhfadidpkkhaaGreatDoor
