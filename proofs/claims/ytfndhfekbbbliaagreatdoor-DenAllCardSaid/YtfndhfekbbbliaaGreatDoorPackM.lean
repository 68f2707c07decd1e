/-
  Several texts of this claim in one, in build order; each begins with its own remark, which says what it proves and under which conditions.
-/
import Derived.Test.YtfndhfekbbbliaaGreatDoorPackL
import Derived.Test.YtfndhfekbbbliaaGreatDoorPackH
import Derived.Test.YtfndhfekbbbliaaGreatDoorPackJ
import Derived.Test.YtfndhfekbbbliaaGreatDoorPackD

/-
  The reference's Data: what is wrong with a job and its data. Condition: where both lie.
-/
namespace Go.Proofs.YtfndhfekbbbliaaGreatDoor
open Go.RowKit Go.Shelf
set_option linter.unusedVariables false
set_option maxRecDepth 100000 in
set_option maxHeartbeats 2000000 in
theorem rdata_ok (F : Nat → Prop) (A : Option Addr) (c : Nat) (l : List Nod) (G : Nat → Prop) (Ad : Option Addr) (cd : Nat) (data : List (List Rec)) (w : World) (hl : SlA nodE F w A c l) (hF : ∀ k, F k → k < w.heap.size) (hd : SlA (slE recE) G w Ad cd data) (hG : ∀ k, G k → k < w.heap.size) :
  Calls Tryz.prog 110 #[.slice A l.length c, .slice Ad data.length cd] w fun e w' => e = .returned (.int .i64 (denErr l data)) ∧ Below w.heap.size w w' := by
 have HJB := Lib.hid (rjob_ok F A c l w hl hF)
 have HL := Lib.hid hl
 have HF := Lib.hid hF
 have HD := Lib.hid hd
 have HG := Lib.hid hG
 have hle := hd.le
 clear hl hF hd hG
 by_cases h0 : jobErr l = 0
 ·have h12 := (job_parts h0).1
  rw [h0] at HJB
  have HE : Hid (denErr l data = if data.length ≠ (ofKind l 1).length then 3 else dataErr data) := by show _ = _; unfold denErr; rw [if_neg (by simpa using h0)]
  clear h0
  go_enter Tryz.func110, Tryz.ntmps110
  go_wp2_with fail
  refine HJB.out.mono ?_
  rintro e w1 ⟨rfl, b1⟩
  have HO := Lib.hid (rof_ok F A c l 1 w1 (HL.out.keep fun k hk => b1.block k (HF.out k hk)) (fun k hk => Nat.lt_of_lt_of_le (HF.out k hk) b1.size) (by omega))
  have B1 := Lib.hid b1
  clear b1 HJB
  go_wp2_with fail
  refine HO.out.mono ?_
  rintro e w2 ⟨⟨A', c', rfl, hs⟩, b2⟩
  have h3 : Below w.heap.size w w2 := B1.out.trans (b2.mono B1.out.size)
  have H3 := Lib.hid h3
  have hl2 := hs.le
  obtain ⟨sn, hsn⟩ : ∃ sn, sn = (ofKind l 1).length := ⟨_, rfl⟩
  rw [← hsn] at hl2 HE ⊢
  have HD2 := Lib.hid (HD.out.keep (fun k hk => H3.out.block k (HG.out k hk)))
  have hz := h3.size
  clear h3 hs HO hsn b2 B1
  by_cases hn : data.length = sn
  ·subst hn
   rw [if_neg (by simp)] at HE
   have dn : (data.length != data.length) = false := by simp
   go_wp2_with fail
   go_loopw [7] (fun jv wr => ∃ j : Nat, j ≤ data.length ∧ jv = .int .i64 j ∧ Hid (dataErr data = dataErr (data.drop j)) ∧ Hid (Below w2.heap.size w2 wr)) (fun jv _ => data.length - (intOf jv).toNat)
   case atStart => exact ⟨0, Nat.zero_le _, rfl, rfl, Below.refl _ _⟩
   case round =>
    obtain ⟨j, hj, rfl, HJ, HB⟩ := hrel
    by_cases hlt : j < data.length
    ·obtain ⟨b, off, A2, c2, rfl, hGb, z0, hr⟩ := HD2.out.sl_ hlt
     have hb2 : b < w2.heap.size := Nat.lt_of_lt_of_le (HG.out b hGb) hz
     have HDR := Lib.hid (data_drop data hlt)
     generalize data[j] = d at z0 hr HDR
     have x0 := (HB.out.cell (p := ⟨b, off + j, none⟩) hb2).trans z0
     have hdl := hr.le
     have hcap := hr.1
     have HR := Lib.hid hr
     clear hr
     by_cases h300 : 300 < d.length
     ·have d3 : decide (300 < d.length) = true := decide_eq_true h300
      have HX : Hid (denErr l data = 4) := by show _ = _; rw [HE.out, HJ.out, HDR.out, if_pos h300]
      have HB9 := Lib.hid (H3.out.trans (HB.out.mono hz))
      clear HDR HJ HE
      go_wp2_with fail
      go_ret
      exact ⟨by rw [HX.out]; rfl, HB9.out⟩
     ·have d3 : decide (300 < d.length) = false := decide_eq_false h300
      rw [if_neg h300] at HDR
      go_wp2_with fail
      go_loopw [8] (fun kv wx => ∃ k : Nat, k ≤ d.length ∧ kv = .int .i64 k ∧ Hid ((d.take k).any recErr = false) ∧ Hid (Below w2.heap.size w2 wx)) (fun kv _ => d.length - (intOf kv).toNat)
      case atStart => exact ⟨0, Nat.zero_le _, rfl, rfl, HB⟩
      case round =>
       obtain ⟨k, hk, rfl, HK, HBx⟩ := hrel
       have x1 := (HBx.out.cell (p := ⟨b, off + j, none⟩) hb2).trans z0
       by_cases hlk : k < d.length
       ·obtain ⟨b3, off3, rfl, hG3, y0, y1, y2, _⟩ := (HR.out.keep (fun q hq => HBx.out.block q (Nat.lt_of_lt_of_le (HG.out q hq) hz))).rec_ hlk
        have HAT := Lib.hid (any_take d hlk)
        have HAO := Lib.hid (any_of d hlk)
        have hb3 : b3 < wr.heap.size := cell_lt y0
        have HB9 : ∀ o : Obj, Hid (Below w.heap.size w (wr.alloc o)) := fun o => H3.out.trans ((HBx.out.mono hz).trans ((Below.refl _ _).alloc (by have := HBx.out.size; omega) _))
        have HB8 : ∀ o : Obj, Hid (Below w2.heap.size w2 (wr.alloc o)) := fun o => HBx.out.alloc HBx.out.size _
        generalize d[k] = r at y0 y1 y2 HAT HAO
        obtain ⟨key, num, time⟩ := r
        simp only at y0 y1 y2
        obtain ⟨q, hq⟩ : ∃ q, q = recErr ⟨key, num, time⟩ := ⟨_, rfl⟩
        rw [← hq] at HAT HAO
        have hq2 : q = (decide (40 < key.size) || decide (time < 0) || decide (1000000 < time)) := hq
        cases q with
        | true =>
         have HX : Hid (denErr l data = 1) := by show _ = _; rw [HE.out, HJ.out, HDR.out, if_pos (HAO.out rfl)]
         clear HAT HAO HJ HE HDR hq HB
         cases p1 : decide (40 < key.size) with
         | true =>
          have p1' : decide ((40 : Int) < (key.size : Int)) = true := decide_eq_true (by have := of_decide_eq_true p1; omega)
          clear hq2
          go_wp2_with fail
          go_ret
          exact ⟨by rw [HX.out]; rfl, (HB9 _).out⟩
         | false =>
          have p1' : decide ((40 : Int) < (key.size : Int)) = false := decide_eq_false (by have := of_decide_eq_false p1; omega)
          cases p2 : decide (time < 0) with
          | true =>
           clear hq2
           go_wp2_with fail
           go_ret
           exact ⟨by rw [HX.out]; rfl, (HB9 _).out⟩
          | false =>
           rw [p1, p2] at hq2
           have p3 : decide (1000000 < time) = true := hq2.symm
           clear hq2
           go_wp2_with fail
           go_ret
           exact ⟨by rw [HX.out]; rfl, (HB9 _).out⟩
        | false =>
         have hq3 := hq2.symm
         rw [Bool.or_eq_false_iff, Bool.or_eq_false_iff] at hq3
         obtain ⟨⟨p1, p2⟩, p3⟩ := hq3
         have p1' : decide ((40 : Int) < (key.size : Int)) = false := decide_eq_false (by have := of_decide_eq_false p1; omega)
         have HK2 : Hid ((d.take (k + 1)).any recErr = false) := by show _ = _; rw [HAT.out, HK.out]; rfl
         clear hq hq2 HAT HAO
         go_wp2_with fail
         go_roundw
         case rel => exact ⟨k + 1, by omega, by go_num, HK2, HB8 _⟩
         case measure => simp [intOf]; omega
       ·have dk : decide (k < d.length) = false := decide_eq_false hlk
        have HJ2 : Hid (dataErr data = dataErr (data.drop (j + 1))) := by
         show _ = _
         have h := HK.out
         rw [List.take_of_length_le (by omega)] at h
         rw [HJ.out, HDR.out, if_neg (by rw [h]; simp)]
        clear HJ HDR HK hk hlk
        go_wp2_with fail
        go_roundw
        case rel => exact ⟨j + 1, by omega, by go_num, HJ2, HBx⟩
        case measure => simp [intOf]; omega
    ·have dj : decide (j < data.length) = false := decide_eq_false hlt
     have HX : Hid (denErr l data = 0) := by show _ = _; rw [HE.out, HJ.out, show j = data.length from by omega, List.drop_length]; rfl
     have HB9 := Lib.hid (H3.out.trans (HB.out.mono hz))
     clear HJ HE hj hlt
     go_wp2_with fail
     go_ret
     exact ⟨by rw [HX.out]; rfl, HB9.out⟩
  ·have dn : (sn != data.length) = true := by simp; exact fun e => hn e.symm
   have dn2 : decide (sn = data.length) = false := decide_eq_false fun e => hn e.symm
   have HX : Hid (denErr l data = 3) := by show _ = _; rw [HE.out, if_pos hn]
   clear HE
   go_wp2_with fail
   go_ret
   exact ⟨by rw [HX.out]; rfl, H3.out⟩
 ·have HX : Hid (denErr l data = jobErr l) := by show _ = _; unfold denErr; rw [if_pos h0]
  have hj1 : (jobErr l != 0) = true := by simp [h0]
  have dn2 : decide (jobErr l = 0) = false := decide_eq_false h0
  clear h0
  go_enter Tryz.func110, Tryz.ntmps110
  go_wp2_with fail
  refine HJB.out.mono ?_
  rintro e w1 ⟨rfl, b1⟩
  have B1 := Lib.hid b1
  clear b1 HJB
  go_wp2_with fail
  go_ret
  exact ⟨by rw [HX.out]; rfl, B1.out⟩
end Go.Proofs.YtfndhfekbbbliaaGreatDoor

/-
  Quotients and what is left, plain, by signs: what the reference's whole numbers give is the operator's value. No condition but that the divisor is not 0.
-/
namespace Go.Proofs.YtfndhfekbbbliaaGreatDoor
open Go.RowKit
set_option linter.unusedVariables false
theorem wrap64_of {x : Int} (h : I64s x) : wrap64 x = x := by unfold wrap64; have := h.1; have := h.2; omega
theorem opVal_zero {op : UInt8} (h : op = 47 ∨ op = 37) (a : Int) : opVal op a 0 = 0 := by
 rcases h with rfl | rfl
 ·unfold opVal; rw [if_neg (by decide), if_neg (by decide), if_neg (by decide), if_neg (by decide), if_neg (by decide), if_neg (by decide), if_neg (by decide), if_neg (by decide), if_pos rfl]
 ·unfold opVal; rw [if_neg (by decide), if_neg (by decide), if_neg (by decide), if_neg (by decide), if_neg (by decide), if_neg (by decide), if_neg (by decide), if_neg (by decide), if_pos rfl]
theorem op47 {a b : Int} (h0 : b ≠ 0) : opVal 47 a b = if b = -1 then wrap64 (-a) else a.tdiv b := by
 unfold opVal
 rw [if_neg (by decide), if_neg (by decide), if_neg (by decide), if_neg (by decide), if_neg (by decide), if_neg (by decide), if_neg (by decide), if_neg (by decide), if_neg h0]
 split
 ·rw [if_neg (by decide)]
 ·rw [if_pos rfl]
theorem op37 {a b : Int} (h0 : b ≠ 0) : opVal 37 a b = if b = -1 then 0 else a.tmod b := by
 unfold opVal
 rw [if_neg (by decide), if_neg (by decide), if_neg (by decide), if_neg (by decide), if_neg (by decide), if_neg (by decide), if_neg (by decide), if_neg (by decide), if_neg h0]
 split
 ·rw [if_pos rfl]
 ·rw [if_neg (by decide)]
theorem tdiv_signs (a b : Int) : a.tdiv b = if (decide (a < 0) != decide (b < 0)) = true then -((a.natAbs / b.natAbs : Nat) : Int) else ((a.natAbs / b.natAbs : Nat) : Int) := by
 by_cases ha : a < 0
 ·obtain ⟨m, rfl⟩ : ∃ m : Nat, a = -(m : Int) := ⟨a.natAbs, by omega⟩
  by_cases hb : b < 0
  ·obtain ⟨k, rfl⟩ : ∃ k : Nat, b = -(k : Int) := ⟨b.natAbs, by omega⟩
   rw [decide_eq_true ha, decide_eq_true hb, if_neg (by decide), Int.natAbs_neg, Int.natAbs_neg, Int.natAbs_natCast, Int.natAbs_natCast, Int.tdiv_neg, Int.neg_tdiv, Int.neg_neg]; rfl
  ·obtain ⟨k, rfl⟩ : ∃ k : Nat, b = (k : Int) := ⟨b.natAbs, by omega⟩
   rw [decide_eq_true ha, decide_eq_false hb, if_pos (by decide), Int.natAbs_neg, Int.natAbs_natCast, Int.natAbs_natCast, Int.neg_tdiv]; rfl
 ·obtain ⟨m, rfl⟩ : ∃ m : Nat, a = (m : Int) := ⟨a.natAbs, by omega⟩
  by_cases hb : b < 0
  ·obtain ⟨k, rfl⟩ : ∃ k : Nat, b = -(k : Int) := ⟨b.natAbs, by omega⟩
   rw [decide_eq_false ha, decide_eq_true hb, if_pos (by decide), Int.natAbs_neg, Int.natAbs_natCast, Int.natAbs_natCast, Int.tdiv_neg]; rfl
  ·obtain ⟨k, rfl⟩ : ∃ k : Nat, b = (k : Int) := ⟨b.natAbs, by omega⟩
   rw [decide_eq_false ha, decide_eq_false hb, if_neg (by decide), Int.natAbs_natCast, Int.natAbs_natCast]; rfl
theorem quo_val {a b : Int} (ha : I64s a) (hb : I64s b) (h0 : b ≠ 0) {Q : Nat} (hQ : Q = a.natAbs / b.natAbs) {f : Bool} (hf : f = ((decide (a < 0) != decide (b < 0)) && decide (0 < Q))) :
  (f = true → Q ≤ 9223372036854775808) ∧ Q ≤ 9223372036854775808 ∧ opVal 47 a b = (if (decide (Q < 9223372036854775808) || f) = true then (if f = true then -(Q : Int) else (Q : Int)) else a) := by
 obtain ⟨ha1, ha2⟩ := ha
 have hQa : Q ≤ a.natAbs := by rw [hQ]; exact Nat.div_le_self _ _
 have hqb : Q ≤ 9223372036854775808 := by omega
 refine ⟨fun _ => hqb, hqb, ?_⟩
 have hts := tdiv_signs a b
 rw [← hQ] at hts
 have hbase : a.tdiv b = if f = true then -(Q : Int) else (Q : Int) := by
  rw [hts, hf]
  by_cases hs : (decide (a < 0) != decide (b < 0)) = true
  ·rw [if_pos hs, hs, Bool.true_and]
   by_cases hq0 : 0 < Q
   ·rw [decide_eq_true hq0, if_pos rfl]
   ·rw [decide_eq_false hq0, if_neg (by decide)]; omega
  ·rw [if_neg hs]
   have : (decide (a < 0) != decide (b < 0)) = false := by simpa using hs
   rw [this, Bool.false_and, if_neg (by decide)]
 rw [op47 h0]
 by_cases hc : (decide (Q < 9223372036854775808) || f) = true
 ·rw [if_pos hc, ← hbase]
  by_cases h1 : b = -1
  ·rw [if_pos h1, h1]
   have e : a.tdiv (-1) = -a := by rw [Int.tdiv_neg, Int.tdiv_one]
   rw [e]
   refine wrap64_of ⟨by omega, ?_⟩
   rw [h1, e] at hbase
   rw [hbase]
   cases f with
   | true => rw [if_pos rfl]; omega
   | false =>
    rw [Bool.or_false, decide_eq_true_eq] at hc
    rw [if_neg (by decide)]; omega
  ·rw [if_neg h1]
 ·rw [if_neg hc]
  have hc2 : Q = 9223372036854775808 ∧ f = false := by
   rw [Bool.or_eq_true, decide_eq_true_eq, not_or] at hc
   exact ⟨by omega, by simpa using hc.2⟩
  have ham : a = -9223372036854775808 := by omega
  have hb1 : b.natAbs = 1 := by
   rcases Nat.lt_or_ge 1 b.natAbs with h7 | h7
   ·have : a.natAbs / b.natAbs < a.natAbs := Nat.div_lt_self (by omega) h7
    omega
   ·omega
  have hbm : b = -1 := by
   rcases Int.natAbs_eq b with h | h
   ·rw [hb1] at h
    rw [hc2.2, hc2.1, ham, h] at hf
    exfalso
    revert hf; decide
   ·rw [hb1] at h; exact h
  rw [if_pos hbm, ham]
  unfold wrap64; omega
theorem opVal_i64s_47 {a b : Int} (ha : I64s a) (hb : I64s b) (h0 : b ≠ 0) : I64s (opVal 47 a b) := by
 obtain ⟨Q, hQ⟩ : ∃ Q, Q = a.natAbs / b.natAbs := ⟨_, rfl⟩
 obtain ⟨f, hf⟩ : ∃ f, f = ((decide (a < 0) != decide (b < 0)) && decide (0 < Q)) := ⟨_, rfl⟩
 obtain ⟨q1, q2, q3⟩ := quo_val ha hb h0 hQ hf
 rw [q3]
 cases f with
 | true => rw [Bool.or_true, if_pos rfl, if_pos rfl]; exact ⟨by omega, by omega⟩
 | false =>
  by_cases hq : Q < 9223372036854775808
  ·rw [decide_eq_true hq, Bool.true_or, if_pos rfl, if_neg (by decide)]; exact ⟨by omega, by omega⟩
  ·rw [decide_eq_false hq, Bool.false_or, if_neg (by decide)]; exact ha
theorem tmod_signs (a b : Int) : a.tmod b = if a < 0 then -((a.natAbs % b.natAbs : Nat) : Int) else ((a.natAbs % b.natAbs : Nat) : Int) := by
 have hb : a.tmod b = a.tmod (b.natAbs : Int) := by
  rcases Int.natAbs_eq b with h | h
  ·rw [← h]
  ·conv => lhs; rw [h]
   rw [Int.tmod_neg]
 rw [hb]
 by_cases ha : a < 0
 ·obtain ⟨m, rfl⟩ : ∃ m : Nat, a = -(m : Int) := ⟨a.natAbs, by omega⟩
  rw [if_pos ha, Int.natAbs_neg, Int.natAbs_natCast, Int.neg_tmod]; rfl
 ·obtain ⟨m, rfl⟩ : ∃ m : Nat, a = (m : Int) := ⟨a.natAbs, by omega⟩
  rw [if_neg ha, Int.natAbs_natCast]; rfl
theorem rem_val {a b : Int} (ha : I64s a) (hb : I64s b) (h0 : b ≠ 0) {R : Nat} (hR : R = a.natAbs % b.natAbs) {f : Bool} (hf : f = (decide (a < 0) && decide (0 < R))) :
  (f = true → R ≤ 9223372036854775808) ∧ R ≤ 9223372036854775808 ∧ opVal 37 a b = (if (decide (R < 9223372036854775808) || f) = true then (if f = true then -(R : Int) else (R : Int)) else a) := by
 obtain ⟨hb1, hb2⟩ := hb
 have hlt : R < b.natAbs := by rw [hR]; exact Nat.mod_lt _ (by omega)
 have hR2 : R < 9223372036854775808 := by omega
 refine ⟨fun _ => by omega, by omega, ?_⟩
 have hts := tmod_signs a b
 rw [← hR] at hts
 rw [decide_eq_true hR2, Bool.true_or, if_pos rfl, op37 h0]
 have hbase : a.tmod b = if f = true then -(R : Int) else (R : Int) := by
  rw [hts, hf]
  by_cases hs : a < 0
  ·rw [if_pos hs, decide_eq_true hs, Bool.true_and]
   by_cases hq0 : 0 < R
   ·rw [decide_eq_true hq0, if_pos rfl]
   ·rw [decide_eq_false hq0, if_neg (by decide)]; omega
  ·rw [if_neg hs, decide_eq_false hs, Bool.false_and, if_neg (by decide)]
 rw [← hbase]
 by_cases h1 : b = -1
 ·rw [if_pos h1, hts]
  have : R = 0 := by rw [h1] at hlt; simp at hlt; exact hlt
  rw [this]; split <;> rfl
 ·rw [if_neg h1]
theorem opVal_i64s_37 {a b : Int} (ha : I64s a) (hb : I64s b) (h0 : b ≠ 0) : I64s (opVal 37 a b) := by
 have hlt : a.natAbs % b.natAbs < b.natAbs := Nat.mod_lt _ (by omega)
 rw [op37 h0]
 split
 ·exact ⟨by omega, by omega⟩
 ·rw [tmod_signs]
  obtain ⟨hb1, hb2⟩ := hb
  generalize a.natAbs % b.natAbs = R at hlt ⊢
  split <;> exact ⟨by omega, by omega⟩
end Go.Proofs.YtfndhfekbbbliaaGreatDoor

/-
  The reference's Value at a tree of two operands, operator by operator (printed by refval.py). Conditions: n and s are ints.
-/
namespace Go.Proofs.YtfndhfekbbbliaaGreatDoor
open Go.RowKit Go.ChangeShapes Go.WideShapes
set_option linter.unusedVariables false
set_option maxRecDepth 100000 in
set_option maxHeartbeats 1000000 in
theorem value_bin_43 (x y : Tr) (ix : ValueOk x) (iy : ValueOk y) : ValueOk (.bin 43 x y) := by
 intro v n s w h hn hs
 cases h with
 | @bin b o nn ss o' n' s' _ _ _ hop hb h0 h1 h2 hx h3 h4 h5 hy =>
  change Calls _ _ #[.agg #[.int .i64 43, .int .i64 0, .slice (some ⟨b, 0, none⟩) 2 2], .int .i64 n, .int .i64 s] w _
  obtain ⟨W1, hW1⟩ : ∃ W1, W1 = w.alloc (.cells #[.int .i64 43, .int .i64 0, .slice (some ⟨b, 0, none⟩) 2 2] 24) := ⟨_, rfl⟩
  have hb1 : Below w.heap.size w W1 := by rw [hW1]; exact (Below.refl _ _).alloc (Nat.le_refl _) _
  have g1 := heap_alloc_new w (.cells #[.int .i64 43, .int .i64 0, .slice (some ⟨b, 0, none⟩) 2 2] 24)
  rw [← hW1] at g1
  have HX := Lib.hid (ix _ n s W1 (hx.under hb1) hn hs)
  have HYY : Hid (∀ W, Below w.heap.size w W → Calls Tryz.prog 13 #[.agg #[o', n', s'], .int .i64 n, .int .i64 s] W (ValuePost y n s W)) := fun W hW => iy _ n s W (hy.under hW) hn hs
  have HC : Hid (∀ W, Below w.heap.size w W → W.cell? ⟨b, 3, none⟩ = some o' ∧ W.cell? ⟨b, 4, none⟩ = some n' ∧ W.cell? ⟨b, 5, none⟩ = some s') := fun W hW =>
   ⟨(hW.cell (p := ⟨b, 3, none⟩) hb).trans h3, (hW.cell (p := ⟨b, 4, none⟩) hb).trans h4, (hW.cell (p := ⟨b, 5, none⟩) hb).trans h5⟩
  have HB1 := Lib.hid hb1
  have y0 := cell_of_row W1 w.heap.size 0 _ _ _ g1
  have y2 := cell_of_row W1 w.heap.size 2 _ _ _ g1
  simp at y0 y2
  have hl1 := block_lt g1
  have HW := Lib.hid hW1
  have HY := Lib.hid (And.intro y0 y2)
  clear hx hy hn hs hb1 hW1 g1 ix iy h3 h4 h5 y0 y2 hop
  go_enter Tryz.func13, Tryz.ntmps13
  go_wp2_with fail
  rw [← HW.out]
  clear HW h0 h1 h2
  refine HX.out.mono ?_
  rintro e w2 ⟨rfl, hx2, hb2⟩
  have u0 := (hb2.cell (p := ⟨w.heap.size, 0, none⟩) hl1).trans HY.out.1
  have u2 := (hb2.cell (p := ⟨w.heap.size, 2, none⟩) hl1).trans HY.out.2
  have hl2 : w.heap.size < w2.heap.size := Nat.lt_of_lt_of_le hl1 hb2.size
  have hB2 := HB1.out.trans (hb2.mono HB1.out.size)
  have HB2 := Lib.hid hB2
  have HYC := Lib.hid (HYY.out w2 hB2)
  obtain ⟨p0, p1, p2⟩ := HC.out w2 hB2
  have HV0 : Hid ((Tr.bin 43 x y).val n s = opVal 43 (x.val n s) (y.val n s)) := rfl
  generalize x.val n s = xv at hx2 HV0
  clear HX HB1 hb2 HY HYY HC hB2
  have hx3 := hx2.1
  have hx4 := hx2.2
  clear hx2
  go_wp2_with fail
  refine HYC.out.mono ?_
  rintro e w3 ⟨rfl, hy2, hb3⟩
  have v0 := (hb3.cell (p := ⟨w.heap.size, 0, none⟩) hl2).trans u0
  have HB3 := Lib.hid (HB2.out.trans (hb3.mono HB2.out.size))
  have hz3 := HB3.out.size
  have hl3 : w.heap.size < w3.heap.size := Nat.lt_of_lt_of_le hl2 hb3.size
  generalize y.val n s = yv at hy2 HV0
  clear HYC hb3 u0 u2 p0 p1 p2 HB2
  have hy3 := hy2.1
  have hy4 := hy2.2
  clear hy2
  have HV : Hid ((Tr.bin 43 x y).val n s = wrap64 (xv + yv)) := by show _ = _; rw [HV0.out]; unfold opVal; rw [if_neg (by decide)]; rw [if_neg (by decide)]; rw [if_pos rfl]
  clear HV0
  go_wp2_with fail
  go_ret
  exact ⟨by rw [HV.out]; rfl, by rw [HV.out]; exact wrap_i64s _, HB3.out⟩
set_option maxRecDepth 100000 in
set_option maxHeartbeats 1000000 in
theorem value_bin_45 (x y : Tr) (ix : ValueOk x) (iy : ValueOk y) : ValueOk (.bin 45 x y) := by
 intro v n s w h hn hs
 cases h with
 | @bin b o nn ss o' n' s' _ _ _ hop hb h0 h1 h2 hx h3 h4 h5 hy =>
  change Calls _ _ #[.agg #[.int .i64 45, .int .i64 0, .slice (some ⟨b, 0, none⟩) 2 2], .int .i64 n, .int .i64 s] w _
  obtain ⟨W1, hW1⟩ : ∃ W1, W1 = w.alloc (.cells #[.int .i64 45, .int .i64 0, .slice (some ⟨b, 0, none⟩) 2 2] 24) := ⟨_, rfl⟩
  have hb1 : Below w.heap.size w W1 := by rw [hW1]; exact (Below.refl _ _).alloc (Nat.le_refl _) _
  have g1 := heap_alloc_new w (.cells #[.int .i64 45, .int .i64 0, .slice (some ⟨b, 0, none⟩) 2 2] 24)
  rw [← hW1] at g1
  have HX := Lib.hid (ix _ n s W1 (hx.under hb1) hn hs)
  have HYY : Hid (∀ W, Below w.heap.size w W → Calls Tryz.prog 13 #[.agg #[o', n', s'], .int .i64 n, .int .i64 s] W (ValuePost y n s W)) := fun W hW => iy _ n s W (hy.under hW) hn hs
  have HC : Hid (∀ W, Below w.heap.size w W → W.cell? ⟨b, 3, none⟩ = some o' ∧ W.cell? ⟨b, 4, none⟩ = some n' ∧ W.cell? ⟨b, 5, none⟩ = some s') := fun W hW =>
   ⟨(hW.cell (p := ⟨b, 3, none⟩) hb).trans h3, (hW.cell (p := ⟨b, 4, none⟩) hb).trans h4, (hW.cell (p := ⟨b, 5, none⟩) hb).trans h5⟩
  have HB1 := Lib.hid hb1
  have y0 := cell_of_row W1 w.heap.size 0 _ _ _ g1
  have y2 := cell_of_row W1 w.heap.size 2 _ _ _ g1
  simp at y0 y2
  have hl1 := block_lt g1
  have HW := Lib.hid hW1
  have HY := Lib.hid (And.intro y0 y2)
  clear hx hy hn hs hb1 hW1 g1 ix iy h3 h4 h5 y0 y2 hop
  go_enter Tryz.func13, Tryz.ntmps13
  go_wp2_with fail
  rw [← HW.out]
  clear HW h0 h1 h2
  refine HX.out.mono ?_
  rintro e w2 ⟨rfl, hx2, hb2⟩
  have u0 := (hb2.cell (p := ⟨w.heap.size, 0, none⟩) hl1).trans HY.out.1
  have u2 := (hb2.cell (p := ⟨w.heap.size, 2, none⟩) hl1).trans HY.out.2
  have hl2 : w.heap.size < w2.heap.size := Nat.lt_of_lt_of_le hl1 hb2.size
  have hB2 := HB1.out.trans (hb2.mono HB1.out.size)
  have HB2 := Lib.hid hB2
  have HYC := Lib.hid (HYY.out w2 hB2)
  obtain ⟨p0, p1, p2⟩ := HC.out w2 hB2
  have HV0 : Hid ((Tr.bin 45 x y).val n s = opVal 45 (x.val n s) (y.val n s)) := rfl
  generalize x.val n s = xv at hx2 HV0
  clear HX HB1 hb2 HY HYY HC hB2
  have hx3 := hx2.1
  have hx4 := hx2.2
  clear hx2
  go_wp2_with fail
  refine HYC.out.mono ?_
  rintro e w3 ⟨rfl, hy2, hb3⟩
  have v0 := (hb3.cell (p := ⟨w.heap.size, 0, none⟩) hl2).trans u0
  have HB3 := Lib.hid (HB2.out.trans (hb3.mono HB2.out.size))
  have hz3 := HB3.out.size
  have hl3 : w.heap.size < w3.heap.size := Nat.lt_of_lt_of_le hl2 hb3.size
  generalize y.val n s = yv at hy2 HV0
  clear HYC hb3 u0 u2 p0 p1 p2 HB2
  have hy3 := hy2.1
  have hy4 := hy2.2
  clear hy2
  have HV : Hid ((Tr.bin 45 x y).val n s = wrap64 (xv - yv)) := by show _ = _; rw [HV0.out]; unfold opVal; rw [if_neg (by decide)]; rw [if_neg (by decide)]; rw [if_neg (by decide)]; rw [if_pos rfl]
  clear HV0
  go_wp2_with fail
  go_ret
  exact ⟨by rw [HV.out]; rfl, by rw [HV.out]; exact wrap_i64s _, HB3.out⟩
set_option maxRecDepth 100000 in
set_option maxHeartbeats 1000000 in
theorem value_bin_42 (x y : Tr) (ix : ValueOk x) (iy : ValueOk y) : ValueOk (.bin 42 x y) := by
 intro v n s w h hn hs
 cases h with
 | @bin b o nn ss o' n' s' _ _ _ hop hb h0 h1 h2 hx h3 h4 h5 hy =>
  change Calls _ _ #[.agg #[.int .i64 42, .int .i64 0, .slice (some ⟨b, 0, none⟩) 2 2], .int .i64 n, .int .i64 s] w _
  obtain ⟨W1, hW1⟩ : ∃ W1, W1 = w.alloc (.cells #[.int .i64 42, .int .i64 0, .slice (some ⟨b, 0, none⟩) 2 2] 24) := ⟨_, rfl⟩
  have hb1 : Below w.heap.size w W1 := by rw [hW1]; exact (Below.refl _ _).alloc (Nat.le_refl _) _
  have g1 := heap_alloc_new w (.cells #[.int .i64 42, .int .i64 0, .slice (some ⟨b, 0, none⟩) 2 2] 24)
  rw [← hW1] at g1
  have HX := Lib.hid (ix _ n s W1 (hx.under hb1) hn hs)
  have HYY : Hid (∀ W, Below w.heap.size w W → Calls Tryz.prog 13 #[.agg #[o', n', s'], .int .i64 n, .int .i64 s] W (ValuePost y n s W)) := fun W hW => iy _ n s W (hy.under hW) hn hs
  have HC : Hid (∀ W, Below w.heap.size w W → W.cell? ⟨b, 3, none⟩ = some o' ∧ W.cell? ⟨b, 4, none⟩ = some n' ∧ W.cell? ⟨b, 5, none⟩ = some s') := fun W hW =>
   ⟨(hW.cell (p := ⟨b, 3, none⟩) hb).trans h3, (hW.cell (p := ⟨b, 4, none⟩) hb).trans h4, (hW.cell (p := ⟨b, 5, none⟩) hb).trans h5⟩
  have HB1 := Lib.hid hb1
  have y0 := cell_of_row W1 w.heap.size 0 _ _ _ g1
  have y2 := cell_of_row W1 w.heap.size 2 _ _ _ g1
  simp at y0 y2
  have hl1 := block_lt g1
  have HW := Lib.hid hW1
  have HY := Lib.hid (And.intro y0 y2)
  clear hx hy hn hs hb1 hW1 g1 ix iy h3 h4 h5 y0 y2 hop
  go_enter Tryz.func13, Tryz.ntmps13
  go_wp2_with fail
  rw [← HW.out]
  clear HW h0 h1 h2
  refine HX.out.mono ?_
  rintro e w2 ⟨rfl, hx2, hb2⟩
  have u0 := (hb2.cell (p := ⟨w.heap.size, 0, none⟩) hl1).trans HY.out.1
  have u2 := (hb2.cell (p := ⟨w.heap.size, 2, none⟩) hl1).trans HY.out.2
  have hl2 : w.heap.size < w2.heap.size := Nat.lt_of_lt_of_le hl1 hb2.size
  have hB2 := HB1.out.trans (hb2.mono HB1.out.size)
  have HB2 := Lib.hid hB2
  have HYC := Lib.hid (HYY.out w2 hB2)
  obtain ⟨p0, p1, p2⟩ := HC.out w2 hB2
  have HV0 : Hid ((Tr.bin 42 x y).val n s = opVal 42 (x.val n s) (y.val n s)) := rfl
  generalize x.val n s = xv at hx2 HV0
  clear HX HB1 hb2 HY HYY HC hB2
  have hx3 := hx2.1
  have hx4 := hx2.2
  clear hx2
  go_wp2_with fail
  refine HYC.out.mono ?_
  rintro e w3 ⟨rfl, hy2, hb3⟩
  have v0 := (hb3.cell (p := ⟨w.heap.size, 0, none⟩) hl2).trans u0
  have HB3 := Lib.hid (HB2.out.trans (hb3.mono HB2.out.size))
  have hz3 := HB3.out.size
  have hl3 : w.heap.size < w3.heap.size := Nat.lt_of_lt_of_le hl2 hb3.size
  generalize y.val n s = yv at hy2 HV0
  clear HYC hb3 u0 u2 p0 p1 p2 HB2
  have hy3 := hy2.1
  have hy4 := hy2.2
  clear hy2
  have HV : Hid ((Tr.bin 42 x y).val n s = wrap64 (xv * yv)) := by show _ = _; rw [HV0.out]; unfold opVal; rw [if_neg (by decide)]; rw [if_neg (by decide)]; rw [if_neg (by decide)]; rw [if_neg (by decide)]; rw [if_pos rfl]
  clear HV0
  go_wp2_with fail
  go_ret
  exact ⟨by rw [HV.out]; rfl, by rw [HV.out]; exact wrap_i64s _, HB3.out⟩
set_option maxRecDepth 100000 in
set_option maxHeartbeats 1000000 in
theorem value_bin_109 (x y : Tr) (ix : ValueOk x) (iy : ValueOk y) : ValueOk (.bin 109 x y) := by
 intro v n s w h hn hs
 cases h with
 | @bin b o nn ss o' n' s' _ _ _ hop hb h0 h1 h2 hx h3 h4 h5 hy =>
  change Calls _ _ #[.agg #[.int .i64 109, .int .i64 0, .slice (some ⟨b, 0, none⟩) 2 2], .int .i64 n, .int .i64 s] w _
  obtain ⟨W1, hW1⟩ : ∃ W1, W1 = w.alloc (.cells #[.int .i64 109, .int .i64 0, .slice (some ⟨b, 0, none⟩) 2 2] 24) := ⟨_, rfl⟩
  have hb1 : Below w.heap.size w W1 := by rw [hW1]; exact (Below.refl _ _).alloc (Nat.le_refl _) _
  have g1 := heap_alloc_new w (.cells #[.int .i64 109, .int .i64 0, .slice (some ⟨b, 0, none⟩) 2 2] 24)
  rw [← hW1] at g1
  have HX := Lib.hid (ix _ n s W1 (hx.under hb1) hn hs)
  have HYY : Hid (∀ W, Below w.heap.size w W → Calls Tryz.prog 13 #[.agg #[o', n', s'], .int .i64 n, .int .i64 s] W (ValuePost y n s W)) := fun W hW => iy _ n s W (hy.under hW) hn hs
  have HC : Hid (∀ W, Below w.heap.size w W → W.cell? ⟨b, 3, none⟩ = some o' ∧ W.cell? ⟨b, 4, none⟩ = some n' ∧ W.cell? ⟨b, 5, none⟩ = some s') := fun W hW =>
   ⟨(hW.cell (p := ⟨b, 3, none⟩) hb).trans h3, (hW.cell (p := ⟨b, 4, none⟩) hb).trans h4, (hW.cell (p := ⟨b, 5, none⟩) hb).trans h5⟩
  have HB1 := Lib.hid hb1
  have y0 := cell_of_row W1 w.heap.size 0 _ _ _ g1
  have y2 := cell_of_row W1 w.heap.size 2 _ _ _ g1
  simp at y0 y2
  have hl1 := block_lt g1
  have HW := Lib.hid hW1
  have HY := Lib.hid (And.intro y0 y2)
  clear hx hy hn hs hb1 hW1 g1 ix iy h3 h4 h5 y0 y2 hop
  go_enter Tryz.func13, Tryz.ntmps13
  go_wp2_with fail
  rw [← HW.out]
  clear HW h0 h1 h2
  refine HX.out.mono ?_
  rintro e w2 ⟨rfl, hx2, hb2⟩
  have u0 := (hb2.cell (p := ⟨w.heap.size, 0, none⟩) hl1).trans HY.out.1
  have u2 := (hb2.cell (p := ⟨w.heap.size, 2, none⟩) hl1).trans HY.out.2
  have hl2 : w.heap.size < w2.heap.size := Nat.lt_of_lt_of_le hl1 hb2.size
  have hB2 := HB1.out.trans (hb2.mono HB1.out.size)
  have HB2 := Lib.hid hB2
  have HYC := Lib.hid (HYY.out w2 hB2)
  obtain ⟨p0, p1, p2⟩ := HC.out w2 hB2
  have HV0 : Hid ((Tr.bin 109 x y).val n s = opVal 109 (x.val n s) (y.val n s)) := rfl
  generalize x.val n s = xv at hx2 HV0
  clear HX HB1 hb2 HY HYY HC hB2
  have hx3 := hx2.1
  have hx4 := hx2.2
  clear hx2
  go_wp2_with fail
  refine HYC.out.mono ?_
  rintro e w3 ⟨rfl, hy2, hb3⟩
  have v0 := (hb3.cell (p := ⟨w.heap.size, 0, none⟩) hl2).trans u0
  have HB3 := Lib.hid (HB2.out.trans (hb3.mono HB2.out.size))
  have hz3 := HB3.out.size
  have hl3 : w.heap.size < w3.heap.size := Nat.lt_of_lt_of_le hl2 hb3.size
  generalize y.val n s = yv at hy2 HV0
  clear HYC hb3 u0 u2 p0 p1 p2 HB2
  have hy3 := hy2.1
  have hy4 := hy2.2
  clear hy2
  by_cases hc : xv < yv
  ·have HV : Hid ((Tr.bin 109 x y).val n s = xv) := by show _ = _; rw [HV0.out]; unfold opVal; rw [if_pos rfl]; exact Int.min_eq_left (by omega)
   have dc : decide (xv < yv) = true := by exact decide_eq_true hc
   clear HV0
   go_wp2_with fail
   go_ret
   exact ⟨by rw [HV.out]; rfl, by rw [HV.out]; exact ⟨by omega, by omega⟩, HB3.out⟩
  ·have HV : Hid ((Tr.bin 109 x y).val n s = yv) := by show _ = _; rw [HV0.out]; unfold opVal; rw [if_pos rfl]; exact Int.min_eq_right (by omega)
   have dc : decide (xv < yv) = false := by exact decide_eq_false hc
   clear HV0
   go_wp2_with fail
   go_ret
   exact ⟨by rw [HV.out]; rfl, by rw [HV.out]; exact ⟨by omega, by omega⟩, HB3.out⟩
set_option maxRecDepth 100000 in
set_option maxHeartbeats 1000000 in
theorem value_bin_77 (x y : Tr) (ix : ValueOk x) (iy : ValueOk y) : ValueOk (.bin 77 x y) := by
 intro v n s w h hn hs
 cases h with
 | @bin b o nn ss o' n' s' _ _ _ hop hb h0 h1 h2 hx h3 h4 h5 hy =>
  change Calls _ _ #[.agg #[.int .i64 77, .int .i64 0, .slice (some ⟨b, 0, none⟩) 2 2], .int .i64 n, .int .i64 s] w _
  obtain ⟨W1, hW1⟩ : ∃ W1, W1 = w.alloc (.cells #[.int .i64 77, .int .i64 0, .slice (some ⟨b, 0, none⟩) 2 2] 24) := ⟨_, rfl⟩
  have hb1 : Below w.heap.size w W1 := by rw [hW1]; exact (Below.refl _ _).alloc (Nat.le_refl _) _
  have g1 := heap_alloc_new w (.cells #[.int .i64 77, .int .i64 0, .slice (some ⟨b, 0, none⟩) 2 2] 24)
  rw [← hW1] at g1
  have HX := Lib.hid (ix _ n s W1 (hx.under hb1) hn hs)
  have HYY : Hid (∀ W, Below w.heap.size w W → Calls Tryz.prog 13 #[.agg #[o', n', s'], .int .i64 n, .int .i64 s] W (ValuePost y n s W)) := fun W hW => iy _ n s W (hy.under hW) hn hs
  have HC : Hid (∀ W, Below w.heap.size w W → W.cell? ⟨b, 3, none⟩ = some o' ∧ W.cell? ⟨b, 4, none⟩ = some n' ∧ W.cell? ⟨b, 5, none⟩ = some s') := fun W hW =>
   ⟨(hW.cell (p := ⟨b, 3, none⟩) hb).trans h3, (hW.cell (p := ⟨b, 4, none⟩) hb).trans h4, (hW.cell (p := ⟨b, 5, none⟩) hb).trans h5⟩
  have HB1 := Lib.hid hb1
  have y0 := cell_of_row W1 w.heap.size 0 _ _ _ g1
  have y2 := cell_of_row W1 w.heap.size 2 _ _ _ g1
  simp at y0 y2
  have hl1 := block_lt g1
  have HW := Lib.hid hW1
  have HY := Lib.hid (And.intro y0 y2)
  clear hx hy hn hs hb1 hW1 g1 ix iy h3 h4 h5 y0 y2 hop
  go_enter Tryz.func13, Tryz.ntmps13
  go_wp2_with fail
  rw [← HW.out]
  clear HW h0 h1 h2
  refine HX.out.mono ?_
  rintro e w2 ⟨rfl, hx2, hb2⟩
  have u0 := (hb2.cell (p := ⟨w.heap.size, 0, none⟩) hl1).trans HY.out.1
  have u2 := (hb2.cell (p := ⟨w.heap.size, 2, none⟩) hl1).trans HY.out.2
  have hl2 : w.heap.size < w2.heap.size := Nat.lt_of_lt_of_le hl1 hb2.size
  have hB2 := HB1.out.trans (hb2.mono HB1.out.size)
  have HB2 := Lib.hid hB2
  have HYC := Lib.hid (HYY.out w2 hB2)
  obtain ⟨p0, p1, p2⟩ := HC.out w2 hB2
  have HV0 : Hid ((Tr.bin 77 x y).val n s = opVal 77 (x.val n s) (y.val n s)) := rfl
  generalize x.val n s = xv at hx2 HV0
  clear HX HB1 hb2 HY HYY HC hB2
  have hx3 := hx2.1
  have hx4 := hx2.2
  clear hx2
  go_wp2_with fail
  refine HYC.out.mono ?_
  rintro e w3 ⟨rfl, hy2, hb3⟩
  have v0 := (hb3.cell (p := ⟨w.heap.size, 0, none⟩) hl2).trans u0
  have HB3 := Lib.hid (HB2.out.trans (hb3.mono HB2.out.size))
  have hz3 := HB3.out.size
  have hl3 : w.heap.size < w3.heap.size := Nat.lt_of_lt_of_le hl2 hb3.size
  generalize y.val n s = yv at hy2 HV0
  clear HYC hb3 u0 u2 p0 p1 p2 HB2
  have hy3 := hy2.1
  have hy4 := hy2.2
  clear hy2
  by_cases hc : yv < xv
  ·have HV : Hid ((Tr.bin 77 x y).val n s = xv) := by show _ = _; rw [HV0.out]; unfold opVal; rw [if_neg (by decide)]; rw [if_pos rfl]; exact Int.max_eq_left (by omega)
   have dc : decide (yv < xv) = true := by exact decide_eq_true hc
   clear HV0
   go_wp2_with fail
   go_ret
   exact ⟨by rw [HV.out]; rfl, by rw [HV.out]; exact ⟨by omega, by omega⟩, HB3.out⟩
  ·have HV : Hid ((Tr.bin 77 x y).val n s = yv) := by show _ = _; rw [HV0.out]; unfold opVal; rw [if_neg (by decide)]; rw [if_pos rfl]; exact Int.max_eq_right (by omega)
   have dc : decide (yv < xv) = false := by exact decide_eq_false hc
   clear HV0
   go_wp2_with fail
   go_ret
   exact ⟨by rw [HV.out]; rfl, by rw [HV.out]; exact ⟨by omega, by omega⟩, HB3.out⟩
set_option maxRecDepth 100000 in
set_option maxHeartbeats 1000000 in
theorem value_bin_60 (x y : Tr) (ix : ValueOk x) (iy : ValueOk y) : ValueOk (.bin 60 x y) := by
 intro v n s w h hn hs
 cases h with
 | @bin b o nn ss o' n' s' _ _ _ hop hb h0 h1 h2 hx h3 h4 h5 hy =>
  change Calls _ _ #[.agg #[.int .i64 60, .int .i64 0, .slice (some ⟨b, 0, none⟩) 2 2], .int .i64 n, .int .i64 s] w _
  obtain ⟨W1, hW1⟩ : ∃ W1, W1 = w.alloc (.cells #[.int .i64 60, .int .i64 0, .slice (some ⟨b, 0, none⟩) 2 2] 24) := ⟨_, rfl⟩
  have hb1 : Below w.heap.size w W1 := by rw [hW1]; exact (Below.refl _ _).alloc (Nat.le_refl _) _
  have g1 := heap_alloc_new w (.cells #[.int .i64 60, .int .i64 0, .slice (some ⟨b, 0, none⟩) 2 2] 24)
  rw [← hW1] at g1
  have HX := Lib.hid (ix _ n s W1 (hx.under hb1) hn hs)
  have HYY : Hid (∀ W, Below w.heap.size w W → Calls Tryz.prog 13 #[.agg #[o', n', s'], .int .i64 n, .int .i64 s] W (ValuePost y n s W)) := fun W hW => iy _ n s W (hy.under hW) hn hs
  have HC : Hid (∀ W, Below w.heap.size w W → W.cell? ⟨b, 3, none⟩ = some o' ∧ W.cell? ⟨b, 4, none⟩ = some n' ∧ W.cell? ⟨b, 5, none⟩ = some s') := fun W hW =>
   ⟨(hW.cell (p := ⟨b, 3, none⟩) hb).trans h3, (hW.cell (p := ⟨b, 4, none⟩) hb).trans h4, (hW.cell (p := ⟨b, 5, none⟩) hb).trans h5⟩
  have HB1 := Lib.hid hb1
  have y0 := cell_of_row W1 w.heap.size 0 _ _ _ g1
  have y2 := cell_of_row W1 w.heap.size 2 _ _ _ g1
  simp at y0 y2
  have hl1 := block_lt g1
  have HW := Lib.hid hW1
  have HY := Lib.hid (And.intro y0 y2)
  clear hx hy hn hs hb1 hW1 g1 ix iy h3 h4 h5 y0 y2 hop
  go_enter Tryz.func13, Tryz.ntmps13
  go_wp2_with fail
  rw [← HW.out]
  clear HW h0 h1 h2
  refine HX.out.mono ?_
  rintro e w2 ⟨rfl, hx2, hb2⟩
  have u0 := (hb2.cell (p := ⟨w.heap.size, 0, none⟩) hl1).trans HY.out.1
  have u2 := (hb2.cell (p := ⟨w.heap.size, 2, none⟩) hl1).trans HY.out.2
  have hl2 : w.heap.size < w2.heap.size := Nat.lt_of_lt_of_le hl1 hb2.size
  have hB2 := HB1.out.trans (hb2.mono HB1.out.size)
  have HB2 := Lib.hid hB2
  have HYC := Lib.hid (HYY.out w2 hB2)
  obtain ⟨p0, p1, p2⟩ := HC.out w2 hB2
  have HV0 : Hid ((Tr.bin 60 x y).val n s = opVal 60 (x.val n s) (y.val n s)) := rfl
  generalize x.val n s = xv at hx2 HV0
  clear HX HB1 hb2 HY HYY HC hB2
  have hx3 := hx2.1
  have hx4 := hx2.2
  clear hx2
  go_wp2_with fail
  refine HYC.out.mono ?_
  rintro e w3 ⟨rfl, hy2, hb3⟩
  have v0 := (hb3.cell (p := ⟨w.heap.size, 0, none⟩) hl2).trans u0
  have HB3 := Lib.hid (HB2.out.trans (hb3.mono HB2.out.size))
  have hz3 := HB3.out.size
  have hl3 : w.heap.size < w3.heap.size := Nat.lt_of_lt_of_le hl2 hb3.size
  generalize y.val n s = yv at hy2 HV0
  clear HYC hb3 u0 u2 p0 p1 p2 HB2
  have hy3 := hy2.1
  have hy4 := hy2.2
  clear hy2
  by_cases hc : xv < yv
  ·have HV : Hid ((Tr.bin 60 x y).val n s = 1) := by show _ = _; rw [HV0.out]; unfold opVal; rw [if_neg (by decide)]; rw [if_neg (by decide)]; rw [if_neg (by decide)]; rw [if_neg (by decide)]; rw [if_neg (by decide)]; rw [if_neg (by decide)]; rw [if_pos rfl]; rw [decide_eq_true hc]; rfl
   have dc : decide (xv < yv) = true := by exact decide_eq_true hc
   clear HV0
   go_wp2_with fail
   go_ret
   exact ⟨by rw [HV.out]; rfl, by rw [HV.out]; exact ⟨by omega, by omega⟩, HB3.out⟩
  ·have HV : Hid ((Tr.bin 60 x y).val n s = 0) := by show _ = _; rw [HV0.out]; unfold opVal; rw [if_neg (by decide)]; rw [if_neg (by decide)]; rw [if_neg (by decide)]; rw [if_neg (by decide)]; rw [if_neg (by decide)]; rw [if_neg (by decide)]; rw [if_pos rfl]; rw [decide_eq_false hc]; rfl
   have dc : decide (xv < yv) = false := by exact decide_eq_false hc
   clear HV0
   go_wp2_with fail
   go_ret
   exact ⟨by rw [HV.out]; rfl, by rw [HV.out]; exact ⟨by omega, by omega⟩, HB3.out⟩
set_option maxRecDepth 100000 in
set_option maxHeartbeats 1000000 in
theorem value_bin_62 (x y : Tr) (ix : ValueOk x) (iy : ValueOk y) : ValueOk (.bin 62 x y) := by
 intro v n s w h hn hs
 cases h with
 | @bin b o nn ss o' n' s' _ _ _ hop hb h0 h1 h2 hx h3 h4 h5 hy =>
  change Calls _ _ #[.agg #[.int .i64 62, .int .i64 0, .slice (some ⟨b, 0, none⟩) 2 2], .int .i64 n, .int .i64 s] w _
  obtain ⟨W1, hW1⟩ : ∃ W1, W1 = w.alloc (.cells #[.int .i64 62, .int .i64 0, .slice (some ⟨b, 0, none⟩) 2 2] 24) := ⟨_, rfl⟩
  have hb1 : Below w.heap.size w W1 := by rw [hW1]; exact (Below.refl _ _).alloc (Nat.le_refl _) _
  have g1 := heap_alloc_new w (.cells #[.int .i64 62, .int .i64 0, .slice (some ⟨b, 0, none⟩) 2 2] 24)
  rw [← hW1] at g1
  have HX := Lib.hid (ix _ n s W1 (hx.under hb1) hn hs)
  have HYY : Hid (∀ W, Below w.heap.size w W → Calls Tryz.prog 13 #[.agg #[o', n', s'], .int .i64 n, .int .i64 s] W (ValuePost y n s W)) := fun W hW => iy _ n s W (hy.under hW) hn hs
  have HC : Hid (∀ W, Below w.heap.size w W → W.cell? ⟨b, 3, none⟩ = some o' ∧ W.cell? ⟨b, 4, none⟩ = some n' ∧ W.cell? ⟨b, 5, none⟩ = some s') := fun W hW =>
   ⟨(hW.cell (p := ⟨b, 3, none⟩) hb).trans h3, (hW.cell (p := ⟨b, 4, none⟩) hb).trans h4, (hW.cell (p := ⟨b, 5, none⟩) hb).trans h5⟩
  have HB1 := Lib.hid hb1
  have y0 := cell_of_row W1 w.heap.size 0 _ _ _ g1
  have y2 := cell_of_row W1 w.heap.size 2 _ _ _ g1
  simp at y0 y2
  have hl1 := block_lt g1
  have HW := Lib.hid hW1
  have HY := Lib.hid (And.intro y0 y2)
  clear hx hy hn hs hb1 hW1 g1 ix iy h3 h4 h5 y0 y2 hop
  go_enter Tryz.func13, Tryz.ntmps13
  go_wp2_with fail
  rw [← HW.out]
  clear HW h0 h1 h2
  refine HX.out.mono ?_
  rintro e w2 ⟨rfl, hx2, hb2⟩
  have u0 := (hb2.cell (p := ⟨w.heap.size, 0, none⟩) hl1).trans HY.out.1
  have u2 := (hb2.cell (p := ⟨w.heap.size, 2, none⟩) hl1).trans HY.out.2
  have hl2 : w.heap.size < w2.heap.size := Nat.lt_of_lt_of_le hl1 hb2.size
  have hB2 := HB1.out.trans (hb2.mono HB1.out.size)
  have HB2 := Lib.hid hB2
  have HYC := Lib.hid (HYY.out w2 hB2)
  obtain ⟨p0, p1, p2⟩ := HC.out w2 hB2
  have HV0 : Hid ((Tr.bin 62 x y).val n s = opVal 62 (x.val n s) (y.val n s)) := rfl
  generalize x.val n s = xv at hx2 HV0
  clear HX HB1 hb2 HY HYY HC hB2
  have hx3 := hx2.1
  have hx4 := hx2.2
  clear hx2
  go_wp2_with fail
  refine HYC.out.mono ?_
  rintro e w3 ⟨rfl, hy2, hb3⟩
  have v0 := (hb3.cell (p := ⟨w.heap.size, 0, none⟩) hl2).trans u0
  have HB3 := Lib.hid (HB2.out.trans (hb3.mono HB2.out.size))
  have hz3 := HB3.out.size
  have hl3 : w.heap.size < w3.heap.size := Nat.lt_of_lt_of_le hl2 hb3.size
  generalize y.val n s = yv at hy2 HV0
  clear HYC hb3 u0 u2 p0 p1 p2 HB2
  have hy3 := hy2.1
  have hy4 := hy2.2
  clear hy2
  by_cases hc : yv < xv
  ·have HV : Hid ((Tr.bin 62 x y).val n s = 1) := by show _ = _; rw [HV0.out]; unfold opVal; rw [if_neg (by decide)]; rw [if_neg (by decide)]; rw [if_neg (by decide)]; rw [if_neg (by decide)]; rw [if_neg (by decide)]; rw [if_neg (by decide)]; rw [if_neg (by decide)]; rw [if_pos rfl]; rw [decide_eq_true hc]; rfl
   have dc : decide (yv < xv) = true := by exact decide_eq_true hc
   clear HV0
   go_wp2_with fail
   go_ret
   exact ⟨by rw [HV.out]; rfl, by rw [HV.out]; exact ⟨by omega, by omega⟩, HB3.out⟩
  ·have HV : Hid ((Tr.bin 62 x y).val n s = 0) := by show _ = _; rw [HV0.out]; unfold opVal; rw [if_neg (by decide)]; rw [if_neg (by decide)]; rw [if_neg (by decide)]; rw [if_neg (by decide)]; rw [if_neg (by decide)]; rw [if_neg (by decide)]; rw [if_neg (by decide)]; rw [if_pos rfl]; rw [decide_eq_false hc]; rfl
   have dc : decide (yv < xv) = false := by exact decide_eq_false hc
   clear HV0
   go_wp2_with fail
   go_ret
   exact ⟨by rw [HV.out]; rfl, by rw [HV.out]; exact ⟨by omega, by omega⟩, HB3.out⟩
set_option maxRecDepth 100000 in
set_option maxHeartbeats 1000000 in
theorem value_bin_61 (x y : Tr) (ix : ValueOk x) (iy : ValueOk y) : ValueOk (.bin 61 x y) := by
 intro v n s w h hn hs
 cases h with
 | @bin b o nn ss o' n' s' _ _ _ hop hb h0 h1 h2 hx h3 h4 h5 hy =>
  change Calls _ _ #[.agg #[.int .i64 61, .int .i64 0, .slice (some ⟨b, 0, none⟩) 2 2], .int .i64 n, .int .i64 s] w _
  obtain ⟨W1, hW1⟩ : ∃ W1, W1 = w.alloc (.cells #[.int .i64 61, .int .i64 0, .slice (some ⟨b, 0, none⟩) 2 2] 24) := ⟨_, rfl⟩
  have hb1 : Below w.heap.size w W1 := by rw [hW1]; exact (Below.refl _ _).alloc (Nat.le_refl _) _
  have g1 := heap_alloc_new w (.cells #[.int .i64 61, .int .i64 0, .slice (some ⟨b, 0, none⟩) 2 2] 24)
  rw [← hW1] at g1
  have HX := Lib.hid (ix _ n s W1 (hx.under hb1) hn hs)
  have HYY : Hid (∀ W, Below w.heap.size w W → Calls Tryz.prog 13 #[.agg #[o', n', s'], .int .i64 n, .int .i64 s] W (ValuePost y n s W)) := fun W hW => iy _ n s W (hy.under hW) hn hs
  have HC : Hid (∀ W, Below w.heap.size w W → W.cell? ⟨b, 3, none⟩ = some o' ∧ W.cell? ⟨b, 4, none⟩ = some n' ∧ W.cell? ⟨b, 5, none⟩ = some s') := fun W hW =>
   ⟨(hW.cell (p := ⟨b, 3, none⟩) hb).trans h3, (hW.cell (p := ⟨b, 4, none⟩) hb).trans h4, (hW.cell (p := ⟨b, 5, none⟩) hb).trans h5⟩
  have HB1 := Lib.hid hb1
  have y0 := cell_of_row W1 w.heap.size 0 _ _ _ g1
  have y2 := cell_of_row W1 w.heap.size 2 _ _ _ g1
  simp at y0 y2
  have hl1 := block_lt g1
  have HW := Lib.hid hW1
  have HY := Lib.hid (And.intro y0 y2)
  clear hx hy hn hs hb1 hW1 g1 ix iy h3 h4 h5 y0 y2 hop
  go_enter Tryz.func13, Tryz.ntmps13
  go_wp2_with fail
  rw [← HW.out]
  clear HW h0 h1 h2
  refine HX.out.mono ?_
  rintro e w2 ⟨rfl, hx2, hb2⟩
  have u0 := (hb2.cell (p := ⟨w.heap.size, 0, none⟩) hl1).trans HY.out.1
  have u2 := (hb2.cell (p := ⟨w.heap.size, 2, none⟩) hl1).trans HY.out.2
  have hl2 : w.heap.size < w2.heap.size := Nat.lt_of_lt_of_le hl1 hb2.size
  have hB2 := HB1.out.trans (hb2.mono HB1.out.size)
  have HB2 := Lib.hid hB2
  have HYC := Lib.hid (HYY.out w2 hB2)
  obtain ⟨p0, p1, p2⟩ := HC.out w2 hB2
  have HV0 : Hid ((Tr.bin 61 x y).val n s = opVal 61 (x.val n s) (y.val n s)) := rfl
  generalize x.val n s = xv at hx2 HV0
  clear HX HB1 hb2 HY HYY HC hB2
  have hx3 := hx2.1
  have hx4 := hx2.2
  clear hx2
  go_wp2_with fail
  refine HYC.out.mono ?_
  rintro e w3 ⟨rfl, hy2, hb3⟩
  have v0 := (hb3.cell (p := ⟨w.heap.size, 0, none⟩) hl2).trans u0
  have HB3 := Lib.hid (HB2.out.trans (hb3.mono HB2.out.size))
  have hz3 := HB3.out.size
  have hl3 : w.heap.size < w3.heap.size := Nat.lt_of_lt_of_le hl2 hb3.size
  generalize y.val n s = yv at hy2 HV0
  clear HYC hb3 u0 u2 p0 p1 p2 HB2
  have hy3 := hy2.1
  have hy4 := hy2.2
  clear hy2
  by_cases hc : xv = yv
  ·have HV : Hid ((Tr.bin 61 x y).val n s = 1) := by show _ = _; rw [HV0.out]; unfold opVal; rw [if_neg (by decide)]; rw [if_neg (by decide)]; rw [if_neg (by decide)]; rw [if_neg (by decide)]; rw [if_neg (by decide)]; rw [if_pos rfl]; rw [beq_iff_eq.2 hc]; rfl
   have dc : (xv == yv) = true := by exact beq_iff_eq.2 hc
   clear HV0
   go_wp2_with fail
   go_ret
   exact ⟨by rw [HV.out]; rfl, by rw [HV.out]; exact ⟨by omega, by omega⟩, HB3.out⟩
  ·have HV : Hid ((Tr.bin 61 x y).val n s = 0) := by show _ = _; rw [HV0.out]; unfold opVal; rw [if_neg (by decide)]; rw [if_neg (by decide)]; rw [if_neg (by decide)]; rw [if_neg (by decide)]; rw [if_neg (by decide)]; rw [if_pos rfl]; rw [beq_eq_false_iff_ne.2 hc]; rfl
   have dc : (xv == yv) = false := by exact beq_eq_false_iff_ne.2 hc
   clear HV0
   go_wp2_with fail
   go_ret
   exact ⟨by rw [HV.out]; rfl, by rw [HV.out]; exact ⟨by omega, by omega⟩, HB3.out⟩
end Go.Proofs.YtfndhfekbbbliaaGreatDoor

/-
  The reference's Value at a quotient (printed by refval.py). Conditions: n and s are ints.
-/
namespace Go.Proofs.YtfndhfekbbbliaaGreatDoor
open Go.RowKit Go.ChangeShapes Go.WideShapes
set_option linter.unusedVariables false
set_option maxRecDepth 100000 in
set_option maxHeartbeats 1000000 in
theorem value_bin_47 (x y : Tr) (ix : ValueOk x) (iy : ValueOk y) : ValueOk (.bin 47 x y) := by
 intro v n s w h hn hs
 cases h with
 | @bin b o nn ss o' n' s' _ _ _ hop hb h0 h1 h2 hx h3 h4 h5 hy =>
  change Calls _ _ #[.agg #[.int .i64 47, .int .i64 0, .slice (some ⟨b, 0, none⟩) 2 2], .int .i64 n, .int .i64 s] w _
  obtain ⟨W1, hW1⟩ : ∃ W1, W1 = w.alloc (.cells #[.int .i64 47, .int .i64 0, .slice (some ⟨b, 0, none⟩) 2 2] 24) := ⟨_, rfl⟩
  have hb1 : Below w.heap.size w W1 := by rw [hW1]; exact (Below.refl _ _).alloc (Nat.le_refl _) _
  have g1 := heap_alloc_new w (.cells #[.int .i64 47, .int .i64 0, .slice (some ⟨b, 0, none⟩) 2 2] 24)
  rw [← hW1] at g1
  have HX := Lib.hid (ix _ n s W1 (hx.under hb1) hn hs)
  have HYY : Hid (∀ W, Below w.heap.size w W → Calls Tryz.prog 13 #[.agg #[o', n', s'], .int .i64 n, .int .i64 s] W (ValuePost y n s W)) := fun W hW => iy _ n s W (hy.under hW) hn hs
  have HC : Hid (∀ W, Below w.heap.size w W → W.cell? ⟨b, 3, none⟩ = some o' ∧ W.cell? ⟨b, 4, none⟩ = some n' ∧ W.cell? ⟨b, 5, none⟩ = some s') := fun W hW =>
   ⟨(hW.cell (p := ⟨b, 3, none⟩) hb).trans h3, (hW.cell (p := ⟨b, 4, none⟩) hb).trans h4, (hW.cell (p := ⟨b, 5, none⟩) hb).trans h5⟩
  have HB1 := Lib.hid hb1
  have y0 := cell_of_row W1 w.heap.size 0 _ _ _ g1
  have y2 := cell_of_row W1 w.heap.size 2 _ _ _ g1
  simp at y0 y2
  have hl1 := block_lt g1
  have HW := Lib.hid hW1
  have HY := Lib.hid (And.intro y0 y2)
  clear hx hy hn hs hb1 hW1 g1 ix iy h3 h4 h5 y0 y2 hop
  go_enter Tryz.func13, Tryz.ntmps13
  go_wp2_with fail
  rw [← HW.out]
  clear HW h0 h1 h2
  refine HX.out.mono ?_
  rintro e w2 ⟨rfl, hx2, hb2⟩
  have u0 := (hb2.cell (p := ⟨w.heap.size, 0, none⟩) hl1).trans HY.out.1
  have u2 := (hb2.cell (p := ⟨w.heap.size, 2, none⟩) hl1).trans HY.out.2
  have hl2 : w.heap.size < w2.heap.size := Nat.lt_of_lt_of_le hl1 hb2.size
  have hB2 := HB1.out.trans (hb2.mono HB1.out.size)
  have HB2 := Lib.hid hB2
  have HYC := Lib.hid (HYY.out w2 hB2)
  obtain ⟨p0, p1, p2⟩ := HC.out w2 hB2
  have HV0 : Hid ((Tr.bin 47 x y).val n s = opVal 47 (x.val n s) (y.val n s)) := rfl
  generalize x.val n s = xv at hx2 HV0
  clear HX HB1 hb2 HY HYY HC hB2
  have hx3 := hx2.1
  have hx4 := hx2.2
  clear hx2
  go_wp2_with fail
  refine HYC.out.mono ?_
  rintro e w3 ⟨rfl, hy2, hb3⟩
  have v0 := (hb3.cell (p := ⟨w.heap.size, 0, none⟩) hl2).trans u0
  have HB3 := Lib.hid (HB2.out.trans (hb3.mono HB2.out.size))
  have hz3 := HB3.out.size
  have hl3 : w.heap.size < w3.heap.size := Nat.lt_of_lt_of_le hl2 hb3.size
  generalize y.val n s = yv at hy2 HV0
  clear HYC hb3 u0 u2 p0 p1 p2 HB2
  have hy3 := hy2.1
  have hy4 := hy2.2
  clear hy2
  by_cases h0 : yv = 0
  ·subst h0
   have HV : Hid ((Tr.bin 47 x y).val n s = 0) := by show _ = _; rw [HV0.out]; exact opVal_zero (by decide) xv
   clear HV0
   go_wp2_with fail
   go_ret
   exact ⟨by rw [HV.out]; rfl, by rw [HV.out]; exact ⟨by omega, by omega⟩, HB3.out⟩
  ·have d0 : (yv == 0) = false := by rw [beq_eq_false_iff_ne]; exact h0
   have hVn : yv.natAbs ≠ 0 := by omega
   have HNX := Lib.hid (fun W => newInt_ok xv W ⟨hx3, hx4⟩)
   have HNY := Lib.hid (fun W => newInt_ok yv W ⟨hy3, hy4⟩)
   have HI3 := Lib.hid (new_objQ w3)
   have HB4 : Hid (Below w3.heap.size w3 (w3.alloc (.cells #[.bool false, .slice none 0 0] 98))) := (Below.refl _ _).alloc (Nat.le_refl _) _
   have hz4 : (w3.alloc (.cells #[.bool false, .slice none 0 0] 98)).heap.size = w3.heap.size + 1 := by simp
   go_wp2_with fail
   generalize w3.alloc (.cells #[.bool false, .slice none 0 0] 98) = w4 at HI3 HB4 hz4 ⊢
   refine (HNX.out w4).mono ?_
   rintro e w5 ⟨g1, rfl, hg1, hb5⟩
   have HG1 := Lib.hid hg1
   have HB5 := Lib.hid hb5
   have HI5 := Lib.hid (HI3.out.frm (Frm.ofBelow (F := fun _ => False) hb5) id)
   clear hg1 hb5 HI3
   go_wp2_with fail
   refine (HNY.out w5).mono ?_
   rintro e w6 ⟨g2, rfl, hg2, hb6⟩
   have HQ := Lib.hid (quo_ok w3.heap.size g1 g2 (decide (xv < 0)) (decide (yv < 0)) xv.natAbs yv.natAbs w6 (HI5.out.frm (Frm.ofBelow (F := fun _ => False) hb6) id) (HG1.out.below hb6) hg2 (by omega) hVn)
   have hB6 : Below w3.heap.size w3 w6 := HB4.out.trans ((HB5.out.trans (hb6.mono HB5.out.size)).mono HB4.out.size)
   have HB6 := Lib.hid hB6
   have hz6 := hB6.size
   clear hg2 hb6 hB6 HG1 HB4 HB5 HI5
   go_wp2_with fail
   refine HQ.out.mono ?_
   rintro e w7 ⟨rfl, hq, hf7⟩
   have v7 := (World.cell?_of_block (a := ⟨w.heap.size, 0, none⟩) (hf7.block w.heap.size (by omega) (by omega))).trans ((HB6.out.cell (p := ⟨w.heap.size, 0, none⟩) hl3).trans v0)
   have HB7 : Hid (Below w.heap.size w w7) := HB3.out.trans ((HB6.out.trans (hf7.below (by omega) (fun k hk => by omega))).mono HB3.out.size)
   have hl7 : w.heap.size < w7.heap.size := by have := hf7.size; omega
   have HQQ := Lib.hid hq
   clear hq hf7 HQ HB6 v0
   obtain ⟨Q, hQe⟩ : ∃ Q, Q = xv.natAbs / yv.natAbs := ⟨_, rfl⟩
   rw [← hQe] at HQQ
   obtain ⟨f, hfe⟩ : ∃ f, f = ((decide (xv < 0) != decide (yv < 0)) && decide (0 < Q)) := ⟨_, rfl⟩
   rw [← hfe] at HQQ
   obtain ⟨q1, q2, q3⟩ := quo_val ⟨hx3, hx4⟩ ⟨hy3, hy4⟩ h0 hQe hfe
   clear hQe hfe
   have HV := Lib.hid (HV0.out.trans q3)
   have HIS := Lib.hid (isInt64_ok w3.heap.size _ _ w7 HQQ.out q1)
   have HI64 := Lib.hid (fun h => int64_ok w3.heap.size _ _ w7 HQQ.out q2 h)
   have HOP : Hid (I64s (opVal 47 xv yv)) := opVal_i64s_47 ⟨hx3, hx4⟩ ⟨hy3, hy4⟩ h0
   rw [← HV0.out] at HOP
   clear HV0 q1 q2 q3
   by_cases hlt : Q < 9223372036854775808
   ·rw [decide_eq_true hlt, Bool.true_or] at HIS HV
    rw [if_pos rfl] at HV
    have HI := Lib.hid (HI64.out (fun _ => hlt))
    obtain ⟨r, hr⟩ : ∃ r : Int, r = if f = true then -(Q : Int) else (Q : Int) := ⟨_, rfl⟩
    rw [← hr] at HV HI
    clear HI64 HQQ hr
    go_wp2_with fail
    refine HIS.out.mono ?_
    rintro e w8 ⟨rfl, rfl⟩
    clear HIS
    go_wp2_with fail
    refine HI.out.mono ?_
    rintro e w8 ⟨rfl, rfl⟩
    clear HI
    go_wp2_with fail
    go_ret
    exact ⟨by rw [HV.out]; rfl, HOP.out, HB7.out⟩
   ·rw [decide_eq_false hlt, Bool.false_or] at HIS HV
    cases f with
    | true =>
     rw [if_pos rfl, if_pos rfl] at HV
     have HI := Lib.hid (HI64.out (fun h => by cases h))
     rw [if_pos rfl] at HI
     clear HI64 HQQ
     go_wp2_with fail
     refine HIS.out.mono ?_
     rintro e w8 ⟨rfl, rfl⟩
     clear HIS
     go_wp2_with fail
     refine HI.out.mono ?_
     rintro e w8 ⟨rfl, rfl⟩
     clear HI
     go_wp2_with fail
     go_ret
     exact ⟨by rw [HV.out]; rfl, HOP.out, HB7.out⟩
    | false =>
     rw [if_neg (by decide)] at HV
     clear HI64 HQQ
     go_wp2_with fail
     refine HIS.out.mono ?_
     rintro e w8 ⟨rfl, rfl⟩
     clear HIS
     go_wp2_with fail
     go_ret
     exact ⟨by rw [HV.out]; rfl, HOP.out, HB7.out⟩
set_option maxRecDepth 100000 in
set_option maxHeartbeats 1000000 in
theorem value_bin_37 (x y : Tr) (ix : ValueOk x) (iy : ValueOk y) : ValueOk (.bin 37 x y) := by
 intro v n s w h hn hs
 cases h with
 | @bin b o nn ss o' n' s' _ _ _ hop hb h0 h1 h2 hx h3 h4 h5 hy =>
  change Calls _ _ #[.agg #[.int .i64 37, .int .i64 0, .slice (some ⟨b, 0, none⟩) 2 2], .int .i64 n, .int .i64 s] w _
  obtain ⟨W1, hW1⟩ : ∃ W1, W1 = w.alloc (.cells #[.int .i64 37, .int .i64 0, .slice (some ⟨b, 0, none⟩) 2 2] 24) := ⟨_, rfl⟩
  have hb1 : Below w.heap.size w W1 := by rw [hW1]; exact (Below.refl _ _).alloc (Nat.le_refl _) _
  have g1 := heap_alloc_new w (.cells #[.int .i64 37, .int .i64 0, .slice (some ⟨b, 0, none⟩) 2 2] 24)
  rw [← hW1] at g1
  have HX := Lib.hid (ix _ n s W1 (hx.under hb1) hn hs)
  have HYY : Hid (∀ W, Below w.heap.size w W → Calls Tryz.prog 13 #[.agg #[o', n', s'], .int .i64 n, .int .i64 s] W (ValuePost y n s W)) := fun W hW => iy _ n s W (hy.under hW) hn hs
  have HC : Hid (∀ W, Below w.heap.size w W → W.cell? ⟨b, 3, none⟩ = some o' ∧ W.cell? ⟨b, 4, none⟩ = some n' ∧ W.cell? ⟨b, 5, none⟩ = some s') := fun W hW =>
   ⟨(hW.cell (p := ⟨b, 3, none⟩) hb).trans h3, (hW.cell (p := ⟨b, 4, none⟩) hb).trans h4, (hW.cell (p := ⟨b, 5, none⟩) hb).trans h5⟩
  have HB1 := Lib.hid hb1
  have y0 := cell_of_row W1 w.heap.size 0 _ _ _ g1
  have y2 := cell_of_row W1 w.heap.size 2 _ _ _ g1
  simp at y0 y2
  have hl1 := block_lt g1
  have HW := Lib.hid hW1
  have HY := Lib.hid (And.intro y0 y2)
  clear hx hy hn hs hb1 hW1 g1 ix iy h3 h4 h5 y0 y2 hop
  go_enter Tryz.func13, Tryz.ntmps13
  go_wp2_with fail
  rw [← HW.out]
  clear HW h0 h1 h2
  refine HX.out.mono ?_
  rintro e w2 ⟨rfl, hx2, hb2⟩
  have u0 := (hb2.cell (p := ⟨w.heap.size, 0, none⟩) hl1).trans HY.out.1
  have u2 := (hb2.cell (p := ⟨w.heap.size, 2, none⟩) hl1).trans HY.out.2
  have hl2 : w.heap.size < w2.heap.size := Nat.lt_of_lt_of_le hl1 hb2.size
  have hB2 := HB1.out.trans (hb2.mono HB1.out.size)
  have HB2 := Lib.hid hB2
  have HYC := Lib.hid (HYY.out w2 hB2)
  obtain ⟨p0, p1, p2⟩ := HC.out w2 hB2
  have HV0 : Hid ((Tr.bin 37 x y).val n s = opVal 37 (x.val n s) (y.val n s)) := rfl
  generalize x.val n s = xv at hx2 HV0
  clear HX HB1 hb2 HY HYY HC hB2
  have hx3 := hx2.1
  have hx4 := hx2.2
  clear hx2
  go_wp2_with fail
  refine HYC.out.mono ?_
  rintro e w3 ⟨rfl, hy2, hb3⟩
  have v0 := (hb3.cell (p := ⟨w.heap.size, 0, none⟩) hl2).trans u0
  have HB3 := Lib.hid (HB2.out.trans (hb3.mono HB2.out.size))
  have hz3 := HB3.out.size
  have hl3 : w.heap.size < w3.heap.size := Nat.lt_of_lt_of_le hl2 hb3.size
  generalize y.val n s = yv at hy2 HV0
  clear HYC hb3 u0 u2 p0 p1 p2 HB2
  have hy3 := hy2.1
  have hy4 := hy2.2
  clear hy2
  by_cases h0 : yv = 0
  ·subst h0
   have HV : Hid ((Tr.bin 37 x y).val n s = 0) := by show _ = _; rw [HV0.out]; exact opVal_zero (by decide) xv
   clear HV0
   go_wp2_with fail
   go_ret
   exact ⟨by rw [HV.out]; rfl, by rw [HV.out]; exact ⟨by omega, by omega⟩, HB3.out⟩
  ·have d0 : (yv == 0) = false := by rw [beq_eq_false_iff_ne]; exact h0
   have hVn : yv.natAbs ≠ 0 := by omega
   have HNX := Lib.hid (fun W => newInt_ok xv W ⟨hx3, hx4⟩)
   have HNY := Lib.hid (fun W => newInt_ok yv W ⟨hy3, hy4⟩)
   have HI3 := Lib.hid (new_objQ w3)
   have HB4 : Hid (Below w3.heap.size w3 (w3.alloc (.cells #[.bool false, .slice none 0 0] 98))) := (Below.refl _ _).alloc (Nat.le_refl _) _
   have hz4 : (w3.alloc (.cells #[.bool false, .slice none 0 0] 98)).heap.size = w3.heap.size + 1 := by simp
   go_wp2_with fail
   generalize w3.alloc (.cells #[.bool false, .slice none 0 0] 98) = w4 at HI3 HB4 hz4 ⊢
   refine (HNX.out w4).mono ?_
   rintro e w5 ⟨g1, rfl, hg1, hb5⟩
   have HG1 := Lib.hid hg1
   have HB5 := Lib.hid hb5
   have HI5 := Lib.hid (HI3.out.frm (Frm.ofBelow (F := fun _ => False) hb5) id)
   clear hg1 hb5 HI3
   go_wp2_with fail
   refine (HNY.out w5).mono ?_
   rintro e w6 ⟨g2, rfl, hg2, hb6⟩
   have HQ := Lib.hid (quo_ok w3.heap.size g1 g2 (decide (xv < 0)) (decide (yv < 0)) xv.natAbs yv.natAbs w6 (HI5.out.frm (Frm.ofBelow (F := fun _ => False) hb6) id) (HG1.out.below hb6) hg2 (by omega) hVn)
   have hB6 : Below w3.heap.size w3 w6 := HB4.out.trans ((HB5.out.trans (hb6.mono HB5.out.size)).mono HB4.out.size)
   have HB6 := Lib.hid hB6
   have hz6 := hB6.size
   clear hg2 hb6 hB6 HG1 HB4 HB5 HI5
   go_wp2_with fail
   refine HQ.out.mono ?_
   rintro e w7 ⟨rfl, hq, hf7⟩
   have v7 := (World.cell?_of_block (a := ⟨w.heap.size, 0, none⟩) (hf7.block w.heap.size (by omega) (by omega))).trans ((HB6.out.cell (p := ⟨w.heap.size, 0, none⟩) hl3).trans v0)
   have HB7 : Hid (Below w.heap.size w w7) := HB3.out.trans ((HB6.out.trans (hf7.below (by omega) (fun k hk => by omega))).mono HB3.out.size)
   have hl7 : w.heap.size < w7.heap.size := by have := hf7.size; omega
   have HQQ := Lib.hid hq
   clear hq hf7 HQ HB6 v0
   have HI8 := Lib.hid (new_objQ w7)
   have HB8 : Hid (Below w7.heap.size w7 (w7.alloc (.cells #[.bool false, .slice none 0 0] 98))) := (Below.refl _ _).alloc (Nat.le_refl _) _
   have hz8 : (w7.alloc (.cells #[.bool false, .slice none 0 0] 98)).heap.size = w7.heap.size + 1 := by simp
   clear HQQ hz4 hz6
   go_wp2_with fail
   generalize w7.alloc (.cells #[.bool false, .slice none 0 0] 98) = w8 at HI8 HB8 hz8 ⊢
   refine (HNX.out w8).mono ?_
   rintro e w9 ⟨g3, rfl, hg3, hb9⟩
   have HG3 := Lib.hid hg3
   have HB9 := Lib.hid hb9
   have HI9 := Lib.hid (HI8.out.frm (Frm.ofBelow (F := fun _ => False) hb9) id)
   clear hg3 hb9 HI8
   go_wp2_with fail
   refine (HNY.out w9).mono ?_
   rintro e w10 ⟨g4, rfl, hg4, hb10⟩
   have HQ := Lib.hid (rem_ok w7.heap.size g3 g4 (decide (xv < 0)) (decide (yv < 0)) xv.natAbs yv.natAbs w10 (HI9.out.frm (Frm.ofBelow (F := fun _ => False) hb10) id) (HG3.out.below hb10) hg4 (by omega) hVn)
   have hB10 : Below w7.heap.size w7 w10 := HB8.out.trans ((HB9.out.trans (hb10.mono HB9.out.size)).mono HB8.out.size)
   have HB10 := Lib.hid hB10
   have hz10 := hB10.size
   clear hg4 hb10 hB10 HG3 HB8 HB9 HI9
   go_wp2_with fail
   refine HQ.out.mono ?_
   rintro e w11 ⟨rfl, hq, hf11⟩
   have HB11 : Hid (Below w.heap.size w w11) := HB7.out.trans ((HB10.out.trans (hf11.below (by omega) (fun k hk => by omega))).mono HB7.out.size)
   have HQQ := Lib.hid hq
   clear hq hf11 HQ HB10 v7
   obtain ⟨Q, hQe⟩ : ∃ Q, Q = xv.natAbs % yv.natAbs := ⟨_, rfl⟩
   rw [← hQe] at HQQ
   obtain ⟨f, hfe⟩ : ∃ f, f = (decide (xv < 0) && decide (0 < Q)) := ⟨_, rfl⟩
   rw [← hfe] at HQQ
   obtain ⟨q1, q2, q3⟩ := rem_val ⟨hx3, hx4⟩ ⟨hy3, hy4⟩ h0 hQe hfe
   clear hQe hfe
   have HV := Lib.hid (HV0.out.trans q3)
   have HIS := Lib.hid (isInt64_ok w7.heap.size _ _ w11 HQQ.out q1)
   have HI64 := Lib.hid (fun h => int64_ok w7.heap.size _ _ w11 HQQ.out q2 h)
   have HOP : Hid (I64s (opVal 37 xv yv)) := opVal_i64s_37 ⟨hx3, hx4⟩ ⟨hy3, hy4⟩ h0
   rw [← HV0.out] at HOP
   clear HV0 q1 q2 q3
   by_cases hlt : Q < 9223372036854775808
   ·rw [decide_eq_true hlt, Bool.true_or] at HIS HV
    rw [if_pos rfl] at HV
    have HI := Lib.hid (HI64.out (fun _ => hlt))
    obtain ⟨r, hr⟩ : ∃ r : Int, r = if f = true then -(Q : Int) else (Q : Int) := ⟨_, rfl⟩
    rw [← hr] at HV HI
    clear HI64 HQQ hr
    go_wp2_with fail
    refine HIS.out.mono ?_
    rintro e w8 ⟨rfl, rfl⟩
    clear HIS
    go_wp2_with fail
    refine HI.out.mono ?_
    rintro e w8 ⟨rfl, rfl⟩
    clear HI
    go_wp2_with fail
    go_ret
    exact ⟨by rw [HV.out]; rfl, HOP.out, HB11.out⟩
   ·rw [decide_eq_false hlt, Bool.false_or] at HIS HV
    cases f with
    | true =>
     rw [if_pos rfl, if_pos rfl] at HV
     have HI := Lib.hid (HI64.out (fun h => by cases h))
     rw [if_pos rfl] at HI
     clear HI64 HQQ
     go_wp2_with fail
     refine HIS.out.mono ?_
     rintro e w8 ⟨rfl, rfl⟩
     clear HIS
     go_wp2_with fail
     refine HI.out.mono ?_
     rintro e w8 ⟨rfl, rfl⟩
     clear HI
     go_wp2_with fail
     go_ret
     exact ⟨by rw [HV.out]; rfl, HOP.out, HB11.out⟩
    | false =>
     rw [if_neg (by decide)] at HV
     clear HI64 HQQ
     go_wp2_with fail
     refine HIS.out.mono ?_
     rintro e w8 ⟨rfl, rfl⟩
     clear HIS
     go_wp2_with fail
     go_ret
     exact ⟨by rw [HV.out]; rfl, HOP.out, HB11.out⟩
theorem value_bin (op : UInt8) (hop : op ∈ binOps) (x y : Tr) (ix : ValueOk x) (iy : ValueOk y) : ValueOk (.bin op x y) := by
 simp only [binOps, List.mem_cons, List.not_mem_nil, or_false] at hop
 rcases hop with rfl | rfl | rfl | rfl | rfl | rfl | rfl | rfl | rfl | rfl
 ·exact value_bin_109 x y ix iy
 ·exact value_bin_77 x y ix iy
 ·exact value_bin_43 x y ix iy
 ·exact value_bin_45 x y ix iy
 ·exact value_bin_42 x y ix iy
 ·exact value_bin_61 x y ix iy
 ·exact value_bin_60 x y ix iy
 ·exact value_bin_62 x y ix iy
 ·exact value_bin_47 x y ix iy
 ·exact value_bin_37 x y ix iy
theorem value_ok : ∀ t : Tr, ValueOk t
 | .num k => value_num k
 | .nam x => value_nam x
 | .neg a => value_neg a (value_ok a)
 | .sel x y z => value_sel x y z (value_ok x) (value_ok y) (value_ok z)
 | .bin op x y => fun v n s w h hn hs => by
  have hop : op ∈ binOps := by cases h; assumption
  exact value_bin op hop x y (value_ok x) (value_ok y) v n s w h hn hs
end Go.Proofs.YtfndhfekbbbliaaGreatDoor

/-
  The reference's Eval. Conditions: the numbers are ints.
-/
namespace Go.Proofs.YtfndhfekbbbliaaGreatDoor
open Go.RowKit Go.ChangeShapes Go.WideShapes
set_option linter.unusedVariables false
set_option maxRecDepth 100000 in
theorem reval_ok (s : ByteArray) (n k : Int) (w : World) (hn : I64s n) (hk : I64s k) :
  Calls Tryz.prog 51 #[.string s, .int .i64 n, .int .i64 k] w fun e w' => e = .returned (.int .i64 (evalOf s n k)) ∧ I64s (evalOf s n k) ∧ Below w.heap.size w w' := by
 have HN := Lib.hid hn
 have HK := Lib.hid hk
 clear hn hk
 go_enter Tryz.func51, Tryz.ntmps51
 go_wp2_with fail
 refine (pparse_ok s w).mono ?_
 rintro e w1 ⟨hb1, hpr⟩
 have HB1 := Lib.hid hb1
 clear hb1
 cases hp : parseT s.data.toList with
 | fault a j =>
  rw [hp] at hpr
  obtain ⟨rfl, hj⟩ := hpr
  have hj0 : (j != 0) = true := by simp [hj]
  have HE : Hid (evalOf s n k = 0) := by show _ = _; unfold evalOf; rw [hp]
  clear hp hj
  go_wp2_with fail
  go_ret
  exact ⟨by rw [HE.out]; rfl, by rw [HE.out]; exact ⟨by omega, by omega⟩, HB1.out.alloc HB1.out.size _⟩
 | tree t =>
  rw [hp] at hpr
  obtain ⟨o, m, A, c, rfl, ht⟩ := hpr
  have HE : Hid (evalOf s n k = t.val n k) := by show _ = _; unfold evalOf; rw [hp]
  have ht1 : TreeAt (· < w1.heap.size) w1 (.agg #[.int .i64 o, .int .i64 m, .slice A c c]) t := ht.more fun k hk => hk.2
  have hb12 : Below w1.heap.size w1 (w1.alloc (.cells #[.int .i64 o, .int .i64 m, .slice A c c] 24)) := (Below.refl _ _).alloc (Nat.le_refl _) _
  have HV := Lib.hid (value_ok t _ n k _ (ht1.under hb12) HN.out HK.out)
  have HB2 := Lib.hid (HB1.out.alloc HB1.out.size (.cells #[.int .i64 o, .int .i64 m, .slice A c c] 24))
  clear hp ht ht1 hb12 HB1
  go_wp2_with fail
  refine HV.out.mono ?_
  rintro e w2 ⟨rfl, hx, hb⟩
  have HB3 := Lib.hid (HB2.out.trans (hb.mono HB2.out.size))
  have HX := Lib.hid hx
  rw [← HE.out] at HX ⊢
  obtain ⟨ev, hev⟩ : ∃ ev, ev = evalOf s n k := ⟨_, rfl⟩
  have HEV := Lib.hid hev
  rw [← hev] at HX ⊢
  clear hb HB2 hx HV HE hev
  go_wp2_with fail
  go_ret
  exact ⟨by rw [← HEV.out]; rfl, by rw [← HEV.out]; exact HX.out, HB3.out⟩
end Go.Proofs.YtfndhfekbbbliaaGreatDoor

/-
  The statements' own whole numbers (weirgatebig), by words: division by one word, the digits of a number. No condition.
-/
namespace Go.Proofs.YtfndhfekbbbliaaGreatDoor
open Go.RowKit Go.ChangeShapes Go.WideShapes
set_option linter.unusedVariables false
theorem small_step (V r a d : Nat) (hd : 0 < d) (hr : r = V % d) : (a + 4294967296 * V) / d = 4294967296 * (V / d) + (r * 4294967296 + a) / d ∧ (a + 4294967296 * V) % d = (r * 4294967296 + a) % d := by
 have h1 := Nat.div_add_mod V d
 have h2 : a + 4294967296 * V = d * (4294967296 * (V / d)) + (r * 4294967296 + a) := by
  rw [Nat.mul_left_comm]
  have : 4294967296 * V = 4294967296 * (d * (V / d)) + 4294967296 * (V % d) := by rw [← Nat.mul_add, h1]
  rw [hr]; omega
 rw [h2, Nat.mul_add_div hd, Nat.mul_add_mod]
 exact ⟨rfl, rfl⟩
theorem small_lt (r a d : Nat) (hd : 0 < d) (hr : r < d) (ha : a < 4294967296) : (r * 4294967296 + a) / d < 4294967296 := by
 rw [Nat.div_lt_iff_lt_mul hd]
 have : (r + 1) * 4294967296 ≤ d * 4294967296 := Nat.mul_le_mul_right _ hr
 rw [Nat.add_mul] at this
 omega
def qCells (k : Nat) (qs : List Nat) : Array Value := ((List.replicate k 0 ++ qs).map u32v).toArray
theorem q_made (w : World) (n : Nat) : (w.alloc (.cells (madeCells #[.int .u32 0] n) 202)).heap[w.heap.size]? = some (.cells (qCells n []) 202 (0, 0)) := by
 rw [heap_alloc_new w _]
 congr 2
 apply Array.ext'
 rw [toList_madeCells_one]
 simp [qCells, u32v]
theorem q_at (k : Nat) (qs : List Nat) : (qCells (k + 1) qs)[k]? = some (u32v 0) := by
 unfold qCells
 rw [List.getElem?_toArray, List.getElem?_map, List.getElem?_append_left (by simp), List.getElem?_replicate, if_pos (by omega)]
 rfl
theorem q_set (k : Nat) (qs : List Nat) (x : Nat) : (qCells (k + 1) qs).setIfInBounds k (u32v x) = qCells k (x :: qs) := by
 unfold qCells
 apply Array.ext'
 rw [Array.toList_setIfInBounds]
 apply List.ext_getElem?
 intro j
 rw [List.getElem?_set]
 simp only [List.getElem?_map, List.length_map, List.length_append, List.length_replicate]
 by_cases e : k = j
 ·subst e
  rw [if_pos rfl, if_pos (by omega), List.getElem?_append_right (by simp)]
  simp
 ·rw [if_neg e]
  by_cases hj : j < k
  ·rw [List.getElem?_append_left (by simp; omega), List.getElem?_append_left (by simp; omega)]
   simp [hj, show j < k + 1 by omega]
  ·rw [List.getElem?_append_right (by simp; omega), List.getElem?_append_right (by simp; omega)]
   simp only [List.length_replicate]
   rw [show j - k = (j - (k + 1)) + 1 by omega, List.getElem?_cons_succ]
set_option maxRecDepth 100000 in
set_option maxHeartbeats 1000000 in
theorem small_ok (F : Nat → Prop) (A : Option Addr) (c : Nat) (l : List Nat) (d : Nat) (w : World) (h : SlA u32E F w A c l) (hF : ∀ k, F k → k < w.heap.size) (hd : 0 < d) (hd2 : d < 4294967296) (hl : l.length ≤ 1000) :
  Calls Tryz.prog 150 #[.slice A l.length c, .int .u32 (d : Int)] w fun e w' => ∃ n q, e = .returned (.tuple #[.slice (some ⟨w.heap.size, 0, none⟩) n l.length, .int .u32 ((wVal l % d : Nat) : Int)]) ∧ n ≤ List.length q ∧ TrimOf q n ∧
   SlA u32E (fun k => w.heap.size ≤ k ∧ k < w'.heap.size) w' (some ⟨w.heap.size, 0, none⟩) l.length q ∧ wVal q = wVal l / d ∧ q.length = l.length ∧ Below w.heap.size w w' := by
 have H := Lib.hid h
 have HF := Lib.hid hF
 have hmk : ∀ u : World, (Instr.makeSlice 96 (.int .i64 (l.length : Int)) (.int .i64 (l.length : Int))).run Tryz.prog u = .ok (.slice (some ⟨u.heap.size, 0, none⟩) l.length l.length) (u.alloc (.cells (madeCells #[.int .u32 0] l.length) 202)) := fun u =>
  run_make_row' (P := Tryz.prog) 96 202 (.int .u32 0) 4 Tryz.underlying96 u32_info rfl .i64 .i64 l.length (by omega) (by omega) u
 have hc := h.1
 clear h hF
 go_enter Tryz.func150, Tryz.ntmps150
 go_wp2_with fail
 go_loopw [7, 8] (fun rv iv wx => ∃ (k : Nat) (qs : List Nat), k ≤ l.length ∧ iv = .int .i64 ((k : Int) - 1) ∧ rv = .int .u64 ((wVal (l.drop k) % d : Nat) : Int) ∧ Hid (wx.heap[w.heap.size]? = some (.cells (qCells k qs) 202 (0, 0)) ∧ k + qs.length = l.length ∧ (∀ x ∈ qs, x < 4294967296) ∧ wVal qs = wVal (l.drop k) / d ∧ Below w.heap.size w wx)) (fun _ iv _ => (intOf iv + 1).toNat)
 case atStart => exact ⟨l.length, [], Nat.le_refl _, rfl, by simp [wVal], q_made w l.length, by simp, nofun, by simp [wVal], (Below.refl _ _).alloc (Nat.le_refl _) _⟩
 case round =>
  obtain ⟨k, qs, hk, rfl, rfl, HI⟩ := hrel
  by_cases h0 : k = 0
  ·subst h0
   obtain ⟨hg, hq, hqs, hv, hb⟩ := HI.out
   rw [Nat.zero_add] at hq
   rw [List.drop_zero] at hv ⊢
   have hsl : SlA u32E (fun k => w.heap.size ≤ k ∧ k < wr.heap.size) wr (some ⟨w.heap.size, 0, none⟩) l.length qs := by
    rw [← hq]
    exact ws_sl qs hg (by simp [qCells]; intros; rfl) ⟨Nat.le_refl _, block_lt hg⟩ hqs (by unfold maxLen; omega)
   have HT := Lib.hid (trim_ok _ _ _ _ _ hsl)
   have HS := Lib.hid hsl
   have HR := Lib.hid (And.intro hv (And.intro hq hb))
   rw [hq] at HT
   have hrd := Nat.mod_lt (wVal l) hd
   obtain ⟨r, hr⟩ : ∃ r, r = wVal l % d := ⟨_, rfl⟩
   rw [← hr] at hrd ⊢
   have HRM := Lib.hid hr
   clear hr
   clear HI hg hq hqs hv hb hsl
   go_wp2_with fail
   refine HT.out.mono ?_
   rintro e w3 ⟨n, rfl, hn, ht, rfl⟩
   go_wp2_with fail
   go_ret2
   exact ⟨n, qs, by rw [← HRM.out]; rfl, by rw [HR.out.2.1]; exact hn, ht, HS.out, HR.out⟩
  ·obtain ⟨m, rfl⟩ : ∃ m, k = m + 1 := ⟨k - 1, by omega⟩
   obtain ⟨b, off, rfl, hb, c0, hw⟩ := H.out.u32_ (k := m) (by omega)
   have e1 : ((m + 1 : Nat) : Int) - 1 = (m : Int) := by omega
   have hz : wr.cell? ⟨b, off + m, none⟩ = some (.int .u32 (l[m] : Int)) := (HI.out.2.2.2.2.cell (p := ⟨b, off + m, none⟩) (HF.out _ hb)).trans c0
   have HD := Lib.hid (List.drop_eq_getElem_cons (show m < l.length by omega))
   generalize l[m] = a at hz hw HD
   obtain ⟨V, hV⟩ : ∃ V, V = wVal (l.drop (m + 1)) := ⟨_, rfl⟩
   rw [← hV] at HI ⊢
   have HV := Lib.hid hV
   have hrd := Nat.mod_lt V hd
   obtain ⟨r, hr⟩ : ∃ r, r = V % d := ⟨_, rfl⟩
   rw [← hr] at hrd ⊢
   have HR := Lib.hid hr
   clear hV hr c0
   have hra : r * 4294967296 + a < 18446744073709551616 := by
    have : (r + 1) * 4294967296 ≤ d * 4294967296 := Nat.mul_le_mul_right _ hrd
    rw [Nat.add_mul] at this
    omega
   have hor := or_add r a hw hra
   have hq32 := small_lt r a d hd hrd hw
   obtain ⟨T, hT⟩ : ∃ T, T = r * 4294967296 + a := ⟨_, rfl⟩
   rw [← hT] at hra hor hq32
   have HT := Lib.hid hT
   clear hT
   obtain ⟨Q, hQ⟩ : ∃ Q, Q = T / d := ⟨_, rfl⟩
   rw [← hQ] at hq32
   have hq1 : ((T : Int) / (d : Int)) = (Q : Int) := by rw [hQ]; exact Int.natCast_ediv T d ▸ rfl
   have HQ := Lib.hid hQ
   clear hQ
   obtain ⟨R, hR⟩ : ∃ R, R = T % d := ⟨_, rfl⟩
   have hr1 : ((T : Int) % (d : Int)) = (R : Int) := by rw [hR]; rfl
   have HRR := Lib.hid hR
   clear hR
   have hcl : wr.cell? ⟨w.heap.size, m, none⟩ = some (u32v 0) := by
    have h1 := cell_of_row wr w.heap.size m _ _ _ HI.out.1
    rw [h1]
    exact q_at m qs
   have hfz : wr.frozen? ⟨w.heap.size, m, none⟩ = false := by simp [World.frozen?, HI.out.1]
   unfold u32v at hcl
   have HN : Hid ((wr.setCell ⟨w.heap.size, m, none⟩ (.int .u32 (Q : Int))).heap[w.heap.size]? = some (.cells (qCells m (Q :: qs)) 202 (0, 0)) ∧ m + (Q :: qs).length = l.length ∧ (∀ x ∈ Q :: qs, x < 4294967296) ∧ wVal (Q :: qs) = wVal (l.drop m) / d ∧ Below w.heap.size w (wr.setCell ⟨w.heap.size, m, none⟩ (.int .u32 (Q : Int)))) := by
    obtain ⟨i1, i2, i3, i4, i5⟩ := HI.out
    refine ⟨?_, by rw [List.length_cons]; omega, ?_, ?_, i5.setCell (Nat.le_refl _) _⟩
    ·rw [show (wr.setCell ⟨w.heap.size, m, none⟩ (.int .u32 (Q : Int))).heap[w.heap.size]? = some (.cells ((qCells (m + 1) qs).setIfInBounds m (u32v Q)) 202 (0, 0)) by simp [World.setCell, Array.getElem?_modify, i1, u32v], q_set]
    ·intro x hx
     rcases List.mem_cons.1 hx with rfl | hx
     ·exact hq32
     ·exact i3 x hx
    ·rw [HD.out, wVal, wVal, i4, ← HV.out, (small_step V r a d hd HR.out).1, HQ.out, HT.out]; omega
   have HN2 : Hid (R = wVal (l.drop m) % d) := by
    show _ = _
    rw [HD.out, wVal, ← HV.out, (small_step V r a d hd HR.out).2, HRR.out, HT.out]
   clear HI HR HRR HQ HD HV HT
   go_wp2_with fail
   go_roundw
   case rel => exact ⟨m, Q :: qs, by omega, rfl, by rw [hr1, HN2.out], HN⟩
   case measure => simp [intOf]
theorem own_stays {w w' : World} {B e size n : Nat} {v : Value} {xs : List Value} (h : w.ownsRow B e size v n xs) (hb : Below w.heap.size w w') : w'.ownsRow B e size v n xs :=
 h.kept (row := none) ⟨hb.os, hb.tape, hb.output, hb.size, fun k hk _ => hb.block k hk⟩ (by
  cases hv : v.ownBlock with
  | none => exact .inl rfl
  | some k => exact .inr (by simp))
def bytV (x : UInt8) : Value := .int .u8 (x.toNat : Int)
theorem u8_info : (Tryz.prog.info? 5).map (fun i => (i.zero, i.size, i.bytes)) = some (some (.int .u8 0), 1, 1) := by kernel_rfl
def dds (V : Nat) : List UInt8 := if V = 0 then [] else Lib.decDigits V
theorem dds_step {V : Nat} (h : V ≠ 0) : dds V = dds (V / 10) ++ [UInt8.ofNat (48 + V % 10)] := by
 unfold dds
 rw [if_neg h]
 by_cases h1 : V < 10
 ·rw [Lib.decDigits, dif_pos h1, if_pos (by omega), Nat.mod_eq_of_lt h1]; rfl
 ·rw [Lib.decDigits, dif_neg h1, if_neg (by omega)]
def revC (l : List UInt8) (i : Nat) : List UInt8 := (List.range l.length).map fun p => if p < i ∨ l.length ≤ p + i then l.getD (l.length - 1 - p) 0 else l.getD p 0
theorem revC_len (l : List UInt8) (i : Nat) : (revC l i).length = l.length := by unfold revC; simp
theorem revC_get (l : List UInt8) (i : Nat) {p : Nat} (hp : p < l.length) : (revC l i)[p]? = some (if p < i ∨ l.length ≤ p + i then l.getD (l.length - 1 - p) 0 else l.getD p 0) := by
 unfold revC
 rw [List.getElem?_map, List.getElem?_range hp]; rfl
theorem revC_zero (l : List UInt8) : revC l 0 = l := by
 apply List.ext_getElem?
 intro p
 by_cases hp : p < l.length
 ·rw [revC_get l 0 hp, if_neg (by omega), List.getD_eq_getElem?_getD, List.getElem?_eq_getElem hp]; rfl
 ·rw [List.getElem?_eq_none (by rw [revC_len]; omega), List.getElem?_eq_none (by omega)]
theorem revC_end (l : List UInt8) {i : Nat} (h : l.length ≤ 2 * i + 1) : revC l i = l.reverse := by
 apply List.ext_getElem?
 intro p
 by_cases hp : p < l.length
 ·rw [revC_get l i hp, List.getElem?_reverse hp]
  by_cases hc : p < i ∨ l.length ≤ p + i
  ·rw [if_pos hc, List.getD_eq_getElem?_getD, List.getElem?_eq_getElem (by omega)]; rfl
  ·rw [if_neg hc, show l.length - 1 - p = p by omega, List.getD_eq_getElem?_getD, List.getElem?_eq_getElem hp]; rfl
 ·rw [List.getElem?_eq_none (by rw [revC_len]; omega), List.getElem?_eq_none (by rw [List.length_reverse]; omega)]
theorem revC_step (l : List UInt8) {i : Nat} (h : 2 * i + 1 < l.length) : ((revC l i).set i (l.getD (l.length - 1 - i) 0)).set (l.length - 1 - i) (l.getD i 0) = revC l (i + 1) := by
 apply List.ext_getElem?
 intro p
 by_cases hp : p < l.length
 ·rw [revC_get l (i + 1) hp, List.getElem?_set, List.getElem?_set, revC_get l i hp]
  simp only [List.length_set, revC_len]
  by_cases h1 : l.length - 1 - i = p
  ·rw [if_pos h1, if_pos (by omega), if_pos (.inr (by omega)), ← h1, show l.length - 1 - (l.length - 1 - i) = i by omega]
  ·rw [if_neg h1]
   by_cases h2 : i = p
   ·rw [if_pos h2, if_pos (by omega), if_pos (.inl (by omega)), h2]
   ·rw [if_neg h2]
    by_cases hc : p < i ∨ l.length ≤ p + i
    ·rw [if_pos hc, if_pos (by omega)]
    ·rw [if_neg hc, if_neg (by omega)]
 ·rw [List.getElem?_eq_none (by rw [List.length_set, List.length_set, revC_len]; omega), List.getElem?_eq_none (by rw [revC_len]; omega)]
theorem OwnS.set1 {w : World} {e : TypeId} {cap n g off j : Nat} {xs : List Value} (h : OwnS w e 1 (some ⟨g, off, none⟩) cap n xs) (hj : j < n) (u : Value) : OwnS (w.setCell ⟨g, off + j, none⟩ u) e 1 (some ⟨g, off, none⟩) cap n (xs.set j u) := by
 obtain ⟨h1, h2, h3, h4⟩ := h
 refine ⟨by rw [List.length_set]; exact h1, h2, h3, ?_⟩
 rcases h4 with ⟨h4, _⟩ | ⟨g', off', cur, e1, hh, hc, hr⟩
 ·cases h4
 ·injection e1 with e1; injection e1 with e1 e2; subst e1; subst e2
  refine .inr ⟨g, off, cur.setIfInBounds (off + j) u, rfl, by simp [World.setCell, Array.getElem?_modify, hh], by simpa using hc, fun i v hi => ?_⟩
  rw [List.getElem?_set] at hi
  by_cases e : j = i
  ·subst e
   rw [if_pos rfl] at hi
   split at hi
   ·injection hi with hi; subst hi
    rw [Array.getElem?_setIfInBounds_self_of_lt (by omega)]
   ·cases hi
  ·rw [if_neg e] at hi
   rw [Array.getElem?_setIfInBounds_ne (by omega)]
   exact hr i v hi
def sliceLen : Value → Nat
 | .slice _ n _ => n
 | _ => 0
theorem dec20_len {V : Nat} (h : V < 18446744073709551616) : (Lib.decDigits V).length ≤ 20 := by
 rw [Lib.decDigits_length]
 have : ∀ (k u : Nat), u < 10 ^ (k + 1) → Lib.nDigits u ≤ k + 1 := fun k => by
  induction k with
  | zero => intro u hu; rw [Lib.nDigits_small (by simpa using hu)]; omega
  | succ k ih =>
   intro u hu
   by_cases h1 : u < 10
   ·rw [Lib.nDigits_small h1]; omega
   ·rw [Lib.nDigits_big h1]
    have := ih (u / 10) (by rw [Nat.pow_succ] at hu; omega)
    omega
 exact this 19 V (by omega)
def numeral (neg : Bool) (V : Nat) : List UInt8 := if V = 0 then [48] else if neg then 45 :: Lib.decDigits V else Lib.decDigits V
theorem flat_one {α β : Type} (f : α → β) : ∀ l : List α, (l.flatMap fun x => [f x]) = l.map f
 | [] => rfl
 | x :: l => by rw [List.flatMap_cons, flat_one f l]; rfl
theorem own_len {w : World} {B e size n : Nat} {v : Value} {xs : List Value} (h : w.ownsRow B e size v n xs) : sliceLen v = n := by
 rcases h.2 with ⟨rfl, h0⟩ | ⟨g, cap, cur, rfl, _⟩
 ·exact h0.symm
 ·rfl
set_option maxRecDepth 100000 in
set_option maxHeartbeats 1000000 in
theorem text_ok (g : Nat) (neg : Bool) (V : Nat) (w : World) (h : BigAt w g neg V) (hl : V < 18446744073709551616) :
  Calls Tryz.prog 124 #[.pointer (some ⟨g, 0, none⟩), .int .i64 10] w fun e w' => e = .returned (.string ⟨(numeral neg V).toArray⟩) ∧ Below w.heap.size w w' := by
 obtain ⟨A0, n, c, l, hg, hn, ht, hsl, hv, hlen, hfp⟩ := h.ex
 have c0 := cell_of_row w g 0 _ _ _ hg
 have c1 := cell_of_row w g 1 _ _ _ hg
 simp at c0 c1
 have hglt := block_lt hg
 clear hg h
 by_cases h0 : n = 0
 ·subst h0
  have hV := (ht.zero (Nat.zero_le _)).2 rfl
  have HN : Hid (numeral neg V = [48]) := by unfold numeral; rw [← hv, hV]; rfl
  clear hsl hv ht hV
  go_enter Tryz.func124, Tryz.ntmps124
  go_wp2_with fail
  go_ret
  rw [HN.out]
  exact ⟨rfl, Below.refl _ _⟩
 ·have hV : V ≠ 0 := fun e => h0 ((ht.zero hn).1 (hv.trans e))
  have hhd := hsl.head hn
  have hnl : (l.take n).length = n := by rw [List.length_take]; omega
  have HT1 := twin_ok _ _ _ _ w hhd (by omega)
  rw [hnl] at HT1
  have HT2 := Lib.hid HT1
  have hcap := hsl.1
  have hvt : wVal (l.take n) = V := ht.val.trans hv
  have HTR : Hid (n = 0 ↔ wVal (l.take n) = 0) := ⟨fun e => absurd e h0, fun e => absurd (hvt.symm.trans e) hV⟩
  have HVT := Lib.hid hvt
  have HNL := Lib.hid hnl
  clear HT1 hhd hsl ht hv hvt
  generalize l.take n = ws at HT2 HTR HVT HNL
  go_enter Tryz.func124, Tryz.ntmps124
  go_wp2_with fail
  refine HT2.out.mono ?_
  rintro e w2 ⟨A2, c2, rfl, hs2, hb2⟩
  have HS2 : Hid (SlA u32E (fun k => w.heap.size ≤ k ∧ k < w2.heap.size) w2 A2 c2 ws) := hs2
  have HB2 := Lib.hid hb2
  clear hs2 hb2 HT2
  go_wp2_with fail
  go_loopw [5, 6] (fun bv av wx => ∃ (bs : List UInt8) (A : Option Addr) (n c : Nat) (l : List Nat), av = .slice A n c ∧ n ≤ 1000 ∧ l.length = n ∧ Hid ((n = 0 ↔ wVal l = 0) ∧ SlA u32E (fun k => w.heap.size ≤ k ∧ k < wx.heap.size) wx A c l ∧ Lib.decDigits V = dds (wVal l) ++ bs.reverse) ∧ Hid (wx.ownsRow w.heap.size 5 1 bv bs.length (bs.map bytV)) ∧ Hid (Below w.heap.size w wx)) (fun bv _ _ => (Lib.decDigits V).length - sliceLen bv)
  case atStart => exact ⟨[], A2, n, c2, ws, rfl, by omega, HNL.out, ⟨HTR.out, HS2.out, by rw [HVT.out]; unfold dds; rw [if_neg hV]; simp⟩, World.ownsRow_nil _ _ _ _, HB2.out⟩
  case round =>
   clear HTR HVT HNL HS2 HB2
   obtain ⟨bs, A, m, cm, ls, rfl, hm, hlm, HI, HO, HB⟩ := hrel
   by_cases hm0 : m = 0
   ·subst hm0
    have hrev : Lib.decDigits V = bs.reverse := by rw [HI.out.2.2, HI.out.1.1 rfl]; rfl
    have hbl : bs.length ≤ 20 := by have := dec20_len hl; rw [hrev, List.length_reverse] at this; exact this
    have hx0 : wr.cell? ⟨g, 0, none⟩ = some (.bool neg) := (HB.out.cell (p := ⟨g, 0, none⟩) hglt).trans c0
    have HREV := Lib.hid hrev
    have hszr := HB.out.size
    clear HI hrev hlm
    go_upto_if 52 with (fail)
    go_cut [5] from 53 to 55 (fun bv wx => ∃ bs2 : List UInt8, bs2.length ≤ 21 ∧ Hid (bs2.reverse = numeral neg V) ∧ Hid (wx.ownsRow w.heap.size 5 1 bv bs2.length (bs2.map bytV)) ∧ Hid (Below w.heap.size w wx))
    case first =>
     cases neg with
     | false =>
      go_wp2_with fail
      go_meet
      case rel => exact ⟨bs, by omega, (by show _ = _; rw [← HREV.out]; unfold numeral; rw [if_neg hV]; rfl), HO, HB⟩
     | true =>
      go_wp2_with (at_builtin; refine wpList_push (w0 := wr) rfl _ _ 94 rfl w.heap.size 5 (.int .u8 0) 1 1 Tryz.underlying94 u8_info rfl (by decide) u5 bs.length _ rfl HO.out [.int .u8 45] (by simp [Act.eval]) rfl ?_ ?_ ?_ HB.out.size HB.out (Nat.le_refl _) ?_)
      ·first | rfl | (intro u hu; rw [List.mem_singleton.1 hu]; rfl)
      ·unfold maxLen; omega
      ·omega
      ·intro v4 w4 hown4 hg4 hb4 hat4
       have HO4 : Hid (w4.ownsRow w.heap.size 5 1 v4 (bs ++ [45]).length ((bs ++ [45]).map bytV)) := by
        rw [List.length_append, List.length_singleton, List.map_append, List.map_singleton]; exact hown4
       have HB4 := Lib.hid hb4
       clear hown4 hg4 hb4 hat4 HO HB
       go_wp2_with fail
       go_meet
       case rel => exact ⟨bs ++ [45], by rw [List.length_append, List.length_singleton]; omega, (by show _ = _; rw [List.reverse_append, ← HREV.out]; unfold numeral; rw [if_neg hV]; rfl), HO4, HB4⟩
    case rest =>
     clear HO HB HREV hbl hx0
     obtain ⟨bs2, hbl, HREV, HO, HB⟩ := hcut
     obtain ⟨A5, c5, hv5, hown5, hbs5⟩ := OwnS.of_row HO.out
     obtain rfl := hv5
     have hnp : 0 < bs2.length := by
      rcases bs2 with _ | ⟨x, xs⟩
      ·have := HREV.out
       unfold numeral at this
       rw [if_neg hV] at this
       have hd := Lib.decDigits_length V
       have hd2 := Lib.nDigits_pos V
       split at this
       ·cases this
       ·rw [← this] at hd; simp at hd; omega
      ·simp
     obtain ⟨g5, o5, rfl, hg5, hc5⟩ := hown5.head hnp (by decide)
     have hb5 := hbs5 g5 rfl
     have hcap5 := hown5.2.1
     have HOW := Lib.hid hown5
     clear hown5 hbs5 HO hc5
     go_wp2_with fail
     go_loopw [8, 9] (fun iv jv wx => ∃ i j : Nat, 2 * i ≤ bs2.length ∧ i + j + 1 = bs2.length ∧ iv = .int .i64 i ∧ jv = .int .i64 j ∧ Hid (OwnS wx 5 1 (some ⟨g5, o5, none⟩) c5 bs2.length ((revC bs2 i).map bytV)) ∧ Hid (Below w.heap.size w wx)) (fun iv _ _ => bs2.length - (intOf iv).toNat)
     case atStart => exact ⟨0, bs2.length - 1, by omega, by omega, rfl, (by congr 1; omega), (by rw [revC_zero]; exact HOW.out), HB⟩
     case round =>
      clear HOW HB
      obtain ⟨i, j, hi, hij1, rfl, rfl, HOW, HB⟩ := hrel
      by_cases hij : 2 * i + 1 < bs2.length
      ·have hcell : ∀ p, p < bs2.length → wr.cell? ⟨g5, o5 + p, none⟩ = some (bytV ((revC bs2 i).getD p 0)) := fun p hp => by
        obtain ⟨g', o', e, _, hc⟩ := HOW.out.head hnp (by decide)
        injection e with e; injection e with e1 e2; subst e1; subst e2
        refine hc p _ ?_
        rw [List.getElem?_map, List.getD_eq_getElem?_getD, List.getElem?_eq_getElem (by rw [revC_len]; exact hp)]
        rfl
       have hold : ∀ p, i ≤ p → p + i < bs2.length → (revC bs2 i).getD p 0 = bs2.getD p 0 := fun p h1 h2 => by
        rw [List.getD_eq_getElem?_getD, revC_get bs2 i (by omega), if_neg (by omega)]; rfl
       have y0 := hcell i (by omega)
       have y1 := hcell j (by omega)
       rw [hold i (Nat.le_refl _) (by omega)] at y0
       rw [hold j (by omega) (by omega)] at y1
       have hfz : ∀ (W : World) (cs : List Value) (p : Nat), OwnS W 5 1 (some ⟨g5, o5, none⟩) c5 bs2.length cs → W.frozen? ⟨g5, p, none⟩ = false := fun W cs p h => by
        rcases h.2.2.2 with ⟨h4, _⟩ | ⟨g', off', cur, e1, hh, _⟩
        ·cases h4
        ·injection e1 with e1; injection e1 with e1 e2; subst e1; simp [World.frozen?, hh]
       have f0 := hfz _ _ (o5 + i) HOW.out
       have hst := revC_step bs2 hij
       rw [show bs2.length - 1 - i = j by omega] at hst
       have HST := Lib.hid hst
       have hs1 := HOW.out.set1 (j := i) (by omega) (bytV (bs2.getD j 0))
       have f1 := hfz _ _ (o5 + j) hs1
       have y2 : (wr.setCell ⟨g5, o5 + i, none⟩ (bytV (bs2.getD j 0))).cell? ⟨g5, o5 + j, none⟩ = some (bytV (bs2.getD j 0)) := by
        obtain ⟨g', o', e, _, hc⟩ := hs1.head hnp (by decide)
        injection e with e; injection e with e1 e2; subst e1; subst e2
        refine hc j _ ?_
        rw [List.getElem?_set_ne (by omega), List.getElem?_map, List.getElem?_eq_getElem (by rw [revC_len]; omega), Option.map_some]
        have := hold j (by omega) (by omega)
        rw [List.getD_eq_getElem?_getD, List.getElem?_eq_getElem (by rw [revC_len]; omega)] at this
        rw [← this]; rfl
       have HS2 : Hid (OwnS ((wr.setCell ⟨g5, o5 + i, none⟩ (bytV (bs2.getD j 0))).setCell ⟨g5, o5 + j, none⟩ (bytV (bs2.getD i 0))) 5 1 (some ⟨g5, o5, none⟩) c5 bs2.length ((revC bs2 (i + 1)).map bytV)) := by
        have h2 := hs1.set1 (j := j) (by omega) (bytV (bs2.getD i 0))
        rw [← List.map_set, ← List.map_set, HST.out] at h2
        exact h2
       have HB2 : Hid (Below w.heap.size w ((wr.setCell ⟨g5, o5 + i, none⟩ (bytV (bs2.getD j 0))).setCell ⟨g5, o5 + j, none⟩ (bytV (bs2.getD i 0)))) := (HB.out.setCell hb5 _).setCell hb5 _
       have dij : decide (i < j) = true := decide_eq_true (by omega)
       clear hcell hold hfz hst HST hs1 HOW HB
       unfold bytV at y0 y1 y2 f1 HS2 HB2
       generalize bs2.getD i 0 = x at y0 HS2 HB2
       generalize bs2.getD j 0 = y at y1 y2 f1 HS2 HB2
       go_wp2_with fail
       go_roundw
       case rel => exact ⟨i + 1, j - 1, by omega, by omega, by go_num, by go_num, HS2, HB2⟩
       case measure => simp [intOf]; omega
      ·have dij : decide (i < j) = false := decide_eq_false (by omega)
       have hrv := revC_end bs2 (i := i) (by omega)
       have hsl : SlA bytE (· < wr.heap.size) wr (some ⟨g5, o5, none⟩) c5 (numeral neg V) := by
        have h1 := HOW.out
        rw [hrv, HREV.out] at h1
        have h2 : OwnS wr 5 bytE.sz (some ⟨g5, o5, none⟩) c5 bs2.length ((numeral neg V).flatMap fun x => [bytV x]) := by
         rw [show ((numeral neg V).flatMap fun x => [bytV x]) = (numeral neg V).map bytV from flat_one bytV _]
         exact h1
        exact h2.sl (E := bytE) (fun x => [bytV x]) (fun _ => rfl) (by rw [← HREV.out, List.length_reverse]) (fun k e => HOW.out.lt k e) (fun x _ => rfl)
       have hcv := conv_string (P := Tryz.prog) (src := 94) (dst := 9) hsl Tryz.underlying94 Tryz.underlying5 Tryz.underlying9
       rw [← HREV.out, List.length_reverse, HREV.out] at hcv
       clear hsl hrv HOW
       go_wp2_with fail
       go_ret
       exact ⟨rfl, HB.out⟩
   ·have hwv : wVal ls ≠ 0 := fun e => hm0 (HI.out.1.2 e)
    have HSM := small_ok _ A cm ls 10 wr HI.out.2.1 (fun k hk => hk.2) (by decide) (by decide) (by omega)
    rw [hlm] at HSM
    have HC := Lib.hid HSM
    clear HSM
    have hbl := HO.out.1
    have hdd := dds_step hwv
    have hdl : bs.length < (Lib.decDigits V).length := by
     rw [HI.out.2.2, hdd]
     simp only [List.length_append, List.length_reverse, List.length_singleton]
     omega
    have HDD := Lib.hid hdd
    have hdm : (Lib.decDigits V).length ≤ 20 := dec20_len hl
    have HWV := Lib.hid hwv
    clear hdd hwv hbl
    have hm63 : m ≤ 1000 := hm
    go_wp2_with fail
    refine HC.out.mono ?_
    rintro e w3 ⟨n3, q, rfl, hn3, ht3, hs3, hv3, hql, hb3⟩
    have hrr := Nat.mod_lt (wVal ls) (show 0 < 10 by decide)
    obtain ⟨r, hr⟩ : ∃ r, r = wVal ls % 10 := ⟨_, rfl⟩
    rw [← hr] at hrr ⊢
    have HRE := Lib.hid hr
    have dr : decide (r < 10) = true := decide_eq_true hrr
    have hu8 : ((UInt8.ofNat (48 + r)).toNat : Int) = 48 + (r : Int) := by rw [UInt8.toNat_ofNat']; omega
    have HN3 : Hid ((n3 = 0 ↔ wVal (q.take n3) = 0) ∧ SlA u32E (fun k => wr.heap.size ≤ k ∧ k < w3.heap.size) w3 (some ⟨wr.heap.size, 0, none⟩) m (q.take n3) ∧ wVal (q.take n3) = wVal ls / 10 ∧ (q.take n3).length = n3) :=
     ⟨by rw [ht3.val]; exact (ht3.zero hn3).symm, hs3.head hn3, by rw [ht3.val, hv3], by rw [List.length_take]; omega⟩
    have hn3m : n3 ≤ m := by omega
    have HB3 := Lib.hid hb3
    have HO3 : Hid (w3.ownsRow w.heap.size 5 1 u5 bs.length (bs.map bytV)) := own_stays HO.out hb3
    clear hn3 ht3 hs3 hv3 hql hb3 hr
    have hsz3 := HB3.out.size
    have hszr := HB.out.size
    go_wp2_with (at_builtin; refine wpList_push (w0 := w3) rfl _ _ 94 rfl w.heap.size 5 (.int .u8 0) 1 1 Tryz.underlying94 u8_info rfl (by decide) u5 bs.length _ rfl HO3.out [.int .u8 (48 + (r : Int))] (by simp [Act.eval]) rfl ?_ ?_ ?_ (by omega) (HB.out.trans (HB3.out.mono HB.out.size)) (Nat.le_refl _) ?_)
    ·intro u hu; rw [List.mem_singleton.1 hu]; rfl
    ·unfold maxLen; omega
    ·omega
    ·intro v4 w4 hown4 hg4 hb4 hat4
     have HO4 : Hid (w4.ownsRow w.heap.size 5 1 v4 (bs ++ [UInt8.ofNat (48 + r)]).length ((bs ++ [UInt8.ofNat (48 + r)]).map bytV)) := by
      rw [List.length_append, List.length_singleton, List.map_append, List.map_singleton, show bytV (UInt8.ofNat (48 + r)) = .int .u8 (48 + (r : Int)) by unfold bytV; rw [hu8]]
      exact hown4
     have hsz4 := hg4.size
     have HI4 : Hid ((n3 = 0 ↔ wVal (q.take n3) = 0) ∧ SlA u32E (fun k => w.heap.size ≤ k ∧ k < w4.heap.size) w4 (some ⟨wr.heap.size, 0, none⟩) m (q.take n3) ∧ Lib.decDigits V = dds (wVal (q.take n3)) ++ (bs ++ [UInt8.ofNat (48 + r)]).reverse) := by
      refine ⟨HN3.out.1, (HN3.out.2.1.keep fun k hk => hg4.block k hk.2 fun e => ?_).more fun k hk => ⟨by have := hk.1; omega, by have := hk.2; omega⟩, ?_⟩
      ·have := (HO.out.lt k e.symm).2
       have := hk.1
       omega
      ·rw [HI.out.2.2, HDD.out, HN3.out.2.2.1, HRE.out]; simp
     have HB4 := Lib.hid hb4
     have HNL4 : Hid ((q.take n3).length = n3) := HN3.out.2.2.2
     have hl4 := own_len HO4.out
     rw [List.length_append, List.length_singleton] at hl4
     have hl5 := own_len HO.out
     clear hown4 hg4 hb4 hat4 HI HO HB HB3 HO3 HN3 HDD HRE HWV
     go_wp2_with fail
     go_roundw
     case rel => exact ⟨bs ++ [UInt8.ofNat (48 + r)], some ⟨wr.heap.size, 0, none⟩, n3, m, q.take n3, rfl, by omega, HNL4.out, HI4, HO4, HB4⟩
     case measure => rw [hl4, hl5]; omega
theorem string_ok (g : Nat) (s : ByteArray) (w : World) (h : Calls Tryz.prog 124 #[.pointer (some ⟨g, 0, none⟩), .int .i64 10] w fun e w' => e = .returned (.string s) ∧ Below w.heap.size w w') :
  Calls Tryz.prog 87 #[.pointer (some ⟨g, 0, none⟩)] w fun e w' => e = .returned (.string s) ∧ Below w.heap.size w w' := by
 have H := Lib.hid h
 clear h
 go_enter Tryz.func87, Tryz.ntmps87
 go_wp2_with fail
 refine H.out.mono ?_
 rintro e w2 ⟨rfl, hb⟩
 have HB := Lib.hid hb
 clear hb H
 go_wp2_with fail
 go_ret
 exact ⟨rfl, HB.out⟩
theorem digits_ok (x : Int) (w : World) (hx : -9223372036854775808 ≤ x ∧ x ≤ 9223372036854775807) :
  Calls Tryz.prog 39 #[.int .i64 x] w fun e w' => e = .returned (.string ⟨(Lib.itoa x).toArray⟩) ∧ Below w.heap.size w w' := by
 have HN := Lib.hid (newInt_ok x w hx)
 have HT := Lib.hid (fun g W h => text_ok g (decide (x < 0)) x.natAbs W h (by omega))
 have hnum : numeral (decide (x < 0)) x.natAbs = Lib.itoa x := by
  unfold numeral Lib.itoa
  by_cases h0 : x < 0
  ·rw [if_neg (by omega), decide_eq_true h0, if_pos rfl, if_pos h0]
  ·rw [if_neg h0, decide_eq_false h0]
   by_cases h1 : x = 0
   ·subst h1; rw [if_pos (by decide)]; exact (Lib.decDigits_one (i := 0) (by omega)).symm
   ·rw [if_neg (by omega), if_neg (by decide), show x.natAbs = x.toNat by omega]
 rw [hnum] at HT
 clear hx hnum
 go_enter Tryz.func39, Tryz.ntmps39
 go_wp2_with fail
 refine HN.out.mono ?_
 rintro e w2 ⟨g, rfl, hg, hb⟩
 have HT2 := Lib.hid (HT.out g w2 hg)
 have HB := Lib.hid hb
 clear hg hb HN HT
 go_wp2_with fail
 refine (string_ok g _ w2 HT2.out).mono ?_
 rintro e w3 ⟨rfl, hb⟩
 have HB3 := Lib.hid (HB.out.trans (hb.mono HB.out.size))
 clear hb HB HT2
 go_wp2_with fail
 go_ret
 exact ⟨rfl, HB3.out⟩
end Go.Proofs.YtfndhfekbbbliaaGreatDoor
