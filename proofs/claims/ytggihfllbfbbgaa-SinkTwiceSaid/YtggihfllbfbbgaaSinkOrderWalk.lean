/-
  The walk of SinkOrder: it returns true, whatever the counts. No condition.
-/
import Derived.Test.YtggihfllbfbbgaaClone
import Derived.Test.YtggihfllbfbbgaaSame
namespace Go.Proofs.Ytggihfllbfbbgaa
open Go.RowKit
set_option linter.unusedVariables false

/-- Two sinks side by side. -/
def Two (B : Nat) (w : World) (gs : Nat) (S : SinkSt) (gt : Nat) (T : SinkSt) : Prop :=
  ∃ Fs Ft : Nat → Prop, SinkAt w Fs gs S ∧ SinkAt w Ft gt T ∧ (∀ k, Fs k → B ≤ k ∧ k < w.heap.size ∧ ¬ Ft k) ∧ (∀ k, Ft k → B ≤ k ∧ k < w.heap.size)
theorem Two.mk_left {B : Nat} {w w' : World} {gs gt : Nat} {S' T : SinkSt} {Fs Ft : Nat → Prop} (hB : B ≤ w.heap.size) (ht : SinkAt w Ft gt T) (d1 : ∀ k, Fs k → B ≤ k ∧ k < w.heap.size ∧ ¬ Ft k) (d2 : ∀ k, Ft k → B ≤ k ∧ k < w.heap.size)
    (hs : SinkAt w' (fun k => Fs k ∨ (w.heap.size ≤ k ∧ k < w'.heap.size)) gs S') (hf : Frm Fs w w') : Two B w' gs S' gt T ∧ Below B w w' := by
  have hz := hf.size
  refine ⟨⟨_, Ft, hs, ht.keep (hf.same (fun k hk => (d2 k hk).2) (fun k hk h => (d1 k h).2.2 hk)) hz, ?_, fun k hk => ⟨(d2 k hk).1, Nat.lt_of_lt_of_le (d2 k hk).2 hz⟩⟩, hf.below hB (fun k hk => (d1 k hk).1)⟩
  rintro k (h | ⟨h1, h2⟩)
  · exact ⟨(d1 k h).1, Nat.lt_of_lt_of_le (d1 k h).2.1 hz, (d1 k h).2.2⟩
  · exact ⟨by omega, h2, fun h => by have := (d2 k h).2; omega⟩
theorem Two.mk_right {B : Nat} {w w' : World} {gs gt : Nat} {S T' : SinkSt} {Fs Ft : Nat → Prop} (hB : B ≤ w.heap.size) (hs : SinkAt w Fs gs S) (d1 : ∀ k, Fs k → B ≤ k ∧ k < w.heap.size ∧ ¬ Ft k) (d2 : ∀ k, Ft k → B ≤ k ∧ k < w.heap.size)
    (ht : SinkAt w' (fun k => Ft k ∨ (w.heap.size ≤ k ∧ k < w'.heap.size)) gt T') (hf : Frm Ft w w') : Two B w' gs S gt T' ∧ Below B w w' := by
  have hz := hf.size
  refine ⟨⟨Fs, _, hs.keep (hf.same (fun k hk => (d1 k hk).2.1) (fun k hk => (d1 k hk).2.2)) hz, ht, ?_, ?_⟩, hf.below hB (fun k hk => (d2 k hk).1)⟩
  · intro k h
    refine ⟨(d1 k h).1, Nat.lt_of_lt_of_le (d1 k h).2.1 hz, ?_⟩
    rintro (h2 | ⟨h2, _⟩)
    · exact (d1 k h).2.2 h2
    · have := (d1 k h).2.1; omega
  · rintro k (h | ⟨h1, h2⟩)
    · exact ⟨(d2 k h).1, Nat.lt_of_lt_of_le (d2 k h).2 hz⟩
    · exact ⟨by omega, h2⟩

def recAt (n : Nat) : Rec := ⟨⟨#[]⟩, (n : Int), 0⟩
def recsFrom (n k : Nat) : List Rec := (List.range k).map fun j => recAt (n + j)
def recsN (n : Nat) : List Rec := recsFrom 0 n
theorem recsFrom_succ (n k : Nat) : recsFrom n (k + 1) = recsFrom n k ++ [recAt (n + k)] := by simp [recsFrom, List.range_succ]
theorem recsN_add (n k : Nat) : recsN (n + k) = recsN n ++ recsFrom n k := by
  induction k with
  | zero => simp [recsFrom]
  | succ k ih =>
    rw [recsFrom_succ, ← List.append_assoc, ← ih]
    show recsFrom 0 (n + k + 1) = _
    rw [recsFrom_succ, Nat.zero_add]; rfl
theorem recsFrom_length (n k : Nat) : (recsFrom n k).length = k := by simp [recsFrom]
theorem recsN_length (n : Nat) : (recsN n).length = n := recsFrom_length 0 n
theorem recsN_get (n i : Nat) (h : i < (recsN n).length) : ((recsN n)[i]).num = (i : Int) := by simp [recsN, recsFrom, recAt]
theorem recAt_ok (n : Nat) (h : n ≤ 1000000000) : RecOk (recAt n) := by
  refine ⟨by show 0 ≤ maxLen; omega, ?_, by show (Lit.int .i64 0).wf = true; decide⟩
  show (Lit.int .i64 (n : Int)).wf = true
  exact WalkArith.wf_i64 (by omega)

/-- Behind i rounds, n records, and k more. -/
def Inv (w wr : World) (gs gt i n k : Nat) : Prop :=
  ∃ sealed : List (Int × List Rec), sealed.length = i ∧ sealed.flatMap (·.2) = recsN n ∧ (∀ x ∈ sealed, x.1 ≤ (i : Int)) ∧ Two w.heap.size wr gs ⟨recsFrom n k, [], i, recsN n⟩ gt ⟨recsFrom n k, sealed, i, []⟩ ∧ Below w.heap.size w wr

set_option maxHeartbeats 4000000 in
set_option maxRecDepth 100000 in
theorem sinkOrder_walk (A : Option Addr) (c : Nat) (l : List Int) (w : World) (hl : SlA (intE .i64) (· < w.heap.size) w A c l) (hr : c * 8 ≤ 140737488351232) :
    Calls Try.prog 10 #[.slice A l.length c] w fun e w' => e = .returned (.bool true) ∧ Below w.heap.size w w' := by
  have hle := hl.le
  have H := Lib.hid hl
  clear hl hr
  go_enter Try.func10, Try.ntmps10
  go_wp2_with fail
  refine (sinkNew_any _).mono ?_
  rintro e w1 ⟨rfl, hs1, hb1⟩
  go_wp2_with fail
  refine (sinkNew_any _).mono ?_
  rintro e w2 ⟨rfl, hs2, hb2⟩
  have hinv : Inv w w2 w.heap.size w1.heap.size 0 0 0 := by
    have hz1 := hb1.size
    have hz2 := hb2.size
    refine ⟨[], rfl, rfl, nofun, ⟨_, _, hs1.keep ((Same.below hb2).less fun k hk => hk.2) hz2, hs2, fun k hk => ⟨hk.1, by omega, fun h => by omega⟩, fun k hk => ⟨by omega, hk.2⟩⟩, hb1.trans (hb2.mono hz1)⟩
  obtain ⟨gs, hgs⟩ : ∃ g, g = w.heap.size := ⟨_, rfl⟩
  obtain ⟨gt, hgt⟩ : ∃ g, g = w1.heap.size := ⟨_, rfl⟩
  rw [← hgt]
  have hinv2 : Inv w w2 gs gt 0 0 0 := by rw [hgs, hgt]; exact hinv
  have HI := Lib.hid hinv2
  rw [← hgs]
  clear hs1 hs2 hb1 hb2 hinv hinv2 hgs hgt
  go_wp2_with fail
  refine (seal_range gs 0 _ (by omega)).mono ?_
  rintro e w3 ⟨rfl, rfl⟩
  go_wp2_with fail
  go_loopw [6, 7] (fun nv iv wr => ∃ n i : Nat, i ≤ l.length ∧ i ≤ 20 ∧ n ≤ 50 * i ∧ nv = .int .i64 n ∧ iv = .int .i64 i ∧ Hid (Inv w wr gs gt i n 0)) (fun _ iv _ => 20 - (intOf iv).toNat)
  case atStart => exact ⟨0, 0, by omega, by omega, by omega, rfl, rfl, HI⟩
  case round =>
    clear HI
    obtain ⟨n, i, hi, hi20, hn, rfl, rfl, HI⟩ := hrel
    by_cases hlt : i < l.length ∧ i < 20
    · obtain ⟨hlt, hlt20⟩ := hlt
      have hd1 : decide (i < l.length) = true := decide_eq_true hlt
      obtain ⟨b, off, rfl, hbb, hc, _⟩ := H.out.int_ hlt
      obtain ⟨x, hx⟩ : ∃ x, x = l[i] := ⟨_, rfl⟩
      rw [← hx] at hc
      clear hx
      have hcr : ∀ wr' : World, Below w.heap.size w wr' → wr'.cell? ⟨b, off + i, none⟩ = some (.int .i64 x) := fun wr' hb => (hb.cell (p := ⟨b, _, none⟩) hbb).trans hc
      have HC := Lib.hid hcr
      clear hcr hc hbb
      have hc0 := HC.out wr HI.out.choose_spec.2.2.2.2
      by_cases hx0 : x < 0
      · go_wp2_with fail
        go_ret
        exact ⟨rfl, HI.out.choose_spec.2.2.2.2⟩
      · by_cases hx50 : 50 < x
        · go_wp2_with fail
          go_ret
          exact ⟨rfl, HI.out.choose_spec.2.2.2.2⟩
        · obtain ⟨m, rfl⟩ := Int.eq_ofNat_of_zero_le (by omega : 0 ≤ x)
          have hm : m ≤ 50 := by omega
          have hdm0 : decide ((m : Int) < 0) = false := by rw [decide_eq_false_iff_not]; omega
          have hdm5 : decide (50 < (m : Int)) = false := by rw [decide_eq_false_iff_not]; omega
          have hdm6 : decide (50 < m) = false := by rw [decide_eq_false_iff_not]; omega
          have hdi : decide ((i : Int) < 20) = true := by rw [decide_eq_true_iff]; omega
          have hdi2 : decide (i < 20) = true := decide_eq_true hlt20
          clear hx0 hx50
          go_wp2_with fail
          obtain ⟨wo, hwo⟩ : ∃ wo : World, wo = wr := ⟨_, rfl⟩
          go_loopw [6, 8] (fun nv kv wr => ∃ k : Nat, k ≤ m ∧ nv = .int .i64 ((n + k : Nat) : Int) ∧ kv = .int .i64 k ∧ Hid (Inv w wr gs gt i n k)) (fun _ kv _ => m - (intOf kv).toNat)
          case atStart => exact ⟨0, by omega, rfl, rfl, HI⟩
          case round =>
            clear HI hc0 hwo wo
            obtain ⟨k, hk, rfl, rfl, HI⟩ := hrel
            obtain ⟨sealed, q1, q2, q3, ⟨Fs, Ft, hs, ht, d1, d2⟩, hbel⟩ := HI.out
            have hc0 := HC.out wr hbel
            have Q1 := Lib.hid q1
            have Q2 := Lib.hid q2
            have Q3 := Lib.hid q3
            have D1 := Lib.hid d1
            have D2 := Lib.hid d2
            have HS := Lib.hid hs
            have HT := Lib.hid ht
            have HB := Lib.hid hbel
            clear q1 q2 q3 d1 d2 hs ht hbel HI
            by_cases hkm : k < m
            · go_wp2_with fail
              have hro := recAt_ok (n + k) (by omega)
              refine (add_ok gs _ (recAt (n + k)) Fs _ HS.out hro (by show (recsFrom n k).length < 400; rw [recsFrom_length]; omega)).mono ?_
              rintro e w3 ⟨rfl, hs', hf⟩
              obtain ⟨htwo, hb3⟩ := Two.mk_left HB.out.size HT.out D1.out D2.out hs' hf
              have hb3' := HB.out.trans hb3
              have HT3 := Lib.hid htwo
              have HB3 := Lib.hid hb3'
              clear hs' hf htwo hb3 hb3' HS HT HB D1 D2
              obtain ⟨Fs, Ft, hs, ht, d1, d2⟩ := HT3.out
              have D1 := Lib.hid d1
              have D2 := Lib.hid d2
              have HS := Lib.hid hs
              have HT := Lib.hid ht
              clear hs ht d1 d2 HT3
              go_wp2_with fail
              refine (add_ok gt _ (recAt (n + k)) Ft _ HT.out hro (by show (recsFrom n k).length < 400; rw [recsFrom_length]; omega)).mono ?_
              rintro e w4 ⟨rfl, ht', hf⟩
              obtain ⟨htwo, hb4⟩ := Two.mk_right HB3.out.size HS.out D1.out D2.out ht' hf
              have hb4' := HB3.out.trans hb4
              have hinv : Inv w w4 gs gt i n (k + 1) := by
                refine ⟨sealed, Q1.out, Q2.out, Q3.out, ?_, hb4'⟩
                rw [recsFrom_succ]; exact htwo
              have HI := Lib.hid hinv
              clear ht' hf htwo hb4 hb4' HS HT D1 D2 hinv HB3
              go_wp2_with fail
              go_roundw
              case rel => exact ⟨k + 1, by omega, by go_num, by go_num, HI⟩
              case measure => simp [intOf]; omega
            · obtain rfl : k = m := by omega
              have hsl : sealed.length ≤ 20 := by rw [Q1.out]; exact hi20
              go_wp2_with fail
              clear HC H hc0
              refine (seal_ok gs _ ((i : Int) + 1) Fs _ HS.out (by omega) (by show (i : Int) < (i : Int) + 1; omega) (by show 0 < 4294967296; omega)).mono ?_
              rintro e w3 ⟨rfl, hs', hf⟩
              obtain ⟨htwo, hb3⟩ := Two.mk_left HB.out.size HT.out D1.out D2.out hs' hf
              have hb3' := HB.out.trans hb3
              have HT3 := Lib.hid htwo
              have HB3 := Lib.hid hb3'
              clear hs' hf htwo hb3 hb3' HS HT HB D1 D2
              obtain ⟨Fs, Ft, hs, ht, d1, d2⟩ := HT3.out
              have D1 := Lib.hid d1
              have D2 := Lib.hid d2
              have HS := Lib.hid hs
              have HT := Lib.hid ht
              clear hs ht d1 d2 HT3
              go_wp2_with fail
              refine (seal_ok gt _ ((i : Int) + 1) Ft _ HT.out (by omega) (by show (i : Int) < (i : Int) + 1; omega) (by show sealed.length < _; omega)).mono ?_
              rintro e w4 ⟨rfl, ht', hf⟩
              obtain ⟨htwo, hb4⟩ := Two.mk_right HB3.out.size HS.out D1.out D2.out ht' hf
              have hb4' := HB3.out.trans hb4
              have HT4 := Lib.hid htwo
              have HB4 := Lib.hid hb4'
              clear ht' hf htwo hb4 hb4' HS HT HB3 D1 D2
              obtain ⟨Fs, Ft, hs, ht, d1, d2⟩ := HT4.out
              have D1 := Lib.hid d1
              have D2 := Lib.hid d2
              have HS := Lib.hid hs
              have HT := Lib.hid ht
              clear hs ht d1 d2 HT4
              go_wp2_with fail
              refine (commit_ok gs _ ((i : Int) + 1) Fs _ HS.out (by omega) (fun k hk => (D1.out k hk).2.1) (by show (recsN n).length + (([((i : Int) + 1, recsFrom n k)] : List (Int × List Rec)).flatMap (·.2)).length ≤ _; simp [recsN_length, recsFrom_length]; omega) (by show 1 ≤ 1000000000; omega)).mono ?_
              rintro e w5 ⟨j, hj1, hj2, hj3, rfl, hs', hf⟩
              have hj : j = 1 := by
                have h1 : j ≤ 1 := hj1
                rcases Nat.lt_or_ge j 1 with h | h
                · have h0 : j = 0 := by omega
                  subst h0
                  have := hj3 (by show 0 < 1; omega)
                  have e : (i : Int) + 1 < (i : Int) + 1 := this
                  omega
                · omega
              subst hj
              obtain ⟨htwo, hb5⟩ := Two.mk_left HB4.out.size HT.out D1.out D2.out hs' hf
              have hb5' := HB4.out.trans hb5
              have hinv : Inv w w5 gs gt (i + 1) (n + k) 0 := by
                refine ⟨sealed ++ [((i : Int) + 1, recsFrom n k)], by simp [Q1.out], by rw [List.flatMap_append, Q2.out, recsN_add]; simp, ?_, ?_, hb5'⟩
                · intro y hy
                  rcases List.mem_append.1 hy with hy | hy
                  · have := Q3.out y hy; omega
                  · simp at hy; subst hy; show (i : Int) + 1 ≤ ((i + 1 : Nat) : Int); omega
                · have e1 : commJ (sealS ⟨recsFrom n k, [], (i : Int), recsN n⟩ ((i : Int) + 1)) 1 = ⟨recsFrom (n + k) 0, [], ((i + 1 : Nat) : Int), recsN (n + k)⟩ := by
                    simp [commJ, sealS, recsN_add, recsFrom]
                  have e2 : sealS ⟨recsFrom n k, sealed, (i : Int), []⟩ ((i : Int) + 1) = ⟨recsFrom (n + k) 0, sealed ++ [((i : Int) + 1, recsFrom n k)], ((i + 1 : Nat) : Int), []⟩ := by
                    simp [sealS, recsFrom]
                  rw [e1, e2] at htwo
                  exact htwo
              have HI := Lib.hid hinv
              clear hj1 hj2 hj3 hs' hf htwo hb5 hb5' HS HT D1 D2 hinv HB4
              go_wp2_with fail
              go_roundw
              case rel => exact ⟨n + k, i + 1, by omega, by omega, by omega, by go_num, by go_num, HI⟩
              case measure => simp [intOf]; omega
    · by_cases hz : l.length = 0
      · have hdl : decide (i < l.length) = false := by rw [decide_eq_false_iff_not]; omega
        have hz1 : ((l.length : Int) == 0) = true := by rw [beq_iff_eq]; omega
        go_wp2_with fail
        go_ret
        exact ⟨rfl, HI.out.choose_spec.2.2.2.2⟩
      · have hz1 : ((l.length : Int) == 0) = false := by rw [beq_eq_false_iff_ne]; omega
        obtain ⟨sealed, q1, q2, q3, ⟨Fs, Ft, hs, ht, d1, d2⟩, hbel⟩ := HI.out
        have hsl : sealed.length ≤ 20 := by rw [q1]; exact hi20
        have hq3 : ∀ x ∈ sealed, x.1 ≤ 1000 := fun x hx => by have := q3 x hx; omega
        have hn1000 : n ≤ 1000 := by omega
        have Q2 := Lib.hid q2
        have Q3 := Lib.hid hq3
        have D1 := Lib.hid d1
        have D2 := Lib.hid d2
        have HS := Lib.hid hs
        have HT := Lib.hid ht
        have HB := Lib.hid hbel
        have hlt' := Lib.hid hlt
        clear q1 q2 q3 hq3 d1 d2 hs ht hbel HI hz H hn
        by_cases hil : i < l.length
        · have hi2 : ¬ i < 20 := fun h => hlt'.out ⟨hil, h⟩
          have hdl : decide (i < l.length) = true := decide_eq_true hil
          have hdi : decide ((i : Int) < 20) = false := by rw [decide_eq_false_iff_not]; omega
          have hdi2 : decide (i < 20) = false := by rw [decide_eq_false_iff_not]; omega
          clear hlt
          go_wp2_with fail
          refine (commit_ok gt _ 1000 Ft _ HT.out (by omega) (fun k hk => (D2.out k hk).2) (by show ([] : List Rec).length + (sealed.flatMap (·.2)).length ≤ _; rw [Q2.out, recsN_length]; simp; omega) (by show sealed.length ≤ 1000000000; omega)).mono ?_
          rintro e w5 ⟨j, hj1, hj2, hj3, rfl, ht', hf⟩
          have hj : j = sealed.length := by
            rcases Nat.lt_or_ge j sealed.length with h | h
            · have h1 : (1000 : Int) < sealed[j].1 := hj3 h
              have := Q3.out _ (List.getElem_mem h)
              omega
            · exact Nat.le_antisymm hj1 h
          have hcn : commN ⟨recsFrom n 0, sealed, (i : Int), []⟩ j = n := by
            unfold commN; rw [hj]; show ((sealed.take sealed.length).flatMap (·.2)).length = n
            rw [List.take_length, Q2.out, recsN_length]
          have hcw : (commJ ⟨recsFrom n 0, sealed, (i : Int), []⟩ j).written = recsN n := by
            unfold commJ; rw [hj]; show [] ++ (sealed.take sealed.length).flatMap (·.2) = recsN n
            rw [List.take_length, Q2.out]; rfl
          obtain ⟨htwo, hb5⟩ := Two.mk_right HB.out.size HS.out D1.out D2.out ht' hf
          have hb5' := HB.out.trans hb5
          obtain ⟨T', hT'⟩ : ∃ T', T' = commJ ⟨recsFrom n 0, sealed, (i : Int), []⟩ j := ⟨_, rfl⟩
          rw [← hT'] at htwo hcw
          have HT5 := Lib.hid htwo
          have HB5 := Lib.hid hb5'
          have HCW := Lib.hid hcw
          rw [hcn]
          clear hj1 hj2 hj3 ht' hf hj hcn hcw htwo hb5 hb5' HS HT D1 D2 hT'
          obtain ⟨Fs, Ft, hs, ht, d1, d2⟩ := HT5.out
          have hlt5 : ∀ k, Ft k → k < w5.heap.size := fun k hk => (d2 k hk).2
          have HS := Lib.hid hs
          have HT := Lib.hid ht
          have HL5 := Lib.hid hlt5
          clear hs ht d1 d2 HT5 hlt5
          obtain ⟨r, hr⟩ : ∃ r, r = recsN n := ⟨_, rfl⟩
          have hrl : r.length = n := by rw [hr]; exact recsN_length n
          have hrn : ((r.length : Int) == (n : Int)) = true := by rw [beq_iff_eq]; omega
          have HR := Lib.hid hr
          have HRL := Lib.hid hrl
          clear hr hrl
          go_wp2_with fail
          refine (written_any gs _ Fs _ HS.out (by show (recsN n).length ≤ _; rw [recsN_length]; omega)).mono ?_
          rintro e w6 ⟨A1, c1, rfl, hsl1, hb6⟩
          have hsl1' : SlA recE (· < w6.heap.size) w6 A1 c1 r := by rw [HR.out]; exact hsl1
          rw [show (⟨recsFrom n 0, [], (i : Int), recsN n⟩ : SinkSt).written = r from HR.out.symm]
          have ht6 := HT.out.keep ((Same.below hb6).less fun k hk => HL5.out k hk) hb6.size
          have HT6 := Lib.hid ht6
          have HS1 := Lib.hid hsl1'
          have HB6 := Lib.hid (HB5.out.trans (hb6.mono HB5.out.size))
          clear hsl1 hsl1' ht6 hb6 HS HT
          go_wp2_with fail
          refine (written_any gt _ Ft _ HT6.out (by rw [HCW.out, recsN_length]; omega)).mono ?_
          rintro e w7 ⟨A2, c2, rfl, hsl2, hb7⟩
          rw [HCW.out, ← HR.out] at hsl2
          rw [HCW.out, ← HR.out]
          have hsl1 := HS1.out.below hb7
          have HS2 := Lib.hid hsl2
          have HS1' := Lib.hid hsl1
          have HB7 := Lib.hid (HB6.out.trans (hb7.mono HB6.out.size))
          clear hsl1 hsl2 hb7 HS1 HT6
          go_wp2_with fail
          refine (records_same A1 A2 c1 c2 r _ _ _ HS1'.out HS2.out).mono ?_
          rintro e w8 ⟨rfl, q, rfl⟩
          have hs8 := HS1'.out.drewN q
          have HS8 := Lib.hid hs8
          clear hs8 HS1' HS2
          go_wp2_with fail
          go_loop [20] (fun iv => ∃ k : Nat, k ≤ n ∧ iv = .int .i64 k) (fun iv => n - (intOf iv).toNat)
          case atStart => exact ⟨0, by omega, rfl⟩
          case round =>
            obtain ⟨k, hk, rfl⟩ := hrel
            by_cases hkn : k < n
            · obtain ⟨b1, o1, rfl, _, y0, y1, y2, _⟩ := HS8.out.rec_ (k := k) (by rw [HRL.out]; exact hkn)
              have e1 : (r[k]'(by rw [HRL.out]; exact hkn)).num = (k : Int) := by
                have := HR.out
                subst this
                exact recsN_get n k _
              rw [e1] at y1
              have hkl : k < r.length := by rw [HRL.out]; exact hkn
              clear e1 y0 y2
              go_wp2_with fail
              go_round
              case rel => exact ⟨k + 1, by omega, by go_num⟩
              case measure => simp [intOf]; omega
            · go_wp2_with fail
              go_ret
              exact ⟨rfl, bdrewN HB7.out q⟩
        · have hdl : decide (i < l.length) = false := by rw [decide_eq_false_iff_not]; omega
          clear hlt
          go_wp2_with fail
          refine (commit_ok gt _ 1000 Ft _ HT.out (by omega) (fun k hk => (D2.out k hk).2) (by show ([] : List Rec).length + (sealed.flatMap (·.2)).length ≤ _; rw [Q2.out, recsN_length]; simp; omega) (by show sealed.length ≤ 1000000000; omega)).mono ?_
          rintro e w5 ⟨j, hj1, hj2, hj3, rfl, ht', hf⟩
          have hj : j = sealed.length := by
            rcases Nat.lt_or_ge j sealed.length with h | h
            · have h1 : (1000 : Int) < sealed[j].1 := hj3 h
              have := Q3.out _ (List.getElem_mem h)
              omega
            · exact Nat.le_antisymm hj1 h
          have hcn : commN ⟨recsFrom n 0, sealed, (i : Int), []⟩ j = n := by
            unfold commN; rw [hj]; show ((sealed.take sealed.length).flatMap (·.2)).length = n
            rw [List.take_length, Q2.out, recsN_length]
          have hcw : (commJ ⟨recsFrom n 0, sealed, (i : Int), []⟩ j).written = recsN n := by
            unfold commJ; rw [hj]; show [] ++ (sealed.take sealed.length).flatMap (·.2) = recsN n
            rw [List.take_length, Q2.out]; rfl
          obtain ⟨htwo, hb5⟩ := Two.mk_right HB.out.size HS.out D1.out D2.out ht' hf
          have hb5' := HB.out.trans hb5
          obtain ⟨T', hT'⟩ : ∃ T', T' = commJ ⟨recsFrom n 0, sealed, (i : Int), []⟩ j := ⟨_, rfl⟩
          rw [← hT'] at htwo hcw
          have HT5 := Lib.hid htwo
          have HB5 := Lib.hid hb5'
          have HCW := Lib.hid hcw
          rw [hcn]
          clear hj1 hj2 hj3 ht' hf hj hcn hcw htwo hb5 hb5' HS HT D1 D2 hT'
          obtain ⟨Fs, Ft, hs, ht, d1, d2⟩ := HT5.out
          have hlt5 : ∀ k, Ft k → k < w5.heap.size := fun k hk => (d2 k hk).2
          have HS := Lib.hid hs
          have HT := Lib.hid ht
          have HL5 := Lib.hid hlt5
          clear hs ht d1 d2 HT5 hlt5
          obtain ⟨r, hr⟩ : ∃ r, r = recsN n := ⟨_, rfl⟩
          have hrl : r.length = n := by rw [hr]; exact recsN_length n
          have hrn : ((r.length : Int) == (n : Int)) = true := by rw [beq_iff_eq]; omega
          have HR := Lib.hid hr
          have HRL := Lib.hid hrl
          clear hr hrl
          go_wp2_with fail
          refine (written_any gs _ Fs _ HS.out (by show (recsN n).length ≤ _; rw [recsN_length]; omega)).mono ?_
          rintro e w6 ⟨A1, c1, rfl, hsl1, hb6⟩
          have hsl1' : SlA recE (· < w6.heap.size) w6 A1 c1 r := by rw [HR.out]; exact hsl1
          rw [show (⟨recsFrom n 0, [], (i : Int), recsN n⟩ : SinkSt).written = r from HR.out.symm]
          have ht6 := HT.out.keep ((Same.below hb6).less fun k hk => HL5.out k hk) hb6.size
          have HT6 := Lib.hid ht6
          have HS1 := Lib.hid hsl1'
          have HB6 := Lib.hid (HB5.out.trans (hb6.mono HB5.out.size))
          clear hsl1 hsl1' ht6 hb6 HS HT
          go_wp2_with fail
          refine (written_any gt _ Ft _ HT6.out (by rw [HCW.out, recsN_length]; omega)).mono ?_
          rintro e w7 ⟨A2, c2, rfl, hsl2, hb7⟩
          rw [HCW.out, ← HR.out] at hsl2
          rw [HCW.out, ← HR.out]
          have hsl1 := HS1.out.below hb7
          have HS2 := Lib.hid hsl2
          have HS1' := Lib.hid hsl1
          have HB7 := Lib.hid (HB6.out.trans (hb7.mono HB6.out.size))
          clear hsl1 hsl2 hb7 HS1 HT6
          go_wp2_with fail
          refine (records_same A1 A2 c1 c2 r _ _ _ HS1'.out HS2.out).mono ?_
          rintro e w8 ⟨rfl, q, rfl⟩
          have hs8 := HS1'.out.drewN q
          have HS8 := Lib.hid hs8
          clear hs8 HS1' HS2
          go_wp2_with fail
          go_loop [20] (fun iv => ∃ k : Nat, k ≤ n ∧ iv = .int .i64 k) (fun iv => n - (intOf iv).toNat)
          case atStart => exact ⟨0, by omega, rfl⟩
          case round =>
            obtain ⟨k, hk, rfl⟩ := hrel
            by_cases hkn : k < n
            · obtain ⟨b1, o1, rfl, _, y0, y1, y2, _⟩ := HS8.out.rec_ (k := k) (by rw [HRL.out]; exact hkn)
              have e1 : (r[k]'(by rw [HRL.out]; exact hkn)).num = (k : Int) := by
                have := HR.out
                subst this
                exact recsN_get n k _
              rw [e1] at y1
              have hkl : k < r.length := by rw [HRL.out]; exact hkn
              clear e1 y0 y2
              go_wp2_with fail
              go_round
              case rel => exact ⟨k + 1, by omega, by go_num⟩
              case measure => simp [intOf]; omega
            · go_wp2_with fail
              go_ret
              exact ⟨rfl, bdrewN HB7.out q⟩
end Go.Proofs.Ytggihfllbfbbgaa
