/-
  The walk of DiskAgain: it returns true. No condition.
-/
import Derived.Test.YtdnmdekmgbgioaaDoorDiskIn
import Derived.Test.YtdnmdekmgbgioaaDoorSame
namespace Go.Proofs.YtdnmdekmgbgioaaDoor
open Go.RowKit
set_option linter.unusedVariables false

def aN : ByteArray := ⟨#[97]⟩
def bN : ByteArray := ⟨#[98]⟩
theorem named_a : namedB aN = true := by decide +kernel
theorem named_b : namedB bN = true := by decide +kernel
theorem ab_ne : aN ≠ bN := by decide
theorem aN_le : aN.size ≤ maxLen := by decide
theorem bN_le : bN.size ≤ maxLen := by decide
theorem newS_ok : DiskOk newS := ⟨by decide, by decide, by decide, by decide, by decide⟩
theorem write_a (S : DState) (l : List UInt8) (hs : S.stop = -1) : stepE S (writeE aN l) = if 60000 < l.length then some 4 else none := by
  simp [stepE, writeE, stoppedB, hs, named_a]
def oneS (v : Value) : DState := doneS newS (.wr aN v)
theorem oneS_now (v : Value) : (oneS v).now = [(aN, v)] := rfl
theorem oneS_ok (v : Value) : DiskOk (oneS v) := ⟨by simp [oneS, doneS, newS], by simp [oneS, doneS, newS], by simp [oneS, doneS, newS], by simp [oneS, doneS, newS], by simp [oneS, doneS, newS]⟩
def twoS (v u : Value) : DState := doneS (oneS v) (.wr aN u)
theorem twoS_now (v u : Value) : (twoS v u).now = [(aN, u)] := by simp [twoS, doneS, oneS_now, DOp.run, fset]
theorem twoS_ok (v u : Value) : DiskOk (twoS v u) := ⟨by simp [twoS, oneS, doneS, newS], by simp [twoS, oneS, doneS, newS], by simp [twoS, oneS, doneS, newS], by simp [twoS, oneS, doneS, newS], by simp [twoS, oneS, doneS, newS]⟩
theorem has_a {S : DState} {v : Value} (h : S.now = [(aN, v)]) : hasE S aN = none ∧ fgetD zB S.now aN = v := by
  rw [hasE, named_a, h]; simp [fhas, fgetD]

set_option maxRecDepth 100000 in
set_option maxHeartbeats 4000000 in
theorem again_longA (A0 : Option Addr) (c0 : Nat) (a : List UInt8) (A1 : Option Addr) (c1 : Nat) (b : List UInt8) (keep : Int) (w : World) (ha : SlA bytE (· < w.heap.size) w A0 c0 a) (sa : a.length ≤ 140737488355328) (hb : SlA bytE (· < w.heap.size) w A1 c1 b) (sb : b.length ≤ 140737488355328)
    (hla : 60000 < a.length) :
    Calls Tryd.prog 3 #[.slice A0 a.length c0, .slice A1 b.length c1, .int .i64 keep] w fun e w' => e = .returned (.bool true) ∧ Below w.heap.size w w' := by
  have HA := Lib.hid ha
  have HB := Lib.hid hb
  have hra := (write_a newS a rfl).trans (if_pos hla)
  have hda : decide (60000 < (a.length : Int)) = true := decide_eq_true (by omega)
  clear ha hb
  go_enter Tryd.func3, Tryd.ntmps3
  go_wp2_with fail
  refine (new_in w).mono ?_
  rintro e w1 ⟨g, rfl, hD1⟩
  have D1 := Lib.hid hD1
  clear hD1
  go_wp2_with fail
  refine (write_in w g newS aN A0 c0 a (· < w.heap.size) w1 D1.out aN_le (HA.out.keep (Same.below D1.out.all)) (fun k hk => Nat.lt_of_lt_of_le hk D1.out.all.size) sa newS_ok _ hra).mono ?_
  rintro e w2 ⟨rfl, q2, -, h2⟩
  have D2 : Hid (DiskIn w w2 g newS) := h2 (by simp)
  clear h2
  by_cases hlb : 60000 < b.length
  · have hrb := (write_a newS b rfl).trans (if_pos hlb)
    go_wp2_with fail
    refine (write_in w g newS aN A1 c1 b (· < w.heap.size) w2 D2.out aN_le (HB.out.keep (Same.below D2.out.all)) (fun k hk => Nat.lt_of_lt_of_le hk D2.out.all.size) sb newS_ok _ hrb).mono ?_
    rintro e w3 ⟨rfl, q3, -, h3⟩
    have D3 : Hid (DiskIn w w3 g newS) := h3 (by simp)
    clear h3
    go_wp2_with fail
    refine (read_no_in w g newS aN 6 w3 D3.out aN_le (by rw [hasE, named_a]; rfl)).mono ?_
    rintro e w4 ⟨rfl, h4⟩
    have HB4 : Hid (Below w.heap.size w w4) := (D3.out.below h4).all
    clear h4
    go_wp2_with fail
    go_ret
    exact ⟨rfl, HB4.out⟩
  · have hrb := (write_a newS b rfl).trans (if_neg hlb)
    go_wp2_with fail
    refine (write_in w g newS aN A1 c1 b (· < w.heap.size) w2 D2.out aN_le (HB.out.keep (Same.below D2.out.all)) (fun k hk => Nat.lt_of_lt_of_le hk D2.out.all.size) sb newS_ok _ hrb).mono ?_
    rintro e w3 ⟨rfl, q3, h3, -⟩
    obtain ⟨v, hD3, hv⟩ := h3 rfl
    have D3 : Hid (DiskIn w w3 g (oneS v)) := hD3
    have HV := Lib.hid hv
    clear h3 hD3 hv
    go_wp2_with fail
    refine (read_yes_in w g (oneS v) aN b w3 D3.out aN_le (has_a (oneS_now v)).1 (by rw [(has_a (oneS_now v)).2]; exact HV.out) sb).mono ?_
    rintro e w4 ⟨u, rfl, -, h4⟩
    have HB4 : Hid (Below w.heap.size w w4) := (D3.out.below h4).all
    clear h4
    go_wp2_with fail
    go_ret
    exact ⟨rfl, HB4.out⟩

/-- What is safe. -/
def lieS (fs : SMap) : DState := ⟨fs, fs, [], 0, -1⟩
theorem lieS_ok (fs : SMap) : DiskOk (lieS fs) := ⟨by simp [lieS], by simp [lieS], by simp [lieS], by simp [lieS], by simp [lieS]⟩
theorem crash_lie (fs : SMap) (keep : Int) : crashS (lieS fs) keep = lieS fs := by simp [crashS, lieS, runOps]
theorem crash_two (v u : Value) (keep : Int) : crashS (twoS v u) keep = lieS (runOps [] ([DOp.wr aN v, DOp.wr aN u].take (keepN keep 2))) := rfl
theorem kept_none {v u : Value} {keep : Int} (h : ¬ 0 < keep) : runOps [] ([DOp.wr aN v, DOp.wr aN u].take (keepN keep 2)) = [] := by
  have e : keepN keep 2 = 0 := by unfold keepN; omega
  rw [e]; rfl
theorem kept_one {v u : Value} {keep : Int} (h : 0 < keep) : runOps [] ([DOp.wr aN v, DOp.wr aN u].take (keepN keep 2)) = [(aN, if 1 < keep then u else v)] := by
  by_cases h1 : 1 < keep
  · have e : keepN keep 2 = 2 := by unfold keepN; omega
    rw [e, if_pos h1]; simp [runOps, DOp.run, fset]
  · have e : keepN keep 2 = 1 := by unfold keepN; omega
    rw [e, if_neg h1]; simp [runOps, DOp.run, fset]
theorem ren_e (x : Value) : stepE (lieS [(aN, x)]) (renE (lieS [(aN, x)]) aN bN) = none := by
  simp [stepE, stoppedB, lieS, renE, named_b, hasE, named_a, fhas]
def mvS (x : Value) : DState := doneS (lieS [(aN, x)]) (.ren aN bN)
theorem mvS_now (x : Value) : (mvS x).now = [(bN, x)] := by simp [mvS, doneS, lieS, DOp.run, fdel, fgetD, fset]
theorem mvS_ok (x : Value) : DiskOk (mvS x) := ⟨by simp [mvS, doneS, lieS], by simp [mvS, doneS, lieS], by simp [mvS, doneS, lieS], by simp [mvS, doneS, lieS], by simp [mvS, doneS, lieS]⟩
theorem ren_e2 (x : Value) : stepE (mvS x) (renE (mvS x) bN aN) = none := by
  have h : (mvS x).stop = -1 := rfl
  simp [stepE, stoppedB, h, renE, named_b, hasE, named_a, mvS_now, fhas]
def bkS (x : Value) : DState := doneS (mvS x) (.ren bN aN)
theorem bkS_now (x : Value) : (bkS x).now = [(aN, x)] := by simp [bkS, doneS, mvS_now, DOp.run, fdel, fgetD, fset]

set_option maxRecDepth 100000 in
set_option maxHeartbeats 4000000 in
theorem again_longB (A0 : Option Addr) (c0 : Nat) (a : List UInt8) (A1 : Option Addr) (c1 : Nat) (b : List UInt8) (keep : Int) (w : World) (ha : SlA bytE (· < w.heap.size) w A0 c0 a) (sa : a.length ≤ 140737488355328) (hb : SlA bytE (· < w.heap.size) w A1 c1 b) (sb : b.length ≤ 140737488355328)
    (hla : ¬ 60000 < a.length) (hlb : 60000 < b.length) :
    Calls Tryd.prog 3 #[.slice A0 a.length c0, .slice A1 b.length c1, .int .i64 keep] w fun e w' => e = .returned (.bool true) ∧ Below w.heap.size w w' := by
  have HA := Lib.hid ha
  have HB := Lib.hid hb
  have hra := (write_a newS a rfl).trans (if_neg hla)
  have hda : decide (60000 < (a.length : Int)) = false := decide_eq_false (by omega)
  have hdb : decide (60000 < (b.length : Int)) = true := decide_eq_true (by omega)
  clear ha hb
  go_enter Tryd.func3, Tryd.ntmps3
  go_wp2_with fail
  refine (new_in w).mono ?_
  rintro e w1 ⟨g, rfl, hD1⟩
  have D1 := Lib.hid hD1
  clear hD1
  go_wp2_with fail
  refine (write_in w g newS aN A0 c0 a (· < w.heap.size) w1 D1.out aN_le (HA.out.keep (Same.below D1.out.all)) (fun k hk => Nat.lt_of_lt_of_le hk D1.out.all.size) sa newS_ok _ hra).mono ?_
  rintro e w2 ⟨rfl, q2, h2, -⟩
  obtain ⟨v, hD2, hv⟩ := h2 rfl
  have D2 : Hid (DiskIn w w2 g (oneS v)) := hD2
  have HV := Lib.hid hv
  clear h2 hD2 hv
  have hrb := (write_a (oneS v) b rfl).trans (if_pos hlb)
  go_wp2_with fail
  refine (write_in w g (oneS v) aN A1 c1 b (· < w.heap.size) w2 D2.out aN_le (HB.out.keep (Same.below D2.out.all)) (fun k hk => Nat.lt_of_lt_of_le hk D2.out.all.size) sb (oneS_ok v) _ hrb).mono ?_
  rintro e w3 ⟨rfl, q3, -, h3⟩
  have D3 : Hid (DiskIn w w3 g (oneS v)) := h3 (by simp)
  have HV3 := Lib.hid (HV.out.qk q3)
  clear h3
  go_wp2_with fail
  refine (read_yes_in w g (oneS v) aN a w3 D3.out aN_le (has_a (oneS_now v)).1 (by rw [(has_a (oneS_now v)).2]; exact HV3.out) sa).mono ?_
  rintro e w4 ⟨u, rfl, -, h4⟩
  have HB4 : Hid (Below w.heap.size w w4) := (D3.out.below h4).all
  clear h4
  go_wp2_with fail
  go_ret
  exact ⟨rfl, HB4.out⟩

set_option maxRecDepth 100000 in
set_option maxHeartbeats 4000000 in
theorem again_good (A0 : Option Addr) (c0 : Nat) (a : List UInt8) (A1 : Option Addr) (c1 : Nat) (b : List UInt8) (keep : Int) (w : World) (ha : SlA bytE (· < w.heap.size) w A0 c0 a) (sa : a.length ≤ 140737488355328) (hb : SlA bytE (· < w.heap.size) w A1 c1 b) (sb : b.length ≤ 140737488355328) (hI : I64 keep)
    (hla : ¬ 60000 < a.length) (hlb : ¬ 60000 < b.length) :
    Calls Tryd.prog 3 #[.slice A0 a.length c0, .slice A1 b.length c1, .int .i64 keep] w fun e w' => e = .returned (.bool true) ∧ Below w.heap.size w w' := by
  have HA := Lib.hid ha
  have HB := Lib.hid hb
  have hra := (write_a newS a rfl).trans (if_neg hla)
  have hda : decide (60000 < (a.length : Int)) = false := decide_eq_false (by omega)
  have hdb : decide (60000 < (b.length : Int)) = false := decide_eq_false (by omega)
  clear ha hb
  go_enter Tryd.func3, Tryd.ntmps3
  go_wp2_with fail
  refine (new_in w).mono ?_
  rintro e w1 ⟨g, rfl, hD1⟩
  have D1 := Lib.hid hD1
  clear hD1
  go_wp2_with fail
  refine (write_in w g newS aN A0 c0 a (· < w.heap.size) w1 D1.out aN_le (HA.out.keep (Same.below D1.out.all)) (fun k hk => Nat.lt_of_lt_of_le hk D1.out.all.size) sa newS_ok _ hra).mono ?_
  rintro e w2 ⟨he, q2, h2, -⟩
  obtain rfl : e = .returned .nilIface := he
  obtain ⟨v, hD2, hv⟩ := h2 rfl
  have D2 : Hid (DiskIn w w2 g (oneS v)) := hD2
  have HV := Lib.hid hv
  clear h2 hD2 hv
  have hrb := (write_a (oneS v) b rfl).trans (if_neg hlb)
  go_wp2_with fail
  refine (write_in w g (oneS v) aN A1 c1 b (· < w.heap.size) w2 D2.out aN_le (HB.out.keep (Same.below D2.out.all)) (fun k hk => Nat.lt_of_lt_of_le hk D2.out.all.size) sb (oneS_ok v) _ hrb).mono ?_
  rintro e w3 ⟨he, q3, h3, -⟩
  obtain rfl : e = .returned .nilIface := he
  obtain ⟨u, hD3, hu⟩ := h3 rfl
  have D3 : Hid (DiskIn w w3 g (twoS v u)) := hD3
  have HV3 := Lib.hid (HV.out.qk q3)
  have HU3 := Lib.hid hu
  clear h3 hD3 hu HV
  go_wp2_with fail
  refine (read_yes_in w g (twoS v u) aN b w3 D3.out aN_le (has_a (twoS_now v u)).1 (by rw [(has_a (twoS_now v u)).2]; exact HU3.out) sb).mono ?_
  rintro e w4 ⟨x, rfl, ⟨A4, c4, rfl, hx⟩, h4⟩
  have D4 : Hid (DiskIn w w4 g (twoS v u)) := D3.out.below h4
  have HV4 := Lib.hid (HV3.out.qk (QKeep.below h4))
  have HU4 := Lib.hid (HU3.out.qk (QKeep.below h4))
  have v1 := conv_string (P := Tryd.prog) (src := 22) (dst := 9) hx Tryd.underlying22 Tryd.underlying5 Tryd.underlying9
  have v2 := conv_string (P := Tryd.prog) (src := 22) (dst := 9) (HB.out.keep (Same.below D4.out.all)) Tryd.underlying22 Tryd.underlying5 Tryd.underlying9
  clear h4 hx D3 HV3 HU3
  go_wp2_with fail
  refine (crash_in w g (twoS v u) keep w4 D4.out (twoS_ok v u) hI).mono ?_
  rintro e w5 ⟨rfl, q5, hD5⟩
  rw [crash_two] at hD5
  by_cases hk : 0 < keep
  · have hd0 : decide (0 < keep) = true := decide_eq_true hk
    rw [kept_one hk] at hD5
    obtain ⟨y, ly, hy, hly⟩ : ∃ y ly, y = (if 1 < keep then u else v) ∧ ly = (if 1 < keep then b else a) := ⟨_, _, rfl, rfl⟩
    rw [← hy] at hD5
    have D5 : Hid (DiskIn w w5 g (lieS [(aN, y)])) := hD5
    have HY5 : Hid (BlobAt w5 y ly) := by
      rw [hy, hly]
      split
      · exact HU4.out.qk q5
      · exact HV4.out.qk q5
    have HLY := Lib.hid hly
    clear hD5 HU4 HV4 hy hly D4 v1 v2 q5
    go_wp2_with fail
    refine (names_in w g _ w5 D5.out (by simp [lieS])).mono ?_
    rintro e w6 ⟨A6, c6, l6, rfl, hs6, hp6, hb6⟩
    obtain rfl : l6 = [aN] := List.perm_singleton.1 hp6
    have D6 : Hid (DiskIn w w6 g (lieS [(aN, y)])) := D5.out.below hb6
    have HY6 := Lib.hid (HY5.out.qk (QKeep.below hb6))
    have HS6 := Lib.hid hs6
    clear hb6 hs6 hp6 D5 HY5
    go_wp2_with fail
    refine (crash_in w g (lieS [(aN, y)]) 99 w6 D6.out (lieS_ok _) (show (Lit.int .i64 99).wf = true by decide)).mono ?_
    rintro e w7 ⟨rfl, q7, hD7⟩
    rw [crash_lie] at hD7
    have D7 := Lib.hid hD7
    have HY7 := Lib.hid (HY6.out.qk q7)
    have HS7 := Lib.hid (HS6.out.qk q7)
    clear hD7 q7 D6 HY6 HS6
    go_wp2_with fail
    refine (names_in w g _ w7 D7.out (by simp [lieS])).mono ?_
    rintro e w8 ⟨A8, c8, l8, rfl, hs8, hp8, hb8⟩
    obtain rfl : l8 = [aN] := List.perm_singleton.1 hp8
    have D8 : Hid (DiskIn w w8 g (lieS [(aN, y)])) := D7.out.below hb8
    have HY8 := Lib.hid (HY7.out.qk (QKeep.below hb8))
    have HS8 := Lib.hid (HS7.out.qk (QKeep.below hb8))
    have HT8 := Lib.hid hs8
    clear hb8 hs8 hp8 D7 HY7 HS7
    go_wp2_with fail
    refine (texts_same A6 A8 c6 c8 [aN] w8 _ _ HS8.out HT8.out).mono ?_
    rintro e w9 ⟨rfl, q9, rfl⟩
    have D9 : Hid (DiskIn w (w8.drewN q9) g (lieS [(aN, y)])) := D8.out.below (bdrewN (Below.refl _ _) q9)
    have HY9 := Lib.hid (HY8.out.qk (QKeep.below (bdrewN (Below.refl _ _) q9)))
    clear D8 HY8 HS8 HT8
    simp only [List.length_singleton]
    go_wp2_with fail
    refine (rename_in w g _ aN bN _ D9.out aN_le bN_le (lieS_ok _) none (ren_e y)).mono ?_
    rintro e w10 ⟨he, q10, hD10⟩
    obtain rfl : e = .returned .nilIface := he
    have D10 : Hid (DiskIn w w10 g (mvS y)) := hD10
    have HY10 := Lib.hid (HY9.out.qk q10)
    clear hD10 D9 HY9 q10
    go_wp2_with fail
    refine (rename_in w g _ bN aN _ D10.out bN_le aN_le (mvS_ok _) none (ren_e2 y)).mono ?_
    rintro e w11 ⟨he, q11, hD11⟩
    obtain rfl : e = .returned .nilIface := he
    have D11 : Hid (DiskIn w w11 g (bkS y)) := hD11
    have HY11 := Lib.hid (HY10.out.qk q11)
    clear hD11 D10 HY10 q11
    have hll : ly.length ≤ 140737488355328 := by rw [HLY.out]; split <;> omega
    go_wp2_with fail
    refine (read_yes_in w g (bkS y) aN ly w11 D11.out aN_le (has_a (bkS_now y)).1 (by rw [(has_a (bkS_now y)).2]; exact HY11.out) hll).mono ?_
    rintro e w12 ⟨z, rfl, ⟨A12, c12, rfl, hz⟩, h12⟩
    have D12 := (D11.out.below h12).all
    have u1 := conv_string (P := Tryd.prog) (src := 22) (dst := 9) hz Tryd.underlying22 Tryd.underlying5 Tryd.underlying9
    have u2 := conv_string (P := Tryd.prog) (src := 22) (dst := 9) (HB.out.keep (Same.below D12)) Tryd.underlying22 Tryd.underlying5 Tryd.underlying9
    have u3 := conv_string (P := Tryd.prog) (src := 22) (dst := 9) (HA.out.keep (Same.below D12)) Tryd.underlying22 Tryd.underlying5 Tryd.underlying9
    have HB12 := Lib.hid D12
    clear h12 hz D11 HY11 D12
    by_cases hk1 : 1 < keep
    · have hd1 : decide (1 < keep) = true := decide_eq_true hk1
      have e1 := HLY.out
      rw [if_pos hk1] at e1
      subst e1
      go_wp2_with fail
      go_ret
      exact ⟨by simp, HB12.out⟩
    · have hd1 : decide (1 < keep) = false := decide_eq_false hk1
      have e1 := HLY.out
      rw [if_neg hk1] at e1
      subst e1
      go_wp2_with fail
      go_ret
      exact ⟨by simp, HB12.out⟩
  · have hd0 : decide (0 < keep) = false := decide_eq_false hk
    rw [kept_none hk] at hD5
    have D5 := Lib.hid hD5
    clear hD5 HU4 HV4 D4 v1 v2 q5
    go_wp2_with fail
    refine (names_in w g _ w5 D5.out (by simp [lieS])).mono ?_
    rintro e w6 ⟨A6, c6, l6, rfl, hs6, hp6, hb6⟩
    obtain rfl : l6 = [] := hp6.eq_nil
    have D6 : Hid (DiskIn w w6 g (lieS [])) := D5.out.below hb6
    have HS6 := Lib.hid hs6
    clear hb6 hs6 hp6 D5
    go_wp2_with fail
    refine (crash_in w g (lieS []) 99 w6 D6.out (lieS_ok _) (show (Lit.int .i64 99).wf = true by decide)).mono ?_
    rintro e w7 ⟨rfl, q7, hD7⟩
    rw [crash_lie] at hD7
    have D7 := Lib.hid hD7
    have HS7 := Lib.hid (HS6.out.qk q7)
    clear hD7 q7 D6 HS6
    go_wp2_with fail
    refine (names_in w g _ w7 D7.out (by simp [lieS])).mono ?_
    rintro e w8 ⟨A8, c8, l8, rfl, hs8, hp8, hb8⟩
    obtain rfl : l8 = [] := hp8.eq_nil
    have D8 : Hid (DiskIn w w8 g (lieS [])) := D7.out.below hb8
    have HS8 := Lib.hid (HS7.out.qk (QKeep.below hb8))
    have HT8 := Lib.hid hs8
    clear hb8 hs8 hp8 D7 HS7
    go_wp2_with fail
    refine (texts_same A6 A8 c6 c8 [] w8 _ _ HS8.out HT8.out).mono ?_
    rintro e w9 ⟨rfl, q9, rfl⟩
    have HB9 : Hid (Below w.heap.size w (w8.drewN q9)) := bdrewN D8.out.all q9
    clear D8 HS8 HT8
    simp only [List.length_nil]
    go_wp2_with fail
    go_ret
    exact ⟨rfl, HB9.out⟩

theorem diskAgain_walk (A0 : Option Addr) (c0 : Nat) (a : List UInt8) (A1 : Option Addr) (c1 : Nat) (b : List UInt8) (keep : Int) (w : World) (ha : SlA bytE (· < w.heap.size) w A0 c0 a) (sa : c0 * 1 ≤ 140737488351232) (hb : SlA bytE (· < w.heap.size) w A1 c1 b) (sb : c1 * 1 ≤ 140737488351232) (hI : (Lit.int .i64 keep).wf = true) :
    Calls Tryd.prog 3 #[.slice A0 a.length c0, .slice A1 b.length c1, .int .i64 keep] w fun e w' => e = .returned (.bool true) ∧ Below w.heap.size w w' := by
  have h1 : a.length ≤ 140737488355328 := by have := ha.1; omega
  have h2 : b.length ≤ 140737488355328 := by have := hb.1; omega
  by_cases hla : 60000 < a.length
  · exact again_longA A0 c0 a A1 c1 b keep w ha h1 hb h2 hla
  · by_cases hlb : 60000 < b.length
    · exact again_longB A0 c0 a A1 c1 b keep w ha h1 hb h2 hla hlb
    · exact again_good A0 c0 a A1 c1 b keep w ha h1 hb h2 hI hla hlb
end Go.Proofs.YtdnmdekmgbgioaaDoor
