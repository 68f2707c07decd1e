/-
  The walk of KeepAny: it returns true. Condition: the table of powers of ten reads as the library's text lays it.
-/
import Derived.Test.YtdnmdekmgbgioaaGreatDoorLatest
namespace Go.Proofs.YtdnmdekmgbgioaaGreatDoor
open Go.RowKit Go.Shelf
set_option linter.unusedVariables false

theorem newS_fine : DiskFine newS := ⟨by decide, by decide, by decide, by decide, by decide⟩
theorem saveS_stop (S : DState) (id : Int) (v : Value) (j : Nat) : (saveS S id v j).stop = S.stop := by
  match j with
  | 0 => rfl
  | 1 => rfl
  | 2 => rfl
  | 3 => rfl
  | j + 4 => rfl
theorem never_stopped {S : DState} (h : S.stop = -1) : stoppedB S = false := by simp [stoppedB, h]
theorem saved_all {w0 w w' : World} {g : Nat} {S : DState} {id : Int} {x : List UInt8} {v : Value} {j : Nat} (h : Saved w0 w g S id x w' v j) (hs : S.stop = -1) : j = 4 := by
  have h1 := h.le
  rcases Nat.lt_or_ge j 4 with h2 | h2
  · have h3 := h.stop h2
    rw [never_stopped ((saveS_stop S id v j).trans hs)] at h3; cases h3
  · omega
def p1S (id : Int) (v : Value) : DState := saveS newS id v 4
theorem p1S_now (id : Int) (v : Value) : (p1S id v).now = [(picN id, v)] := by
  have h := pic_half id
  simp [p1S, saveS, syncS, doneS, newS, DOp.run, fset, fdel, fgetD]
theorem p1S_fine (id : Int) (v : Value) : DiskFine (p1S id v) := ⟨by simp [p1S, saveS, syncS, doneS, newS], by simp [p1S, saveS, syncS, doneS, newS], by simp [p1S, saveS, syncS, doneS, newS], by simp [p1S, saveS, syncS, doneS, newS], by simp [p1S, saveS, syncS, doneS, newS]⟩
def p2S (id id2 : Int) (v u : Value) : DState := saveS (p1S id v) id2 u 4
theorem p2S_now (id id2 : Int) (v u : Value) (h : picN id ≠ picN id2) : (p2S id id2 v u).now = [(picN id, v), (picN id2, u)] := by
  have h1 := pic_half id
  simp [p2S, saveS, syncS, doneS, p1S_now, DOp.run, fset, fdel, fgetD, h1, h]
theorem ids_one {id : Int} (h : Good id) (v : Value) : idsOf [(picN id, v)] = [id] := by simp [idsOf, skeys, idOf_pic h]
theorem ids_two {id id2 : Int} (h : Good id) (h2 : Good id2) (v u : Value) : idsOf [(picN id, v), (picN id2, u)] = [id, id2] := by simp [idsOf, skeys, idOf_pic h, idOf_pic h2]
theorem seal_le {x : List UInt8} (h : x.length ≤ 50000) : (sealB x).length ≤ 60000 := by
  rw [sealB_length]
  have := numB_len (x.length : Int)
  omega
theorem half_no1 (id : Int) (v : Value) : fhas [(picN id, v)] halfN = false := by simp [fhas, pic_half id]
theorem half_no2 (id id2 : Int) (v u : Value) : fhas [(picN id, v), (picN id2, u)] halfN = false := by simp [fhas, pic_half id, pic_half id2]
set_option maxRecDepth 100000 in
set_option maxHeartbeats 4000000 in
theorem any_good (A0 : Option Addr) (c0 : Nat) (a : List UInt8) (A1 : Option Addr) (c1 : Nat) (b : List UInt8) (id more : Int) (w : World) (ha : SlA bytE (· < w.heap.size) w A0 c0 a) (hb : SlA bytE (· < w.heap.size) w A1 c1 b) (hT : PowTab w)
    (h1 : a.length ≤ 50000) (h2 : b.length ≤ 50000) (h3 : 1 ≤ id) (h4 : id ≤ 1000000) (h5 : 1 ≤ more) (h6 : more ≤ 1000000) :
    Calls Tryz.prog 3 #[.slice A0 a.length c0, .slice A1 b.length c1, .int .i64 id, .int .i64 more] w fun e w' => e = .returned (.bool true) ∧ Below w.heap.size w w' := by
  have HA := Lib.hid ha
  have HB := Lib.hid hb
  have hG : Good id := ⟨h3, by omega⟩
  have hG2 : Good (id + more) := ⟨by omega, by omega⟩
  have hne : picN id ≠ picN (id + more) := fun e => by have := picN_inj (by omega) (by omega) e; omega
  have q1 : decide (50000 < (a.length : Int)) = false := decide_eq_false (by omega)
  have q2 : decide (50000 < (b.length : Int)) = false := decide_eq_false (by omega)
  have q3 : decide (id < 1) = false := decide_eq_false (by omega)
  have q4 : decide (1000000 < id) = false := decide_eq_false (by omega)
  have q5 : decide (more < 1) = false := decide_eq_false (by omega)
  have q6 : decide (1000000 < more) = false := decide_eq_false (by omega)
  clear ha hb
  go_enter Tryz.func3, Tryz.ntmps3
  go_wp2_with fail
  refine (new_in w).mono ?_
  rintro e w1 ⟨g, rfl, hD1⟩
  have D1 := Lib.hid hD1
  clear hD1
  go_wp2_with fail
  refine (save_ok w g newS id A0 c0 a w1 D1.out hG hT rfl (HA.out.below D1.out.all) (seal_le h1) newS_fine).mono ?_
  rintro e w2 ⟨v, j, he, hs2⟩
  obtain rfl := saved_all hs2 rfl
  obtain rfl : e = .returned .nilIface := he
  have D2 : Hid (DiskIn w w2 g (p1S id v)) := hs2.disk
  have HV2 := Lib.hid (hs2.blob (by omega))
  clear hs2
  go_wp2_with fail
  refine (klatest_ok w g (p1S id v) (fun _ => a) w2 D2.out hT ?_ ?_ (by rw [p1S_now]; simp) ?_).mono ?_
  · rw [p1S_now]; intro p hp; obtain rfl := List.mem_singleton.1 hp; exact ⟨.inr ⟨id, hG, rfl⟩, a, HV2.out, seal_le h1⟩
  · rw [p1S_now, half_no1]; exact nofun
  · rw [p1S_now, ids_one hG]; intro k hk; obtain rfl := List.mem_singleton.1 hk; exact ⟨by simpa [fgetD] using HV2.out, seal_le h1⟩
  rintro e w3 ⟨hor, hb3⟩
  rw [p1S_now, ids_one hG] at hor
  rcases hor with ⟨h, _⟩ | ⟨k, A3, c3, hk, -, rfl, hs3⟩
  · cases h
  obtain rfl : id = k := (List.mem_singleton.1 hk).symm
  have D3 := Lib.hid (D2.out.below hb3)
  have HV3 := Lib.hid (HV2.out.qk (QKeep.below hb3))
  have v1 := conv_string (P := Tryz.prog) (src := 22) (dst := 9) hs3 Tryz.underlying22 Tryz.underlying5 Tryz.underlying9
  have v2 := conv_string (P := Tryz.prog) (src := 22) (dst := 9) (HA.out.below D3.out.all) Tryz.underlying22 Tryz.underlying5 Tryz.underlying9
  clear hb3 hs3 hk
  have hno : fhas (p1S id v).now (picN (id + more)) = false := by rw [p1S_now]; simp [fhas, hne]
  go_wp2_with fail
  refine (save_ok w g (p1S id v) (id + more) A1 c1 b w3 D3.out hG2 hT hno (HB.out.below D3.out.all) (seal_le h2) (p1S_fine id v)).mono ?_
  rintro e w4 ⟨u, j, he, hs4⟩
  obtain rfl := saved_all hs4 (saveS_stop newS id v 4)
  obtain rfl : e = .returned .nilIface := he
  have D4 : Hid (DiskIn w w4 g (p2S id (id + more) v u)) := hs4.disk
  have HU4 := Lib.hid (hs4.blob (by omega))
  have HV4 := Lib.hid (HV3.out.qk hs4.keep)
  have hnow := p2S_now id (id + more) v u hne
  have hids := ids_two hG hG2 v u
  have hP4 : ∀ w', QKeep w4 w' → Pics w' (p2S id (id + more) v u).now := fun w' hq => by
    rw [hnow]
    intro p hp
    rcases List.mem_cons.1 hp with rfl | hp
    · exact ⟨.inr ⟨id, hG, rfl⟩, a, HV4.out.qk hq, seal_le h1⟩
    · obtain rfl := List.mem_singleton.1 hp
      exact ⟨.inr ⟨_, hG2, rfl⟩, b, HU4.out.qk hq, seal_le h2⟩
  have hsy : fhas (p2S id (id + more) v u).now halfN = true → SynVar w := by rw [hnow, half_no2]; exact nofun
  have hle : (p2S id (id + more) v u).now.length ≤ 1000000000 := by rw [hnow]; simp
  have HP4 := Lib.hid hP4
  clear hs4 v1 v2 D3 HV3 hP4
  go_wp2_with fail
  refine (klatest_ok w g (p2S id (id + more) v u) (fun k => if k = id then a else b) w4 D4.out hT (HP4.out w4 (QKeep.refl _)) hsy hle ?_).mono ?_
  · rw [hnow, hids]
    intro k hk
    rcases List.mem_cons.1 hk with rfl | hk
    · rw [if_pos rfl]; exact ⟨by simpa [fgetD] using HV4.out, seal_le h1⟩
    · obtain rfl := List.mem_singleton.1 hk
      rw [if_neg (by omega)]; exact ⟨by simpa [fgetD, hne] using HU4.out, seal_le h2⟩
  rintro e w5 ⟨hor, hb5⟩
  rw [hnow, hids] at hor
  rcases hor with ⟨h, _⟩ | ⟨k, A5, c5, hk, hmax, rfl, hs5⟩
  · cases h
  have ek : k = id + more := by
    have hm := hmax (id + more) (by simp)
    rcases List.mem_cons.1 hk with rfl | hk
    · omega
    · exact List.mem_singleton.1 hk
  subst ek
  rw [if_neg (show ¬ id + more = id by omega)] at hs5 ⊢
  have D5 := Lib.hid (D4.out.below hb5)
  have HS5 := Lib.hid hs5
  have HQ5 := Lib.hid (QKeep.below hb5)
  clear hb5 hs5 hk hmax
  go_wp2_with fail
  refine (klist_ok w g (p2S id (id + more) v u) w5 D5.out hT (HP4.out w5 HQ5.out) hsy hle).mono ?_
  rintro e w6 ⟨zs, vl, rfl, hr6, hp6, hs6, hb6⟩
  rw [hnow, hids] at hp6
  have hzs : zs = [id, id + more] := List.Perm.eq_of_pairwise (le := fun a b => a ≤ b) (fun a b _ _ h1 h2 => by omega) hs6 (by simp; omega) hp6
  subst hzs
  obtain ⟨gl, cap, rfl, hc⟩ := ints_cell hr6 (by simp)
  have hc0 := hc 0 (by simp)
  simp only [List.getElem_cons_zero] at hc0
  have D6 := Lib.hid (D5.out.below hb6)
  have u1 := conv_string (P := Tryz.prog) (src := 22) (dst := 9) (HS5.out.below hb6) Tryz.underlying22 Tryz.underlying5 Tryz.underlying9
  have u2 := conv_string (P := Tryz.prog) (src := 22) (dst := 9) (HB.out.below D6.out.all) Tryz.underlying22 Tryz.underlying5 Tryz.underlying9
  have HB6 := Lib.hid D6.out.all
  clear hr6 hp6 hs6 hb6 hc
  simp only [List.length_cons, List.length_nil, Nat.zero_add, Nat.reduceAdd]
  go_wp2_with fail
  go_ret
  exact ⟨by simp, HB6.out⟩

set_option maxRecDepth 100000 in
set_option maxHeartbeats 4000000 in
theorem any_bad (A0 : Option Addr) (c0 : Nat) (a : List UInt8) (A1 : Option Addr) (c1 : Nat) (b : List UInt8) (id more : Int) (w : World)
    (h : ¬ (a.length ≤ 50000 ∧ b.length ≤ 50000 ∧ 1 ≤ id ∧ id ≤ 1000000 ∧ 1 ≤ more ∧ more ≤ 1000000)) :
    Calls Tryz.prog 3 #[.slice A0 a.length c0, .slice A1 b.length c1, .int .i64 id, .int .i64 more] w fun e w' => e = .returned (.bool true) ∧ Below w.heap.size w w' := by
  have H := Lib.hid h
  clear h
  go_enter Tryz.func3, Tryz.ntmps3
  go_wp2_with fail
  refine (new_in w).mono ?_
  rintro e w1 ⟨g, rfl, hD1⟩
  have HB1 := Lib.hid hD1.all
  clear hD1
  go_wp2_with fail
  all_goals first | (go_ret; exact ⟨rfl, HB1.out⟩) | (exfalso; exact H.out ⟨by omega, by omega, by omega, by omega, by omega, by omega⟩)

theorem keepAny_walk (A0 : Option Addr) (c0 : Nat) (a : List UInt8) (A1 : Option Addr) (c1 : Nat) (b : List UInt8) (id more : Int) (w : World) (ha : SlA bytE (· < w.heap.size) w A0 c0 a) (hb : SlA bytE (· < w.heap.size) w A1 c1 b) (_ : (Lit.int .i64 id).wf = true) (_ : (Lit.int .i64 more).wf = true) (hT : PowTab w) :
    Calls Tryz.prog 3 #[.slice A0 a.length c0, .slice A1 b.length c1, .int .i64 id, .int .i64 more] w fun e w' => e = .returned (.bool true) ∧ Below w.heap.size w w' := by
  by_cases h : a.length ≤ 50000 ∧ b.length ≤ 50000 ∧ 1 ≤ id ∧ id ≤ 1000000 ∧ 1 ≤ more ∧ more ≤ 1000000
  · obtain ⟨h1, h2, h3, h4, h5, h6⟩ := h
    exact any_good A0 c0 a A1 c1 b id more w ha hb hT h1 h2 h3 h4 h5 h6
  · exact any_bad A0 c0 a A1 c1 b id more w h
end Go.Proofs.YtdnmdekmgbgioaaGreatDoor
