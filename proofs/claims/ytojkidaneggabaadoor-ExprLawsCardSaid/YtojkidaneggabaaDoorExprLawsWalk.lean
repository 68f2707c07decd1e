/-
  The walk of ExprLaws: it returns true. Conditions: the two variables of Atoi's errors hold errors.
-/
import Derived.Test.YtojkidaneggabaaDoorExprTexts
namespace Go.Proofs.YtojkidaneggabaaDoor
open Go.RowKit Go.Shelf
set_option linter.unusedVariables false


theorem two_tree : parseT (⟨#[50, 45, 53]⟩ : ByteArray).data.toList = .tree (.bin 45 (.num 2) (.num 5)) := by kernel_rfl
theorem lt_eq_gt (x y : Int) : b2i (decide (x < y)) + b2i (x == y) + b2i (decide (y < x)) = 1 := by
  unfold b2i
  rcases Int.lt_trichotomy x y with h | h | h
  · rw [if_pos (by simpa using h), if_neg (by simp; omega), if_neg (by simp; omega)]; rfl
  · rw [if_neg (by simp; omega), if_pos (by simpa using h), if_neg (by simp; omega)]; rfl
  · rw [if_neg (by simp; omega), if_neg (by simp; omega), if_pos (by simpa using h)]; rfl
theorem b2i_01 (b : Bool) : 0 ≤ b2i b ∧ b2i b ≤ 1 := by cases b <;> decide
set_option maxRecDepth 100000 in
set_option maxHeartbeats 4000000 in
theorem exprLaws_walk (a b : ByteArray) (n s : Int) (w : World) (wa : a.size ≤ maxLen) (sa : a.size ≤ 140737488351232) (wb : b.size ≤ maxLen) (sb : b.size ≤ 140737488351232) (wn : (Lit.int .i64 n).wf = true) (ws : (Lit.int .i64 s).wf = true) (hv : ErrVars w) :
    Calls Tryd.prog 5 #[.string a, .string b, .int .i64 n, .int .i64 s] w fun e w' => e = .returned (.bool true) ∧ Below w.heap.size w w' := by
  have HN := Lib.hid (i64_of_wf wn)
  have HS := Lib.hid (i64_of_wf ws)
  have HV := Lib.hid hv
  have h0 : I64_ 0 := by unfold I64_; omega
  have H1 := Lib.hid (eval_tree ⟨#[50, 45, 53]⟩ 0 0 w hv (by decide) h0 h0 two_tree)
  clear hv wn ws wa wb
  go_enter Tryd.func5, Tryd.ntmps5
  go_wp2_with fail
  refine H1.out.mono ?_
  rintro e w1 ⟨rfl, b1⟩
  have B1 := Lib.hid b1
  clear b1
  clear H1 h0
  rw [show (Tr.bin 45 (.num 2) (.num 5)).val 0 0 = -3 from by decide +kernel]
  go_wp2_with fail
  refine (check_ok a w1 (HV.out.below B1.out) ?_).mono ?_
  · (try simp [ba_mk]); unfold maxLen; omega
  rintro e w2 ⟨rfl, b2⟩
  have B2 := Lib.hid (B1.out.trans (b2.mono B1.out.size))
  clear b2
  obtain ⟨P2, hP2⟩ : ∃ P, P = parseT a.data.toList := ⟨_, rfl⟩
  rw [← hP2]
  obtain ⟨v2, hv2⟩ : ∃ v, v = errOf P2 := ⟨_, rfl⟩
  rw [← hv2]
  have HP2 := Lib.hid hP2
  have HE2 := Lib.hid hv2
  generalize atOf P2 = i2
  clear hP2 hv2
  go_wp2_with fail
  refine (check_ok b w2 (HV.out.below B2.out) ?_).mono ?_
  · (try simp [ba_mk]); unfold maxLen; omega
  rintro e w3 ⟨rfl, b3⟩
  have B3 := Lib.hid (B2.out.trans (b3.mono B2.out.size))
  clear b3
  obtain ⟨P3, hP3⟩ : ∃ P, P = parseT b.data.toList := ⟨_, rfl⟩
  rw [← hP3]
  obtain ⟨v3, hv3⟩ : ∃ v, v = errOf P3 := ⟨_, rfl⟩
  rw [← hv3]
  have HP3 := Lib.hid hP3
  have HE3 := Lib.hid hv3
  generalize atOf P3 = i3
  clear hP3 hv3
  go_wp2_with fail
  refine (check_ok _ w3 (HV.out.below B3.out) ?_).mono ?_
  · (try simp [ba_mk]); unfold maxLen; omega
  rintro e w4 ⟨rfl, b4⟩
  have B4 := Lib.hid (B3.out.trans (b4.mono B3.out.size))
  clear b4
  rw [join_list]
  obtain ⟨P4, hP4⟩ : ∃ P, P = parseT (joinB 43 a.data.toList b.data.toList) := ⟨_, rfl⟩
  rw [← hP4]
  obtain ⟨v4, hv4⟩ : ∃ v, v = errOf P4 := ⟨_, rfl⟩
  rw [← hv4]
  have HP4 := Lib.hid hP4
  have HE4 := Lib.hid hv4
  generalize atOf P4 = i4
  clear hP4 hv4
  go_wp2_with fail
  refine (check_ok _ w4 (HV.out.below B4.out) ?_).mono ?_
  · (try simp [ba_mk]); unfold maxLen; omega
  rintro e w5 ⟨rfl, b5⟩
  have B5 := Lib.hid (B4.out.trans (b5.mono B4.out.size))
  clear b5
  rw [min_list]
  obtain ⟨P5, hP5⟩ : ∃ P, P = parseT (minB 105 110 a.data.toList b.data.toList) := ⟨_, rfl⟩
  rw [← hP5]
  obtain ⟨v5, hv5⟩ : ∃ v, v = errOf P5 := ⟨_, rfl⟩
  rw [← hv5]
  have HP5 := Lib.hid hP5
  have HE5 := Lib.hid hv5
  generalize atOf P5 = i5
  clear hP5 hv5
  rcases err_cases P2 with ⟨e2, t2, p2⟩ | ⟨k2, j2, p2, e2⟩
  rotate_left
  · have ev2 : v2 = errV j2 := HE2.out.trans e2
    clear p2 e2 HE2
    subst ev2
    unfold errV
    go_wp2_with fail
    go_ret
    exact ⟨rfl, B5.out⟩
  obtain rfl : v2 = .nilIface := HE2.out.trans e2
  have T2 := Lib.hid (HP2.out.symm.trans p2)
  clear e2 p2 HE2
  rcases err_cases P3 with ⟨e3, t3, p3⟩ | ⟨k3, j3, p3, e3⟩
  rotate_left
  · have ev3 : v3 = errV j3 := HE3.out.trans e3
    clear p3 e3 HE3
    subst ev3
    unfold errV
    go_wp2_with fail
    go_ret
    exact ⟨rfl, B5.out⟩
  obtain rfl : v3 = .nilIface := HE3.out.trans e3
  have T3 := Lib.hid (HP3.out.symm.trans p3)
  clear e3 p3 HE3
  rcases err_cases P4 with ⟨e4, t4, p4⟩ | ⟨k4, j4, p4, e4⟩
  rotate_left
  · have ev4 : v4 = errV j4 := HE4.out.trans e4
    clear p4 e4 HE4
    subst ev4
    unfold errV
    go_wp2_with fail
    go_ret
    exact ⟨rfl, B5.out⟩
  obtain rfl : v4 = .nilIface := HE4.out.trans e4
  have T4 := Lib.hid (HP4.out.symm.trans p4)
  clear e4 p4 HE4
  rcases err_cases P5 with ⟨e5, t5, p5⟩ | ⟨k5, j5, p5, e5⟩
  rotate_left
  · have ev5 : v5 = errV j5 := HE5.out.trans e5
    clear p5 e5 HE5
    subst ev5
    unfold errV
    go_wp2_with fail
    go_ret
    exact ⟨rfl, B5.out⟩
  obtain rfl : v5 = .nilIface := HE5.out.trans e5
  have T5 := Lib.hid (HP5.out.symm.trans p5)
  clear e5 p5 HE5
  have hj := Lib.hid (sure_of_join T2.out T3.out T4.out)
  have hlj := Lib.hid (join_len T4.out)
  have hlm := Lib.hid (min_len T5.out)
  have hljs : Hid (b.data.toList.length + a.data.toList.length + 5 ≤ 120) := by have := hlj.out; show _ ≤ _; omega
  have hlms : Hid (b.data.toList.length + a.data.toList.length + 6 ≤ 120) := by have := hlm.out; show _ ≤ _; omega
  clear HP2 HP3 HP4 HP5
  go_wp2_with fail
  refine (eval_tree _ n s w5 (HV.out.below B5.out) ?_ HN.out HS.out (t := (.bin 43 t2 t3)) ?_).mono ?_
  · (try simp [ba_mk]); unfold maxLen; omega
  · rw [join_list]; exact (join_sure hj.out.1 hj.out.2 43 (by decide) hlj.out)
  rintro e w6 ⟨rfl, b6⟩
  have B6 := Lib.hid (B5.out.trans (b6.mono B5.out.size))
  clear b6
  go_wp2_with fail
  refine (eval_tree _ n s w6 (HV.out.below B6.out) ?_ HN.out HS.out (t := (.bin 43 t3 t2)) ?_).mono ?_
  · (try simp [ba_mk]); unfold maxLen; omega
  · rw [join_list]; exact (join_sure hj.out.2 hj.out.1 43 (by decide) hljs.out)
  rintro e w7 ⟨rfl, b7⟩
  have B7 := Lib.hid (B6.out.trans (b7.mono B6.out.size))
  clear b7
  rw [show (Tr.bin 43 t3 t2).val n s = (Tr.bin 43 t2 t3).val n s from by show wrap64 _ = wrap64 _; rw [Int.add_comm]]
  generalize (Tr.bin 43 t2 t3).val n s = x1
  go_wp2_with fail
  refine (eval_tree _ n s w7 (HV.out.below B7.out) ?_ HN.out HS.out (t := (.bin 109 t2 t3)) ?_).mono ?_
  · (try simp [ba_mk]); unfold maxLen; omega
  · rw [min_list]; exact (min_sure hj.out.1 hj.out.2 105 110 109 (.inl ⟨rfl, rfl, rfl⟩) hlm.out)
  rintro e w8 ⟨rfl, b8⟩
  have B8 := Lib.hid (B7.out.trans (b8.mono B7.out.size))
  clear b8
  go_wp2_with fail
  refine (eval_tree _ n s w8 (HV.out.below B8.out) ?_ HN.out HS.out (t := (.bin 109 t3 t2)) ?_).mono ?_
  · (try simp [ba_mk]); unfold maxLen; omega
  · rw [min_list]; exact (min_sure hj.out.2 hj.out.1 105 110 109 (.inl ⟨rfl, rfl, rfl⟩) hlms.out)
  rintro e w9 ⟨rfl, b9⟩
  have B9 := Lib.hid (B8.out.trans (b9.mono B8.out.size))
  clear b9
  rw [show (Tr.bin 109 t3 t2).val n s = (Tr.bin 109 t2 t3).val n s from by show min _ _ = min _ _; rw [Int.min_comm]]
  generalize (Tr.bin 109 t2 t3).val n s = x2
  go_wp2_with fail
  refine (eval_tree _ n s w9 (HV.out.below B9.out) ?_ HN.out HS.out (t := (.bin 60 t2 t3)) ?_).mono ?_
  · (try simp [ba_mk]); unfold maxLen; omega
  · rw [join_list]; exact (join_sure hj.out.1 hj.out.2 60 (by decide) hlj.out)
  rintro e w10 ⟨rfl, b10⟩
  have B10 := Lib.hid (B9.out.trans (b10.mono B9.out.size))
  clear b10
  go_wp2_with fail
  refine (eval_tree _ n s w10 (HV.out.below B10.out) ?_ HN.out HS.out (t := (.bin 62 t3 t2)) ?_).mono ?_
  · (try simp [ba_mk]); unfold maxLen; omega
  · rw [join_list]; exact (join_sure hj.out.2 hj.out.1 62 (by decide) hljs.out)
  rintro e w11 ⟨rfl, b11⟩
  have B11 := Lib.hid (B10.out.trans (b11.mono B10.out.size))
  clear b11
  go_wp2_with fail
  refine (eval_tree _ n s w11 (HV.out.below B11.out) ?_ HN.out HS.out (t := (.bin 61 t2 t3)) ?_).mono ?_
  · (try simp [ba_mk]); unfold maxLen; omega
  · rw [join_list]; exact (join_sure hj.out.1 hj.out.2 61 (by decide) hlj.out)
  rintro e w12 ⟨rfl, b12⟩
  have B12 := Lib.hid (B11.out.trans (b12.mono B11.out.size))
  clear b12
  go_wp2_with fail
  refine (eval_tree _ n s w12 (HV.out.below B12.out) ?_ HN.out HS.out (t := (.bin 60 t3 t2)) ?_).mono ?_
  · (try simp [ba_mk]); unfold maxLen; omega
  · rw [join_list]; exact (join_sure hj.out.2 hj.out.1 60 (by decide) hljs.out)
  rintro e w13 ⟨rfl, b13⟩
  have B13 := Lib.hid (B12.out.trans (b13.mono B12.out.size))
  clear b13
  rw [show (Tr.bin 62 t3 t2).val n s = b2i (decide (t2.val n s < t3.val n s)) from rfl]
  rw [show (Tr.bin 60 t2 t3).val n s = b2i (decide (t2.val n s < t3.val n s)) from rfl]
  rw [show (Tr.bin 61 t2 t3).val n s = b2i (t2.val n s == t3.val n s) from rfl]
  rw [show (Tr.bin 60 t3 t2).val n s = b2i (decide (t3.val n s < t2.val n s)) from rfl]
  have hs1 := lt_eq_gt (t2.val n s) (t3.val n s)
  have q1 := b2i_01 (decide (t2.val n s < t3.val n s))
  have q2 := b2i_01 (t2.val n s == t3.val n s)
  have q3 := b2i_01 (decide (t3.val n s < t2.val n s))
  generalize b2i (decide (t2.val n s < t3.val n s)) = y1 at hs1 q1 ⊢
  generalize b2i (t2.val n s == t3.val n s) = y2 at hs1 q2 ⊢
  generalize b2i (decide (t3.val n s < t2.val n s)) = y3 at hs1 q3 ⊢
  obtain ⟨q1a, q1b⟩ := q1
  obtain ⟨q2a, q2b⟩ := q2
  obtain ⟨q3a, q3b⟩ := q3
  have hs2 : (y1 + y2 + y3 == 1) = true := by simp [hs1]
  clear hs1
  go_wp2_with fail
  go_ret
  exact ⟨rfl, B13.out⟩
end Go.Proofs.YtojkidaneggabaaDoor
