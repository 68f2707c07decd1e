/-
  The walk of ExprJoins: it returns true. Conditions: the two variables of Atoi's errors hold errors.
-/
import Derived.Test.YtojkidaneggabaaDoorExprTexts
import Derived.Deep.CutRange
namespace Go.Proofs.YtojkidaneggabaaDoor
open Go.RowKit Go.Shelf
set_option linter.unusedVariables false


theorem fact_tree : parseT (⟨#[110, 62, 51, 63, 110, 42, 50, 58, 45, 115]⟩ : ByteArray).data.toList = .tree (.sel (.bin 62 (.nam true) (.num 3)) (.bin 42 (.nam true) (.num 2)) (.neg (.nam false))) := by kernel_rfl
/-- What Eval returns of a text that is a tree's, or too deep, or too long. -/
theorem eval_is (x : ByteArray) (n s : Int) (w : World) (hv : ErrVars w) (hsz : x.size ≤ maxLen) (hn : I64_ n) (hs : I64_ s) {t : Tr} (h : IsTree x.data.toList t) {v : Int} (hval : t.val n s = v) :
    Calls Tryd.prog 7 #[.string x, .int .i64 n, .int .i64 s] w fun e w' => (e = .returned (.tuple #[.int .i64 v, .nilIface]) ∨ e = .returned (.tuple #[.int .i64 0, .iface 40 (.int .i64 4)])) ∧ Below w.heap.size w w' := by
  subst hval
  rcases h with h | ⟨k, h⟩
  · exact (eval_tree x n s w hv hsz hn hs h).mono fun e w' ⟨h1, h2⟩ => ⟨.inl h1, h2⟩
  · exact (eval_fault x n s w hv hsz h).mono fun e w' ⟨h1, h2⟩ => ⟨.inr h1, h2⟩
theorem eval_or (x : ByteArray) (n s : Int) (w : World) (hv : ErrVars w) (hsz : x.size ≤ maxLen) (hn : I64_ n) (hs : I64_ s) {t : Tr} (h : IsTree x.data.toList t) {v : Int} (hval : t.val n s = v) :
    Calls Tryd.prog 7 #[.string x, .int .i64 n, .int .i64 s] w fun e w' => ∃ p q, e = .returned (.tuple #[.int .i64 p, q]) ∧ Hid ((p = v ∧ q = .nilIface) ∨ (p = 0 ∧ q = .iface 40 (.int .i64 4))) ∧ Below w.heap.size w w' :=
  (eval_is x n s w hv hsz hn hs h hval).mono fun e w' ⟨h1, h2⟩ => h1.elim (fun h => ⟨_, _, h, .inl ⟨rfl, rfl⟩, h2⟩) (fun h => ⟨_, _, h, .inr ⟨rfl, rfl⟩, h2⟩)
theorem b2i_one (b : Bool) : (b2i b == 1) = b := by cases b <;> decide
theorem size_list (a : ByteArray) : a.data.toList.length = a.size := by simp
set_option maxRecDepth 100000 in
set_option maxHeartbeats 4000000 in
theorem exprJoins_walk (a b c : ByteArray) (n s : Int) (w : World) (wa : a.size ≤ maxLen) (sa : a.size ≤ 140737488351232) (wb : b.size ≤ maxLen) (sb : b.size ≤ 140737488351232) (wc : c.size ≤ maxLen) (sc : c.size ≤ 140737488351232) (wn : (Lit.int .i64 n).wf = true) (ws : (Lit.int .i64 s).wf = true) (hv : ErrVars w) :
    Calls Tryd.prog 4 #[.string a, .string b, .string c, .int .i64 n, .int .i64 s] w fun e w' => e = .returned (.bool true) ∧ Below w.heap.size w w' := by
  have HN := Lib.hid (i64_of_wf wn)
  have HS := Lib.hid (i64_of_wf ws)
  have HV := Lib.hid hv
  have h5 : I64_ 5 := by unfold I64_; omega
  have h1 : I64_ 1 := by unfold I64_; omega
  have H1 := Lib.hid (eval_tree ⟨#[110, 62, 51, 63, 110, 42, 50, 58, 45, 115]⟩ 5 1 w hv (by decide) h5 h1 fact_tree)
  clear hv wn ws wa wb wc
  go_enter Tryd.func4, Tryd.ntmps4
  go_wp2_with fail
  refine H1.out.mono ?_
  rintro e w1 ⟨rfl, b1⟩
  have B1 := Lib.hid b1
  clear b1
  clear H1 h5 h1
  rw [show (Tr.sel (.bin 62 (.nam true) (.num 3)) (.bin 42 (.nam true) (.num 2)) (.neg (.nam false))).val 5 1 = 10 from by decide +kernel]
  go_wp2_with fail
  refine (eval_ok_any a n s w1 (HV.out.below B1.out) (by unfold maxLen; omega) HN.out HS.out).mono ?_
  rintro e w2 ⟨rfl, b2⟩
  have B2 := Lib.hid (B1.out.trans (b2.mono B1.out.size))
  clear b2
  obtain ⟨P2, hP2⟩ : ∃ P, P = parseT a.data.toList := ⟨_, rfl⟩
  rw [← hP2]
  obtain ⟨v2, hv2⟩ : ∃ v, v = errOf P2 := ⟨_, rfl⟩
  rw [← hv2]
  obtain ⟨x2, hx2⟩ : ∃ x, x = valOf n s P2 := ⟨_, rfl⟩
  rw [← hx2]
  have HP2 := Lib.hid hP2
  have HE2 := Lib.hid hv2
  have HX2 := Lib.hid hx2
  clear hP2 hv2 hx2
  go_wp2_with fail
  refine (eval_ok_any b n s w2 (HV.out.below B2.out) (by unfold maxLen; omega) HN.out HS.out).mono ?_
  rintro e w3 ⟨rfl, b3⟩
  have B3 := Lib.hid (B2.out.trans (b3.mono B2.out.size))
  clear b3
  obtain ⟨P3, hP3⟩ : ∃ P, P = parseT b.data.toList := ⟨_, rfl⟩
  rw [← hP3]
  obtain ⟨v3, hv3⟩ : ∃ v, v = errOf P3 := ⟨_, rfl⟩
  rw [← hv3]
  obtain ⟨x3, hx3⟩ : ∃ x, x = valOf n s P3 := ⟨_, rfl⟩
  rw [← hx3]
  have HP3 := Lib.hid hP3
  have HE3 := Lib.hid hv3
  have HX3 := Lib.hid hx3
  clear hP3 hv3 hx3
  go_wp2_with fail
  refine (eval_ok_any c n s w3 (HV.out.below B3.out) (by unfold maxLen; omega) HN.out HS.out).mono ?_
  rintro e w4 ⟨rfl, b4⟩
  have B4 := Lib.hid (B3.out.trans (b4.mono B3.out.size))
  clear b4
  obtain ⟨P4, hP4⟩ : ∃ P, P = parseT c.data.toList := ⟨_, rfl⟩
  rw [← hP4]
  obtain ⟨v4, hv4⟩ : ∃ v, v = errOf P4 := ⟨_, rfl⟩
  rw [← hv4]
  obtain ⟨x4, hx4⟩ : ∃ x, x = valOf n s P4 := ⟨_, rfl⟩
  rw [← hx4]
  have HP4 := Lib.hid hP4
  have HE4 := Lib.hid hv4
  have HX4 := Lib.hid hx4
  clear hP4 hv4 hx4
  rcases err_cases P2 with ⟨e2, t2, p2⟩ | ⟨k2, j2, p2, e2⟩
  rotate_left
  · have ev2 : v2 = errV j2 := HE2.out.trans e2
    clear p2 e2 HE2 HX2
    subst ev2
    unfold errV
    go_wp2_with fail
    go_ret
    exact ⟨rfl, B4.out⟩
  obtain rfl : v2 = .nilIface := HE2.out.trans e2
  have T2 := Lib.hid (HP2.out.symm.trans p2)
  have X2 : Hid (t2.val n s = x2) := by have h := HX2.out; rw [p2] at h; exact h.symm
  clear e2 p2 HE2 HX2 HP2
  rcases err_cases P3 with ⟨e3, t3, p3⟩ | ⟨k3, j3, p3, e3⟩
  rotate_left
  · have ev3 : v3 = errV j3 := HE3.out.trans e3
    clear p3 e3 HE3 HX3
    subst ev3
    unfold errV
    go_wp2_with fail
    go_ret
    exact ⟨rfl, B4.out⟩
  obtain rfl : v3 = .nilIface := HE3.out.trans e3
  have T3 := Lib.hid (HP3.out.symm.trans p3)
  have X3 : Hid (t3.val n s = x3) := by have h := HX3.out; rw [p3] at h; exact h.symm
  clear e3 p3 HE3 HX3 HP3
  rcases err_cases P4 with ⟨e4, t4, p4⟩ | ⟨k4, j4, p4, e4⟩
  rotate_left
  · have ev4 : v4 = errV j4 := HE4.out.trans e4
    clear p4 e4 HE4 HX4
    subst ev4
    unfold errV
    go_wp2_with fail
    go_ret
    exact ⟨rfl, B4.out⟩
  obtain rfl : v4 = .nilIface := HE4.out.trans e4
  have T4 := Lib.hid (HP4.out.symm.trans p4)
  have X4 : Hid (t4.val n s = x4) := by have h := HX4.out; rw [p4] at h; exact h.symm
  clear e4 p4 HE4 HX4 HP4
  by_cases hlong : 100 < a.size + b.size + c.size
  · have d1 : decide (100 < a.size + b.size + c.size) = true := decide_eq_true hlong
    go_wp2_with fail
    go_ret
    exact ⟨rfl, B4.out⟩
  have d1 : decide (100 < a.size + b.size + c.size) = false := decide_eq_false hlong
  have hb1 := b2i_one (decide (x2 < x3))
  obtain ⟨xz, hxz⟩ : ∃ xz, xz = (if x2 = 0 then x4 else x3) := ⟨_, rfl⟩
  have HXZ := Lib.hid hxz
  clear hxz
  go_wp2_with fail
  refine (eval_or _ n s w4 (HV.out.below B4.out) ?_ HN.out HS.out (t := (.bin 43 t2 t3)) (by rw [join_list]; exact join_tree 43 (by decide) T2.out T3.out) (v := (wrap64 (x2 + x3))) (by show opVal 43 (t2.val n s) (t3.val n s) = _; rw [X2.out, X3.out]; rfl)).mono ?_
  · (try simp [ba_mk]); unfold maxLen; omega
  rintro e w5 ⟨p5, q5, rfl, D5, b5⟩
  have B5 := Lib.hid (B4.out.trans (b5.mono B4.out.size))
  clear b5
  go_upto_region 10 with (fail)
  go_cut [93] from 85 to 92 (fun bv wx => bv = .bool false ∧ w5 = wx)
  case first =>
    rcases D5.out with ⟨rfl, rfl⟩ | ⟨rfl, rfl⟩
    all_goals
      go_wp2_with fail
      go_meet
      case rel => exact ⟨rfl, rfl⟩
  case rest =>
    obtain ⟨rfl, rfl⟩ := hcut
    clear D5
    go_wp2_with fail
    refine (eval_or _ n s w5 (HV.out.below B5.out) ?_ HN.out HS.out (t := (.bin 42 t2 t3)) (by rw [join_list]; exact join_tree 42 (by decide) T2.out T3.out) (v := (wrap64 (x2 * x3))) (by show opVal 42 (t2.val n s) (t3.val n s) = _; rw [X2.out, X3.out]; rfl)).mono ?_
    · (try simp [ba_mk]); unfold maxLen; omega
    rintro e w6 ⟨p6, q6, rfl, D6, b6⟩
    have B6 := Lib.hid (B5.out.trans (b6.mono B5.out.size))
    clear b6
    go_upto_region 13 with (fail)
    go_cut [114] from 106 to 113 (fun bv wx => bv = .bool false ∧ w6 = wx)
    case first =>
      rcases D6.out with ⟨rfl, rfl⟩ | ⟨rfl, rfl⟩
      all_goals
        go_wp2_with fail
        go_meet
        case rel => exact ⟨rfl, rfl⟩
    case rest =>
      obtain ⟨rfl, rfl⟩ := hcut
      clear D6
      go_wp2_with fail
      refine (eval_or _ n s w6 (HV.out.below B6.out) ?_ HN.out HS.out (t := (.bin 60 t2 t3)) (by rw [join_list]; exact join_tree 60 (by decide) T2.out T3.out) (v := (b2i (decide (x2 < x3)))) (by show opVal 60 (t2.val n s) (t3.val n s) = _; rw [X2.out, X3.out]; rfl)).mono ?_
      · (try simp [ba_mk]); unfold maxLen; omega
      rintro e w7 ⟨p7, q7, rfl, D7, b7⟩
      have B7 := Lib.hid (B6.out.trans (b7.mono B6.out.size))
      clear b7
      go_upto_region 16 with (fail)
      go_cut [136] from 127 to 135 (fun bv wx => bv = .bool false ∧ w7 = wx)
      case first =>
        rcases D7.out with ⟨rfl, rfl⟩ | ⟨rfl, rfl⟩
        all_goals
          go_wp2_with fail
          go_meet
          case rel => exact ⟨rfl, rfl⟩
      case rest =>
        obtain ⟨rfl, rfl⟩ := hcut
        clear D7
        go_wp2_with fail
        refine (eval_or _ n s w7 (HV.out.below B7.out) ?_ HN.out HS.out (t := (.sel t2 t3 t4)) (by rw [sel_list]; exact sel_tree T2.out T3.out T4.out) (v := xz) (by show (if t2.val n s = 0 then t4.val n s else t3.val n s) = _; rw [X2.out, X3.out, X4.out, HXZ.out])).mono ?_
        · (try simp [ba_mk]); unfold maxLen; omega
        rintro e w8 ⟨p8, q8, rfl, D8, b8⟩
        have B8 := Lib.hid (B7.out.trans (b8.mono B7.out.size))
        clear b8
        go_upto_region 19 with (fail)
        go_cut [171] from 152 to 170 (fun bv wx => bv = .bool false ∧ w8 = wx)
        case first =>
          by_cases hx0 : x2 = 0
          · have e0 : (x2 == 0) = true := by simp [hx0]
            have e1 : (x2 != 0) = false := by simp [hx0]
            have hz : xz = x4 := by rw [HXZ.out, if_pos hx0]
            have HZ := Lib.hid hz
            rw [hz] at D8
            clear hz hx0
            rcases D8.out with ⟨rfl, rfl⟩ | ⟨rfl, rfl⟩
            all_goals
              go_wp2_with fail
              go_meet
              case rel => exact ⟨rfl, rfl⟩
          · have e0 : (x2 == 0) = false := by simp [hx0]
            have e1 : (x2 != 0) = true := by simp [hx0]
            have hz : xz = x3 := by rw [HXZ.out, if_neg hx0]
            rw [hz] at D8
            clear hz hx0
            rcases D8.out with ⟨rfl, rfl⟩ | ⟨rfl, rfl⟩
            all_goals
              go_wp2_with fail
              go_meet
              case rel => exact ⟨rfl, rfl⟩
        case rest =>
          obtain ⟨rfl, rfl⟩ := hcut
          clear D8
          go_wp2_with fail
          refine (eval_or _ n s w8 (HV.out.below B8.out) ?_ HN.out HS.out (t := (.bin 109 t2 t3)) (by rw [min_list]; exact min_tree 105 110 109 (.inl ⟨rfl, rfl, rfl⟩) T2.out T3.out) (v := (min x2 x3)) (by show min (t2.val n s) (t3.val n s) = _; rw [X2.out, X3.out])).mono ?_
          · (try simp [ba_mk]); unfold maxLen; omega
          rintro e w9 ⟨p9, q9, rfl, D9, b9⟩
          have B9 := Lib.hid (B8.out.trans (b9.mono B8.out.size))
          clear b9
          go_wp2_with fail
          refine (eval_or _ n s w9 (HV.out.below B9.out) ?_ HN.out HS.out (t := (.bin 77 t2 t3)) (by rw [min_list]; exact min_tree 97 120 77 (.inr ⟨rfl, rfl, rfl⟩) T2.out T3.out) (v := (max x2 x3)) (by show max (t2.val n s) (t3.val n s) = _; rw [X2.out, X3.out])).mono ?_
          · (try simp [ba_mk]); unfold maxLen; omega
          rintro e w10 ⟨p10, q10, rfl, D10, b10⟩
          have B10 := Lib.hid (B9.out.trans (b10.mono B9.out.size))
          clear b10
          rcases D9.out with ⟨rfl, rfl⟩ | ⟨rfl, rfl⟩
          · rcases D10.out with ⟨rfl, rfl⟩ | ⟨rfl, rfl⟩
            · rcases Int.le_total x2 x3 with hle | hle
              · have hmm : min x2 x3 = x2 ∧ max x2 x3 = x3 := ⟨Int.min_eq_left hle, Int.max_eq_right hle⟩
                have dle : decide (x2 ≤ x3) = true := decide_eq_true hle
                rw [hmm.1, hmm.2]
                clear hmm
                go_wp2_with fail
                go_ret
                exact ⟨by simp, B10.out⟩
              · have hmm : min x2 x3 = x3 ∧ max x2 x3 = x2 := ⟨Int.min_eq_right hle, Int.max_eq_left hle⟩
                have dle : decide (x3 ≤ x2) = true := decide_eq_true hle
                rw [hmm.1, hmm.2]
                clear hmm
                go_wp2_with fail
                all_goals
                  go_ret
                  exact ⟨rfl, B10.out⟩
            · go_wp2_with fail
              go_ret
              exact ⟨rfl, B10.out⟩
          · go_wp2_with fail
            go_ret
            exact ⟨rfl, B10.out⟩
end Go.Proofs.YtojkidaneggabaaDoor