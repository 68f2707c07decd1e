/-
  The walk of ExprChecks: it returns true. Conditions: the two variables of Atoi's errors hold errors; the table of powers of ten reads as Go's text lays it; errors.errorType is the handle of its type.
-/
import Derived.Test.YtfndhfekbbbliaaGreatDoorPackE
import Derived.Test.YtfndhfekbbbliaaGreatDoorPackH
import Derived.Test.YtfndhfekbbbliaaGreatDoorPackI
namespace Go.Proofs.YtfndhfekbbbliaaGreatDoor
open Go.RowKit Go.Shelf
set_option linter.unusedVariables false

theorem error_same (k : Int) (w : World) (hg : ErrVar w) : Calls Tryz.prog 11 #[errV k, .int .i64 k] w fun e w' => e = .returned (.bool true) ∧ Below w.heap.size w w' := by
  refine (error_errno k k w hg).mono ?_
  rintro e w' ⟨rfl, hb⟩
  exact ⟨by simp, hb⟩
theorem error_nil0 (w : World) : Calls Tryz.prog 11 #[.nilIface, .int .i64 0] w fun e w' => e = .returned (.bool true) ∧ w' = w := by
  refine (error_nil 0 w).mono ?_
  rintro e w' ⟨rfl, rfl⟩
  exact ⟨rfl, rfl⟩
set_option maxRecDepth 100000 in
set_option maxHeartbeats 4000000 in
theorem exprChecks_walk (a : ByteArray) (n s : Int) (w : World) (wa : a.size ≤ maxLen) (sa : a.size ≤ 140737488351232) (wn : (Lit.int .i64 n).wf = true) (ws : (Lit.int .i64 s).wf = true) (hv : ErrVars w) (hT : PowTab w) (hE : ErrVar w) :
    Calls Tryz.prog 3 #[.string a, .int .i64 n, .int .i64 s] w fun e w' => e = .returned (.bool true) ∧ Below w.heap.size w w' := by
  have HN := Lib.hid (i64_of_wf wn)
  have HS := Lib.hid (i64_of_wf ws)
  have HV := Lib.hid hv
  have HT := Lib.hid hT
  have HE := Lib.hid hE
  have HPOS := Lib.hid hE.pos
  have hwa : a.size ≤ maxLen := wa
  have HWA := Lib.hid hwa
  have HPP := Lib.hid (pparse_ok a w)
  clear hv wn ws wa hT hE hwa
  go_enter Tryz.func3, Tryz.ntmps3
  go_wp2_with fail
  refine HPP.out.mono ?_
  clear HPP
  rintro e w1 ⟨b1, hr⟩
  have HB1 := Lib.hid b1
  have HCK := Lib.hid (fun W hb => check_ok a W (HV.out.below (w' := W) hb) HWA.out)
  cases hp : parseT a.data.toList with
  | fault k j =>
    rw [hp] at hr
    obtain ⟨rfl, hj⟩ := hr
    have hj0 : (j == 0) = false := beq_eq_false_iff_ne.2 hj
    have HP := Lib.hid hp
    rw [hp] at HCK
    clear hp b1 hj
    have b2 := HB1.out.alloc HB1.out.size (.cells #[.int .i64 0, .int .i64 0, .slice none 0 0] 24)
    have B2 := Lib.hid b2
    clear b2
    go_wp2_with fail
    refine (HCK.out _ B2.out).mono ?_
    rintro e w2 ⟨rfl, b3⟩
    have B3 := Lib.hid (B2.out.trans (b3.mono B2.out.size))
    clear b3 B2 HCK
    simp only [atOf, errOf]
    go_wp2_with fail
    refine (error_same j w2 (HE.out.below B3.out HPOS.out)).mono ?_
    rintro e w3 ⟨rfl, b4⟩
    have B4 := Lib.hid (B3.out.trans (b4.mono B3.out.size))
    clear b4 B3
    go_wp2_with fail
    refine (print_fault a w3 (HV.out.below B4.out) HWA.out HP.out).mono ?_
    rintro e w4 ⟨rfl, b5⟩
    have B5 := Lib.hid (B4.out.trans (b5.mono B4.out.size))
    clear b5 B4
    go_wp2_with fail
    refine (error_same j w4 (HE.out.below B5.out HPOS.out)).mono ?_
    rintro e w5 ⟨rfl, b6⟩
    have B6 := Lib.hid (B5.out.trans (b6.mono B5.out.size))
    clear b6 B5
    go_wp2_with fail
    refine (eval_fault a n s w5 (HV.out.below B6.out) HWA.out HP.out).mono ?_
    rintro e w6 ⟨rfl, b7⟩
    have B7 := Lib.hid (B6.out.trans (b7.mono B6.out.size))
    clear b7 B6
    go_wp2_with fail
    refine (error_same j w6 (HE.out.below B7.out HPOS.out)).mono ?_
    rintro e w7 ⟨rfl, b8⟩
    have B8 := Lib.hid (B7.out.trans (b8.mono B7.out.size))
    clear b8 B7
    go_wp2_with fail
    go_ret
    exact ⟨rfl, B8.out⟩
  | tree t =>
    rw [hp] at hr
    obtain ⟨o, k, A, c, rfl, ht⟩ := hr
    obtain ⟨hback, hlen, hfine⟩ := print_back hp
    have hl : t.raw.length ≤ 120 := by have := (parse_ok hp).1; omega
    have HL := Lib.hid hl
    have HP := Lib.hid hp
    rw [hp] at HCK
    have ht1 : TreeAt (· < w1.heap.size) w1 (.agg #[.int .i64 o, .int .i64 k, .slice A c c]) t := ht.more fun k hk => hk.2
    have b2 := HB1.out.alloc HB1.out.size (.cells #[.int .i64 o, .int .i64 k, .slice A c c] 24)
    have hb12 : Below w1.heap.size w1 (w1.alloc (.cells #[.int .i64 o, .int .i64 k, .slice A c c] 24)) := (Below.refl _ _).alloc (Nat.le_refl _) _
    have HTR := Lib.hid (ht1.under hb12)
    have B2 := Lib.hid b2
    have HVR : Hid (RTVar (w1.alloc (.cells #[.int .i64 o, .int .i64 k, .slice A c c] 24)) w1.heap.size (.int .i64 o) (.int .i64 k) (.slice A c c)) := RTVar.new _ _ _ _
    have HSZ : Hid (w1.heap.size < (w1.alloc (.cells #[.int .i64 o, .int .i64 k, .slice A c c] 24)).heap.size) := block_lt HVR.out
    clear b2 hp b1 ht ht1 hb12 hback hlen hfine hl
    go_wp2_with fail
    generalize w1.heap.size = g at *
    generalize w1.alloc (.cells #[.int .i64 o, .int .i64 k, .slice A c c] 24) = W2 at *
    refine (HCK.out _ B2.out).mono ?_
    rintro e w2 ⟨rfl, b3⟩
    have B3 := Lib.hid (B2.out.trans (b3.mono B2.out.size))
    have HTR3 := Lib.hid (HTR.out.under b3)
    have HVR3 : Hid (RTVar w2 g (.int .i64 o) (.int .i64 k) (.slice A c c)) := (b3.block _ HSZ.out).trans HVR.out
    clear b3 B2 HCK HTR HVR HSZ
    simp only [atOf, errOf]
    go_wp2_with fail
    refine (error_nil0 w2).mono ?_
    rintro e w3 ⟨rfl, rfl⟩
    obtain ⟨x0, x1, x2, _⟩ := HVR3.out.cells
    have hg := block_lt HVR3.out
    go_wp2_with fail
    refine (rtext_ok t _ w3 HTR3.out HL.out).mono ?_
    rintro e w4 ⟨rfl, b4⟩
    have B4 := Lib.hid (B3.out.trans (b4.mono B3.out.size))
    have HTR4 := Lib.hid (HTR3.out.under b4)
    have HVR4 : Hid (RTVar w4 g (.int .i64 o) (.int .i64 k) (.slice A c c)) := (b4.block _ hg).trans HVR3.out
    clear b4 B3 HTR3 HVR3 x0 x1 x2 hg
    obtain ⟨x0, x1, x2, _⟩ := HVR4.out.cells
    obtain ⟨p, hpp⟩ : ∃ p : ByteArray, p = ⟨t.raw.toArray⟩ := ⟨_, rfl⟩
    rw [← hpp]
    have HPX : Hid (bs t.raw = p) := hpp.symm
    clear hpp
    go_wp2_with fail
    refine (value_ok t _ n s w4 HTR4.out HN.out HS.out).mono ?_
    rintro e w5 ⟨rfl, hx, b5⟩
    have B5 := Lib.hid (B4.out.trans (b5.mono B4.out.size))
    clear b5 B4 HTR4 HVR4 x0 x1 x2 hx
    obtain ⟨xv, hxv⟩ : ∃ xv, xv = t.val n s := ⟨_, rfl⟩
    rw [← hxv]
    have HXV := Lib.hid hxv
    clear hxv
    go_wp2_with fail
    refine (print_tree a w5 (HV.out.below B5.out) (HT.out.below B5.out) HWA.out HP.out).mono ?_
    rintro e w6 ⟨rfl, b6⟩
    have B6 := Lib.hid (B5.out.trans (b6.mono B5.out.size))
    clear b6 B5
    rw [HPX.out]
    go_wp2_with fail
    refine (error_nil0 w6).mono ?_
    rintro e w7 ⟨rfl, rfl⟩
    go_wp2_with fail
    refine (eval_tree a n s w7 (HV.out.below B6.out) HWA.out HN.out HS.out HP.out).mono ?_
    rintro e w8 ⟨rfl, b7⟩
    have B7 := Lib.hid (B6.out.trans (b7.mono B6.out.size))
    clear b7 B6
    rw [← HXV.out]
    go_wp2_with fail
    refine (error_nil0 w8).mono ?_
    rintro e w9 ⟨rfl, rfl⟩
    go_wp2_with fail
    go_ret
    exact ⟨rfl, B7.out⟩
end Go.Proofs.YtfndhfekbbbliaaGreatDoor
