/-
  Several texts of this claim in one, in build order; each begins with its own remark, which says what it proves and under which conditions.
-/
import Derived.Test.YtfndhfekbbbliaaGreatDoorPackE
import Derived.Test.YtfndhfekbbbliaaGreatDoorPackF
import Derived.Lib.ItoaLen
import Derived.Deep.RegionHeld3

/-
  Package den: the contract of Apply, kind by kind (printed by denapply.py). Conditions: the node's text is a string's, the numbers are ints, the two variables of Atoi's errors hold errors.
-/
namespace Go.Proofs.YtfndhfekbbbliaaGreatDoor
open Go.RowKit Go.Shelf
set_option linter.unusedVariables false
set_option maxRecDepth 100000 in
set_option maxHeartbeats 1000000 in
theorem dapply_filtered_has (n : Nod) (A0 : Option Addr) (c0 : Nat) (h : Hld) (r : Rec) (input : Int) (w : World) (hv : ErrVars w) (hsz : n.text.size ≤ maxLen) (hr : RecOk r) (hi : I64 h.a ∧ I64 h.b) (hk : n.kind = 3) (hx : evalOf n.text r.num 0 = 0) :
  Calls Tryz.prog 18 #[.agg #[.int .i64 n.kind, .slice A0 n.from_.length c0, .string n.text, .int .i64 n.n], hldV h, .bool true, recV r, .int .i64 input] w (AppPost (applyN n h true r input) w) := by
 obtain ⟨kind, from_, text, nn⟩ := n
 obtain ⟨hn, hkey, ha, hb⟩ := h
 obtain ⟨key, num, time⟩ := r
 simp only at hk hsz hi hx
 subst hk
 have HP : Hid (applyN ⟨3, from_, text, nn⟩ ⟨hn, hkey, ha, hb⟩ true ⟨key, num, time⟩ input = ⟨[], ⟨0, key, ha, hb⟩, true⟩) := by show _ = _; show ends_ (if evalOf text num 0 = 0 then [] else passR ⟨key, num, time⟩) _ _ = _; rw [if_pos hx]; rfl
 show Calls _ _ #[.agg #[.int .i64 3, .slice A0 from_.length c0, .string text, .int .i64 nn], .agg #[.int .i64 hn, .string hkey, .int .i64 ha, .int .i64 hb], .bool true, .agg #[.string key, .int .i64 num, .int .i64 time], .int .i64 input] w _
 have HR := Lib.hid hr
 have HV := Lib.hid hv
 have HI := Lib.hid hi
 clear hr hv hi
 go_enter Tryz.func18, Tryz.ntmps18
 go_upto_region 3 with (fail)
 go_region
 go_upto_region 6 with (fail)
 have hV := Vars.mk_ w (.int .i64 3) (.slice A0 from_.length c0) (.string text) (.int .i64 nn) ⟨0, key, ha, hb⟩ ⟨key, num, time⟩
 generalize ((((w.alloc _).alloc _).alloc _).alloc _).drew = W1 at hV ⊢
 generalize w.heap.size + 1 + 1 + 1 = b3 at hV ⊢
 generalize w.heap.size + 1 + 1 = b2 at hV ⊢
 generalize w.heap.size + 1 = b1 at hV ⊢
 generalize w.heap.size = b0 at hV ⊢
 obtain ⟨⟨n0, n2, n3⟩, ⟨h10, h11, h12, h13, h1f⟩, ⟨r0, r1, r2, rf⟩, ⟨_, _, _, _, s0, s1, s2, s3⟩, sf⟩ := hV.cells
 have HW := Lib.hid hV
 clear hV
 go_wp2_with fail
 have hb0 := HW.out.below
 refine (eval_ok_any text num 0 W1 (HV.out.below hb0) hsz (i64_of_wf HR.out.2.1) ⟨by omega, by omega⟩).mono ?_
 rintro e w2 ⟨rfl, hb2⟩
 have hV2 := HW.out.next hb2
 clear HW n0 n2 n3 h10 h11 h12 h13 h1f r0 r1 r2 rf s0 s1 s2 s3 sf hb0 hb2
 rw [← evalOf_val]
 obtain ⟨⟨n0, n2, n3⟩, ⟨h10, h11, h12, h13, h1f⟩, ⟨r0, r1, r2, rf⟩, ⟨_, _, _, _, s0, s1, s2, s3⟩, sf⟩ := hV2.cells
 have HW := Lib.hid hV2
 clear hV2
 generalize evalOf text num 0 = x at HP hx ⊢
 subst hx
 have HO := Lib.hid (show OwnS w2 44 3 none 0 ([] : List Rec).length (([] : List Rec).flatMap recCells) from OwnS.nil _ _ _)
 have HBL : Hid (∀ k, blk none = some k → w2.heap.size ≤ k) := nofun
 have HLT := Lib.hid HW.out.lt3
 have HLW := Lib.hid HW.out.below.size
 have HLB := Lib.hid HW.out.lt1
 go_upto_region 46 with (fail)
 go_region
 have hF := HW.out.fin HO.out HBL.out HLT.out HLW.out 0 (key) (ha) (hb)
 clear HW n0 n2 n3 h10 h11 h12 h13 h1f r0 r1 r2 rf s0 s1 s2 s3 sf HO HBL
 generalize ((((w2.setCell ⟨b3, 0, none⟩ _).setCell _ _).setCell _ _).setCell _ _).drew = W5 at hF ⊢
 obtain ⟨hh, h1, h2, h3⟩ := hF
 obtain ⟨s0, s1, s2, s3, sf⟩ := hh.cells
 have HX := Lib.hid (And.intro h1 (And.intro h2 h3))
 clear h1 h2 h3 hh
 go_wp2_with fail
 refine bodyPost_ret (v := .tuple #[.slice none 0 0, .agg #[.int .i64 0, .string (key), .int .i64 (ha), .int .i64 (hb)], .bool true]) (by simp [results, Tryz.results18, go_sem, s0, s1, s2, s3]) rfl ?_
 rw [HP.out]
 exact ⟨none, 0, rfl, HX.out⟩
set_option maxRecDepth 100000 in
set_option maxHeartbeats 1000000 in
theorem dapply_filter_has (n : Nod) (A0 : Option Addr) (c0 : Nat) (h : Hld) (r : Rec) (input : Int) (w : World) (hv : ErrVars w) (hsz : n.text.size ≤ maxLen) (hr : RecOk r) (hi : I64 h.a ∧ I64 h.b) (hk : n.kind = 3) (hx : ¬ evalOf n.text r.num 0 = 0) :
  Calls Tryz.prog 18 #[.agg #[.int .i64 n.kind, .slice A0 n.from_.length c0, .string n.text, .int .i64 n.n], hldV h, .bool true, recV r, .int .i64 input] w (AppPost (applyN n h true r input) w) := by
 obtain ⟨kind, from_, text, nn⟩ := n
 obtain ⟨hn, hkey, ha, hb⟩ := h
 obtain ⟨key, num, time⟩ := r
 simp only at hk hsz hi hx
 subst hk
 have HP : Hid (applyN ⟨3, from_, text, nn⟩ ⟨hn, hkey, ha, hb⟩ true ⟨key, num, time⟩ input = ⟨passR ⟨key, num, time⟩, ⟨0, key, ha, hb⟩, true⟩) := by show _ = _; show ends_ (if evalOf text num 0 = 0 then [] else passR ⟨key, num, time⟩) _ _ = _; rw [if_neg hx]; rfl
 show Calls _ _ #[.agg #[.int .i64 3, .slice A0 from_.length c0, .string text, .int .i64 nn], .agg #[.int .i64 hn, .string hkey, .int .i64 ha, .int .i64 hb], .bool true, .agg #[.string key, .int .i64 num, .int .i64 time], .int .i64 input] w _
 have HR := Lib.hid hr
 have HV := Lib.hid hv
 have HI := Lib.hid hi
 clear hr hv hi
 go_enter Tryz.func18, Tryz.ntmps18
 go_upto_region 3 with (fail)
 go_region
 go_upto_region 6 with (fail)
 have hV := Vars.mk_ w (.int .i64 3) (.slice A0 from_.length c0) (.string text) (.int .i64 nn) ⟨0, key, ha, hb⟩ ⟨key, num, time⟩
 generalize ((((w.alloc _).alloc _).alloc _).alloc _).drew = W1 at hV ⊢
 generalize w.heap.size + 1 + 1 + 1 = b3 at hV ⊢
 generalize w.heap.size + 1 + 1 = b2 at hV ⊢
 generalize w.heap.size + 1 = b1 at hV ⊢
 generalize w.heap.size = b0 at hV ⊢
 obtain ⟨⟨n0, n2, n3⟩, ⟨h10, h11, h12, h13, h1f⟩, ⟨r0, r1, r2, rf⟩, ⟨_, _, _, _, s0, s1, s2, s3⟩, sf⟩ := hV.cells
 have HW := Lib.hid hV
 clear hV
 go_wp2_with fail
 have hb0 := HW.out.below
 refine (eval_ok_any text num 0 W1 (HV.out.below hb0) hsz (i64_of_wf HR.out.2.1) ⟨by omega, by omega⟩).mono ?_
 rintro e w2 ⟨rfl, hb2⟩
 have hV2 := HW.out.next hb2
 clear HW n0 n2 n3 h10 h11 h12 h13 h1f r0 r1 r2 rf s0 s1 s2 s3 sf hb0 hb2
 rw [← evalOf_val]
 obtain ⟨⟨n0, n2, n3⟩, ⟨h10, h11, h12, h13, h1f⟩, ⟨r0, r1, r2, rf⟩, ⟨_, _, _, _, s0, s1, s2, s3⟩, sf⟩ := hV2.cells
 have HW := Lib.hid hV2
 clear hV2
 generalize evalOf text num 0 = x at HP hx ⊢
 have hx2 : (x == 0) = false := beq_eq_false_iff_ne.2 hx
 go_wp2_with fail
 refine (dpass_ok ⟨key, num, time⟩ w2 (HR.out.1)).mono ?_
 rintro e w4 ⟨A, c, rfl, ho, hbl, hb4⟩
 have hV4 := HW.out.next hb4
 have HO := Lib.hid ho
 have HBL := Lib.hid hbl
 have HLT := Lib.hid HW.out.lt3
 have HLW := Lib.hid HW.out.below.size
 have HLB := Lib.hid HW.out.lt1
 clear HW n0 n2 n3 h10 h11 h12 h13 h1f r0 r1 r2 rf s0 s1 s2 s3 sf ho hbl hb4
 obtain ⟨⟨n0, n2, n3⟩, ⟨h10, h11, h12, h13, h1f⟩, ⟨r0, r1, r2, rf⟩, ⟨_, _, _, _, s0, s1, s2, s3⟩, sf⟩ := hV4.cells
 have HW := Lib.hid hV4
 clear hV4
 go_upto_region 46 with (fail)
 go_region
 have hF := HW.out.fin HO.out HBL.out HLT.out HLW.out 0 (key) (ha) (hb)
 clear HW n0 n2 n3 h10 h11 h12 h13 h1f r0 r1 r2 rf s0 s1 s2 s3 sf HO HBL
 generalize ((((w4.setCell ⟨b3, 0, none⟩ _).setCell _ _).setCell _ _).setCell _ _).drew = W5 at hF ⊢
 obtain ⟨hh, h1, h2, h3⟩ := hF
 obtain ⟨s0, s1, s2, s3, sf⟩ := hh.cells
 have HX := Lib.hid (And.intro h1 (And.intro h2 h3))
 clear h1 h2 h3 hh
 go_wp2_with fail
 refine bodyPost_ret (v := .tuple #[.slice A (passR ⟨key, num, time⟩).length c, .agg #[.int .i64 0, .string (key), .int .i64 (ha), .int .i64 (hb)], .bool true]) (by simp [results, Tryz.results18, go_sem, s0, s1, s2, s3]) rfl ?_
 rw [HP.out]
 exact ⟨A, c, rfl, HX.out⟩
set_option maxRecDepth 100000 in
set_option maxHeartbeats 1000000 in
theorem dapply_filtered_new (n : Nod) (A0 : Option Addr) (c0 : Nat) (h : Hld) (r : Rec) (input : Int) (w : World) (hv : ErrVars w) (hsz : n.text.size ≤ maxLen) (hr : RecOk r) (hi : I64 h.a ∧ I64 h.b) (hk : n.kind = 3) (hx : evalOf n.text r.num 0 = 0) :
  Calls Tryz.prog 18 #[.agg #[.int .i64 n.kind, .slice A0 n.from_.length c0, .string n.text, .int .i64 n.n], hldV h, .bool false, recV r, .int .i64 input] w (AppPost (applyN n h false r input) w) := by
 obtain ⟨kind, from_, text, nn⟩ := n
 obtain ⟨hn, hkey, ha, hb⟩ := h
 obtain ⟨key, num, time⟩ := r
 simp only at hk hsz hi hx
 subst hk
 have HP : Hid (applyN ⟨3, from_, text, nn⟩ ⟨hn, hkey, ha, hb⟩ false ⟨key, num, time⟩ input = ⟨[], zeroH, false⟩) := by show _ = _; show ends_ (if evalOf text num 0 = 0 then [] else passR ⟨key, num, time⟩) _ _ = _; rw [if_pos hx]; rfl
 show Calls _ _ #[.agg #[.int .i64 3, .slice A0 from_.length c0, .string text, .int .i64 nn], .agg #[.int .i64 hn, .string hkey, .int .i64 ha, .int .i64 hb], .bool false, .agg #[.string key, .int .i64 num, .int .i64 time], .int .i64 input] w _
 have HR := Lib.hid hr
 have HV := Lib.hid hv
 have HI := Lib.hid hi
 clear hr hv hi
 go_enter Tryz.func18, Tryz.ntmps18
 go_upto_region 3 with (fail)
 go_region
 go_upto_region 6 with (fail)
 have hV := Vars.mk_ w (.int .i64 3) (.slice A0 from_.length c0) (.string text) (.int .i64 nn) ⟨0, key, 0, 0⟩ ⟨key, num, time⟩
 generalize ((((w.alloc _).alloc _).alloc _).alloc _).drew = W1 at hV ⊢
 generalize w.heap.size + 1 + 1 + 1 = b3 at hV ⊢
 generalize w.heap.size + 1 + 1 = b2 at hV ⊢
 generalize w.heap.size + 1 = b1 at hV ⊢
 generalize w.heap.size = b0 at hV ⊢
 obtain ⟨⟨n0, n2, n3⟩, ⟨h10, h11, h12, h13, h1f⟩, ⟨r0, r1, r2, rf⟩, ⟨_, _, _, _, s0, s1, s2, s3⟩, sf⟩ := hV.cells
 have HW := Lib.hid hV
 clear hV
 go_wp2_with fail
 have hb0 := HW.out.below
 refine (eval_ok_any text num 0 W1 (HV.out.below hb0) hsz (i64_of_wf HR.out.2.1) ⟨by omega, by omega⟩).mono ?_
 rintro e w2 ⟨rfl, hb2⟩
 have hV2 := HW.out.next hb2
 clear HW n0 n2 n3 h10 h11 h12 h13 h1f r0 r1 r2 rf s0 s1 s2 s3 sf hb0 hb2
 rw [← evalOf_val]
 obtain ⟨⟨n0, n2, n3⟩, ⟨h10, h11, h12, h13, h1f⟩, ⟨r0, r1, r2, rf⟩, ⟨_, _, _, _, s0, s1, s2, s3⟩, sf⟩ := hV2.cells
 have HW := Lib.hid hV2
 clear hV2
 generalize evalOf text num 0 = x at HP hx ⊢
 subst hx
 have HO := Lib.hid (show OwnS w2 44 3 none 0 ([] : List Rec).length (([] : List Rec).flatMap recCells) from OwnS.nil _ _ _)
 have HBL : Hid (∀ k, blk none = some k → w2.heap.size ≤ k) := nofun
 have HLT := Lib.hid HW.out.lt3
 have HLW := Lib.hid HW.out.below.size
 have HLB := Lib.hid HW.out.lt1
 go_upto_region 46 with (fail)
 have hV5 := HW.out.zero
 have ho5 : OwnS ((((w2.setCell ⟨b1, 0, none⟩ (.int .i64 0)).setCell ⟨b1, 1, none⟩ (.string ⟨#[]⟩)).setCell ⟨b1, 2, none⟩ (.int .i64 0)).setCell ⟨b1, 3, none⟩ (.int .i64 0)) 44 3 none 0 ([] : List Rec).length (([] : List Rec).flatMap recCells) := HW.out.own_zero HO.out HBL.out HLB.out
 clear HW HO n0 n2 n3 h10 h11 h12 h13 h1f r0 r1 r2 rf s0 s1 s2 s3 sf
 generalize (((w2.setCell _ _).setCell _ _).setCell _ _).setCell _ _ = W6 at hV5 ho5 ⊢
 have HO := Lib.hid ho5
 clear ho5
 obtain ⟨⟨n0, n2, n3⟩, ⟨h10, h11, h12, h13, h1f⟩, ⟨r0, r1, r2, rf⟩, ⟨_, _, _, _, s0, s1, s2, s3⟩, sf⟩ := hV5.cells
 have HW := Lib.hid hV5
 clear hV5
 go_region
 have hF := HW.out.fin HO.out HBL.out HLT.out HLW.out 0 (⟨#[]⟩) (0) (0)
 clear HW n0 n2 n3 h10 h11 h12 h13 h1f r0 r1 r2 rf s0 s1 s2 s3 sf HO HBL
 generalize ((((W6.setCell ⟨b3, 0, none⟩ _).setCell _ _).setCell _ _).setCell _ _).drew = W5 at hF ⊢
 obtain ⟨hh, h1, h2, h3⟩ := hF
 obtain ⟨s0, s1, s2, s3, sf⟩ := hh.cells
 have HX := Lib.hid (And.intro h1 (And.intro h2 h3))
 clear h1 h2 h3 hh
 go_wp2_with fail
 refine bodyPost_ret (v := .tuple #[.slice none ([] : List Rec).length 0, .agg #[.int .i64 0, .string (⟨#[]⟩), .int .i64 (0), .int .i64 (0)], .bool false]) (by simp [results, Tryz.results18, go_sem, s0, s1, s2, s3]) rfl ?_
 rw [HP.out]
 exact ⟨none, 0, rfl, HX.out⟩
set_option maxRecDepth 100000 in
set_option maxHeartbeats 1000000 in
theorem dapply_filter_new (n : Nod) (A0 : Option Addr) (c0 : Nat) (h : Hld) (r : Rec) (input : Int) (w : World) (hv : ErrVars w) (hsz : n.text.size ≤ maxLen) (hr : RecOk r) (hi : I64 h.a ∧ I64 h.b) (hk : n.kind = 3) (hx : ¬ evalOf n.text r.num 0 = 0) :
  Calls Tryz.prog 18 #[.agg #[.int .i64 n.kind, .slice A0 n.from_.length c0, .string n.text, .int .i64 n.n], hldV h, .bool false, recV r, .int .i64 input] w (AppPost (applyN n h false r input) w) := by
 obtain ⟨kind, from_, text, nn⟩ := n
 obtain ⟨hn, hkey, ha, hb⟩ := h
 obtain ⟨key, num, time⟩ := r
 simp only at hk hsz hi hx
 subst hk
 have HP : Hid (applyN ⟨3, from_, text, nn⟩ ⟨hn, hkey, ha, hb⟩ false ⟨key, num, time⟩ input = ⟨passR ⟨key, num, time⟩, zeroH, false⟩) := by show _ = _; show ends_ (if evalOf text num 0 = 0 then [] else passR ⟨key, num, time⟩) _ _ = _; rw [if_neg hx]; rfl
 show Calls _ _ #[.agg #[.int .i64 3, .slice A0 from_.length c0, .string text, .int .i64 nn], .agg #[.int .i64 hn, .string hkey, .int .i64 ha, .int .i64 hb], .bool false, .agg #[.string key, .int .i64 num, .int .i64 time], .int .i64 input] w _
 have HR := Lib.hid hr
 have HV := Lib.hid hv
 have HI := Lib.hid hi
 clear hr hv hi
 go_enter Tryz.func18, Tryz.ntmps18
 go_upto_region 3 with (fail)
 go_region
 go_upto_region 6 with (fail)
 have hV := Vars.mk_ w (.int .i64 3) (.slice A0 from_.length c0) (.string text) (.int .i64 nn) ⟨0, key, 0, 0⟩ ⟨key, num, time⟩
 generalize ((((w.alloc _).alloc _).alloc _).alloc _).drew = W1 at hV ⊢
 generalize w.heap.size + 1 + 1 + 1 = b3 at hV ⊢
 generalize w.heap.size + 1 + 1 = b2 at hV ⊢
 generalize w.heap.size + 1 = b1 at hV ⊢
 generalize w.heap.size = b0 at hV ⊢
 obtain ⟨⟨n0, n2, n3⟩, ⟨h10, h11, h12, h13, h1f⟩, ⟨r0, r1, r2, rf⟩, ⟨_, _, _, _, s0, s1, s2, s3⟩, sf⟩ := hV.cells
 have HW := Lib.hid hV
 clear hV
 go_wp2_with fail
 have hb0 := HW.out.below
 refine (eval_ok_any text num 0 W1 (HV.out.below hb0) hsz (i64_of_wf HR.out.2.1) ⟨by omega, by omega⟩).mono ?_
 rintro e w2 ⟨rfl, hb2⟩
 have hV2 := HW.out.next hb2
 clear HW n0 n2 n3 h10 h11 h12 h13 h1f r0 r1 r2 rf s0 s1 s2 s3 sf hb0 hb2
 rw [← evalOf_val]
 obtain ⟨⟨n0, n2, n3⟩, ⟨h10, h11, h12, h13, h1f⟩, ⟨r0, r1, r2, rf⟩, ⟨_, _, _, _, s0, s1, s2, s3⟩, sf⟩ := hV2.cells
 have HW := Lib.hid hV2
 clear hV2
 generalize evalOf text num 0 = x at HP hx ⊢
 have hx2 : (x == 0) = false := beq_eq_false_iff_ne.2 hx
 go_wp2_with fail
 refine (dpass_ok ⟨key, num, time⟩ w2 (HR.out.1)).mono ?_
 rintro e w4 ⟨A, c, rfl, ho, hbl, hb4⟩
 have hV4 := HW.out.next hb4
 have HO := Lib.hid ho
 have HBL := Lib.hid hbl
 have HLT := Lib.hid HW.out.lt3
 have HLW := Lib.hid HW.out.below.size
 have HLB := Lib.hid HW.out.lt1
 clear HW n0 n2 n3 h10 h11 h12 h13 h1f r0 r1 r2 rf s0 s1 s2 s3 sf ho hbl hb4
 obtain ⟨⟨n0, n2, n3⟩, ⟨h10, h11, h12, h13, h1f⟩, ⟨r0, r1, r2, rf⟩, ⟨_, _, _, _, s0, s1, s2, s3⟩, sf⟩ := hV4.cells
 have HW := Lib.hid hV4
 clear hV4
 go_upto_region 46 with (fail)
 have hV5 := HW.out.zero
 have ho5 : OwnS ((((w4.setCell ⟨b1, 0, none⟩ (.int .i64 0)).setCell ⟨b1, 1, none⟩ (.string ⟨#[]⟩)).setCell ⟨b1, 2, none⟩ (.int .i64 0)).setCell ⟨b1, 3, none⟩ (.int .i64 0)) 44 3 A c (passR ⟨key, num, time⟩).length ((passR ⟨key, num, time⟩).flatMap recCells) := HW.out.own_zero HO.out HBL.out HLB.out
 clear HW HO n0 n2 n3 h10 h11 h12 h13 h1f r0 r1 r2 rf s0 s1 s2 s3 sf
 generalize (((w4.setCell _ _).setCell _ _).setCell _ _).setCell _ _ = W6 at hV5 ho5 ⊢
 have HO := Lib.hid ho5
 clear ho5
 obtain ⟨⟨n0, n2, n3⟩, ⟨h10, h11, h12, h13, h1f⟩, ⟨r0, r1, r2, rf⟩, ⟨_, _, _, _, s0, s1, s2, s3⟩, sf⟩ := hV5.cells
 have HW := Lib.hid hV5
 clear hV5
 go_region
 have hF := HW.out.fin HO.out HBL.out HLT.out HLW.out 0 (⟨#[]⟩) (0) (0)
 clear HW n0 n2 n3 h10 h11 h12 h13 h1f r0 r1 r2 rf s0 s1 s2 s3 sf HO HBL
 generalize ((((W6.setCell ⟨b3, 0, none⟩ _).setCell _ _).setCell _ _).setCell _ _).drew = W5 at hF ⊢
 obtain ⟨hh, h1, h2, h3⟩ := hF
 obtain ⟨s0, s1, s2, s3, sf⟩ := hh.cells
 have HX := Lib.hid (And.intro h1 (And.intro h2 h3))
 clear h1 h2 h3 hh
 go_wp2_with fail
 refine bodyPost_ret (v := .tuple #[.slice A (passR ⟨key, num, time⟩).length c, .agg #[.int .i64 0, .string (⟨#[]⟩), .int .i64 (0), .int .i64 (0)], .bool false]) (by simp [results, Tryz.results18, go_sem, s0, s1, s2, s3]) rfl ?_
 rw [HP.out]
 exact ⟨A, c, rfl, HX.out⟩
end Go.Proofs.YtfndhfekbbbliaaGreatDoor

/-
  Package den: the contract of Apply, kind by kind (printed by denapply.py). Conditions: the node's text is a string's, the numbers are ints, the two variables of Atoi's errors hold errors.
-/
namespace Go.Proofs.YtfndhfekbbbliaaGreatDoor
open Go.RowKit Go.Shelf
set_option linter.unusedVariables false
set_option maxRecDepth 100000 in
set_option maxHeartbeats 1000000 in
theorem dapply_wait_has (n : Nod) (A0 : Option Addr) (c0 : Nat) (h : Hld) (r : Rec) (input : Int) (w : World) (hv : ErrVars w) (hsz : n.text.size ≤ maxLen) (hr : RecOk r) (hi : I64 h.a ∧ I64 h.b) (hk : n.kind = 8) (hx : ¬ n.n ≤ wrap64 (h.a + 1)) :
  Calls Tryz.prog 18 #[.agg #[.int .i64 n.kind, .slice A0 n.from_.length c0, .string n.text, .int .i64 n.n], hldV h, .bool true, recV r, .int .i64 input] w (AppPost (applyN n h true r input) w) := by
 obtain ⟨kind, from_, text, nn⟩ := n
 obtain ⟨hn, hkey, ha, hb⟩ := h
 obtain ⟨key, num, time⟩ := r
 simp only at hk hsz hi hx
 subst hk
 have HP : Hid (applyN ⟨8, from_, text, nn⟩ ⟨hn, hkey, ha, hb⟩ true ⟨key, num, time⟩ input = ⟨[], ⟨0, key, wrap64 (ha + 1), wrap64 (hb + num)⟩, true⟩) := by show _ = _; show (if nn ≤ wrap64 (ha + 1) then ends_ (passR ⟨key, wrap64 (hb + num), time⟩) ⟨0, key, 0, 0⟩ true else ends_ [] ⟨0, key, wrap64 (ha + 1), wrap64 (hb + num)⟩ true) = _; rw [if_neg hx]; rfl
 show Calls _ _ #[.agg #[.int .i64 8, .slice A0 from_.length c0, .string text, .int .i64 nn], .agg #[.int .i64 hn, .string hkey, .int .i64 ha, .int .i64 hb], .bool true, .agg #[.string key, .int .i64 num, .int .i64 time], .int .i64 input] w _
 have HR := Lib.hid hr
 have HV := Lib.hid hv
 have HI := Lib.hid hi
 clear hr hv hi
 go_enter Tryz.func18, Tryz.ntmps18
 go_upto_region 3 with (fail)
 go_region
 go_upto_region 6 with (fail)
 have hV := Vars.mk_ w (.int .i64 8) (.slice A0 from_.length c0) (.string text) (.int .i64 nn) ⟨0, key, ha, hb⟩ ⟨key, num, time⟩
 generalize ((((w.alloc _).alloc _).alloc _).alloc _).drew = W1 at hV ⊢
 generalize w.heap.size + 1 + 1 + 1 = b3 at hV ⊢
 generalize w.heap.size + 1 + 1 = b2 at hV ⊢
 generalize w.heap.size + 1 = b1 at hV ⊢
 generalize w.heap.size = b0 at hV ⊢
 obtain ⟨⟨n0, n2, n3⟩, ⟨h10, h11, h12, h13, h1f⟩, ⟨r0, r1, r2, rf⟩, ⟨_, _, _, _, s0, s1, s2, s3⟩, sf⟩ := hV.cells
 have HW := Lib.hid hV
 clear hV
 go_upto_region 36 with (fail)
 have hV3 := ((HW.out.a (wrap64 (ha + 1))).b (wrap64 (hb + num)))
 clear HW n0 n2 n3 h10 h11 h12 h13 h1f r0 r1 r2 rf s0 s1 s2 s3 sf
 generalize (W1.setCell ⟨b1, 2, none⟩ (.int .i64 (wrap64 (ha + 1)))).setCell ⟨b1, 3, none⟩ (.int .i64 (wrap64 (hb + num))) = W3 at hV3 ⊢
 obtain ⟨⟨n0, n2, n3⟩, ⟨h10, h11, h12, h13, h1f⟩, ⟨r0, r1, r2, rf⟩, ⟨_, _, _, _, s0, s1, s2, s3⟩, sf⟩ := hV3.cells
 have HW := Lib.hid hV3
 clear hV3
 have d2 : decide (nn ≤ wrap64 (ha + 1)) = false := decide_eq_false hx
 have HO := Lib.hid (show OwnS W3 44 3 none 0 ([] : List Rec).length (([] : List Rec).flatMap recCells) from OwnS.nil _ _ _)
 have HBL : Hid (∀ k, blk none = some k → W3.heap.size ≤ k) := nofun
 have HLT := Lib.hid HW.out.lt3
 have HLW := Lib.hid HW.out.below.size
 have HLB := Lib.hid HW.out.lt1
 go_upto_region 46 with (fail)
 go_region
 have hF := HW.out.fin HO.out HBL.out HLT.out HLW.out 0 (key) (wrap64 (ha + 1)) (wrap64 (hb + num))
 clear HW n0 n2 n3 h10 h11 h12 h13 h1f r0 r1 r2 rf s0 s1 s2 s3 sf HO HBL
 generalize ((((W3.setCell ⟨b3, 0, none⟩ _).setCell _ _).setCell _ _).setCell _ _).drew = W5 at hF ⊢
 obtain ⟨hh, h1, h2, h3⟩ := hF
 obtain ⟨s0, s1, s2, s3, sf⟩ := hh.cells
 have HX := Lib.hid (And.intro h1 (And.intro h2 h3))
 clear h1 h2 h3 hh
 go_wp2_with fail
 refine bodyPost_ret (v := .tuple #[.slice none 0 0, .agg #[.int .i64 0, .string (key), .int .i64 (wrap64 (ha + 1)), .int .i64 (wrap64 (hb + num))], .bool true]) (by simp [results, Tryz.results18, go_sem, s0, s1, s2, s3]) rfl ?_
 rw [HP.out]
 exact ⟨none, 0, rfl, HX.out⟩
set_option maxRecDepth 100000 in
set_option maxHeartbeats 1000000 in
theorem dapply_every_has (n : Nod) (A0 : Option Addr) (c0 : Nat) (h : Hld) (r : Rec) (input : Int) (w : World) (hv : ErrVars w) (hsz : n.text.size ≤ maxLen) (hr : RecOk r) (hi : I64 h.a ∧ I64 h.b) (hk : n.kind = 8) (hx : n.n ≤ wrap64 (h.a + 1)) :
  Calls Tryz.prog 18 #[.agg #[.int .i64 n.kind, .slice A0 n.from_.length c0, .string n.text, .int .i64 n.n], hldV h, .bool true, recV r, .int .i64 input] w (AppPost (applyN n h true r input) w) := by
 obtain ⟨kind, from_, text, nn⟩ := n
 obtain ⟨hn, hkey, ha, hb⟩ := h
 obtain ⟨key, num, time⟩ := r
 simp only at hk hsz hi hx
 subst hk
 have HP : Hid (applyN ⟨8, from_, text, nn⟩ ⟨hn, hkey, ha, hb⟩ true ⟨key, num, time⟩ input = ⟨passR ⟨key, wrap64 (hb + num), time⟩, ⟨0, key, 0, 0⟩, true⟩) := by show _ = _; show (if nn ≤ wrap64 (ha + 1) then ends_ (passR ⟨key, wrap64 (hb + num), time⟩) ⟨0, key, 0, 0⟩ true else ends_ [] ⟨0, key, wrap64 (ha + 1), wrap64 (hb + num)⟩ true) = _; rw [if_pos hx]; rfl
 show Calls _ _ #[.agg #[.int .i64 8, .slice A0 from_.length c0, .string text, .int .i64 nn], .agg #[.int .i64 hn, .string hkey, .int .i64 ha, .int .i64 hb], .bool true, .agg #[.string key, .int .i64 num, .int .i64 time], .int .i64 input] w _
 have HR := Lib.hid hr
 have HV := Lib.hid hv
 have HI := Lib.hid hi
 clear hr hv hi
 go_enter Tryz.func18, Tryz.ntmps18
 go_upto_region 3 with (fail)
 go_region
 go_upto_region 6 with (fail)
 have hV := Vars.mk_ w (.int .i64 8) (.slice A0 from_.length c0) (.string text) (.int .i64 nn) ⟨0, key, ha, hb⟩ ⟨key, num, time⟩
 generalize ((((w.alloc _).alloc _).alloc _).alloc _).drew = W1 at hV ⊢
 generalize w.heap.size + 1 + 1 + 1 = b3 at hV ⊢
 generalize w.heap.size + 1 + 1 = b2 at hV ⊢
 generalize w.heap.size + 1 = b1 at hV ⊢
 generalize w.heap.size = b0 at hV ⊢
 obtain ⟨⟨n0, n2, n3⟩, ⟨h10, h11, h12, h13, h1f⟩, ⟨r0, r1, r2, rf⟩, ⟨_, _, _, _, s0, s1, s2, s3⟩, sf⟩ := hV.cells
 have HW := Lib.hid hV
 clear hV
 go_upto_region 36 with (fail)
 have hV3 := ((HW.out.a (wrap64 (ha + 1))).b (wrap64 (hb + num)))
 clear HW n0 n2 n3 h10 h11 h12 h13 h1f r0 r1 r2 rf s0 s1 s2 s3 sf
 generalize (W1.setCell ⟨b1, 2, none⟩ (.int .i64 (wrap64 (ha + 1)))).setCell ⟨b1, 3, none⟩ (.int .i64 (wrap64 (hb + num))) = W3 at hV3 ⊢
 obtain ⟨⟨n0, n2, n3⟩, ⟨h10, h11, h12, h13, h1f⟩, ⟨r0, r1, r2, rf⟩, ⟨_, _, _, _, s0, s1, s2, s3⟩, sf⟩ := hV3.cells
 have HW := Lib.hid hV3
 clear hV3
 have d2 : decide (nn ≤ wrap64 (ha + 1)) = true := decide_eq_true hx
 go_upto_region 39 with (fail)
 have hV3 := (((HW.out.num (wrap64 (hb + num))).a (0)).b (0))
 clear HW n0 n2 n3 h10 h11 h12 h13 h1f r0 r1 r2 rf s0 s1 s2 s3 sf
 generalize ((W3.setCell ⟨b2, 1, none⟩ (.int .i64 (wrap64 (hb + num)))).setCell ⟨b1, 2, none⟩ (.int .i64 (0))).setCell ⟨b1, 3, none⟩ (.int .i64 (0)) = W7 at hV3 ⊢
 obtain ⟨⟨n0, n2, n3⟩, ⟨h10, h11, h12, h13, h1f⟩, ⟨r0, r1, r2, rf⟩, ⟨_, _, _, _, s0, s1, s2, s3⟩, sf⟩ := hV3.cells
 have HW := Lib.hid hV3
 clear hV3
 go_wp2_with fail
 refine (dpass_ok ⟨key, wrap64 (hb + num), time⟩ W7 (HR.out.1)).mono ?_
 rintro e w4 ⟨A, c, rfl, ho, hbl, hb4⟩
 have hV4 := HW.out.next hb4
 have HO := Lib.hid ho
 have HBL := Lib.hid hbl
 have HLT := Lib.hid HW.out.lt3
 have HLW := Lib.hid HW.out.below.size
 have HLB := Lib.hid HW.out.lt1
 clear HW n0 n2 n3 h10 h11 h12 h13 h1f r0 r1 r2 rf s0 s1 s2 s3 sf ho hbl hb4
 obtain ⟨⟨n0, n2, n3⟩, ⟨h10, h11, h12, h13, h1f⟩, ⟨r0, r1, r2, rf⟩, ⟨_, _, _, _, s0, s1, s2, s3⟩, sf⟩ := hV4.cells
 have HW := Lib.hid hV4
 clear hV4
 go_upto_region 46 with (fail)
 go_region
 have hF := HW.out.fin HO.out HBL.out HLT.out HLW.out 0 (key) (0) (0)
 clear HW n0 n2 n3 h10 h11 h12 h13 h1f r0 r1 r2 rf s0 s1 s2 s3 sf HO HBL
 generalize ((((w4.setCell ⟨b3, 0, none⟩ _).setCell _ _).setCell _ _).setCell _ _).drew = W5 at hF ⊢
 obtain ⟨hh, h1, h2, h3⟩ := hF
 obtain ⟨s0, s1, s2, s3, sf⟩ := hh.cells
 have HX := Lib.hid (And.intro h1 (And.intro h2 h3))
 clear h1 h2 h3 hh
 go_wp2_with fail
 refine bodyPost_ret (v := .tuple #[.slice A (passR ⟨key, wrap64 (hb + num), time⟩).length c, .agg #[.int .i64 0, .string (key), .int .i64 (0), .int .i64 (0)], .bool true]) (by simp [results, Tryz.results18, go_sem, s0, s1, s2, s3]) rfl ?_
 rw [HP.out]
 exact ⟨A, c, rfl, HX.out⟩
set_option maxRecDepth 100000 in
set_option maxHeartbeats 1000000 in
theorem dapply_wait_new (n : Nod) (A0 : Option Addr) (c0 : Nat) (h : Hld) (r : Rec) (input : Int) (w : World) (hv : ErrVars w) (hsz : n.text.size ≤ maxLen) (hr : RecOk r) (hi : I64 h.a ∧ I64 h.b) (hk : n.kind = 8) (hx : ¬ n.n ≤ wrap64 (0 + 1)) :
  Calls Tryz.prog 18 #[.agg #[.int .i64 n.kind, .slice A0 n.from_.length c0, .string n.text, .int .i64 n.n], hldV h, .bool false, recV r, .int .i64 input] w (AppPost (applyN n h false r input) w) := by
 obtain ⟨kind, from_, text, nn⟩ := n
 obtain ⟨hn, hkey, ha, hb⟩ := h
 obtain ⟨key, num, time⟩ := r
 simp only at hk hsz hi hx
 subst hk
 have HP : Hid (applyN ⟨8, from_, text, nn⟩ ⟨hn, hkey, ha, hb⟩ false ⟨key, num, time⟩ input = ⟨[], ⟨0, key, 1, wrap64 num⟩, true⟩) := by show _ = _; show (if nn ≤ wrap64 (0 + 1) then ends_ (passR ⟨key, wrap64 (0 + num), time⟩) ⟨0, key, 0, 0⟩ true else ends_ [] ⟨0, key, wrap64 (0 + 1), wrap64 (0 + num)⟩ true) = _; rw [if_neg hx, Int.zero_add, Int.zero_add, show wrap64 1 = 1 from by unfold wrap64; omega]; rfl
 show Calls _ _ #[.agg #[.int .i64 8, .slice A0 from_.length c0, .string text, .int .i64 nn], .agg #[.int .i64 hn, .string hkey, .int .i64 ha, .int .i64 hb], .bool false, .agg #[.string key, .int .i64 num, .int .i64 time], .int .i64 input] w _
 have HR := Lib.hid hr
 have HV := Lib.hid hv
 have HI := Lib.hid hi
 clear hr hv hi
 go_enter Tryz.func18, Tryz.ntmps18
 go_upto_region 3 with (fail)
 go_region
 go_upto_region 6 with (fail)
 have hV := Vars.mk_ w (.int .i64 8) (.slice A0 from_.length c0) (.string text) (.int .i64 nn) ⟨0, key, 0, 0⟩ ⟨key, num, time⟩
 generalize ((((w.alloc _).alloc _).alloc _).alloc _).drew = W1 at hV ⊢
 generalize w.heap.size + 1 + 1 + 1 = b3 at hV ⊢
 generalize w.heap.size + 1 + 1 = b2 at hV ⊢
 generalize w.heap.size + 1 = b1 at hV ⊢
 generalize w.heap.size = b0 at hV ⊢
 obtain ⟨⟨n0, n2, n3⟩, ⟨h10, h11, h12, h13, h1f⟩, ⟨r0, r1, r2, rf⟩, ⟨_, _, _, _, s0, s1, s2, s3⟩, sf⟩ := hV.cells
 have HW := Lib.hid hV
 clear hV
 rw [show wrap64 (0 + 1) = 1 from by unfold wrap64; omega] at hx
 go_upto_region 36 with (fail)
 have hV3 := ((HW.out.a (1)).b (wrap64 num))
 clear HW n0 n2 n3 h10 h11 h12 h13 h1f r0 r1 r2 rf s0 s1 s2 s3 sf
 generalize (W1.setCell ⟨b1, 2, none⟩ (.int .i64 (1))).setCell ⟨b1, 3, none⟩ (.int .i64 (wrap64 num)) = W3 at hV3 ⊢
 obtain ⟨⟨n0, n2, n3⟩, ⟨h10, h11, h12, h13, h1f⟩, ⟨r0, r1, r2, rf⟩, ⟨_, _, _, _, s0, s1, s2, s3⟩, sf⟩ := hV3.cells
 have HW := Lib.hid hV3
 clear hV3
 have d2 : decide (nn ≤ 1) = false := decide_eq_false hx
 have HO := Lib.hid (show OwnS W3 44 3 none 0 ([] : List Rec).length (([] : List Rec).flatMap recCells) from OwnS.nil _ _ _)
 have HBL : Hid (∀ k, blk none = some k → W3.heap.size ≤ k) := nofun
 have HLT := Lib.hid HW.out.lt3
 have HLW := Lib.hid HW.out.below.size
 have HLB := Lib.hid HW.out.lt1
 go_upto_region 46 with (fail)
 go_region
 have hF := HW.out.fin HO.out HBL.out HLT.out HLW.out 0 (key) (1) (wrap64 num)
 clear HW n0 n2 n3 h10 h11 h12 h13 h1f r0 r1 r2 rf s0 s1 s2 s3 sf HO HBL
 generalize ((((W3.setCell ⟨b3, 0, none⟩ _).setCell _ _).setCell _ _).setCell _ _).drew = W5 at hF ⊢
 obtain ⟨hh, h1, h2, h3⟩ := hF
 obtain ⟨s0, s1, s2, s3, sf⟩ := hh.cells
 have HX := Lib.hid (And.intro h1 (And.intro h2 h3))
 clear h1 h2 h3 hh
 go_wp2_with fail
 refine bodyPost_ret (v := .tuple #[.slice none 0 0, .agg #[.int .i64 0, .string (key), .int .i64 (1), .int .i64 (wrap64 num)], .bool true]) (by simp [results, Tryz.results18, go_sem, s0, s1, s2, s3]) rfl ?_
 rw [HP.out]
 exact ⟨none, 0, rfl, HX.out⟩
set_option maxRecDepth 100000 in
set_option maxHeartbeats 1000000 in
theorem dapply_every_new (n : Nod) (A0 : Option Addr) (c0 : Nat) (h : Hld) (r : Rec) (input : Int) (w : World) (hv : ErrVars w) (hsz : n.text.size ≤ maxLen) (hr : RecOk r) (hi : I64 h.a ∧ I64 h.b) (hk : n.kind = 8) (hx : n.n ≤ wrap64 (0 + 1)) :
  Calls Tryz.prog 18 #[.agg #[.int .i64 n.kind, .slice A0 n.from_.length c0, .string n.text, .int .i64 n.n], hldV h, .bool false, recV r, .int .i64 input] w (AppPost (applyN n h false r input) w) := by
 obtain ⟨kind, from_, text, nn⟩ := n
 obtain ⟨hn, hkey, ha, hb⟩ := h
 obtain ⟨key, num, time⟩ := r
 simp only at hk hsz hi hx
 subst hk
 have HP : Hid (applyN ⟨8, from_, text, nn⟩ ⟨hn, hkey, ha, hb⟩ false ⟨key, num, time⟩ input = ⟨passR ⟨key, wrap64 num, time⟩, ⟨0, key, 0, 0⟩, true⟩) := by show _ = _; show (if nn ≤ wrap64 (0 + 1) then ends_ (passR ⟨key, wrap64 (0 + num), time⟩) ⟨0, key, 0, 0⟩ true else ends_ [] ⟨0, key, wrap64 (0 + 1), wrap64 (0 + num)⟩ true) = _; rw [if_pos hx, Int.zero_add]; rfl
 show Calls _ _ #[.agg #[.int .i64 8, .slice A0 from_.length c0, .string text, .int .i64 nn], .agg #[.int .i64 hn, .string hkey, .int .i64 ha, .int .i64 hb], .bool false, .agg #[.string key, .int .i64 num, .int .i64 time], .int .i64 input] w _
 have HR := Lib.hid hr
 have HV := Lib.hid hv
 have HI := Lib.hid hi
 clear hr hv hi
 go_enter Tryz.func18, Tryz.ntmps18
 go_upto_region 3 with (fail)
 go_region
 go_upto_region 6 with (fail)
 have hV := Vars.mk_ w (.int .i64 8) (.slice A0 from_.length c0) (.string text) (.int .i64 nn) ⟨0, key, 0, 0⟩ ⟨key, num, time⟩
 generalize ((((w.alloc _).alloc _).alloc _).alloc _).drew = W1 at hV ⊢
 generalize w.heap.size + 1 + 1 + 1 = b3 at hV ⊢
 generalize w.heap.size + 1 + 1 = b2 at hV ⊢
 generalize w.heap.size + 1 = b1 at hV ⊢
 generalize w.heap.size = b0 at hV ⊢
 obtain ⟨⟨n0, n2, n3⟩, ⟨h10, h11, h12, h13, h1f⟩, ⟨r0, r1, r2, rf⟩, ⟨_, _, _, _, s0, s1, s2, s3⟩, sf⟩ := hV.cells
 have HW := Lib.hid hV
 clear hV
 rw [show wrap64 (0 + 1) = 1 from by unfold wrap64; omega] at hx
 go_upto_region 36 with (fail)
 have hV3 := ((HW.out.a (1)).b (wrap64 num))
 clear HW n0 n2 n3 h10 h11 h12 h13 h1f r0 r1 r2 rf s0 s1 s2 s3 sf
 generalize (W1.setCell ⟨b1, 2, none⟩ (.int .i64 (1))).setCell ⟨b1, 3, none⟩ (.int .i64 (wrap64 num)) = W3 at hV3 ⊢
 obtain ⟨⟨n0, n2, n3⟩, ⟨h10, h11, h12, h13, h1f⟩, ⟨r0, r1, r2, rf⟩, ⟨_, _, _, _, s0, s1, s2, s3⟩, sf⟩ := hV3.cells
 have HW := Lib.hid hV3
 clear hV3
 have d2 : decide (nn ≤ 1) = true := decide_eq_true hx
 go_upto_region 39 with (fail)
 have hV3 := (((HW.out.num (wrap64 num)).a (0)).b (0))
 clear HW n0 n2 n3 h10 h11 h12 h13 h1f r0 r1 r2 rf s0 s1 s2 s3 sf
 generalize ((W3.setCell ⟨b2, 1, none⟩ (.int .i64 (wrap64 num))).setCell ⟨b1, 2, none⟩ (.int .i64 (0))).setCell ⟨b1, 3, none⟩ (.int .i64 (0)) = W7 at hV3 ⊢
 obtain ⟨⟨n0, n2, n3⟩, ⟨h10, h11, h12, h13, h1f⟩, ⟨r0, r1, r2, rf⟩, ⟨_, _, _, _, s0, s1, s2, s3⟩, sf⟩ := hV3.cells
 have HW := Lib.hid hV3
 clear hV3
 go_wp2_with fail
 refine (dpass_ok ⟨key, wrap64 num, time⟩ W7 (HR.out.1)).mono ?_
 rintro e w4 ⟨A, c, rfl, ho, hbl, hb4⟩
 have hV4 := HW.out.next hb4
 have HO := Lib.hid ho
 have HBL := Lib.hid hbl
 have HLT := Lib.hid HW.out.lt3
 have HLW := Lib.hid HW.out.below.size
 have HLB := Lib.hid HW.out.lt1
 clear HW n0 n2 n3 h10 h11 h12 h13 h1f r0 r1 r2 rf s0 s1 s2 s3 sf ho hbl hb4
 obtain ⟨⟨n0, n2, n3⟩, ⟨h10, h11, h12, h13, h1f⟩, ⟨r0, r1, r2, rf⟩, ⟨_, _, _, _, s0, s1, s2, s3⟩, sf⟩ := hV4.cells
 have HW := Lib.hid hV4
 clear hV4
 go_upto_region 46 with (fail)
 go_region
 have hF := HW.out.fin HO.out HBL.out HLT.out HLW.out 0 (key) (0) (0)
 clear HW n0 n2 n3 h10 h11 h12 h13 h1f r0 r1 r2 rf s0 s1 s2 s3 sf HO HBL
 generalize ((((w4.setCell ⟨b3, 0, none⟩ _).setCell _ _).setCell _ _).setCell _ _).drew = W5 at hF ⊢
 obtain ⟨hh, h1, h2, h3⟩ := hF
 obtain ⟨s0, s1, s2, s3, sf⟩ := hh.cells
 have HX := Lib.hid (And.intro h1 (And.intro h2 h3))
 clear h1 h2 h3 hh
 go_wp2_with fail
 refine bodyPost_ret (v := .tuple #[.slice A (passR ⟨key, wrap64 num, time⟩).length c, .agg #[.int .i64 0, .string (key), .int .i64 (0), .int .i64 (0)], .bool true]) (by simp [results, Tryz.results18, go_sem, s0, s1, s2, s3]) rfl ?_
 rw [HP.out]
 exact ⟨A, c, rfl, HX.out⟩
end Go.Proofs.YtfndhfekbbbliaaGreatDoor

/-
  Package den: the contract of Apply, kind by kind (printed by denapply.py). Conditions: the node's text is a string's, the numbers are ints, the two variables of Atoi's errors hold errors.
-/
namespace Go.Proofs.YtfndhfekbbbliaaGreatDoor
open Go.RowKit Go.Shelf
set_option linter.unusedVariables false
set_option maxRecDepth 100000 in
set_option maxHeartbeats 1000000 in
theorem dapply_union_has (n : Nod) (A0 : Option Addr) (c0 : Nat) (h : Hld) (r : Rec) (input : Int) (w : World) (hv : ErrVars w) (hsz : n.text.size ≤ maxLen) (hr : RecOk r) (hi : I64 h.a ∧ I64 h.b) (hk : n.kind = 6) (hT : PowTab w) (hin : I64_ input) (hkl : r.key.size ≤ 40) :
  Calls Tryz.prog 18 #[.agg #[.int .i64 n.kind, .slice A0 n.from_.length c0, .string n.text, .int .i64 n.n], hldV h, .bool true, recV r, .int .i64 input] w (AppPost (applyN n h true r input) w) := by
 obtain ⟨kind, from_, text, nn⟩ := n
 obtain ⟨hn, hkey, ha, hb⟩ := h
 obtain ⟨key, num, time⟩ := r
 simp only at hk hsz hi hkl
 subst hk
 have HP : Hid (applyN ⟨6, from_, text, nn⟩ ⟨hn, hkey, ha, hb⟩ true ⟨key, num, time⟩ input = ⟨passR ⟨uniKey input key, num, time⟩, ⟨0, key, ha, hb⟩, true⟩) := rfl
 show Calls _ _ #[.agg #[.int .i64 6, .slice A0 from_.length c0, .string text, .int .i64 nn], .agg #[.int .i64 hn, .string hkey, .int .i64 ha, .int .i64 hb], .bool true, .agg #[.string key, .int .i64 num, .int .i64 time], .int .i64 input] w _
 have HR := Lib.hid hr
 have HV := Lib.hid hv
 have HI := Lib.hid hi
 clear hr hv hi
 go_enter Tryz.func18, Tryz.ntmps18
 go_upto_region 3 with (fail)
 go_region
 go_upto_region 6 with (fail)
 have hV := Vars.mk_ w (.int .i64 6) (.slice A0 from_.length c0) (.string text) (.int .i64 nn) ⟨0, key, ha, hb⟩ ⟨key, num, time⟩
 generalize ((((w.alloc _).alloc _).alloc _).alloc _).drew = W1 at hV ⊢
 generalize w.heap.size + 1 + 1 + 1 = b3 at hV ⊢
 generalize w.heap.size + 1 + 1 = b2 at hV ⊢
 generalize w.heap.size + 1 = b1 at hV ⊢
 generalize w.heap.size = b0 at hV ⊢
 obtain ⟨⟨n0, n2, n3⟩, ⟨h10, h11, h12, h13, h1f⟩, ⟨r0, r1, r2, rf⟩, ⟨_, _, _, _, s0, s1, s2, s3⟩, sf⟩ := hV.cells
 have HW := Lib.hid hV
 clear hV
 obtain ⟨s, hs⟩ : ∃ s : ByteArray, s = ⟨(Lib.itoa input).toArray⟩ := ⟨_, rfl⟩
 have hs2 : s.size ≤ 21 := by rw [hs]; show (Lib.itoa input).toArray.size ≤ 21; simpa using Go.Lib.itoa_length_le input hin.1 hin.2
 have HU : Hid (uniKey input key = s ++ ⟨#[58]⟩ ++ key) := by show _ = _; rw [hs]; rfl
 have HC : Hid (∀ W, Below W1.heap.size W1 W → Calls Tryz.prog 53 #[.int .i64 input] W fun e w' => e = .returned (.string s) ∧ Below W.heap.size W w') := fun W hb => by rw [hs]; exact itoa_ok input W hin ((hT.below HW.out.below).below hb)
 clear hT hs hin
 go_upto_region 25 with (fail)
 go_region_with (go_at_call 53; refine (HC.out _ (by first | exact Below.refl _ _ | exact (Below.refl _ _).drew)).mono ?_; rintro e w2 ⟨rfl, hb2⟩; have hV2 : Vars w w2 b0 (.int .i64 6) (.slice A0 from_.length c0) (.string text) (.int .i64 nn) b1 b2 b3 ⟨0, key, ha, hb⟩ ⟨key, num, time⟩ := HW.out.next (by first | exact hb2 | exact (((Below.refl _ _).drew).trans hb2)); clear n0 n2 n3 h10 h11 h12 h13 h1f r0 r1 r2 rf s0 s1 s2 s3 sf; obtain ⟨⟨n0, n2, n3⟩, ⟨h10, h11, h12, h13, h1f⟩, ⟨r0, r1, r2, rf⟩, ⟨_, _, _, _, s0, s1, s2, s3⟩, sf⟩ := hV2.cells; have HW2 := Lib.hid hV2; clear hV2 hb2)
 all_goals
  go_upto_region 26 with (fail)
  have hV3 := HW2.out.key (s ++ ⟨#[58]⟩ ++ key)
  have hks : (s ++ ⟨#[58]⟩ ++ key).size ≤ maxLen := by rw [ByteArray.size_append, ByteArray.size_append]; show s.size + 1 + key.size ≤ _; unfold maxLen; omega
  clear HW HW2 HC n0 n2 n3 h10 h11 h12 h13 h1f r0 r1 r2 rf s0 s1 s2 s3 sf
  generalize w2.setCell ⟨b2, 0, none⟩ (.string (s ++ ⟨#[58]⟩ ++ key)) = W3 at hV3 ⊢
  generalize s ++ ⟨#[58]⟩ ++ key = k2 at HU hks hV3 ⊢
  obtain ⟨⟨n0, n2, n3⟩, ⟨h10, h11, h12, h13, h1f⟩, ⟨r0, r1, r2, rf⟩, ⟨_, _, _, _, s0, s1, s2, s3⟩, sf⟩ := hV3.cells
  have HW := Lib.hid hV3
  clear hV3
  go_wp2_with fail
  refine (dpass_ok ⟨k2, num, time⟩ W3 (hks)).mono ?_
  rintro e w4 ⟨A, c, rfl, ho, hbl, hb4⟩
  have hV4 := HW.out.next hb4
  have HO := Lib.hid ho
  have HBL := Lib.hid hbl
  have HLT := Lib.hid HW.out.lt3
  have HLW := Lib.hid HW.out.below.size
  have HLB := Lib.hid HW.out.lt1
  clear HW n0 n2 n3 h10 h11 h12 h13 h1f r0 r1 r2 rf s0 s1 s2 s3 sf ho hbl hb4
  obtain ⟨⟨n0, n2, n3⟩, ⟨h10, h11, h12, h13, h1f⟩, ⟨r0, r1, r2, rf⟩, ⟨_, _, _, _, s0, s1, s2, s3⟩, sf⟩ := hV4.cells
  have HW := Lib.hid hV4
  clear hV4
  go_upto_region 46 with (fail)
  go_region
  have hF := HW.out.fin HO.out HBL.out HLT.out HLW.out 0 (key) (ha) (hb)
  clear HW n0 n2 n3 h10 h11 h12 h13 h1f r0 r1 r2 rf s0 s1 s2 s3 sf HO HBL
  generalize ((((w4.setCell ⟨b3, 0, none⟩ _).setCell _ _).setCell _ _).setCell _ _).drew = W5 at hF ⊢
  obtain ⟨hh, h1, h2, h3⟩ := hF
  obtain ⟨s0, s1, s2, s3, sf⟩ := hh.cells
  have HX := Lib.hid (And.intro h1 (And.intro h2 h3))
  clear h1 h2 h3 hh
  go_wp2_with fail
  refine bodyPost_ret (v := .tuple #[.slice A (passR ⟨k2, num, time⟩).length c, .agg #[.int .i64 0, .string (key), .int .i64 (ha), .int .i64 (hb)], .bool true]) (by simp [results, Tryz.results18, go_sem, s0, s1, s2, s3]) rfl ?_
  rw [HP.out, HU.out]
  exact ⟨A, c, rfl, HX.out⟩
set_option maxRecDepth 100000 in
set_option maxHeartbeats 1000000 in
theorem dapply_union_new (n : Nod) (A0 : Option Addr) (c0 : Nat) (h : Hld) (r : Rec) (input : Int) (w : World) (hv : ErrVars w) (hsz : n.text.size ≤ maxLen) (hr : RecOk r) (hi : I64 h.a ∧ I64 h.b) (hk : n.kind = 6) (hT : PowTab w) (hin : I64_ input) (hkl : r.key.size ≤ 40) :
  Calls Tryz.prog 18 #[.agg #[.int .i64 n.kind, .slice A0 n.from_.length c0, .string n.text, .int .i64 n.n], hldV h, .bool false, recV r, .int .i64 input] w (AppPost (applyN n h false r input) w) := by
 obtain ⟨kind, from_, text, nn⟩ := n
 obtain ⟨hn, hkey, ha, hb⟩ := h
 obtain ⟨key, num, time⟩ := r
 simp only at hk hsz hi hkl
 subst hk
 have HP : Hid (applyN ⟨6, from_, text, nn⟩ ⟨hn, hkey, ha, hb⟩ false ⟨key, num, time⟩ input = ⟨passR ⟨uniKey input key, num, time⟩, zeroH, false⟩) := rfl
 show Calls _ _ #[.agg #[.int .i64 6, .slice A0 from_.length c0, .string text, .int .i64 nn], .agg #[.int .i64 hn, .string hkey, .int .i64 ha, .int .i64 hb], .bool false, .agg #[.string key, .int .i64 num, .int .i64 time], .int .i64 input] w _
 have HR := Lib.hid hr
 have HV := Lib.hid hv
 have HI := Lib.hid hi
 clear hr hv hi
 go_enter Tryz.func18, Tryz.ntmps18
 go_upto_region 3 with (fail)
 go_region
 go_upto_region 6 with (fail)
 have hV := Vars.mk_ w (.int .i64 6) (.slice A0 from_.length c0) (.string text) (.int .i64 nn) ⟨0, key, 0, 0⟩ ⟨key, num, time⟩
 generalize ((((w.alloc _).alloc _).alloc _).alloc _).drew = W1 at hV ⊢
 generalize w.heap.size + 1 + 1 + 1 = b3 at hV ⊢
 generalize w.heap.size + 1 + 1 = b2 at hV ⊢
 generalize w.heap.size + 1 = b1 at hV ⊢
 generalize w.heap.size = b0 at hV ⊢
 obtain ⟨⟨n0, n2, n3⟩, ⟨h10, h11, h12, h13, h1f⟩, ⟨r0, r1, r2, rf⟩, ⟨_, _, _, _, s0, s1, s2, s3⟩, sf⟩ := hV.cells
 have HW := Lib.hid hV
 clear hV
 obtain ⟨s, hs⟩ : ∃ s : ByteArray, s = ⟨(Lib.itoa input).toArray⟩ := ⟨_, rfl⟩
 have hs2 : s.size ≤ 21 := by rw [hs]; show (Lib.itoa input).toArray.size ≤ 21; simpa using Go.Lib.itoa_length_le input hin.1 hin.2
 have HU : Hid (uniKey input key = s ++ ⟨#[58]⟩ ++ key) := by show _ = _; rw [hs]; rfl
 have HC : Hid (∀ W, Below W1.heap.size W1 W → Calls Tryz.prog 53 #[.int .i64 input] W fun e w' => e = .returned (.string s) ∧ Below W.heap.size W w') := fun W hb => by rw [hs]; exact itoa_ok input W hin ((hT.below HW.out.below).below hb)
 clear hT hs hin
 go_upto_region 25 with (fail)
 go_region_with (go_at_call 53; refine (HC.out _ (by first | exact Below.refl _ _ | exact (Below.refl _ _).drew)).mono ?_; rintro e w2 ⟨rfl, hb2⟩; have hV2 : Vars w w2 b0 (.int .i64 6) (.slice A0 from_.length c0) (.string text) (.int .i64 nn) b1 b2 b3 ⟨0, key, 0, 0⟩ ⟨key, num, time⟩ := HW.out.next (by first | exact hb2 | exact (((Below.refl _ _).drew).trans hb2)); clear n0 n2 n3 h10 h11 h12 h13 h1f r0 r1 r2 rf s0 s1 s2 s3 sf; obtain ⟨⟨n0, n2, n3⟩, ⟨h10, h11, h12, h13, h1f⟩, ⟨r0, r1, r2, rf⟩, ⟨_, _, _, _, s0, s1, s2, s3⟩, sf⟩ := hV2.cells; have HW2 := Lib.hid hV2; clear hV2 hb2)
 all_goals
  go_upto_region 26 with (fail)
  have hV3 := HW2.out.key (s ++ ⟨#[58]⟩ ++ key)
  have hks : (s ++ ⟨#[58]⟩ ++ key).size ≤ maxLen := by rw [ByteArray.size_append, ByteArray.size_append]; show s.size + 1 + key.size ≤ _; unfold maxLen; omega
  clear HW HW2 HC n0 n2 n3 h10 h11 h12 h13 h1f r0 r1 r2 rf s0 s1 s2 s3 sf
  generalize w2.setCell ⟨b2, 0, none⟩ (.string (s ++ ⟨#[58]⟩ ++ key)) = W3 at hV3 ⊢
  generalize s ++ ⟨#[58]⟩ ++ key = k2 at HU hks hV3 ⊢
  obtain ⟨⟨n0, n2, n3⟩, ⟨h10, h11, h12, h13, h1f⟩, ⟨r0, r1, r2, rf⟩, ⟨_, _, _, _, s0, s1, s2, s3⟩, sf⟩ := hV3.cells
  have HW := Lib.hid hV3
  clear hV3
  go_wp2_with fail
  refine (dpass_ok ⟨k2, num, time⟩ W3 (hks)).mono ?_
  rintro e w4 ⟨A, c, rfl, ho, hbl, hb4⟩
  have hV4 := HW.out.next hb4
  have HO := Lib.hid ho
  have HBL := Lib.hid hbl
  have HLT := Lib.hid HW.out.lt3
  have HLW := Lib.hid HW.out.below.size
  have HLB := Lib.hid HW.out.lt1
  clear HW n0 n2 n3 h10 h11 h12 h13 h1f r0 r1 r2 rf s0 s1 s2 s3 sf ho hbl hb4
  obtain ⟨⟨n0, n2, n3⟩, ⟨h10, h11, h12, h13, h1f⟩, ⟨r0, r1, r2, rf⟩, ⟨_, _, _, _, s0, s1, s2, s3⟩, sf⟩ := hV4.cells
  have HW := Lib.hid hV4
  clear hV4
  go_upto_region 46 with (fail)
  have hV5 := HW.out.zero
  have ho5 : OwnS ((((w4.setCell ⟨b1, 0, none⟩ (.int .i64 0)).setCell ⟨b1, 1, none⟩ (.string ⟨#[]⟩)).setCell ⟨b1, 2, none⟩ (.int .i64 0)).setCell ⟨b1, 3, none⟩ (.int .i64 0)) 44 3 A c (passR ⟨k2, num, time⟩).length ((passR ⟨k2, num, time⟩).flatMap recCells) := HW.out.own_zero HO.out HBL.out HLB.out
  clear HW HO n0 n2 n3 h10 h11 h12 h13 h1f r0 r1 r2 rf s0 s1 s2 s3 sf
  generalize (((w4.setCell _ _).setCell _ _).setCell _ _).setCell _ _ = W6 at hV5 ho5 ⊢
  have HO := Lib.hid ho5
  clear ho5
  obtain ⟨⟨n0, n2, n3⟩, ⟨h10, h11, h12, h13, h1f⟩, ⟨r0, r1, r2, rf⟩, ⟨_, _, _, _, s0, s1, s2, s3⟩, sf⟩ := hV5.cells
  have HW := Lib.hid hV5
  clear hV5
  go_region
  have hF := HW.out.fin HO.out HBL.out HLT.out HLW.out 0 (⟨#[]⟩) (0) (0)
  clear HW n0 n2 n3 h10 h11 h12 h13 h1f r0 r1 r2 rf s0 s1 s2 s3 sf HO HBL
  generalize ((((W6.setCell ⟨b3, 0, none⟩ _).setCell _ _).setCell _ _).setCell _ _).drew = W5 at hF ⊢
  obtain ⟨hh, h1, h2, h3⟩ := hF
  obtain ⟨s0, s1, s2, s3, sf⟩ := hh.cells
  have HX := Lib.hid (And.intro h1 (And.intro h2 h3))
  clear h1 h2 h3 hh
  go_wp2_with fail
  refine bodyPost_ret (v := .tuple #[.slice A (passR ⟨k2, num, time⟩).length c, .agg #[.int .i64 0, .string (⟨#[]⟩), .int .i64 (0), .int .i64 (0)], .bool false]) (by simp [results, Tryz.results18, go_sem, s0, s1, s2, s3]) rfl ?_
  rw [HP.out, HU.out]
  exact ⟨A, c, rfl, HX.out⟩
end Go.Proofs.YtfndhfekbbbliaaGreatDoor

/-
  Package den: the contract of Apply, kind by kind (printed by denapply.py). Conditions: the node's text is a string's, the numbers are ints, the two variables of Atoi's errors hold errors.
-/
namespace Go.Proofs.YtfndhfekbbbliaaGreatDoor
open Go.RowKit Go.Shelf
set_option linter.unusedVariables false
theorem evalOf_i64 {s : ByteArray} {n st : Int} (hn : I64_ n) (hs : I64_ st) : I64_ (evalOf s n st) := by
 unfold evalOf
 split
 ·rename_i t h
  exact val_bounds (fine_of h) hn hs
 ·exact ⟨by omega, by omega⟩
set_option maxRecDepth 100000 in
set_option maxHeartbeats 1000000 in
theorem dapply_sub_has (n : Nod) (A0 : Option Addr) (c0 : Nat) (h : Hld) (r : Rec) (input : Int) (w : World) (hv : ErrVars w) (hsz : n.text.size ≤ maxLen) (hr : RecOk r) (hi : I64 h.a ∧ I64 h.b) (hk : n.kind = 4) (hT : PowTab w) (hkl : r.key.size ≤ 40) :
  Calls Tryz.prog 18 #[.agg #[.int .i64 n.kind, .slice A0 n.from_.length c0, .string n.text, .int .i64 n.n], hldV h, .bool true, recV r, .int .i64 input] w (AppPost (applyN n h true r input) w) := by
 obtain ⟨kind, from_, text, nn⟩ := n
 obtain ⟨hn, hkey, ha, hb⟩ := h
 obtain ⟨key, num, time⟩ := r
 simp only at hk hsz hi hkl
 subst hk
 have HP : Hid (applyN ⟨4, from_, text, nn⟩ ⟨hn, hkey, ha, hb⟩ true ⟨key, num, time⟩ input = ⟨passR ⟨subKey key (evalOf text num 0), num, time⟩, ⟨0, key, ha, hb⟩, true⟩) := rfl
 show Calls _ _ #[.agg #[.int .i64 4, .slice A0 from_.length c0, .string text, .int .i64 nn], .agg #[.int .i64 hn, .string hkey, .int .i64 ha, .int .i64 hb], .bool true, .agg #[.string key, .int .i64 num, .int .i64 time], .int .i64 input] w _
 have HR := Lib.hid hr
 have HV := Lib.hid hv
 have HI := Lib.hid hi
 clear hr hv hi
 go_enter Tryz.func18, Tryz.ntmps18
 go_upto_region 3 with (fail)
 go_region
 go_upto_region 6 with (fail)
 have hV := Vars.mk_ w (.int .i64 4) (.slice A0 from_.length c0) (.string text) (.int .i64 nn) ⟨0, key, ha, hb⟩ ⟨key, num, time⟩
 generalize ((((w.alloc _).alloc _).alloc _).alloc _).drew = W1 at hV ⊢
 generalize w.heap.size + 1 + 1 + 1 = b3 at hV ⊢
 generalize w.heap.size + 1 + 1 = b2 at hV ⊢
 generalize w.heap.size + 1 = b1 at hV ⊢
 generalize w.heap.size = b0 at hV ⊢
 obtain ⟨⟨n0, n2, n3⟩, ⟨h10, h11, h12, h13, h1f⟩, ⟨r0, r1, r2, rf⟩, ⟨_, _, _, _, s0, s1, s2, s3⟩, sf⟩ := hV.cells
 have HW := Lib.hid hV
 clear hV
 have hx : I64_ (evalOf text num 0) := evalOf_i64 (i64_of_wf HR.out.2.1) ⟨by omega, by omega⟩
 go_wp2_with fail
 have hb0 := HW.out.below
 refine (eval_ok_any text num 0 W1 (HV.out.below hb0) hsz (i64_of_wf HR.out.2.1) ⟨by omega, by omega⟩).mono ?_
 rintro e w2 ⟨rfl, hb2⟩
 have hV2 := HW.out.next hb2
 clear HW n0 n2 n3 h10 h11 h12 h13 h1f r0 r1 r2 rf s0 s1 s2 s3 sf hb0 hb2
 rw [← evalOf_val]
 obtain ⟨⟨n0, n2, n3⟩, ⟨h10, h11, h12, h13, h1f⟩, ⟨r0, r1, r2, rf⟩, ⟨_, _, _, _, s0, s1, s2, s3⟩, sf⟩ := hV2.cells
 have HW := Lib.hid hV2
 clear hV2
 generalize evalOf text num 0 = x at HP hx ⊢
 obtain ⟨s, hs⟩ : ∃ s : ByteArray, s = ⟨(Lib.itoa x).toArray⟩ := ⟨_, rfl⟩
 have hs2 : s.size ≤ 21 := by rw [hs]; show (Lib.itoa x).toArray.size ≤ 21; simpa using Go.Lib.itoa_length_le x hx.1 hx.2
 have HU : Hid (subKey key x = key ++ (⟨#[47]⟩ ++ s)) := by show _ = _; rw [hs]; rfl
 have HC : Hid (∀ W, Below w2.heap.size w2 W → Calls Tryz.prog 53 #[.int .i64 x] W fun e w' => e = .returned (.string s) ∧ Below W.heap.size W w') := fun W hb => by rw [hs]; exact itoa_ok x W hx ((hT.below HW.out.below).below hb)
 clear hT hs hx
 go_upto_region 17 with (fail)
 go_region_with (go_at_call 53; refine (HC.out _ (by first | exact Below.refl _ _ | exact (Below.refl _ _).drew)).mono ?_; rintro e w3 ⟨rfl, hb2⟩; have hV2 : Vars w w3 b0 (.int .i64 4) (.slice A0 from_.length c0) (.string text) (.int .i64 nn) b1 b2 b3 ⟨0, key, ha, hb⟩ ⟨key, num, time⟩ := HW.out.next (by first | exact hb2 | exact (((Below.refl _ _).drew).trans hb2)); clear n0 n2 n3 h10 h11 h12 h13 h1f r0 r1 r2 rf s0 s1 s2 s3 sf; obtain ⟨⟨n0, n2, n3⟩, ⟨h10, h11, h12, h13, h1f⟩, ⟨r0, r1, r2, rf⟩, ⟨_, _, _, _, s0, s1, s2, s3⟩, sf⟩ := hV2.cells; have HW2 := Lib.hid hV2; clear hV2 hb2)
 all_goals
  go_upto_region 18 with (fail)
  have hV3 := HW2.out.key (key ++ (⟨#[47]⟩ ++ s))
  have hks : (key ++ (⟨#[47]⟩ ++ s)).size ≤ maxLen := by rw [ByteArray.size_append, ByteArray.size_append]; show key.size + (1 + s.size) ≤ _; unfold maxLen; omega
  clear HW HW2 HC n0 n2 n3 h10 h11 h12 h13 h1f r0 r1 r2 rf s0 s1 s2 s3 sf
  generalize w3.setCell ⟨b2, 0, none⟩ (.string (key ++ (⟨#[47]⟩ ++ s))) = W3 at hV3 ⊢
  generalize key ++ (⟨#[47]⟩ ++ s) = k2 at HU hks hV3 ⊢
  obtain ⟨⟨n0, n2, n3⟩, ⟨h10, h11, h12, h13, h1f⟩, ⟨r0, r1, r2, rf⟩, ⟨_, _, _, _, s0, s1, s2, s3⟩, sf⟩ := hV3.cells
  have HW := Lib.hid hV3
  clear hV3
  go_wp2_with fail
  refine (dpass_ok ⟨k2, num, time⟩ W3 (hks)).mono ?_
  rintro e w4 ⟨A, c, rfl, ho, hbl, hb4⟩
  have hV4 := HW.out.next hb4
  have HO := Lib.hid ho
  have HBL := Lib.hid hbl
  have HLT := Lib.hid HW.out.lt3
  have HLW := Lib.hid HW.out.below.size
  have HLB := Lib.hid HW.out.lt1
  clear HW n0 n2 n3 h10 h11 h12 h13 h1f r0 r1 r2 rf s0 s1 s2 s3 sf ho hbl hb4
  obtain ⟨⟨n0, n2, n3⟩, ⟨h10, h11, h12, h13, h1f⟩, ⟨r0, r1, r2, rf⟩, ⟨_, _, _, _, s0, s1, s2, s3⟩, sf⟩ := hV4.cells
  have HW := Lib.hid hV4
  clear hV4
  go_upto_region 46 with (fail)
  go_region
  have hF := HW.out.fin HO.out HBL.out HLT.out HLW.out 0 (key) (ha) (hb)
  clear HW n0 n2 n3 h10 h11 h12 h13 h1f r0 r1 r2 rf s0 s1 s2 s3 sf HO HBL
  generalize ((((w4.setCell ⟨b3, 0, none⟩ _).setCell _ _).setCell _ _).setCell _ _).drew = W5 at hF ⊢
  obtain ⟨hh, h1, h2, h3⟩ := hF
  obtain ⟨s0, s1, s2, s3, sf⟩ := hh.cells
  have HX := Lib.hid (And.intro h1 (And.intro h2 h3))
  clear h1 h2 h3 hh
  go_wp2_with fail
  refine bodyPost_ret (v := .tuple #[.slice A (passR ⟨k2, num, time⟩).length c, .agg #[.int .i64 0, .string (key), .int .i64 (ha), .int .i64 (hb)], .bool true]) (by simp [results, Tryz.results18, go_sem, s0, s1, s2, s3]) rfl ?_
  rw [HP.out, HU.out]
  exact ⟨A, c, rfl, HX.out⟩
set_option maxRecDepth 100000 in
set_option maxHeartbeats 1000000 in
theorem dapply_sub_new (n : Nod) (A0 : Option Addr) (c0 : Nat) (h : Hld) (r : Rec) (input : Int) (w : World) (hv : ErrVars w) (hsz : n.text.size ≤ maxLen) (hr : RecOk r) (hi : I64 h.a ∧ I64 h.b) (hk : n.kind = 4) (hT : PowTab w) (hkl : r.key.size ≤ 40) :
  Calls Tryz.prog 18 #[.agg #[.int .i64 n.kind, .slice A0 n.from_.length c0, .string n.text, .int .i64 n.n], hldV h, .bool false, recV r, .int .i64 input] w (AppPost (applyN n h false r input) w) := by
 obtain ⟨kind, from_, text, nn⟩ := n
 obtain ⟨hn, hkey, ha, hb⟩ := h
 obtain ⟨key, num, time⟩ := r
 simp only at hk hsz hi hkl
 subst hk
 have HP : Hid (applyN ⟨4, from_, text, nn⟩ ⟨hn, hkey, ha, hb⟩ false ⟨key, num, time⟩ input = ⟨passR ⟨subKey key (evalOf text num 0), num, time⟩, zeroH, false⟩) := rfl
 show Calls _ _ #[.agg #[.int .i64 4, .slice A0 from_.length c0, .string text, .int .i64 nn], .agg #[.int .i64 hn, .string hkey, .int .i64 ha, .int .i64 hb], .bool false, .agg #[.string key, .int .i64 num, .int .i64 time], .int .i64 input] w _
 have HR := Lib.hid hr
 have HV := Lib.hid hv
 have HI := Lib.hid hi
 clear hr hv hi
 go_enter Tryz.func18, Tryz.ntmps18
 go_upto_region 3 with (fail)
 go_region
 go_upto_region 6 with (fail)
 have hV := Vars.mk_ w (.int .i64 4) (.slice A0 from_.length c0) (.string text) (.int .i64 nn) ⟨0, key, 0, 0⟩ ⟨key, num, time⟩
 generalize ((((w.alloc _).alloc _).alloc _).alloc _).drew = W1 at hV ⊢
 generalize w.heap.size + 1 + 1 + 1 = b3 at hV ⊢
 generalize w.heap.size + 1 + 1 = b2 at hV ⊢
 generalize w.heap.size + 1 = b1 at hV ⊢
 generalize w.heap.size = b0 at hV ⊢
 obtain ⟨⟨n0, n2, n3⟩, ⟨h10, h11, h12, h13, h1f⟩, ⟨r0, r1, r2, rf⟩, ⟨_, _, _, _, s0, s1, s2, s3⟩, sf⟩ := hV.cells
 have HW := Lib.hid hV
 clear hV
 have hx : I64_ (evalOf text num 0) := evalOf_i64 (i64_of_wf HR.out.2.1) ⟨by omega, by omega⟩
 go_wp2_with fail
 have hb0 := HW.out.below
 refine (eval_ok_any text num 0 W1 (HV.out.below hb0) hsz (i64_of_wf HR.out.2.1) ⟨by omega, by omega⟩).mono ?_
 rintro e w2 ⟨rfl, hb2⟩
 have hV2 := HW.out.next hb2
 clear HW n0 n2 n3 h10 h11 h12 h13 h1f r0 r1 r2 rf s0 s1 s2 s3 sf hb0 hb2
 rw [← evalOf_val]
 obtain ⟨⟨n0, n2, n3⟩, ⟨h10, h11, h12, h13, h1f⟩, ⟨r0, r1, r2, rf⟩, ⟨_, _, _, _, s0, s1, s2, s3⟩, sf⟩ := hV2.cells
 have HW := Lib.hid hV2
 clear hV2
 generalize evalOf text num 0 = x at HP hx ⊢
 obtain ⟨s, hs⟩ : ∃ s : ByteArray, s = ⟨(Lib.itoa x).toArray⟩ := ⟨_, rfl⟩
 have hs2 : s.size ≤ 21 := by rw [hs]; show (Lib.itoa x).toArray.size ≤ 21; simpa using Go.Lib.itoa_length_le x hx.1 hx.2
 have HU : Hid (subKey key x = key ++ (⟨#[47]⟩ ++ s)) := by show _ = _; rw [hs]; rfl
 have HC : Hid (∀ W, Below w2.heap.size w2 W → Calls Tryz.prog 53 #[.int .i64 x] W fun e w' => e = .returned (.string s) ∧ Below W.heap.size W w') := fun W hb => by rw [hs]; exact itoa_ok x W hx ((hT.below HW.out.below).below hb)
 clear hT hs hx
 go_upto_region 17 with (fail)
 go_region_with (go_at_call 53; refine (HC.out _ (by first | exact Below.refl _ _ | exact (Below.refl _ _).drew)).mono ?_; rintro e w3 ⟨rfl, hb2⟩; have hV2 : Vars w w3 b0 (.int .i64 4) (.slice A0 from_.length c0) (.string text) (.int .i64 nn) b1 b2 b3 ⟨0, key, 0, 0⟩ ⟨key, num, time⟩ := HW.out.next (by first | exact hb2 | exact (((Below.refl _ _).drew).trans hb2)); clear n0 n2 n3 h10 h11 h12 h13 h1f r0 r1 r2 rf s0 s1 s2 s3 sf; obtain ⟨⟨n0, n2, n3⟩, ⟨h10, h11, h12, h13, h1f⟩, ⟨r0, r1, r2, rf⟩, ⟨_, _, _, _, s0, s1, s2, s3⟩, sf⟩ := hV2.cells; have HW2 := Lib.hid hV2; clear hV2 hb2)
 all_goals
  go_upto_region 18 with (fail)
  have hV3 := HW2.out.key (key ++ (⟨#[47]⟩ ++ s))
  have hks : (key ++ (⟨#[47]⟩ ++ s)).size ≤ maxLen := by rw [ByteArray.size_append, ByteArray.size_append]; show key.size + (1 + s.size) ≤ _; unfold maxLen; omega
  clear HW HW2 HC n0 n2 n3 h10 h11 h12 h13 h1f r0 r1 r2 rf s0 s1 s2 s3 sf
  generalize w3.setCell ⟨b2, 0, none⟩ (.string (key ++ (⟨#[47]⟩ ++ s))) = W3 at hV3 ⊢
  generalize key ++ (⟨#[47]⟩ ++ s) = k2 at HU hks hV3 ⊢
  obtain ⟨⟨n0, n2, n3⟩, ⟨h10, h11, h12, h13, h1f⟩, ⟨r0, r1, r2, rf⟩, ⟨_, _, _, _, s0, s1, s2, s3⟩, sf⟩ := hV3.cells
  have HW := Lib.hid hV3
  clear hV3
  go_wp2_with fail
  refine (dpass_ok ⟨k2, num, time⟩ W3 (hks)).mono ?_
  rintro e w4 ⟨A, c, rfl, ho, hbl, hb4⟩
  have hV4 := HW.out.next hb4
  have HO := Lib.hid ho
  have HBL := Lib.hid hbl
  have HLT := Lib.hid HW.out.lt3
  have HLW := Lib.hid HW.out.below.size
  have HLB := Lib.hid HW.out.lt1
  clear HW n0 n2 n3 h10 h11 h12 h13 h1f r0 r1 r2 rf s0 s1 s2 s3 sf ho hbl hb4
  obtain ⟨⟨n0, n2, n3⟩, ⟨h10, h11, h12, h13, h1f⟩, ⟨r0, r1, r2, rf⟩, ⟨_, _, _, _, s0, s1, s2, s3⟩, sf⟩ := hV4.cells
  have HW := Lib.hid hV4
  clear hV4
  go_upto_region 46 with (fail)
  have hV5 := HW.out.zero
  have ho5 : OwnS ((((w4.setCell ⟨b1, 0, none⟩ (.int .i64 0)).setCell ⟨b1, 1, none⟩ (.string ⟨#[]⟩)).setCell ⟨b1, 2, none⟩ (.int .i64 0)).setCell ⟨b1, 3, none⟩ (.int .i64 0)) 44 3 A c (passR ⟨k2, num, time⟩).length ((passR ⟨k2, num, time⟩).flatMap recCells) := HW.out.own_zero HO.out HBL.out HLB.out
  clear HW HO n0 n2 n3 h10 h11 h12 h13 h1f r0 r1 r2 rf s0 s1 s2 s3 sf
  generalize (((w4.setCell _ _).setCell _ _).setCell _ _).setCell _ _ = W6 at hV5 ho5 ⊢
  have HO := Lib.hid ho5
  clear ho5
  obtain ⟨⟨n0, n2, n3⟩, ⟨h10, h11, h12, h13, h1f⟩, ⟨r0, r1, r2, rf⟩, ⟨_, _, _, _, s0, s1, s2, s3⟩, sf⟩ := hV5.cells
  have HW := Lib.hid hV5
  clear hV5
  go_region
  have hF := HW.out.fin HO.out HBL.out HLT.out HLW.out 0 (⟨#[]⟩) (0) (0)
  clear HW n0 n2 n3 h10 h11 h12 h13 h1f r0 r1 r2 rf s0 s1 s2 s3 sf HO HBL
  generalize ((((W6.setCell ⟨b3, 0, none⟩ _).setCell _ _).setCell _ _).setCell _ _).drew = W5 at hF ⊢
  obtain ⟨hh, h1, h2, h3⟩ := hF
  obtain ⟨s0, s1, s2, s3, sf⟩ := hh.cells
  have HX := Lib.hid (And.intro h1 (And.intro h2 h3))
  clear h1 h2 h3 hh
  go_wp2_with fail
  refine bodyPost_ret (v := .tuple #[.slice A (passR ⟨k2, num, time⟩).length c, .agg #[.int .i64 0, .string (⟨#[]⟩), .int .i64 (0), .int .i64 (0)], .bool false]) (by simp [results, Tryz.results18, go_sem, s0, s1, s2, s3]) rfl ?_
  rw [HP.out, HU.out]
  exact ⟨A, c, rfl, HX.out⟩
end Go.Proofs.YtfndhfekbbbliaaGreatDoor

/-
  Package den: the contract of Apply, kind by kind (printed by denapply.py). Conditions: the node's text is a string's, the numbers are ints, the two variables of Atoi's errors hold errors.
-/
namespace Go.Proofs.YtfndhfekbbbliaaGreatDoor
open Go.RowKit Go.Shelf
set_option linter.unusedVariables false
theorem info_recA : (Tryz.prog.info? 44).map (fun i => (i.zero, i.size, i.bytes)) = some (some (.agg #[.string ByteArray.empty, .int .i64 0, .int .i64 0]), 3, 32) := by kernel_rfl
def repR (r : Rec) (i : Nat) : List Rec := (List.replicate i (passR r)).flatten
theorem passR_len (r : Rec) : (passR r).length ≤ 1 := by unfold passR; split <;> simp
theorem repR_succ (r : Rec) (i : Nat) : repR r (i + 1) = repR r i ++ passR r := by unfold repR; rw [List.replicate_succ', List.flatten_append]; simp
theorem repR_len (r : Rec) : ∀ i, (repR r i).length ≤ i := by
 intro i
 induction i with
 | zero => exact Nat.le_refl _
 | succ i ih => rw [repR_succ, List.length_append]; have := passR_len r; omega
set_option maxRecDepth 100000 in
set_option maxHeartbeats 1000000 in
theorem dapply_copy_has (n : Nod) (A0 : Option Addr) (c0 : Nat) (h : Hld) (r : Rec) (input : Int) (w : World) (hv : ErrVars w) (hsz : n.text.size ≤ maxLen) (hr : RecOk r) (hi : I64 h.a ∧ I64 h.b) (hk : n.kind = 5) (hi_n : I64 n.n) :
  Calls Tryz.prog 18 #[.agg #[.int .i64 n.kind, .slice A0 n.from_.length c0, .string n.text, .int .i64 n.n], hldV h, .bool true, recV r, .int .i64 input] w (AppPost (applyN n h true r input) w) := by
 obtain ⟨kind, from_, text, nn⟩ := n
 obtain ⟨hn, hkey, ha, hb⟩ := h
 obtain ⟨key, num, time⟩ := r
 simp only at hk hsz hi hi_n
 subst hk
 have HP : Hid (applyN ⟨5, from_, text, nn⟩ ⟨hn, hkey, ha, hb⟩ true ⟨key, num, time⟩ input = ⟨(List.replicate (min 3 nn).toNat (passR ⟨key, num, time⟩)).flatten, ⟨0, key, ha, hb⟩, true⟩) := rfl
 show Calls _ _ #[.agg #[.int .i64 5, .slice A0 from_.length c0, .string text, .int .i64 nn], .agg #[.int .i64 hn, .string hkey, .int .i64 ha, .int .i64 hb], .bool true, .agg #[.string key, .int .i64 num, .int .i64 time], .int .i64 input] w _
 have HR := Lib.hid hr
 have HV := Lib.hid hv
 have HI := Lib.hid hi
 clear hr hv hi
 go_enter Tryz.func18, Tryz.ntmps18
 go_upto_region 3 with (fail)
 go_region
 go_upto_region 6 with (fail)
 have hV := Vars.mk_ w (.int .i64 5) (.slice A0 from_.length c0) (.string text) (.int .i64 nn) ⟨0, key, ha, hb⟩ ⟨key, num, time⟩
 generalize ((((w.alloc _).alloc _).alloc _).alloc _).drew = W1 at hV ⊢
 generalize w.heap.size + 1 + 1 + 1 = b3 at hV ⊢
 generalize w.heap.size + 1 + 1 = b2 at hV ⊢
 generalize w.heap.size + 1 = b1 at hV ⊢
 generalize w.heap.size = b0 at hV ⊢
 obtain ⟨⟨n0, n2, n3⟩, ⟨h10, h11, h12, h13, h1f⟩, ⟨r0, r1, r2, rf⟩, ⟨_, _, _, _, s0, s1, s2, s3⟩, sf⟩ := hV.cells
 have HW := Lib.hid hV
 clear hV
 obtain ⟨q, hq⟩ : ∃ q : Int, q = min 3 nn := ⟨_, rfl⟩
 obtain ⟨m, hm⟩ : ∃ m : Nat, m = q.toNat := ⟨_, rfl⟩
 have HU : Hid ((List.replicate (min 3 nn).toNat (passR ⟨key, num, time⟩)).flatten = repR ⟨key, num, time⟩ m) := by show _ = _; rw [hm, hq]; rfl
 have hm3 : m ≤ 3 := by omega
 have hqm : ∀ i : Nat, (i : Int) < q ↔ i < m := by omega
 have HN := Lib.hid hi_n
 have HQ := Lib.hid hq
 clear hm hi_n hq
 have HRW := Lib.hid (repR_len ⟨key, num, time⟩)
 go_upto_region 20 with (fail)
 have hqv : (Builtin.min_ #[3, 3] 3 #[.int .i64 3, .int .i64 nn]).run Tryz.prog W1 = .ok (.int .i64 q) W1 := by rw [HQ.out]; simp [Builtin.min_, Builtin.min2]; omega
 go_wp2_with fail
 go_loopw [85, 14] (fun iv ov wr => ∃ (i : Nat) (A : Option Addr) (c : Nat), i ≤ m ∧ iv = .int .i64 i ∧ ov = .slice A (repR ⟨key, num, time⟩ i).length c ∧ Hid (OwnS wr 44 3 A c (repR ⟨key, num, time⟩ i).length ((repR ⟨key, num, time⟩ i).flatMap recCells)) ∧ Hid (∀ k, blk A = some k → W1.heap.size ≤ k) ∧ Hid (Below W1.heap.size W1 wr)) (fun iv _ _ => m - (intOf iv).toNat)
 case atStart => exact ⟨0, none, 0, Nat.zero_le _, rfl, rfl, OwnS.nil _ _ _, nofun, Below.refl _ _⟩
 case round =>
  clear n0 n2 n3 h10 h11 h12 h13 h1f r0 r1 r2 rf s0 s1 s2 s3 sf
  obtain ⟨i, A, c, hi, rfl, rfl, HO, HBL, HB⟩ := hrel
  have hV4 := HW.out.next HB.out
  obtain ⟨⟨n0, n2, n3⟩, ⟨h10, h11, h12, h13, h1f⟩, ⟨r0, r1, r2, rf⟩, ⟨_, _, _, _, s0, s1, s2, s3⟩, sf⟩ := hV4.cells
  by_cases hlt : i < m
  ·have di : decide ((i : Int) < q) = true := decide_eq_true ((hqm i).2 hlt)
   have hlen := HRW.out i
   go_wp2_with fail
   refine (dpass_ok ⟨key, num, time⟩ wr (HR.out.1)).mono ?_
   rintro e w4 ⟨A2, c2, rfl, ho, hbl, hb4⟩
   have HO4 := Lib.hid (HO.out.keep (fun k hk => hb4.block k (HO.out.lt k hk)))
   have hsl := own_recs (F := fun _ => True) ho rfl (fun _ _ => trivial) (fun x hx => by
    have : x = ⟨key, num, time⟩ := by
     unfold passR at hx
     split at hx
     ·cases hx
     ·exact List.mem_singleton.1 hx
    rw [this]; exact HR.out)
   have HSRC := Lib.hid (src_recs hsl Tryz.underlying47)
   have hpl := passR_len ⟨key, num, time⟩
   have HB4 := Lib.hid (HB.out.trans (hb4.mono HB.out.size))
   have HSUC := Lib.hid (repR_succ ⟨key, num, time⟩ i)
   clear ho hbl hb4 hsl hV4 HO HB
   generalize passR ⟨key, num, time⟩ = pr at HSRC hpl HSUC ⊢
   go_wp2_with (at_builtin; refine wpList_append_S rfl _ _ 47 47 rfl 44 _ 3 32 Tryz.underlying47 info_recA rfl (by decide) A c _ _ rfl HO4.out _ rfl pr.length (pr.flatMap recCells) HSRC.out (by unfold maxLen; omega) (by omega) ?_)
   intro A' cap' w5 ho5 hg5 hat5
   have HB5 : Hid (Below W1.heap.size W1 w5) := (Frm.trans (F := fun _ => False) (Frm.ofBelow HB4.out) (Frm.ofGrown (F := fun k => W1.heap.size ≤ k) hg5 (fun k e => HBL.out k e)) (G := fun k => W1.heap.size ≤ k) (fun _ h => h.elim) (fun _ h => .inl h)).below (Nat.le_refl _) (fun _ h => h)
   have HBL5 : Hid (∀ k, blk A' = some k → W1.heap.size ≤ k) := fun k hk => by
    rcases hat5 with e | e
    ·rw [e] at hk; exact HBL.out k hk
    ·rw [e] at hk; injection hk with hk; subst hk; exact HB4.out.size
   have HO5 : Hid (OwnS w5 44 3 A' cap' (repR ⟨key, num, time⟩ (i + 1)).length ((repR ⟨key, num, time⟩ (i + 1)).flatMap recCells)) := by
    show OwnS _ _ _ _ _ _ _
    rw [HSUC.out, List.length_append, List.flatMap_append]; exact ho5
   have hlen5 : (repR ⟨key, num, time⟩ i).length + pr.length = (repR ⟨key, num, time⟩ (i + 1)).length := by rw [HSUC.out, List.length_append]
   clear ho5 hg5 hat5 HO4 HSRC HBL HB4 n0 n2 n3 h10 h11 h12 h13 h1f r0 r1 r2 rf s0 s1 s2 s3 sf
   rw [hlen5]
   go_wp2_with fail
   go_roundw
   case rel => exact ⟨i + 1, A', cap', by omega, by go_num, rfl, HO5, HBL5, HB5⟩
   case measure => simp [intOf]; omega
  ·have di : decide ((i : Int) < q) = false := decide_eq_false (fun h => hlt ((hqm i).1 h))
   have him : i = m := by omega
   subst him
   have hV9 := HW.out.next HB.out
   have HLT := Lib.hid HW.out.lt3
   have HLW := Lib.hid HW.out.below.size
   have HLB := Lib.hid HW.out.lt1
   have HLB := Lib.hid HW.out.lt1
   clear n0 n2 n3 h10 h11 h12 h13 h1f r0 r1 r2 rf s0 s1 s2 s3 sf hV4 HW HB HRW
   obtain ⟨⟨n0, n2, n3⟩, ⟨h10, h11, h12, h13, h1f⟩, ⟨r0, r1, r2, rf⟩, ⟨_, _, _, _, s0, s1, s2, s3⟩, sf⟩ := hV9.cells
   have HW := Lib.hid hV9
   clear hV9
   go_upto_region 46 with (fail)
   go_region
   have hF := HW.out.fin HO.out HBL.out HLT.out HLW.out 0 (key) (ha) (hb)
   clear HW n0 n2 n3 h10 h11 h12 h13 h1f r0 r1 r2 rf s0 s1 s2 s3 sf HO HBL
   generalize ((((wr.setCell ⟨b3, 0, none⟩ _).setCell _ _).setCell _ _).setCell _ _).drew = W5 at hF ⊢
   obtain ⟨hh, h1, h2, h3⟩ := hF
   obtain ⟨s0, s1, s2, s3, sf⟩ := hh.cells
   have HX := Lib.hid (And.intro h1 (And.intro h2 h3))
   clear h1 h2 h3 hh
   go_wp2_with fail
   refine bodyPost_ret (v := .tuple #[.slice A (repR ⟨key, num, time⟩ i).length c, .agg #[.int .i64 0, .string (key), .int .i64 (ha), .int .i64 (hb)], .bool true]) (by simp [results, Tryz.results18, go_sem, s0, s1, s2, s3]) rfl ?_
   rw [HP.out, HU.out]
   exact ⟨A, c, rfl, HX.out⟩
set_option maxRecDepth 100000 in
set_option maxHeartbeats 1000000 in
theorem dapply_copy_new (n : Nod) (A0 : Option Addr) (c0 : Nat) (h : Hld) (r : Rec) (input : Int) (w : World) (hv : ErrVars w) (hsz : n.text.size ≤ maxLen) (hr : RecOk r) (hi : I64 h.a ∧ I64 h.b) (hk : n.kind = 5) (hi_n : I64 n.n) :
  Calls Tryz.prog 18 #[.agg #[.int .i64 n.kind, .slice A0 n.from_.length c0, .string n.text, .int .i64 n.n], hldV h, .bool false, recV r, .int .i64 input] w (AppPost (applyN n h false r input) w) := by
 obtain ⟨kind, from_, text, nn⟩ := n
 obtain ⟨hn, hkey, ha, hb⟩ := h
 obtain ⟨key, num, time⟩ := r
 simp only at hk hsz hi hi_n
 subst hk
 have HP : Hid (applyN ⟨5, from_, text, nn⟩ ⟨hn, hkey, ha, hb⟩ false ⟨key, num, time⟩ input = ⟨(List.replicate (min 3 nn).toNat (passR ⟨key, num, time⟩)).flatten, zeroH, false⟩) := rfl
 show Calls _ _ #[.agg #[.int .i64 5, .slice A0 from_.length c0, .string text, .int .i64 nn], .agg #[.int .i64 hn, .string hkey, .int .i64 ha, .int .i64 hb], .bool false, .agg #[.string key, .int .i64 num, .int .i64 time], .int .i64 input] w _
 have HR := Lib.hid hr
 have HV := Lib.hid hv
 have HI := Lib.hid hi
 clear hr hv hi
 go_enter Tryz.func18, Tryz.ntmps18
 go_upto_region 3 with (fail)
 go_region
 go_upto_region 6 with (fail)
 have hV := Vars.mk_ w (.int .i64 5) (.slice A0 from_.length c0) (.string text) (.int .i64 nn) ⟨0, key, 0, 0⟩ ⟨key, num, time⟩
 generalize ((((w.alloc _).alloc _).alloc _).alloc _).drew = W1 at hV ⊢
 generalize w.heap.size + 1 + 1 + 1 = b3 at hV ⊢
 generalize w.heap.size + 1 + 1 = b2 at hV ⊢
 generalize w.heap.size + 1 = b1 at hV ⊢
 generalize w.heap.size = b0 at hV ⊢
 obtain ⟨⟨n0, n2, n3⟩, ⟨h10, h11, h12, h13, h1f⟩, ⟨r0, r1, r2, rf⟩, ⟨_, _, _, _, s0, s1, s2, s3⟩, sf⟩ := hV.cells
 have HW := Lib.hid hV
 clear hV
 obtain ⟨q, hq⟩ : ∃ q : Int, q = min 3 nn := ⟨_, rfl⟩
 obtain ⟨m, hm⟩ : ∃ m : Nat, m = q.toNat := ⟨_, rfl⟩
 have HU : Hid ((List.replicate (min 3 nn).toNat (passR ⟨key, num, time⟩)).flatten = repR ⟨key, num, time⟩ m) := by show _ = _; rw [hm, hq]; rfl
 have hm3 : m ≤ 3 := by omega
 have hqm : ∀ i : Nat, (i : Int) < q ↔ i < m := by omega
 have HN := Lib.hid hi_n
 have HQ := Lib.hid hq
 clear hm hi_n hq
 have HRW := Lib.hid (repR_len ⟨key, num, time⟩)
 go_upto_region 20 with (fail)
 have hqv : (Builtin.min_ #[3, 3] 3 #[.int .i64 3, .int .i64 nn]).run Tryz.prog W1 = .ok (.int .i64 q) W1 := by rw [HQ.out]; simp [Builtin.min_, Builtin.min2]; omega
 go_wp2_with fail
 go_loopw [85, 14] (fun iv ov wr => ∃ (i : Nat) (A : Option Addr) (c : Nat), i ≤ m ∧ iv = .int .i64 i ∧ ov = .slice A (repR ⟨key, num, time⟩ i).length c ∧ Hid (OwnS wr 44 3 A c (repR ⟨key, num, time⟩ i).length ((repR ⟨key, num, time⟩ i).flatMap recCells)) ∧ Hid (∀ k, blk A = some k → W1.heap.size ≤ k) ∧ Hid (Below W1.heap.size W1 wr)) (fun iv _ _ => m - (intOf iv).toNat)
 case atStart => exact ⟨0, none, 0, Nat.zero_le _, rfl, rfl, OwnS.nil _ _ _, nofun, Below.refl _ _⟩
 case round =>
  clear n0 n2 n3 h10 h11 h12 h13 h1f r0 r1 r2 rf s0 s1 s2 s3 sf
  obtain ⟨i, A, c, hi, rfl, rfl, HO, HBL, HB⟩ := hrel
  have hV4 := HW.out.next HB.out
  obtain ⟨⟨n0, n2, n3⟩, ⟨h10, h11, h12, h13, h1f⟩, ⟨r0, r1, r2, rf⟩, ⟨_, _, _, _, s0, s1, s2, s3⟩, sf⟩ := hV4.cells
  by_cases hlt : i < m
  ·have di : decide ((i : Int) < q) = true := decide_eq_true ((hqm i).2 hlt)
   have hlen := HRW.out i
   go_wp2_with fail
   refine (dpass_ok ⟨key, num, time⟩ wr (HR.out.1)).mono ?_
   rintro e w4 ⟨A2, c2, rfl, ho, hbl, hb4⟩
   have HO4 := Lib.hid (HO.out.keep (fun k hk => hb4.block k (HO.out.lt k hk)))
   have hsl := own_recs (F := fun _ => True) ho rfl (fun _ _ => trivial) (fun x hx => by
    have : x = ⟨key, num, time⟩ := by
     unfold passR at hx
     split at hx
     ·cases hx
     ·exact List.mem_singleton.1 hx
    rw [this]; exact HR.out)
   have HSRC := Lib.hid (src_recs hsl Tryz.underlying47)
   have hpl := passR_len ⟨key, num, time⟩
   have HB4 := Lib.hid (HB.out.trans (hb4.mono HB.out.size))
   have HSUC := Lib.hid (repR_succ ⟨key, num, time⟩ i)
   clear ho hbl hb4 hsl hV4 HO HB
   generalize passR ⟨key, num, time⟩ = pr at HSRC hpl HSUC ⊢
   go_wp2_with (at_builtin; refine wpList_append_S rfl _ _ 47 47 rfl 44 _ 3 32 Tryz.underlying47 info_recA rfl (by decide) A c _ _ rfl HO4.out _ rfl pr.length (pr.flatMap recCells) HSRC.out (by unfold maxLen; omega) (by omega) ?_)
   intro A' cap' w5 ho5 hg5 hat5
   have HB5 : Hid (Below W1.heap.size W1 w5) := (Frm.trans (F := fun _ => False) (Frm.ofBelow HB4.out) (Frm.ofGrown (F := fun k => W1.heap.size ≤ k) hg5 (fun k e => HBL.out k e)) (G := fun k => W1.heap.size ≤ k) (fun _ h => h.elim) (fun _ h => .inl h)).below (Nat.le_refl _) (fun _ h => h)
   have HBL5 : Hid (∀ k, blk A' = some k → W1.heap.size ≤ k) := fun k hk => by
    rcases hat5 with e | e
    ·rw [e] at hk; exact HBL.out k hk
    ·rw [e] at hk; injection hk with hk; subst hk; exact HB4.out.size
   have HO5 : Hid (OwnS w5 44 3 A' cap' (repR ⟨key, num, time⟩ (i + 1)).length ((repR ⟨key, num, time⟩ (i + 1)).flatMap recCells)) := by
    show OwnS _ _ _ _ _ _ _
    rw [HSUC.out, List.length_append, List.flatMap_append]; exact ho5
   have hlen5 : (repR ⟨key, num, time⟩ i).length + pr.length = (repR ⟨key, num, time⟩ (i + 1)).length := by rw [HSUC.out, List.length_append]
   clear ho5 hg5 hat5 HO4 HSRC HBL HB4 n0 n2 n3 h10 h11 h12 h13 h1f r0 r1 r2 rf s0 s1 s2 s3 sf
   rw [hlen5]
   go_wp2_with fail
   go_roundw
   case rel => exact ⟨i + 1, A', cap', by omega, by go_num, rfl, HO5, HBL5, HB5⟩
   case measure => simp [intOf]; omega
  ·have di : decide ((i : Int) < q) = false := decide_eq_false (fun h => hlt ((hqm i).1 h))
   have him : i = m := by omega
   subst him
   have hV9 := HW.out.next HB.out
   have HLT := Lib.hid HW.out.lt3
   have HLW := Lib.hid HW.out.below.size
   have HLB := Lib.hid HW.out.lt1
   have HLB := Lib.hid HW.out.lt1
   clear n0 n2 n3 h10 h11 h12 h13 h1f r0 r1 r2 rf s0 s1 s2 s3 sf hV4 HW HB HRW
   obtain ⟨⟨n0, n2, n3⟩, ⟨h10, h11, h12, h13, h1f⟩, ⟨r0, r1, r2, rf⟩, ⟨_, _, _, _, s0, s1, s2, s3⟩, sf⟩ := hV9.cells
   have HW := Lib.hid hV9
   clear hV9
   go_upto_region 46 with (fail)
   have hV5 := HW.out.zero
   have ho5 : OwnS ((((wr.setCell ⟨b1, 0, none⟩ (.int .i64 0)).setCell ⟨b1, 1, none⟩ (.string ⟨#[]⟩)).setCell ⟨b1, 2, none⟩ (.int .i64 0)).setCell ⟨b1, 3, none⟩ (.int .i64 0)) 44 3 A c (repR ⟨key, num, time⟩ i).length ((repR ⟨key, num, time⟩ i).flatMap recCells) := HW.out.own_zero HO.out HBL.out HLB.out
   clear HW HO n0 n2 n3 h10 h11 h12 h13 h1f r0 r1 r2 rf s0 s1 s2 s3 sf
   generalize (((wr.setCell _ _).setCell _ _).setCell _ _).setCell _ _ = W6 at hV5 ho5 ⊢
   have HO := Lib.hid ho5
   clear ho5
   obtain ⟨⟨n0, n2, n3⟩, ⟨h10, h11, h12, h13, h1f⟩, ⟨r0, r1, r2, rf⟩, ⟨_, _, _, _, s0, s1, s2, s3⟩, sf⟩ := hV5.cells
   have HW := Lib.hid hV5
   clear hV5
   go_region
   have hF := HW.out.fin HO.out HBL.out HLT.out HLW.out 0 (⟨#[]⟩) (0) (0)
   clear HW n0 n2 n3 h10 h11 h12 h13 h1f r0 r1 r2 rf s0 s1 s2 s3 sf HO HBL
   generalize ((((W6.setCell ⟨b3, 0, none⟩ _).setCell _ _).setCell _ _).setCell _ _).drew = W5 at hF ⊢
   obtain ⟨hh, h1, h2, h3⟩ := hF
   obtain ⟨s0, s1, s2, s3, sf⟩ := hh.cells
   have HX := Lib.hid (And.intro h1 (And.intro h2 h3))
   clear h1 h2 h3 hh
   go_wp2_with fail
   refine bodyPost_ret (v := .tuple #[.slice A (repR ⟨key, num, time⟩ i).length c, .agg #[.int .i64 0, .string (⟨#[]⟩), .int .i64 (0), .int .i64 (0)], .bool false]) (by simp [results, Tryz.results18, go_sem, s0, s1, s2, s3]) rfl ?_
   rw [HP.out, HU.out]
   exact ⟨A, c, rfl, HX.out⟩
end Go.Proofs.YtfndhfekbbbliaaGreatDoor

/-
  Package den: the contract of Apply at any node. Conditions: the node's text is a string's, the numbers are ints, the key is no longer than 40 bytes, the two variables of Atoi's errors hold errors, the table of powers of ten stands.
-/
namespace Go.Proofs.YtfndhfekbbbliaaGreatDoor
open Go.RowKit Go.Shelf
set_option linter.unusedVariables false
def FlowR (r : Rec) : Prop := r.key.size ≤ 40 ∧ I64 r.num ∧ I64 r.time
theorem FlowR.ok {r : Rec} (h : FlowR r) : RecOk r := ⟨by unfold maxLen; have := h.1; omega, h.2.1, h.2.2⟩
theorem dapply_ok (n : Nod) (A0 : Option Addr) (c0 : Nat) (h : Hld) (has : Bool) (r : Rec) (input : Int) (w : World) (hv : ErrVars w) (hT : PowTab w) (hsz : n.text.size ≤ maxLen) (hn : I64 n.n) (hr : FlowR r) (hi : I64 h.a ∧ I64 h.b) (hin : I64_ input) :
  Calls Tryz.prog 18 #[.agg #[.int .i64 n.kind, .slice A0 n.from_.length c0, .string n.text, .int .i64 n.n], hldV h, .bool has, recV r, .int .i64 input] w (AppPost (applyN n h has r input) w) := by
 have hk := hr.1
 have hr := hr.ok
 by_cases h2 : n.kind = 2
 ·cases has with
  | true => exact dapply_map_has n A0 c0 h r input w hv hsz hr hi h2
  | false => exact dapply_map_new n A0 c0 h r input w hv hsz hr hi h2
 by_cases h3 : n.kind = 3
 ·by_cases hx : evalOf n.text r.num 0 = 0
  ·cases has with
   | true => exact dapply_filtered_has n A0 c0 h r input w hv hsz hr hi h3 hx
   | false => exact dapply_filtered_new n A0 c0 h r input w hv hsz hr hi h3 hx
  ·cases has with
   | true => exact dapply_filter_has n A0 c0 h r input w hv hsz hr hi h3 hx
   | false => exact dapply_filter_new n A0 c0 h r input w hv hsz hr hi h3 hx
 by_cases h4 : n.kind = 4
 ·cases has with
  | true => exact dapply_sub_has n A0 c0 h r input w hv hsz hr hi h4 hT hk
  | false => exact dapply_sub_new n A0 c0 h r input w hv hsz hr hi h4 hT hk
 by_cases h5 : n.kind = 5
 ·cases has with
  | true => exact dapply_copy_has n A0 c0 h r input w hv hsz hr hi h5 hn
  | false => exact dapply_copy_new n A0 c0 h r input w hv hsz hr hi h5 hn
 by_cases h6 : n.kind = 6
 ·cases has with
  | true => exact dapply_union_has n A0 c0 h r input w hv hsz hr hi h6 hT hin hk
  | false => exact dapply_union_new n A0 c0 h r input w hv hsz hr hi h6 hT hin hk
 by_cases h7 : n.kind = 7
 ·cases has with
  | true => exact dapply_fold_has n A0 c0 h r input w hv hsz hr hi h7
  | false => exact dapply_fold_new n A0 c0 h r input w hv hsz hr hi h7
 by_cases h8 : n.kind = 8
 ·cases has with
  | true =>
   by_cases hx : n.n ≤ wrap64 (h.a + 1)
   ·exact dapply_every_has n A0 c0 h r input w hv hsz hr hi h8 hx
   ·exact dapply_wait_has n A0 c0 h r input w hv hsz hr hi h8 hx
  | false =>
   by_cases hx : n.n ≤ wrap64 (0 + 1)
   ·exact dapply_every_new n A0 c0 h r input w hv hsz hr hi h8 hx
   ·exact dapply_wait_new n A0 c0 h r input w hv hsz hr hi h8 hx
 by_cases h9 : n.kind = 9
 ·cases has with
  | true => exact dapply_first_has n A0 c0 h r input w hv hsz hr hi h9
  | false => exact dapply_first_new n A0 c0 h r input w hv hsz hr hi h9
 have hj : ∀ j : Int, 2 ≤ j → j ≤ 9 → n.kind ≠ j := by omega
 cases has with
 | true => exact dapply_other_has n A0 c0 h r input w hv hsz hr hi hj
 | false => exact dapply_other_new n A0 c0 h r input w hv hsz hr hi hj
theorem i64_wrap (x : Int) : I64 (wrap64 x) := WalkArith.wf_i64 (by unfold wrap64; omega)
theorem i64_eval {s : ByteArray} {n st : Int} (hn : I64 n) (hs : I64 st) : I64 (evalOf s n st) := by
 have := evalOf_i64 (s := s) (i64_of_wf hn) (i64_of_wf hs)
 exact WalkArith.wf_i64 ⟨this.1, this.2⟩
theorem i64_zero : I64 0 := WalkArith.wf_i64 (by omega)
theorem i64_one : I64 1 := WalkArith.wf_i64 (by omega)
theorem passR_ok {r : Rec} (h1 : I64 r.num) (h2 : I64 r.time) : ∀ x ∈ passR r, FlowR x := by
 intro x hx
 unfold passR at hx
 split at hx
 ·cases hx
 ·rw [List.mem_singleton.1 hx]; exact ⟨by omega, h1, h2⟩
def DidOk (d : Did) : Prop := (∀ x ∈ d.out, FlowR x) ∧ I64 d.held.a ∧ I64 d.held.b
theorem DidOk.ends {l : List Rec} {h : Hld} {has : Bool} (hl : ∀ x ∈ l, FlowR x) (h1 : I64 h.a) (h2 : I64 h.b) : DidOk (ends_ l h has) := by
 refine ⟨hl, ?_⟩
 unfold ends_
 cases has with
 | true => exact ⟨h1, h2⟩
 | false => exact ⟨i64_zero, i64_zero⟩
theorem applyN_ok (n : Nod) (h : Hld) (has : Bool) (r : Rec) (input : Int) (hr : FlowR r) (hi : I64 h.a ∧ I64 h.b) : DidOk (applyN n h has r input) := by
 obtain ⟨_, r1, r2⟩ := hr
 obtain ⟨s, hs⟩ : ∃ s, s = begins h has r := ⟨_, rfl⟩
 have hsa : I64 s.a ∧ I64 s.b := by
  rw [hs]; unfold begins
  cases has with
  | true => exact hi
  | false => exact ⟨i64_zero, i64_zero⟩
 unfold applyN
 rw [← hs]
 simp only
 split
 ·exact DidOk.ends (passR_ok (i64_eval r1 i64_zero) r2) hsa.1 hsa.2
 split
 ·refine DidOk.ends ?_ hsa.1 hsa.2
  split
  ·nofun
  ·exact passR_ok r1 r2
 split
 ·exact DidOk.ends (passR_ok r1 r2) hsa.1 hsa.2
 split
 ·refine DidOk.ends ?_ hsa.1 hsa.2
  intro x hx
  obtain ⟨l, hl, hx⟩ := List.mem_flatten.1 hx
  rw [List.eq_of_mem_replicate hl] at hx
  exact passR_ok r1 r2 x hx
 split
 ·exact DidOk.ends (passR_ok r1 r2) hsa.1 hsa.2
 split
 ·exact DidOk.ends (passR_ok (i64_eval r1 hsa.1) r2) (i64_eval r1 hsa.1) hsa.2
 split
 ·split
  ·exact DidOk.ends (passR_ok (i64_wrap _) r2) i64_zero i64_zero
  ·exact DidOk.ends nofun (i64_wrap _) (i64_wrap _)
 split
 ·refine DidOk.ends ?_ i64_one hsa.2
  split
  ·nofun
  ·exact passR_ok r1 r2
 ·exact DidOk.ends (passR_ok r1 r2) hsa.1 hsa.2
end Go.Proofs.YtfndhfekbbbliaaGreatDoor

/-
  The laws of maps at one operation of a region that draws its order, over any program. No condition.
-/
namespace Go.Proofs.YtfndhfekbbbliaaGreatDoor
open Go.RowKit Go.ChangeShapes Go.WideShapes Go.MapKept Go.ChangeMaps
set_option linter.unusedVariables false
section
variable {P : Program} {w : World} {ops : Array Oper} {o : Oper} {a : Act} {K : Act → World → Prop} {Q : Exit → Act → World → Prop} {E : Prop}
end
section
variable {P : Program} {w : World} {ops : Array Oper} {rest : List Oper} {o : Oper} {a : Act} {Q : Exit → Act → World → Prop}
end
end Go.Proofs.YtfndhfekbbbliaaGreatDoor

/-
  Package den: what a record makes of a Sink's lines. Conditions: the flow lies in memory ('FlowAt'), there is room for a line.
-/
namespace Go.Proofs.YtfndhfekbbbliaaGreatDoor
open Go.RowKit Go.ChangeShapes Go.WideShapes Go.Shelf
set_option linter.unusedVariables false
def fullV : Value := .iface 180 (.agg #[])
def Env (B : Nat) (w : World) : Prop := ∀ w', Below B w w' → ErrVars w' ∧ PowTab w'
theorem Env.flows {B : Nat} {w w' : World} (h : Env B w) (hf : Below B w w') : Env B w' := fun w2 h2 => h w2 (hf.trans h2)
theorem FlowAt.parts {C : FlowC} {L : List (List (ByteArray × RowI))} {w : World} {f : Flw} (h : FlowAt C L w f) {i : Nat} (hi : i < C.J.length) :
  w.cell? ⟨C.g, 0, none⟩ = some (.slice C.Aj C.J.length C.cj) ∧ w.cell? ⟨C.g, 1, none⟩ = some (.slice C.Au C.U.length C.cu) ∧ w.cell? ⟨C.g, 2, none⟩ = some (.slice (some ⟨C.bs, 0, none⟩) C.J.length C.cs) ∧
  w.cell? ⟨C.g, 3, none⟩ = some (.slice (some ⟨C.bg, 0, none⟩) C.J.length C.J.length) ∧ w.cell? ⟨C.g, 4, none⟩ = some (.slice (some ⟨C.bl, 0, none⟩) C.J.length C.cl) ∧
  w.cell? ⟨C.bs, i, none⟩ = some (.map (some (C.sb i))) ∧ w.cell? ⟨C.bl, i, none⟩ = some (.map (some (C.lb i))) ∧ w.frozen? ⟨C.bg, i, none⟩ = false := by
 obtain ⟨cs, hcs, hcs2⟩ := h.sts
 obtain ⟨cl, hcl, hcl2⟩ := h.lns
 refine ⟨(cell_of_row w C.g 0 _ _ _ h.obj).trans rfl, (cell_of_row w C.g 1 _ _ _ h.obj).trans rfl, (cell_of_row w C.g 2 _ _ _ h.obj).trans rfl, (cell_of_row w C.g 3 _ _ _ h.obj).trans rfl, (cell_of_row w C.g 4 _ _ _ h.obj).trans rfl,
  (cell_of_row w C.bs i _ _ _ hcs).trans (hcs2 i hi), (cell_of_row w C.bl i _ _ _ hcl).trans (hcl2 i hi), ?_⟩
 simp [World.frozen?, h.gv]
theorem info_intA : (Tryz.prog.info? 3).map (fun i => (i.zero, i.size, i.bytes)) = some (some (.int .i64 0), 1, 8) := by kernel_rfl
theorem FlowAt.lineAt {C : FlowC} (hC : C.Ok) {L : List (List (ByteArray × RowI))} {W : World} {f : Flw} (h : FlowAt C L W f) (hB : C.B ≤ W.heap.size) {u : Nat} (hu : u < C.J.length) (h12 : C.J.length ≤ 12) (hroom : Room C.J.length 1 f) (r : Rec) (hr : FlowR r) :
  ∃ old : RowI, OwnS W 3 1 old.A old.cap old.xs.length (old.xs.flatMap intC) ∧ old.xs.length + 1 ≤ 2000000 ∧
   (∀ W' : World, (∀ k, k < W.heap.size → W'.heap[k]? = W.heap[k]?) → (Instr.lookup 140 (.map (some (C.lb u))) (.string r.key) false).run Tryz.prog W' = .ok (.slice old.A old.xs.length old.cap) W') ∧
   ∀ (A' : Option Addr) (cap' : Nat) (w1 : World), OwnS w1 3 1 A' cap' (old.xs.length + 1) (old.xs.flatMap intC ++ [.int .i64 r.num]) → W.grownBy w1 (blk old.A) → (blk A' = blk old.A ∨ ∃ j, blk A' = some j ∧ W.heap.size ≤ j) →
    w1.cell? ⟨C.g, 4, none⟩ = some (.slice (some ⟨C.bl, 0, none⟩) C.J.length C.cl) ∧ w1.cell? ⟨C.bl, u, none⟩ = some (.map (some (C.lb u))) ∧ (∀ (k : Nat) (cs : Array Value) (t : TypeId) (fr : Nat × Nat), W.heap[k]? = some (.cells cs t fr) → t ≠ 3 → w1.heap[k]? = some (.cells cs t fr)) ∧
    ∃ w2, (Instr.mapUpdate 140 (.map (some (C.lb u))) (.string r.key) (.slice A' (old.xs.length + 1) cap')).run Tryz.prog w1 = .ok () w2 ∧ (∃ L', FlowAt C L' w2 { f with ln := f.ln.modify u fun m => addLine m r }) ∧ Flows C.B W w2 := by
 obtain ⟨m, hm⟩ : ∃ m, L[u]? = some m := ⟨_, List.getElem?_eq_getElem (by rw [h.Ln]; exact hu)⟩
 have hmi := h.lmap u m hm
 have hks : r.key.size ≤ maxLen := hr.ok.1
 obtain ⟨old, hold⟩ : ∃ old, old = (pget m r.key).getD noRow := ⟨_, rfl⟩
 have hat0 : blk old.A = none ∧ old = noRow ∨ (r.key, old) ∈ m := by
  by_cases hk : r.key ∈ pkeys m
  ·obtain ⟨a, v, b, rfl, ha⟩ := split_pkey hk
   rw [pget_split ha] at hold
   right; rw [hold]; simp
  ·rw [pget_none hk] at hold
   left; rw [hold]; exact ⟨rfl, rfl⟩
 have hown : OwnS W 3 1 old.A old.cap old.xs.length (old.xs.flatMap intC) := by
  rcases hat0 with ⟨_, e⟩ | e
  ·rw [e]; exact OwnS.nil _ _ _
  ·exact (h.rows u m _ hm e).1
 have hlen : old.xs.length + 1 ≤ 2000000 := by
  have hml : m.map lxs ∈ f.ln := by rw [h.ln]; exact List.mem_map.2 ⟨m, List.mem_of_getElem? hm, rfl⟩
  have := hroom.small h12 hml r.key
  rw [pget_lxs] at this
  rw [hold]
  cases hp : pget m r.key with
  | none => rw [hp] at this; simp [noRow]
  | some v => rw [hp] at this; simpa using this
 refine ⟨old, hown, hlen, fun W' hW' => ?_, fun A' cap' w1 ho hg hat => ?_⟩
 ·have h1 : SMapAt W' (C.lb u) (m.map lp) := hmi.keep (hW' _ hmi.lt)
  have := h1.get (P := Tryz.prog) (t := 140) Tryz.underlying9 Tryz.underlying140 (z := rowV noRow) (by kernel_rfl) hks false
  rw [fgetD_lp, ← hold] at this
  exact this
 ·have hblk : ∀ j, blk old.A = some j → (∃ cs, W.heap[j]? = some (.cells cs 3 (0, 0))) := fun j hj => OwnS.introw hown hj
  have hcl : ∀ (k : Nat) (cs : Array Value) (t : TypeId) (fr : Nat × Nat), W.heap[k]? = some (.cells cs t fr) → t ≠ 3 → w1.heap[k]? = some (.cells cs t fr) := fun k cs t fr hk ht => (hg.block k (block_lt hk) (fun e => by
   obtain ⟨cs', hc⟩ := hblk _ e.symm
   rw [hk] at hc; injection hc with hc; injection hc with _ hc; exact ht hc)).trans hk
  obtain ⟨cl, hcl0, hcl2⟩ := h.lns
  have hm1 : SMapAt w1 (C.lb u) (m.map lp) := hmi.keep (hg.block _ hmi.lt (fun e => by
   obtain ⟨cs', hc⟩ := hblk _ e.symm
   exact hmi.not_cells hc))
  obtain ⟨w2, hrun, hm2, hg2, _⟩ := hm1.set (P := Tryz.prog) (t := 140) Tryz.underlying9 Tryz.underlying140 hks (.slice A' (old.xs.length + 1) cap')
  have hres := FlowAt.line hC h hB hm (t := r.time) hr.2.1 hold ho hg hat hm2 hg2
  exact ⟨(cell_of_row w1 C.g 4 _ _ _ (hcl _ _ _ _ h.obj (by decide))).trans rfl, (cell_of_row w1 C.bl u _ _ _ (hcl _ _ _ _ hcl0 (by decide))).trans (hcl2 u hu), hcl, w2, hrun, ⟨_, hres.1⟩, hres.2⟩
set_option maxRecDepth 100000 in
set_option maxHeartbeats 2000000 in
theorem dget_sink (C : FlowC) (hC : C.Ok) (L : List (List (ByteArray × RowI))) (f : Flw) (w : World) (u : Nat) (r : Rec) (x : Int) (hF : FlowAt C L w f) (hB : C.B ≤ w.heap.size) (h12 : C.J.length ≤ 12) (hr : FlowR r) (n : Nod) (hn : C.J[u]? = some n) (hk : n.kind = 10) (hroom : Room C.J.length 1 f) :
  Calls Tryz.prog 111 #[.pointer (some ⟨C.g, 0, none⟩), .int .i64 (u : Int), recV r, .int .i64 x] w fun e w' => e = .returned .nilIface ∧ (∃ L', FlowAt C L' w' { f with ln := f.ln.modify u fun m => addLine m r }) ∧ Flows C.B w w' := by
 obtain ⟨hu, he⟩ := List.getElem?_eq_some_iff.1 hn
 obtain ⟨b, off, A', c', hAj, hFb, x0, x1, x2, x3, _⟩ := hF.job.nod_ hu
 rw [he] at x0 x1 x2 x3
 have hp := hF.parts hu
 obtain ⟨o0, o1, o2, o3, o4, o5, o6, _⟩ := hp
 rw [hAj] at o0
 have hcj := hF.job.1
 have hgl : C.g < w.heap.size := cell_lt o0
 have hbs : C.bs < w.heap.size := cell_lt o5
 have hbl : C.bl < w.heap.size := cell_lt o6
 have hbb : b < w.heap.size := by omega
 have HF := Lib.hid hF
 have HR := Lib.hid hr
 have HROOM := Lib.hid hroom
 clear hF hroom hn he hr
 obtain ⟨kind, from_, text, nn⟩ := n
 simp only at hk x0 x1 x2 x3
 subst hk
 obtain ⟨key, num, time⟩ := r
 show Calls _ _ #[_, _, .agg #[.string key, .int .i64 num, .int .i64 time], _] w _
 go_enter Tryz.func111, Tryz.ntmps111
 go_upto_region 3 with (fail)
 obtain ⟨W2, hW2⟩ : ∃ W2, W2 = (w.alloc (.cells #[.string key, .int .i64 num, .int .i64 time] 44)).alloc (.cells #[.int .i64 10, .slice A' from_.length c', .string text, .int .i64 nn] 40) := ⟨_, rfl⟩
 have hB2 : Below w.heap.size w W2 := by rw [hW2]; exact ((Below.refl _ _).alloc (Nat.le_refl _) _).alloc (by simp) _
 have hrb : W2.heap[w.heap.size]? = some (.cells #[.string key, .int .i64 num, .int .i64 time] 44 (0, 0)) := by rw [hW2]; exact (heap_alloc_old _ _ (by simp)).trans (heap_alloc_new _ _)
 have hF2 := HF.out.below hB2 hB
 have hz2 := hB2.size
 obtain ⟨old, hown, hlen, hlook, hput⟩ := FlowAt.lineAt hC hF2 (by omega) hu h12 HROOM.out ⟨key, num, time⟩ HR.out
 have hp := hF2.parts hu
 clear o0 o1 o2 o3 o4 o5 o6 x0 x1 x2 x3
 obtain ⟨_, _, _, _, o4, _, o6, _⟩ := hp
 have r0 : W2.cell? ⟨w.heap.size, 0, none⟩ = some (.string key) := (cell_of_row W2 _ 0 _ _ _ hrb).trans rfl
 have r1 : W2.cell? ⟨w.heap.size, 1, none⟩ = some (.int .i64 num) := (cell_of_row W2 _ 1 _ _ _ hrb).trans rfl
 have hrl := block_lt hrb
 have HFL : Hid (Flows C.B w W2) := Flows.ofBelow hB2
 have HRB := Lib.hid hrb
 rw [← hW2]
 clear hW2 hB2 hF2 HF HROOM hrb hFb hbb hAj
 generalize w.heap.size = rb at hgl hbs hbl hB hz2 r0 r1 hrl HRB ⊢
 obtain ⟨oA, oc, oxs⟩ := old
 simp only at hown hlen hlook hput
 obtain ⟨on, hon⟩ : ∃ on, on = oxs.length := ⟨_, rfl⟩
 rw [← hon] at hown hlen hlook hput
 clear hon
 have hgl2 : C.g < W2.heap.size := by omega
 have hbl2 : C.bl < W2.heap.size := by omega
 have l1 := hlook W2 (fun _ _ => rfl)
 have l2 := hlook W2.drew (fun _ _ => rfl)
 have l3 := hlook (W2.alloc (.cells #[.int .i64 num] 3)).drew (fun k hk => Below.heap_alloc _ _ _ hk)
 have HO := Lib.hid hown
 have HL := Lib.hid hput
 clear hlook hown hput
 have a4 : (W2.alloc (.cells #[.int .i64 num] 3)).drew.cell? ⟨C.g, 4, none⟩ = some (.slice (some ⟨C.bl, 0, none⟩) C.J.length C.cl) := (World.cell?_of_block (Below.heap_alloc W2 _ _ hgl2)).trans o4
 have a6 : (W2.alloc (.cells #[.int .i64 num] 3)).drew.cell? ⟨C.bl, u, none⟩ = some (.map (some (C.lb u))) := (World.cell?_of_block (Below.heap_alloc W2 _ _ hbl2)).trans o6
 have a0 : (W2.alloc (.cells #[.int .i64 num] 3)).drew.cell? ⟨rb, 0, none⟩ = some (.string key) := (World.cell?_of_block (Below.heap_alloc W2 _ _ hrl)).trans r0
 have a1 : (W2.alloc (.cells #[.int .i64 num] 3)).drew.cell? ⟨rb, 1, none⟩ = some (.int .i64 num) := (World.cell?_of_block (Below.heap_alloc W2 _ _ hrl)).trans r1
 go_region_held3 (fun W => W.cell? ⟨C.g, 4, none⟩ = some (.slice (some ⟨C.bl, 0, none⟩) C.J.length C.cl) ∧ W.cell? ⟨C.bl, u, none⟩ = some (.map (some (C.lb u))) ∧ W.cell? ⟨rb, 0, none⟩ = some (.string key) ∧ W.cell? ⟨rb, 1, none⟩ = some (.int .i64 num)) (first | exact ⟨o4, o6, r0, r1⟩ | exact ⟨a4, a6, a0, a1⟩ | exact ⟨p4, p6, p0, p1⟩ | exact ⟨q4, q6, q0, q1⟩)
  (first | (refine step_push_S (w0 := W2) rfl (.tmp 44) (.tmp 47) 38 rfl 3 _ 1 8 Tryz.underlying38 info_intA rfl (by decide) oA oc on _ rfl HO.out [.int .i64 num] rfl rfl (by simp [Value.oneCell']) (by unfold maxLen; omega) (by omega) ?_; intro A3 c3 w3 ho3 hg3 hat3; obtain ⟨p4, p6, pc, w4, hrun, hfin, hfl⟩ := HL.out A3 c3 w3 ho3 hg3 hat3; have pc0 := pc _ _ _ _ HRB.out (by decide); have p0 : w3.cell? ⟨rb, 0, none⟩ = some (.string key) := (cell_of_row w3 _ 0 _ _ _ pc0).trans rfl; have p1 : w3.cell? ⟨rb, 1, none⟩ = some (.int .i64 num) := (cell_of_row w3 _ 1 _ _ _ pc0).trans rfl; have qc := hfl.cells HRB.out (by decide); have q0 : w4.cell? ⟨rb, 0, none⟩ = some (.string key) := (cell_of_row w4 _ 0 _ _ _ qc).trans rfl; have q1 : w4.cell? ⟨rb, 1, none⟩ = some (.int .i64 num) := (cell_of_row w4 _ 1 _ _ _ qc).trans rfl; obtain ⟨L9, hF9⟩ := hfin; have hp9 := hF9.parts hu; have q4 := hp9.2.2.2.2.1; have q6 := hp9.2.2.2.2.2.2.1; have HX : Hid ((∃ L', FlowAt C L' w4 { f with ln := f.ln.modify u fun m => addLine m ⟨key, num, time⟩ }) ∧ Flows C.B W2 w4) := ⟨⟨L9, hF9⟩, hfl⟩; clear hfl pc pc0 qc ho3 hg3 hat3 hp9 hF9))
 all_goals
  go_wp2_with fail
  go_ret
  exact ⟨rfl, HX.out.1, HFL.out.trans HX.out.2⟩
end Go.Proofs.YtfndhfekbbbliaaGreatDoor
