/-
  Several texts of this claim in one, in build order; each begins with its own remark, which says what it proves and under which conditions.
-/
import Derived.Test.YtfndhfekbbbliaaGreatDoorPackJ
import Derived.Lib.ItoaLen
import Derived.Test.YtfndhfekbbbliaaGreatDoorPackA
import Derived.WalkSpells
import Derived.WalkLawsBesides
import Derived.Deep.QuietTactic
import Derived.BigQuiet
import Derived.Laws.IdiomStrings
import Derived.IntWalk
import Derived.Test.YtfndhfekbbbliaaGreatDoorPackH
import Derived.Test.YtfndhfekbbbliaaGreatDoorRows
import Derived.LaidLaws
import Derived.Lib.LaidU8
import Derived.Lib.LaidTab

/-
  Package den: the contract of Apply, kind by kind (printed by denapply.py). Conditions: the node's text is a string's, the numbers are ints, the two variables of Atoi's errors hold errors.
-/
namespace Go.Proofs.YtfndhfekbbbliaaGreatDoor
open Go.RowKit Go.Shelf
set_option linter.unusedVariables false

set_option maxRecDepth 100000 in
set_option maxHeartbeats 1000000 in
theorem dapply_union_has (n : Nod) (A0 : Option Addr) (c0 : Nat) (h : Hld) (r : Rec) (input : Int) (w : World) (hv : ErrVars w) (hsz : n.text.size ≤ maxLen) (hr : RecOk r) (hi : I64 h.a ∧ I64 h.b) (hk : n.kind = 6) (hT : PowTab w) (hin : I64_ input) (hkl : r.key.size ≤ 40) :
    Calls Tryz.prog 18 #[.agg #[.int .i64 n.kind, .slice A0 n.from_.length c0, .string n.text, .int .i64 n.n], hldV h, .bool true, recV r, .int .i64 input] w (AppPost (applyN n h true r input) w) := by
  obtain ⟨kind, from_, text, nn⟩ := n
  obtain ⟨hn, hkey, ha, hb⟩ := h
  obtain ⟨key, num, time⟩ := r
  simp only at hk hsz hi hkl
  subst hk
  have HP : Hid (applyN ⟨6, from_, text, nn⟩ ⟨hn, hkey, ha, hb⟩ true ⟨key, num, time⟩ input = ⟨passR ⟨uniKey input key, num, time⟩, ⟨0, key, ha, hb⟩, true⟩) := rfl
  show Calls _ _ #[.agg #[.int .i64 6, .slice A0 from_.length c0, .string text, .int .i64 nn], .agg #[.int .i64 hn, .string hkey, .int .i64 ha, .int .i64 hb], .bool true, .agg #[.string key, .int .i64 num, .int .i64 time], .int .i64 input] w _
  have HR := Lib.hid hr
  have HV := Lib.hid hv
  have HI := Lib.hid hi
  clear hr hv hi
  go_enter Tryz.func18, Tryz.ntmps18
  go_upto_region 3 with (fail)
  go_region
  go_upto_region 6 with (fail)
  have hV := Vars.mk_ w (.int .i64 6) (.slice A0 from_.length c0) (.string text) (.int .i64 nn) ⟨0, key, ha, hb⟩ ⟨key, num, time⟩
  generalize ((((w.alloc _).alloc _).alloc _).alloc _).drew = W1 at hV ⊢
  generalize w.heap.size + 1 + 1 + 1 = b3 at hV ⊢
  generalize w.heap.size + 1 + 1 = b2 at hV ⊢
  generalize w.heap.size + 1 = b1 at hV ⊢
  generalize w.heap.size = b0 at hV ⊢
  obtain ⟨⟨n0, n2, n3⟩, ⟨h10, h11, h12, h13, h1f⟩, ⟨r0, r1, r2, rf⟩, ⟨_, _, _, _, s0, s1, s2, s3⟩, sf⟩ := hV.cells
  have HW := Lib.hid hV
  clear hV
  obtain ⟨s, hs⟩ : ∃ s : ByteArray, s = ⟨(Lib.itoa input).toArray⟩ := ⟨_, rfl⟩
  have hs2 : s.size ≤ 21 := by rw [hs]; show (Lib.itoa input).toArray.size ≤ 21; simpa using Go.Lib.itoa_length_le input hin.1 hin.2
  have HU : Hid (uniKey input key = s ++ ⟨#[58]⟩ ++ key) := by show _ = _; rw [hs]; rfl
  have HC : Hid (∀ W, Below W1.heap.size W1 W → Calls Tryz.prog 53 #[.int .i64 input] W fun e w' => e = .returned (.string s) ∧ Below W.heap.size W w') := fun W hb => by rw [hs]; exact itoa_ok input W hin ((hT.below HW.out.below).below hb)
  clear hT hs hin
  go_upto_region 25 with (fail)
  go_region_with (go_at_call 53; refine (HC.out _ (by first | exact Below.refl _ _ | exact (Below.refl _ _).drew)).mono ?_; rintro e w2 ⟨rfl, hb2⟩; have hV2 : Vars w w2 b0 (.int .i64 6) (.slice A0 from_.length c0) (.string text) (.int .i64 nn) b1 b2 b3 ⟨0, key, ha, hb⟩ ⟨key, num, time⟩ := HW.out.next (by first | exact hb2 | exact (((Below.refl _ _).drew).trans hb2)); clear n0 n2 n3 h10 h11 h12 h13 h1f r0 r1 r2 rf s0 s1 s2 s3 sf; obtain ⟨⟨n0, n2, n3⟩, ⟨h10, h11, h12, h13, h1f⟩, ⟨r0, r1, r2, rf⟩, ⟨_, _, _, _, s0, s1, s2, s3⟩, sf⟩ := hV2.cells; have HW2 := Lib.hid hV2; clear hV2 hb2)
  all_goals
    go_upto_region 26 with (fail)
    have hV3 := HW2.out.key (s ++ ⟨#[58]⟩ ++ key)
    have hks : (s ++ ⟨#[58]⟩ ++ key).size ≤ maxLen := by rw [ByteArray.size_append, ByteArray.size_append]; show s.size + 1 + key.size ≤ _; unfold maxLen; omega
    clear HW HW2 HC n0 n2 n3 h10 h11 h12 h13 h1f r0 r1 r2 rf s0 s1 s2 s3 sf
    generalize w2.setCell ⟨b2, 0, none⟩ (.string (s ++ ⟨#[58]⟩ ++ key)) = W3 at hV3 ⊢
    generalize s ++ ⟨#[58]⟩ ++ key = k2 at HU hks hV3 ⊢
    obtain ⟨⟨n0, n2, n3⟩, ⟨h10, h11, h12, h13, h1f⟩, ⟨r0, r1, r2, rf⟩, ⟨_, _, _, _, s0, s1, s2, s3⟩, sf⟩ := hV3.cells
    have HW := Lib.hid hV3
    clear hV3
    go_wp2_with fail
    refine (dpass_ok ⟨k2, num, time⟩ W3 (hks)).mono ?_
    rintro e w4 ⟨A, c, rfl, ho, hbl, hb4⟩
    have hV4 := HW.out.next hb4
    have HO := Lib.hid ho
    have HBL := Lib.hid hbl
    have HLT := Lib.hid HW.out.lt3
    have HLW := Lib.hid HW.out.below.size
    have HLB := Lib.hid HW.out.lt1
    clear HW n0 n2 n3 h10 h11 h12 h13 h1f r0 r1 r2 rf s0 s1 s2 s3 sf ho hbl hb4
    obtain ⟨⟨n0, n2, n3⟩, ⟨h10, h11, h12, h13, h1f⟩, ⟨r0, r1, r2, rf⟩, ⟨_, _, _, _, s0, s1, s2, s3⟩, sf⟩ := hV4.cells
    have HW := Lib.hid hV4
    clear hV4
    go_upto_region 46 with (fail)
    go_region
    have hF := HW.out.fin HO.out HBL.out HLT.out HLW.out 0 (key) (ha) (hb)
    clear HW n0 n2 n3 h10 h11 h12 h13 h1f r0 r1 r2 rf s0 s1 s2 s3 sf HO HBL
    generalize ((((w4.setCell ⟨b3, 0, none⟩ _).setCell _ _).setCell _ _).setCell _ _).drew = W5 at hF ⊢
    obtain ⟨hh, h1, h2, h3⟩ := hF
    obtain ⟨s0, s1, s2, s3, sf⟩ := hh.cells
    have HX := Lib.hid (And.intro h1 (And.intro h2 h3))
    clear h1 h2 h3 hh
    go_wp2_with fail
    refine bodyPost_ret (v := .tuple #[.slice A (passR ⟨k2, num, time⟩).length c, .agg #[.int .i64 0, .string (key), .int .i64 (ha), .int .i64 (hb)], .bool true]) (by simp [results, Tryz.results18, go_sem, s0, s1, s2, s3]) rfl ?_
    rw [HP.out, HU.out]
    exact ⟨A, c, rfl, HX.out⟩
set_option maxRecDepth 100000 in
set_option maxHeartbeats 1000000 in
theorem dapply_union_new (n : Nod) (A0 : Option Addr) (c0 : Nat) (h : Hld) (r : Rec) (input : Int) (w : World) (hv : ErrVars w) (hsz : n.text.size ≤ maxLen) (hr : RecOk r) (hi : I64 h.a ∧ I64 h.b) (hk : n.kind = 6) (hT : PowTab w) (hin : I64_ input) (hkl : r.key.size ≤ 40) :
    Calls Tryz.prog 18 #[.agg #[.int .i64 n.kind, .slice A0 n.from_.length c0, .string n.text, .int .i64 n.n], hldV h, .bool false, recV r, .int .i64 input] w (AppPost (applyN n h false r input) w) := by
  obtain ⟨kind, from_, text, nn⟩ := n
  obtain ⟨hn, hkey, ha, hb⟩ := h
  obtain ⟨key, num, time⟩ := r
  simp only at hk hsz hi hkl
  subst hk
  have HP : Hid (applyN ⟨6, from_, text, nn⟩ ⟨hn, hkey, ha, hb⟩ false ⟨key, num, time⟩ input = ⟨passR ⟨uniKey input key, num, time⟩, zeroH, false⟩) := rfl
  show Calls _ _ #[.agg #[.int .i64 6, .slice A0 from_.length c0, .string text, .int .i64 nn], .agg #[.int .i64 hn, .string hkey, .int .i64 ha, .int .i64 hb], .bool false, .agg #[.string key, .int .i64 num, .int .i64 time], .int .i64 input] w _
  have HR := Lib.hid hr
  have HV := Lib.hid hv
  have HI := Lib.hid hi
  clear hr hv hi
  go_enter Tryz.func18, Tryz.ntmps18
  go_upto_region 3 with (fail)
  go_region
  go_upto_region 6 with (fail)
  have hV := Vars.mk_ w (.int .i64 6) (.slice A0 from_.length c0) (.string text) (.int .i64 nn) ⟨0, key, 0, 0⟩ ⟨key, num, time⟩
  generalize ((((w.alloc _).alloc _).alloc _).alloc _).drew = W1 at hV ⊢
  generalize w.heap.size + 1 + 1 + 1 = b3 at hV ⊢
  generalize w.heap.size + 1 + 1 = b2 at hV ⊢
  generalize w.heap.size + 1 = b1 at hV ⊢
  generalize w.heap.size = b0 at hV ⊢
  obtain ⟨⟨n0, n2, n3⟩, ⟨h10, h11, h12, h13, h1f⟩, ⟨r0, r1, r2, rf⟩, ⟨_, _, _, _, s0, s1, s2, s3⟩, sf⟩ := hV.cells
  have HW := Lib.hid hV
  clear hV
  obtain ⟨s, hs⟩ : ∃ s : ByteArray, s = ⟨(Lib.itoa input).toArray⟩ := ⟨_, rfl⟩
  have hs2 : s.size ≤ 21 := by rw [hs]; show (Lib.itoa input).toArray.size ≤ 21; simpa using Go.Lib.itoa_length_le input hin.1 hin.2
  have HU : Hid (uniKey input key = s ++ ⟨#[58]⟩ ++ key) := by show _ = _; rw [hs]; rfl
  have HC : Hid (∀ W, Below W1.heap.size W1 W → Calls Tryz.prog 53 #[.int .i64 input] W fun e w' => e = .returned (.string s) ∧ Below W.heap.size W w') := fun W hb => by rw [hs]; exact itoa_ok input W hin ((hT.below HW.out.below).below hb)
  clear hT hs hin
  go_upto_region 25 with (fail)
  go_region_with (go_at_call 53; refine (HC.out _ (by first | exact Below.refl _ _ | exact (Below.refl _ _).drew)).mono ?_; rintro e w2 ⟨rfl, hb2⟩; have hV2 : Vars w w2 b0 (.int .i64 6) (.slice A0 from_.length c0) (.string text) (.int .i64 nn) b1 b2 b3 ⟨0, key, 0, 0⟩ ⟨key, num, time⟩ := HW.out.next (by first | exact hb2 | exact (((Below.refl _ _).drew).trans hb2)); clear n0 n2 n3 h10 h11 h12 h13 h1f r0 r1 r2 rf s0 s1 s2 s3 sf; obtain ⟨⟨n0, n2, n3⟩, ⟨h10, h11, h12, h13, h1f⟩, ⟨r0, r1, r2, rf⟩, ⟨_, _, _, _, s0, s1, s2, s3⟩, sf⟩ := hV2.cells; have HW2 := Lib.hid hV2; clear hV2 hb2)
  all_goals
    go_upto_region 26 with (fail)
    have hV3 := HW2.out.key (s ++ ⟨#[58]⟩ ++ key)
    have hks : (s ++ ⟨#[58]⟩ ++ key).size ≤ maxLen := by rw [ByteArray.size_append, ByteArray.size_append]; show s.size + 1 + key.size ≤ _; unfold maxLen; omega
    clear HW HW2 HC n0 n2 n3 h10 h11 h12 h13 h1f r0 r1 r2 rf s0 s1 s2 s3 sf
    generalize w2.setCell ⟨b2, 0, none⟩ (.string (s ++ ⟨#[58]⟩ ++ key)) = W3 at hV3 ⊢
    generalize s ++ ⟨#[58]⟩ ++ key = k2 at HU hks hV3 ⊢
    obtain ⟨⟨n0, n2, n3⟩, ⟨h10, h11, h12, h13, h1f⟩, ⟨r0, r1, r2, rf⟩, ⟨_, _, _, _, s0, s1, s2, s3⟩, sf⟩ := hV3.cells
    have HW := Lib.hid hV3
    clear hV3
    go_wp2_with fail
    refine (dpass_ok ⟨k2, num, time⟩ W3 (hks)).mono ?_
    rintro e w4 ⟨A, c, rfl, ho, hbl, hb4⟩
    have hV4 := HW.out.next hb4
    have HO := Lib.hid ho
    have HBL := Lib.hid hbl
    have HLT := Lib.hid HW.out.lt3
    have HLW := Lib.hid HW.out.below.size
    have HLB := Lib.hid HW.out.lt1
    clear HW n0 n2 n3 h10 h11 h12 h13 h1f r0 r1 r2 rf s0 s1 s2 s3 sf ho hbl hb4
    obtain ⟨⟨n0, n2, n3⟩, ⟨h10, h11, h12, h13, h1f⟩, ⟨r0, r1, r2, rf⟩, ⟨_, _, _, _, s0, s1, s2, s3⟩, sf⟩ := hV4.cells
    have HW := Lib.hid hV4
    clear hV4
    go_upto_region 46 with (fail)
    have hV5 := HW.out.zero
    have ho5 : OwnS ((((w4.setCell ⟨b1, 0, none⟩ (.int .i64 0)).setCell ⟨b1, 1, none⟩ (.string ⟨#[]⟩)).setCell ⟨b1, 2, none⟩ (.int .i64 0)).setCell ⟨b1, 3, none⟩ (.int .i64 0)) 44 3 A c (passR ⟨k2, num, time⟩).length ((passR ⟨k2, num, time⟩).flatMap recCells) := HW.out.own_zero HO.out HBL.out HLB.out
    clear HW HO n0 n2 n3 h10 h11 h12 h13 h1f r0 r1 r2 rf s0 s1 s2 s3 sf
    generalize (((w4.setCell _ _).setCell _ _).setCell _ _).setCell _ _ = W6 at hV5 ho5 ⊢
    have HO := Lib.hid ho5
    clear ho5
    obtain ⟨⟨n0, n2, n3⟩, ⟨h10, h11, h12, h13, h1f⟩, ⟨r0, r1, r2, rf⟩, ⟨_, _, _, _, s0, s1, s2, s3⟩, sf⟩ := hV5.cells
    have HW := Lib.hid hV5
    clear hV5
    go_region
    have hF := HW.out.fin HO.out HBL.out HLT.out HLW.out 0 (⟨#[]⟩) (0) (0)
    clear HW n0 n2 n3 h10 h11 h12 h13 h1f r0 r1 r2 rf s0 s1 s2 s3 sf HO HBL
    generalize ((((W6.setCell ⟨b3, 0, none⟩ _).setCell _ _).setCell _ _).setCell _ _).drew = W5 at hF ⊢
    obtain ⟨hh, h1, h2, h3⟩ := hF
    obtain ⟨s0, s1, s2, s3, sf⟩ := hh.cells
    have HX := Lib.hid (And.intro h1 (And.intro h2 h3))
    clear h1 h2 h3 hh
    go_wp2_with fail
    refine bodyPost_ret (v := .tuple #[.slice A (passR ⟨k2, num, time⟩).length c, .agg #[.int .i64 0, .string (⟨#[]⟩), .int .i64 (0), .int .i64 (0)], .bool false]) (by simp [results, Tryz.results18, go_sem, s0, s1, s2, s3]) rfl ?_
    rw [HP.out, HU.out]
    exact ⟨A, c, rfl, HX.out⟩
end Go.Proofs.YtfndhfekbbbliaaGreatDoor

/-
  Package den: the contract of Apply, kind by kind (printed by denapply.py). Conditions: the node's text is a string's, the numbers are ints, the two variables of Atoi's errors hold errors.
-/
namespace Go.Proofs.YtfndhfekbbbliaaGreatDoor
open Go.RowKit Go.Shelf
set_option linter.unusedVariables false

theorem evalOf_i64 {s : ByteArray} {n st : Int} (hn : I64_ n) (hs : I64_ st) : I64_ (evalOf s n st) := by
  unfold evalOf
  split
  · rename_i t h
    exact val_bounds (fine_of h) hn hs
  · exact ⟨by omega, by omega⟩
set_option maxRecDepth 100000 in
set_option maxHeartbeats 1000000 in
theorem dapply_sub_has (n : Nod) (A0 : Option Addr) (c0 : Nat) (h : Hld) (r : Rec) (input : Int) (w : World) (hv : ErrVars w) (hsz : n.text.size ≤ maxLen) (hr : RecOk r) (hi : I64 h.a ∧ I64 h.b) (hk : n.kind = 4) (hT : PowTab w) (hkl : r.key.size ≤ 40) :
    Calls Tryz.prog 18 #[.agg #[.int .i64 n.kind, .slice A0 n.from_.length c0, .string n.text, .int .i64 n.n], hldV h, .bool true, recV r, .int .i64 input] w (AppPost (applyN n h true r input) w) := by
  obtain ⟨kind, from_, text, nn⟩ := n
  obtain ⟨hn, hkey, ha, hb⟩ := h
  obtain ⟨key, num, time⟩ := r
  simp only at hk hsz hi hkl
  subst hk
  have HP : Hid (applyN ⟨4, from_, text, nn⟩ ⟨hn, hkey, ha, hb⟩ true ⟨key, num, time⟩ input = ⟨passR ⟨subKey key (evalOf text num 0), num, time⟩, ⟨0, key, ha, hb⟩, true⟩) := rfl
  show Calls _ _ #[.agg #[.int .i64 4, .slice A0 from_.length c0, .string text, .int .i64 nn], .agg #[.int .i64 hn, .string hkey, .int .i64 ha, .int .i64 hb], .bool true, .agg #[.string key, .int .i64 num, .int .i64 time], .int .i64 input] w _
  have HR := Lib.hid hr
  have HV := Lib.hid hv
  have HI := Lib.hid hi
  clear hr hv hi
  go_enter Tryz.func18, Tryz.ntmps18
  go_upto_region 3 with (fail)
  go_region
  go_upto_region 6 with (fail)
  have hV := Vars.mk_ w (.int .i64 4) (.slice A0 from_.length c0) (.string text) (.int .i64 nn) ⟨0, key, ha, hb⟩ ⟨key, num, time⟩
  generalize ((((w.alloc _).alloc _).alloc _).alloc _).drew = W1 at hV ⊢
  generalize w.heap.size + 1 + 1 + 1 = b3 at hV ⊢
  generalize w.heap.size + 1 + 1 = b2 at hV ⊢
  generalize w.heap.size + 1 = b1 at hV ⊢
  generalize w.heap.size = b0 at hV ⊢
  obtain ⟨⟨n0, n2, n3⟩, ⟨h10, h11, h12, h13, h1f⟩, ⟨r0, r1, r2, rf⟩, ⟨_, _, _, _, s0, s1, s2, s3⟩, sf⟩ := hV.cells
  have HW := Lib.hid hV
  clear hV
  have hx : I64_ (evalOf text num 0) := evalOf_i64 (i64_of_wf HR.out.2.1) ⟨by omega, by omega⟩
  go_wp2_with fail
  have hb0 := HW.out.below
  refine (eval_ok_any text num 0 W1 (HV.out.below hb0) hsz (i64_of_wf HR.out.2.1) ⟨by omega, by omega⟩).mono ?_
  rintro e w2 ⟨rfl, hb2⟩
  have hV2 := HW.out.next hb2
  clear HW n0 n2 n3 h10 h11 h12 h13 h1f r0 r1 r2 rf s0 s1 s2 s3 sf hb0 hb2
  rw [← evalOf_val]
  obtain ⟨⟨n0, n2, n3⟩, ⟨h10, h11, h12, h13, h1f⟩, ⟨r0, r1, r2, rf⟩, ⟨_, _, _, _, s0, s1, s2, s3⟩, sf⟩ := hV2.cells
  have HW := Lib.hid hV2
  clear hV2
  generalize evalOf text num 0 = x at HP hx ⊢
  obtain ⟨s, hs⟩ : ∃ s : ByteArray, s = ⟨(Lib.itoa x).toArray⟩ := ⟨_, rfl⟩
  have hs2 : s.size ≤ 21 := by rw [hs]; show (Lib.itoa x).toArray.size ≤ 21; simpa using Go.Lib.itoa_length_le x hx.1 hx.2
  have HU : Hid (subKey key x = key ++ (⟨#[47]⟩ ++ s)) := by show _ = _; rw [hs]; rfl
  have HC : Hid (∀ W, Below w2.heap.size w2 W → Calls Tryz.prog 53 #[.int .i64 x] W fun e w' => e = .returned (.string s) ∧ Below W.heap.size W w') := fun W hb => by rw [hs]; exact itoa_ok x W hx ((hT.below HW.out.below).below hb)
  clear hT hs hx
  go_upto_region 17 with (fail)
  go_region_with (go_at_call 53; refine (HC.out _ (by first | exact Below.refl _ _ | exact (Below.refl _ _).drew)).mono ?_; rintro e w3 ⟨rfl, hb2⟩; have hV2 : Vars w w3 b0 (.int .i64 4) (.slice A0 from_.length c0) (.string text) (.int .i64 nn) b1 b2 b3 ⟨0, key, ha, hb⟩ ⟨key, num, time⟩ := HW.out.next (by first | exact hb2 | exact (((Below.refl _ _).drew).trans hb2)); clear n0 n2 n3 h10 h11 h12 h13 h1f r0 r1 r2 rf s0 s1 s2 s3 sf; obtain ⟨⟨n0, n2, n3⟩, ⟨h10, h11, h12, h13, h1f⟩, ⟨r0, r1, r2, rf⟩, ⟨_, _, _, _, s0, s1, s2, s3⟩, sf⟩ := hV2.cells; have HW2 := Lib.hid hV2; clear hV2 hb2)
  all_goals
    go_upto_region 18 with (fail)
    have hV3 := HW2.out.key (key ++ (⟨#[47]⟩ ++ s))
    have hks : (key ++ (⟨#[47]⟩ ++ s)).size ≤ maxLen := by rw [ByteArray.size_append, ByteArray.size_append]; show key.size + (1 + s.size) ≤ _; unfold maxLen; omega
    clear HW HW2 HC n0 n2 n3 h10 h11 h12 h13 h1f r0 r1 r2 rf s0 s1 s2 s3 sf
    generalize w3.setCell ⟨b2, 0, none⟩ (.string (key ++ (⟨#[47]⟩ ++ s))) = W3 at hV3 ⊢
    generalize key ++ (⟨#[47]⟩ ++ s) = k2 at HU hks hV3 ⊢
    obtain ⟨⟨n0, n2, n3⟩, ⟨h10, h11, h12, h13, h1f⟩, ⟨r0, r1, r2, rf⟩, ⟨_, _, _, _, s0, s1, s2, s3⟩, sf⟩ := hV3.cells
    have HW := Lib.hid hV3
    clear hV3
    go_wp2_with fail
    refine (dpass_ok ⟨k2, num, time⟩ W3 (hks)).mono ?_
    rintro e w4 ⟨A, c, rfl, ho, hbl, hb4⟩
    have hV4 := HW.out.next hb4
    have HO := Lib.hid ho
    have HBL := Lib.hid hbl
    have HLT := Lib.hid HW.out.lt3
    have HLW := Lib.hid HW.out.below.size
    have HLB := Lib.hid HW.out.lt1
    clear HW n0 n2 n3 h10 h11 h12 h13 h1f r0 r1 r2 rf s0 s1 s2 s3 sf ho hbl hb4
    obtain ⟨⟨n0, n2, n3⟩, ⟨h10, h11, h12, h13, h1f⟩, ⟨r0, r1, r2, rf⟩, ⟨_, _, _, _, s0, s1, s2, s3⟩, sf⟩ := hV4.cells
    have HW := Lib.hid hV4
    clear hV4
    go_upto_region 46 with (fail)
    go_region
    have hF := HW.out.fin HO.out HBL.out HLT.out HLW.out 0 (key) (ha) (hb)
    clear HW n0 n2 n3 h10 h11 h12 h13 h1f r0 r1 r2 rf s0 s1 s2 s3 sf HO HBL
    generalize ((((w4.setCell ⟨b3, 0, none⟩ _).setCell _ _).setCell _ _).setCell _ _).drew = W5 at hF ⊢
    obtain ⟨hh, h1, h2, h3⟩ := hF
    obtain ⟨s0, s1, s2, s3, sf⟩ := hh.cells
    have HX := Lib.hid (And.intro h1 (And.intro h2 h3))
    clear h1 h2 h3 hh
    go_wp2_with fail
    refine bodyPost_ret (v := .tuple #[.slice A (passR ⟨k2, num, time⟩).length c, .agg #[.int .i64 0, .string (key), .int .i64 (ha), .int .i64 (hb)], .bool true]) (by simp [results, Tryz.results18, go_sem, s0, s1, s2, s3]) rfl ?_
    rw [HP.out, HU.out]
    exact ⟨A, c, rfl, HX.out⟩
set_option maxRecDepth 100000 in
set_option maxHeartbeats 1000000 in
theorem dapply_sub_new (n : Nod) (A0 : Option Addr) (c0 : Nat) (h : Hld) (r : Rec) (input : Int) (w : World) (hv : ErrVars w) (hsz : n.text.size ≤ maxLen) (hr : RecOk r) (hi : I64 h.a ∧ I64 h.b) (hk : n.kind = 4) (hT : PowTab w) (hkl : r.key.size ≤ 40) :
    Calls Tryz.prog 18 #[.agg #[.int .i64 n.kind, .slice A0 n.from_.length c0, .string n.text, .int .i64 n.n], hldV h, .bool false, recV r, .int .i64 input] w (AppPost (applyN n h false r input) w) := by
  obtain ⟨kind, from_, text, nn⟩ := n
  obtain ⟨hn, hkey, ha, hb⟩ := h
  obtain ⟨key, num, time⟩ := r
  simp only at hk hsz hi hkl
  subst hk
  have HP : Hid (applyN ⟨4, from_, text, nn⟩ ⟨hn, hkey, ha, hb⟩ false ⟨key, num, time⟩ input = ⟨passR ⟨subKey key (evalOf text num 0), num, time⟩, zeroH, false⟩) := rfl
  show Calls _ _ #[.agg #[.int .i64 4, .slice A0 from_.length c0, .string text, .int .i64 nn], .agg #[.int .i64 hn, .string hkey, .int .i64 ha, .int .i64 hb], .bool false, .agg #[.string key, .int .i64 num, .int .i64 time], .int .i64 input] w _
  have HR := Lib.hid hr
  have HV := Lib.hid hv
  have HI := Lib.hid hi
  clear hr hv hi
  go_enter Tryz.func18, Tryz.ntmps18
  go_upto_region 3 with (fail)
  go_region
  go_upto_region 6 with (fail)
  have hV := Vars.mk_ w (.int .i64 4) (.slice A0 from_.length c0) (.string text) (.int .i64 nn) ⟨0, key, 0, 0⟩ ⟨key, num, time⟩
  generalize ((((w.alloc _).alloc _).alloc _).alloc _).drew = W1 at hV ⊢
  generalize w.heap.size + 1 + 1 + 1 = b3 at hV ⊢
  generalize w.heap.size + 1 + 1 = b2 at hV ⊢
  generalize w.heap.size + 1 = b1 at hV ⊢
  generalize w.heap.size = b0 at hV ⊢
  obtain ⟨⟨n0, n2, n3⟩, ⟨h10, h11, h12, h13, h1f⟩, ⟨r0, r1, r2, rf⟩, ⟨_, _, _, _, s0, s1, s2, s3⟩, sf⟩ := hV.cells
  have HW := Lib.hid hV
  clear hV
  have hx : I64_ (evalOf text num 0) := evalOf_i64 (i64_of_wf HR.out.2.1) ⟨by omega, by omega⟩
  go_wp2_with fail
  have hb0 := HW.out.below
  refine (eval_ok_any text num 0 W1 (HV.out.below hb0) hsz (i64_of_wf HR.out.2.1) ⟨by omega, by omega⟩).mono ?_
  rintro e w2 ⟨rfl, hb2⟩
  have hV2 := HW.out.next hb2
  clear HW n0 n2 n3 h10 h11 h12 h13 h1f r0 r1 r2 rf s0 s1 s2 s3 sf hb0 hb2
  rw [← evalOf_val]
  obtain ⟨⟨n0, n2, n3⟩, ⟨h10, h11, h12, h13, h1f⟩, ⟨r0, r1, r2, rf⟩, ⟨_, _, _, _, s0, s1, s2, s3⟩, sf⟩ := hV2.cells
  have HW := Lib.hid hV2
  clear hV2
  generalize evalOf text num 0 = x at HP hx ⊢
  obtain ⟨s, hs⟩ : ∃ s : ByteArray, s = ⟨(Lib.itoa x).toArray⟩ := ⟨_, rfl⟩
  have hs2 : s.size ≤ 21 := by rw [hs]; show (Lib.itoa x).toArray.size ≤ 21; simpa using Go.Lib.itoa_length_le x hx.1 hx.2
  have HU : Hid (subKey key x = key ++ (⟨#[47]⟩ ++ s)) := by show _ = _; rw [hs]; rfl
  have HC : Hid (∀ W, Below w2.heap.size w2 W → Calls Tryz.prog 53 #[.int .i64 x] W fun e w' => e = .returned (.string s) ∧ Below W.heap.size W w') := fun W hb => by rw [hs]; exact itoa_ok x W hx ((hT.below HW.out.below).below hb)
  clear hT hs hx
  go_upto_region 17 with (fail)
  go_region_with (go_at_call 53; refine (HC.out _ (by first | exact Below.refl _ _ | exact (Below.refl _ _).drew)).mono ?_; rintro e w3 ⟨rfl, hb2⟩; have hV2 : Vars w w3 b0 (.int .i64 4) (.slice A0 from_.length c0) (.string text) (.int .i64 nn) b1 b2 b3 ⟨0, key, 0, 0⟩ ⟨key, num, time⟩ := HW.out.next (by first | exact hb2 | exact (((Below.refl _ _).drew).trans hb2)); clear n0 n2 n3 h10 h11 h12 h13 h1f r0 r1 r2 rf s0 s1 s2 s3 sf; obtain ⟨⟨n0, n2, n3⟩, ⟨h10, h11, h12, h13, h1f⟩, ⟨r0, r1, r2, rf⟩, ⟨_, _, _, _, s0, s1, s2, s3⟩, sf⟩ := hV2.cells; have HW2 := Lib.hid hV2; clear hV2 hb2)
  all_goals
    go_upto_region 18 with (fail)
    have hV3 := HW2.out.key (key ++ (⟨#[47]⟩ ++ s))
    have hks : (key ++ (⟨#[47]⟩ ++ s)).size ≤ maxLen := by rw [ByteArray.size_append, ByteArray.size_append]; show key.size + (1 + s.size) ≤ _; unfold maxLen; omega
    clear HW HW2 HC n0 n2 n3 h10 h11 h12 h13 h1f r0 r1 r2 rf s0 s1 s2 s3 sf
    generalize w3.setCell ⟨b2, 0, none⟩ (.string (key ++ (⟨#[47]⟩ ++ s))) = W3 at hV3 ⊢
    generalize key ++ (⟨#[47]⟩ ++ s) = k2 at HU hks hV3 ⊢
    obtain ⟨⟨n0, n2, n3⟩, ⟨h10, h11, h12, h13, h1f⟩, ⟨r0, r1, r2, rf⟩, ⟨_, _, _, _, s0, s1, s2, s3⟩, sf⟩ := hV3.cells
    have HW := Lib.hid hV3
    clear hV3
    go_wp2_with fail
    refine (dpass_ok ⟨k2, num, time⟩ W3 (hks)).mono ?_
    rintro e w4 ⟨A, c, rfl, ho, hbl, hb4⟩
    have hV4 := HW.out.next hb4
    have HO := Lib.hid ho
    have HBL := Lib.hid hbl
    have HLT := Lib.hid HW.out.lt3
    have HLW := Lib.hid HW.out.below.size
    have HLB := Lib.hid HW.out.lt1
    clear HW n0 n2 n3 h10 h11 h12 h13 h1f r0 r1 r2 rf s0 s1 s2 s3 sf ho hbl hb4
    obtain ⟨⟨n0, n2, n3⟩, ⟨h10, h11, h12, h13, h1f⟩, ⟨r0, r1, r2, rf⟩, ⟨_, _, _, _, s0, s1, s2, s3⟩, sf⟩ := hV4.cells
    have HW := Lib.hid hV4
    clear hV4
    go_upto_region 46 with (fail)
    have hV5 := HW.out.zero
    have ho5 : OwnS ((((w4.setCell ⟨b1, 0, none⟩ (.int .i64 0)).setCell ⟨b1, 1, none⟩ (.string ⟨#[]⟩)).setCell ⟨b1, 2, none⟩ (.int .i64 0)).setCell ⟨b1, 3, none⟩ (.int .i64 0)) 44 3 A c (passR ⟨k2, num, time⟩).length ((passR ⟨k2, num, time⟩).flatMap recCells) := HW.out.own_zero HO.out HBL.out HLB.out
    clear HW HO n0 n2 n3 h10 h11 h12 h13 h1f r0 r1 r2 rf s0 s1 s2 s3 sf
    generalize (((w4.setCell _ _).setCell _ _).setCell _ _).setCell _ _ = W6 at hV5 ho5 ⊢
    have HO := Lib.hid ho5
    clear ho5
    obtain ⟨⟨n0, n2, n3⟩, ⟨h10, h11, h12, h13, h1f⟩, ⟨r0, r1, r2, rf⟩, ⟨_, _, _, _, s0, s1, s2, s3⟩, sf⟩ := hV5.cells
    have HW := Lib.hid hV5
    clear hV5
    go_region
    have hF := HW.out.fin HO.out HBL.out HLT.out HLW.out 0 (⟨#[]⟩) (0) (0)
    clear HW n0 n2 n3 h10 h11 h12 h13 h1f r0 r1 r2 rf s0 s1 s2 s3 sf HO HBL
    generalize ((((W6.setCell ⟨b3, 0, none⟩ _).setCell _ _).setCell _ _).setCell _ _).drew = W5 at hF ⊢
    obtain ⟨hh, h1, h2, h3⟩ := hF
    obtain ⟨s0, s1, s2, s3, sf⟩ := hh.cells
    have HX := Lib.hid (And.intro h1 (And.intro h2 h3))
    clear h1 h2 h3 hh
    go_wp2_with fail
    refine bodyPost_ret (v := .tuple #[.slice A (passR ⟨k2, num, time⟩).length c, .agg #[.int .i64 0, .string (⟨#[]⟩), .int .i64 (0), .int .i64 (0)], .bool false]) (by simp [results, Tryz.results18, go_sem, s0, s1, s2, s3]) rfl ?_
    rw [HP.out, HU.out]
    exact ⟨A, c, rfl, HX.out⟩
end Go.Proofs.YtfndhfekbbbliaaGreatDoor

/-
  Package den: the contract of Apply, kind by kind (printed by denapply.py). Conditions: the node's text is a string's, the numbers are ints, the two variables of Atoi's errors hold errors.
-/
namespace Go.Proofs.YtfndhfekbbbliaaGreatDoor
open Go.RowKit Go.Shelf
set_option linter.unusedVariables false

theorem info_recA : (Tryz.prog.info? 44).map (fun i => (i.zero, i.size, i.bytes)) = some (some (.agg #[.string ByteArray.empty, .int .i64 0, .int .i64 0]), 3, 32) := by kernel_rfl
def repR (r : Rec) (i : Nat) : List Rec := (List.replicate i (passR r)).flatten
theorem passR_len (r : Rec) : (passR r).length ≤ 1 := by unfold passR; split <;> simp
theorem repR_succ (r : Rec) (i : Nat) : repR r (i + 1) = repR r i ++ passR r := by unfold repR; rw [List.replicate_succ', List.flatten_append]; simp
theorem repR_len (r : Rec) : ∀ i, (repR r i).length ≤ i := by
  intro i
  induction i with
  | zero => exact Nat.le_refl _
  | succ i ih => rw [repR_succ, List.length_append]; have := passR_len r; omega
set_option maxRecDepth 100000 in
set_option maxHeartbeats 1000000 in
theorem dapply_copy_has (n : Nod) (A0 : Option Addr) (c0 : Nat) (h : Hld) (r : Rec) (input : Int) (w : World) (hv : ErrVars w) (hsz : n.text.size ≤ maxLen) (hr : RecOk r) (hi : I64 h.a ∧ I64 h.b) (hk : n.kind = 5) (hi_n : I64 n.n) :
    Calls Tryz.prog 18 #[.agg #[.int .i64 n.kind, .slice A0 n.from_.length c0, .string n.text, .int .i64 n.n], hldV h, .bool true, recV r, .int .i64 input] w (AppPost (applyN n h true r input) w) := by
  obtain ⟨kind, from_, text, nn⟩ := n
  obtain ⟨hn, hkey, ha, hb⟩ := h
  obtain ⟨key, num, time⟩ := r
  simp only at hk hsz hi hi_n
  subst hk
  have HP : Hid (applyN ⟨5, from_, text, nn⟩ ⟨hn, hkey, ha, hb⟩ true ⟨key, num, time⟩ input = ⟨(List.replicate (min 3 nn).toNat (passR ⟨key, num, time⟩)).flatten, ⟨0, key, ha, hb⟩, true⟩) := rfl
  show Calls _ _ #[.agg #[.int .i64 5, .slice A0 from_.length c0, .string text, .int .i64 nn], .agg #[.int .i64 hn, .string hkey, .int .i64 ha, .int .i64 hb], .bool true, .agg #[.string key, .int .i64 num, .int .i64 time], .int .i64 input] w _
  have HR := Lib.hid hr
  have HV := Lib.hid hv
  have HI := Lib.hid hi
  clear hr hv hi
  go_enter Tryz.func18, Tryz.ntmps18
  go_upto_region 3 with (fail)
  go_region
  go_upto_region 6 with (fail)
  have hV := Vars.mk_ w (.int .i64 5) (.slice A0 from_.length c0) (.string text) (.int .i64 nn) ⟨0, key, ha, hb⟩ ⟨key, num, time⟩
  generalize ((((w.alloc _).alloc _).alloc _).alloc _).drew = W1 at hV ⊢
  generalize w.heap.size + 1 + 1 + 1 = b3 at hV ⊢
  generalize w.heap.size + 1 + 1 = b2 at hV ⊢
  generalize w.heap.size + 1 = b1 at hV ⊢
  generalize w.heap.size = b0 at hV ⊢
  obtain ⟨⟨n0, n2, n3⟩, ⟨h10, h11, h12, h13, h1f⟩, ⟨r0, r1, r2, rf⟩, ⟨_, _, _, _, s0, s1, s2, s3⟩, sf⟩ := hV.cells
  have HW := Lib.hid hV
  clear hV
  obtain ⟨q, hq⟩ : ∃ q : Int, q = min 3 nn := ⟨_, rfl⟩
  obtain ⟨m, hm⟩ : ∃ m : Nat, m = q.toNat := ⟨_, rfl⟩
  have HU : Hid ((List.replicate (min 3 nn).toNat (passR ⟨key, num, time⟩)).flatten = repR ⟨key, num, time⟩ m) := by show _ = _; rw [hm, hq]; rfl
  have hm3 : m ≤ 3 := by omega
  have hqm : ∀ i : Nat, (i : Int) < q ↔ i < m := by omega
  have HN := Lib.hid hi_n
  have HQ := Lib.hid hq
  clear hm hi_n hq
  have HRW := Lib.hid (repR_len ⟨key, num, time⟩)
  go_upto_region 20 with (fail)
  have hqv : (Builtin.min_ #[3, 3] 3 #[.int .i64 3, .int .i64 nn]).run Tryz.prog W1 = .ok (.int .i64 q) W1 := by rw [HQ.out]; simp [Builtin.min_, Builtin.min2]; omega
  go_wp2_with fail
  go_loopw [85, 14] (fun iv ov wr => ∃ (i : Nat) (A : Option Addr) (c : Nat), i ≤ m ∧ iv = .int .i64 i ∧ ov = .slice A (repR ⟨key, num, time⟩ i).length c ∧ Hid (OwnS wr 44 3 A c (repR ⟨key, num, time⟩ i).length ((repR ⟨key, num, time⟩ i).flatMap recCells)) ∧ Hid (∀ k, blk A = some k → W1.heap.size ≤ k) ∧ Hid (Below W1.heap.size W1 wr)) (fun iv _ _ => m - (intOf iv).toNat)
  case atStart => exact ⟨0, none, 0, Nat.zero_le _, rfl, rfl, OwnS.nil _ _ _, nofun, Below.refl _ _⟩
  case round =>
    clear n0 n2 n3 h10 h11 h12 h13 h1f r0 r1 r2 rf s0 s1 s2 s3 sf
    obtain ⟨i, A, c, hi, rfl, rfl, HO, HBL, HB⟩ := hrel
    have hV4 := HW.out.next HB.out
    obtain ⟨⟨n0, n2, n3⟩, ⟨h10, h11, h12, h13, h1f⟩, ⟨r0, r1, r2, rf⟩, ⟨_, _, _, _, s0, s1, s2, s3⟩, sf⟩ := hV4.cells
    by_cases hlt : i < m
    · have di : decide ((i : Int) < q) = true := decide_eq_true ((hqm i).2 hlt)
      have hlen := HRW.out i
      go_wp2_with fail
      refine (dpass_ok ⟨key, num, time⟩ wr (HR.out.1)).mono ?_
      rintro e w4 ⟨A2, c2, rfl, ho, hbl, hb4⟩
      have HO4 := Lib.hid (HO.out.keep (fun k hk => hb4.block k (HO.out.lt k hk)))
      have hsl := own_recs (F := fun _ => True) ho rfl (fun _ _ => trivial) (fun x hx => by
        have : x = ⟨key, num, time⟩ := by
          unfold passR at hx
          split at hx
          · cases hx
          · exact List.mem_singleton.1 hx
        rw [this]; exact HR.out)
      have HSRC := Lib.hid (src_recs hsl Tryz.underlying47)
      have hpl := passR_len ⟨key, num, time⟩
      have HB4 := Lib.hid (HB.out.trans (hb4.mono HB.out.size))
      have HSUC := Lib.hid (repR_succ ⟨key, num, time⟩ i)
      clear ho hbl hb4 hsl hV4 HO HB
      generalize passR ⟨key, num, time⟩ = pr at HSRC hpl HSUC ⊢
      go_wp2_with (at_builtin; refine wpList_append_S rfl _ _ 47 47 rfl 44 _ 3 32 Tryz.underlying47 info_recA rfl (by decide) A c _ _ rfl HO4.out _ rfl pr.length (pr.flatMap recCells) HSRC.out (by unfold maxLen; omega) (by omega) ?_)
      intro A' cap' w5 ho5 hg5 hat5
      have HB5 : Hid (Below W1.heap.size W1 w5) := (Frm.trans (F := fun _ => False) (Frm.ofBelow HB4.out) (Frm.ofGrown (F := fun k => W1.heap.size ≤ k) hg5 (fun k e => HBL.out k e)) (G := fun k => W1.heap.size ≤ k) (fun _ h => h.elim) (fun _ h => .inl h)).below (Nat.le_refl _) (fun _ h => h)
      have HBL5 : Hid (∀ k, blk A' = some k → W1.heap.size ≤ k) := fun k hk => by
        rcases hat5 with e | e
        · rw [e] at hk; exact HBL.out k hk
        · rw [e] at hk; injection hk with hk; subst hk; exact HB4.out.size
      have HO5 : Hid (OwnS w5 44 3 A' cap' (repR ⟨key, num, time⟩ (i + 1)).length ((repR ⟨key, num, time⟩ (i + 1)).flatMap recCells)) := by
        show OwnS _ _ _ _ _ _ _
        rw [HSUC.out, List.length_append, List.flatMap_append]; exact ho5
      have hlen5 : (repR ⟨key, num, time⟩ i).length + pr.length = (repR ⟨key, num, time⟩ (i + 1)).length := by rw [HSUC.out, List.length_append]
      clear ho5 hg5 hat5 HO4 HSRC HBL HB4 n0 n2 n3 h10 h11 h12 h13 h1f r0 r1 r2 rf s0 s1 s2 s3 sf
      rw [hlen5]
      go_wp2_with fail
      go_roundw
      case rel => exact ⟨i + 1, A', cap', by omega, by go_num, rfl, HO5, HBL5, HB5⟩
      case measure => simp [intOf]; omega
    · have di : decide ((i : Int) < q) = false := decide_eq_false (fun h => hlt ((hqm i).1 h))
      have him : i = m := by omega
      subst him
      have hV9 := HW.out.next HB.out
      have HLT := Lib.hid HW.out.lt3
      have HLW := Lib.hid HW.out.below.size
      have HLB := Lib.hid HW.out.lt1
      have HLB := Lib.hid HW.out.lt1
      clear n0 n2 n3 h10 h11 h12 h13 h1f r0 r1 r2 rf s0 s1 s2 s3 sf hV4 HW HB HRW
      obtain ⟨⟨n0, n2, n3⟩, ⟨h10, h11, h12, h13, h1f⟩, ⟨r0, r1, r2, rf⟩, ⟨_, _, _, _, s0, s1, s2, s3⟩, sf⟩ := hV9.cells
      have HW := Lib.hid hV9
      clear hV9
      go_upto_region 46 with (fail)
      go_region
      have hF := HW.out.fin HO.out HBL.out HLT.out HLW.out 0 (key) (ha) (hb)
      clear HW n0 n2 n3 h10 h11 h12 h13 h1f r0 r1 r2 rf s0 s1 s2 s3 sf HO HBL
      generalize ((((wr.setCell ⟨b3, 0, none⟩ _).setCell _ _).setCell _ _).setCell _ _).drew = W5 at hF ⊢
      obtain ⟨hh, h1, h2, h3⟩ := hF
      obtain ⟨s0, s1, s2, s3, sf⟩ := hh.cells
      have HX := Lib.hid (And.intro h1 (And.intro h2 h3))
      clear h1 h2 h3 hh
      go_wp2_with fail
      refine bodyPost_ret (v := .tuple #[.slice A (repR ⟨key, num, time⟩ i).length c, .agg #[.int .i64 0, .string (key), .int .i64 (ha), .int .i64 (hb)], .bool true]) (by simp [results, Tryz.results18, go_sem, s0, s1, s2, s3]) rfl ?_
      rw [HP.out, HU.out]
      exact ⟨A, c, rfl, HX.out⟩
set_option maxRecDepth 100000 in
set_option maxHeartbeats 1000000 in
theorem dapply_copy_new (n : Nod) (A0 : Option Addr) (c0 : Nat) (h : Hld) (r : Rec) (input : Int) (w : World) (hv : ErrVars w) (hsz : n.text.size ≤ maxLen) (hr : RecOk r) (hi : I64 h.a ∧ I64 h.b) (hk : n.kind = 5) (hi_n : I64 n.n) :
    Calls Tryz.prog 18 #[.agg #[.int .i64 n.kind, .slice A0 n.from_.length c0, .string n.text, .int .i64 n.n], hldV h, .bool false, recV r, .int .i64 input] w (AppPost (applyN n h false r input) w) := by
  obtain ⟨kind, from_, text, nn⟩ := n
  obtain ⟨hn, hkey, ha, hb⟩ := h
  obtain ⟨key, num, time⟩ := r
  simp only at hk hsz hi hi_n
  subst hk
  have HP : Hid (applyN ⟨5, from_, text, nn⟩ ⟨hn, hkey, ha, hb⟩ false ⟨key, num, time⟩ input = ⟨(List.replicate (min 3 nn).toNat (passR ⟨key, num, time⟩)).flatten, zeroH, false⟩) := rfl
  show Calls _ _ #[.agg #[.int .i64 5, .slice A0 from_.length c0, .string text, .int .i64 nn], .agg #[.int .i64 hn, .string hkey, .int .i64 ha, .int .i64 hb], .bool false, .agg #[.string key, .int .i64 num, .int .i64 time], .int .i64 input] w _
  have HR := Lib.hid hr
  have HV := Lib.hid hv
  have HI := Lib.hid hi
  clear hr hv hi
  go_enter Tryz.func18, Tryz.ntmps18
  go_upto_region 3 with (fail)
  go_region
  go_upto_region 6 with (fail)
  have hV := Vars.mk_ w (.int .i64 5) (.slice A0 from_.length c0) (.string text) (.int .i64 nn) ⟨0, key, 0, 0⟩ ⟨key, num, time⟩
  generalize ((((w.alloc _).alloc _).alloc _).alloc _).drew = W1 at hV ⊢
  generalize w.heap.size + 1 + 1 + 1 = b3 at hV ⊢
  generalize w.heap.size + 1 + 1 = b2 at hV ⊢
  generalize w.heap.size + 1 = b1 at hV ⊢
  generalize w.heap.size = b0 at hV ⊢
  obtain ⟨⟨n0, n2, n3⟩, ⟨h10, h11, h12, h13, h1f⟩, ⟨r0, r1, r2, rf⟩, ⟨_, _, _, _, s0, s1, s2, s3⟩, sf⟩ := hV.cells
  have HW := Lib.hid hV
  clear hV
  obtain ⟨q, hq⟩ : ∃ q : Int, q = min 3 nn := ⟨_, rfl⟩
  obtain ⟨m, hm⟩ : ∃ m : Nat, m = q.toNat := ⟨_, rfl⟩
  have HU : Hid ((List.replicate (min 3 nn).toNat (passR ⟨key, num, time⟩)).flatten = repR ⟨key, num, time⟩ m) := by show _ = _; rw [hm, hq]; rfl
  have hm3 : m ≤ 3 := by omega
  have hqm : ∀ i : Nat, (i : Int) < q ↔ i < m := by omega
  have HN := Lib.hid hi_n
  have HQ := Lib.hid hq
  clear hm hi_n hq
  have HRW := Lib.hid (repR_len ⟨key, num, time⟩)
  go_upto_region 20 with (fail)
  have hqv : (Builtin.min_ #[3, 3] 3 #[.int .i64 3, .int .i64 nn]).run Tryz.prog W1 = .ok (.int .i64 q) W1 := by rw [HQ.out]; simp [Builtin.min_, Builtin.min2]; omega
  go_wp2_with fail
  go_loopw [85, 14] (fun iv ov wr => ∃ (i : Nat) (A : Option Addr) (c : Nat), i ≤ m ∧ iv = .int .i64 i ∧ ov = .slice A (repR ⟨key, num, time⟩ i).length c ∧ Hid (OwnS wr 44 3 A c (repR ⟨key, num, time⟩ i).length ((repR ⟨key, num, time⟩ i).flatMap recCells)) ∧ Hid (∀ k, blk A = some k → W1.heap.size ≤ k) ∧ Hid (Below W1.heap.size W1 wr)) (fun iv _ _ => m - (intOf iv).toNat)
  case atStart => exact ⟨0, none, 0, Nat.zero_le _, rfl, rfl, OwnS.nil _ _ _, nofun, Below.refl _ _⟩
  case round =>
    clear n0 n2 n3 h10 h11 h12 h13 h1f r0 r1 r2 rf s0 s1 s2 s3 sf
    obtain ⟨i, A, c, hi, rfl, rfl, HO, HBL, HB⟩ := hrel
    have hV4 := HW.out.next HB.out
    obtain ⟨⟨n0, n2, n3⟩, ⟨h10, h11, h12, h13, h1f⟩, ⟨r0, r1, r2, rf⟩, ⟨_, _, _, _, s0, s1, s2, s3⟩, sf⟩ := hV4.cells
    by_cases hlt : i < m
    · have di : decide ((i : Int) < q) = true := decide_eq_true ((hqm i).2 hlt)
      have hlen := HRW.out i
      go_wp2_with fail
      refine (dpass_ok ⟨key, num, time⟩ wr (HR.out.1)).mono ?_
      rintro e w4 ⟨A2, c2, rfl, ho, hbl, hb4⟩
      have HO4 := Lib.hid (HO.out.keep (fun k hk => hb4.block k (HO.out.lt k hk)))
      have hsl := own_recs (F := fun _ => True) ho rfl (fun _ _ => trivial) (fun x hx => by
        have : x = ⟨key, num, time⟩ := by
          unfold passR at hx
          split at hx
          · cases hx
          · exact List.mem_singleton.1 hx
        rw [this]; exact HR.out)
      have HSRC := Lib.hid (src_recs hsl Tryz.underlying47)
      have hpl := passR_len ⟨key, num, time⟩
      have HB4 := Lib.hid (HB.out.trans (hb4.mono HB.out.size))
      have HSUC := Lib.hid (repR_succ ⟨key, num, time⟩ i)
      clear ho hbl hb4 hsl hV4 HO HB
      generalize passR ⟨key, num, time⟩ = pr at HSRC hpl HSUC ⊢
      go_wp2_with (at_builtin; refine wpList_append_S rfl _ _ 47 47 rfl 44 _ 3 32 Tryz.underlying47 info_recA rfl (by decide) A c _ _ rfl HO4.out _ rfl pr.length (pr.flatMap recCells) HSRC.out (by unfold maxLen; omega) (by omega) ?_)
      intro A' cap' w5 ho5 hg5 hat5
      have HB5 : Hid (Below W1.heap.size W1 w5) := (Frm.trans (F := fun _ => False) (Frm.ofBelow HB4.out) (Frm.ofGrown (F := fun k => W1.heap.size ≤ k) hg5 (fun k e => HBL.out k e)) (G := fun k => W1.heap.size ≤ k) (fun _ h => h.elim) (fun _ h => .inl h)).below (Nat.le_refl _) (fun _ h => h)
      have HBL5 : Hid (∀ k, blk A' = some k → W1.heap.size ≤ k) := fun k hk => by
        rcases hat5 with e | e
        · rw [e] at hk; exact HBL.out k hk
        · rw [e] at hk; injection hk with hk; subst hk; exact HB4.out.size
      have HO5 : Hid (OwnS w5 44 3 A' cap' (repR ⟨key, num, time⟩ (i + 1)).length ((repR ⟨key, num, time⟩ (i + 1)).flatMap recCells)) := by
        show OwnS _ _ _ _ _ _ _
        rw [HSUC.out, List.length_append, List.flatMap_append]; exact ho5
      have hlen5 : (repR ⟨key, num, time⟩ i).length + pr.length = (repR ⟨key, num, time⟩ (i + 1)).length := by rw [HSUC.out, List.length_append]
      clear ho5 hg5 hat5 HO4 HSRC HBL HB4 n0 n2 n3 h10 h11 h12 h13 h1f r0 r1 r2 rf s0 s1 s2 s3 sf
      rw [hlen5]
      go_wp2_with fail
      go_roundw
      case rel => exact ⟨i + 1, A', cap', by omega, by go_num, rfl, HO5, HBL5, HB5⟩
      case measure => simp [intOf]; omega
    · have di : decide ((i : Int) < q) = false := decide_eq_false (fun h => hlt ((hqm i).1 h))
      have him : i = m := by omega
      subst him
      have hV9 := HW.out.next HB.out
      have HLT := Lib.hid HW.out.lt3
      have HLW := Lib.hid HW.out.below.size
      have HLB := Lib.hid HW.out.lt1
      have HLB := Lib.hid HW.out.lt1
      clear n0 n2 n3 h10 h11 h12 h13 h1f r0 r1 r2 rf s0 s1 s2 s3 sf hV4 HW HB HRW
      obtain ⟨⟨n0, n2, n3⟩, ⟨h10, h11, h12, h13, h1f⟩, ⟨r0, r1, r2, rf⟩, ⟨_, _, _, _, s0, s1, s2, s3⟩, sf⟩ := hV9.cells
      have HW := Lib.hid hV9
      clear hV9
      go_upto_region 46 with (fail)
      have hV5 := HW.out.zero
      have ho5 : OwnS ((((wr.setCell ⟨b1, 0, none⟩ (.int .i64 0)).setCell ⟨b1, 1, none⟩ (.string ⟨#[]⟩)).setCell ⟨b1, 2, none⟩ (.int .i64 0)).setCell ⟨b1, 3, none⟩ (.int .i64 0)) 44 3 A c (repR ⟨key, num, time⟩ i).length ((repR ⟨key, num, time⟩ i).flatMap recCells) := HW.out.own_zero HO.out HBL.out HLB.out
      clear HW HO n0 n2 n3 h10 h11 h12 h13 h1f r0 r1 r2 rf s0 s1 s2 s3 sf
      generalize (((wr.setCell _ _).setCell _ _).setCell _ _).setCell _ _ = W6 at hV5 ho5 ⊢
      have HO := Lib.hid ho5
      clear ho5
      obtain ⟨⟨n0, n2, n3⟩, ⟨h10, h11, h12, h13, h1f⟩, ⟨r0, r1, r2, rf⟩, ⟨_, _, _, _, s0, s1, s2, s3⟩, sf⟩ := hV5.cells
      have HW := Lib.hid hV5
      clear hV5
      go_region
      have hF := HW.out.fin HO.out HBL.out HLT.out HLW.out 0 (⟨#[]⟩) (0) (0)
      clear HW n0 n2 n3 h10 h11 h12 h13 h1f r0 r1 r2 rf s0 s1 s2 s3 sf HO HBL
      generalize ((((W6.setCell ⟨b3, 0, none⟩ _).setCell _ _).setCell _ _).setCell _ _).drew = W5 at hF ⊢
      obtain ⟨hh, h1, h2, h3⟩ := hF
      obtain ⟨s0, s1, s2, s3, sf⟩ := hh.cells
      have HX := Lib.hid (And.intro h1 (And.intro h2 h3))
      clear h1 h2 h3 hh
      go_wp2_with fail
      refine bodyPost_ret (v := .tuple #[.slice A (repR ⟨key, num, time⟩ i).length c, .agg #[.int .i64 0, .string (⟨#[]⟩), .int .i64 (0), .int .i64 (0)], .bool false]) (by simp [results, Tryz.results18, go_sem, s0, s1, s2, s3]) rfl ?_
      rw [HP.out, HU.out]
      exact ⟨A, c, rfl, HX.out⟩
end Go.Proofs.YtfndhfekbbbliaaGreatDoor

/-
  Package den: the contract of Apply at any node. Conditions: the node's text is a string's, the numbers are ints, the key is no longer than 40 bytes, the two variables of Atoi's errors hold errors, the table of powers of ten stands.
-/
namespace Go.Proofs.YtfndhfekbbbliaaGreatDoor
open Go.RowKit Go.Shelf
set_option linter.unusedVariables false

/-- A record that flows. -/
def FlowR (r : Rec) : Prop := r.key.size ≤ 40 ∧ I64 r.num ∧ I64 r.time
theorem FlowR.ok {r : Rec} (h : FlowR r) : RecOk r := ⟨by unfold maxLen; have := h.1; omega, h.2.1, h.2.2⟩
theorem dapply_ok (n : Nod) (A0 : Option Addr) (c0 : Nat) (h : Hld) (has : Bool) (r : Rec) (input : Int) (w : World) (hv : ErrVars w) (hT : PowTab w) (hsz : n.text.size ≤ maxLen) (hn : I64 n.n) (hr : FlowR r) (hi : I64 h.a ∧ I64 h.b) (hin : I64_ input) :
    Calls Tryz.prog 18 #[.agg #[.int .i64 n.kind, .slice A0 n.from_.length c0, .string n.text, .int .i64 n.n], hldV h, .bool has, recV r, .int .i64 input] w (AppPost (applyN n h has r input) w) := by
  have hk := hr.1
  have hr := hr.ok
  by_cases h2 : n.kind = 2
  · cases has with
    | true => exact dapply_map_has n A0 c0 h r input w hv hsz hr hi h2
    | false => exact dapply_map_new n A0 c0 h r input w hv hsz hr hi h2
  by_cases h3 : n.kind = 3
  · by_cases hx : evalOf n.text r.num 0 = 0
    · cases has with
      | true => exact dapply_filtered_has n A0 c0 h r input w hv hsz hr hi h3 hx
      | false => exact dapply_filtered_new n A0 c0 h r input w hv hsz hr hi h3 hx
    · cases has with
      | true => exact dapply_filter_has n A0 c0 h r input w hv hsz hr hi h3 hx
      | false => exact dapply_filter_new n A0 c0 h r input w hv hsz hr hi h3 hx
  by_cases h4 : n.kind = 4
  · cases has with
    | true => exact dapply_sub_has n A0 c0 h r input w hv hsz hr hi h4 hT hk
    | false => exact dapply_sub_new n A0 c0 h r input w hv hsz hr hi h4 hT hk
  by_cases h5 : n.kind = 5
  · cases has with
    | true => exact dapply_copy_has n A0 c0 h r input w hv hsz hr hi h5 hn
    | false => exact dapply_copy_new n A0 c0 h r input w hv hsz hr hi h5 hn
  by_cases h6 : n.kind = 6
  · cases has with
    | true => exact dapply_union_has n A0 c0 h r input w hv hsz hr hi h6 hT hin hk
    | false => exact dapply_union_new n A0 c0 h r input w hv hsz hr hi h6 hT hin hk
  by_cases h7 : n.kind = 7
  · cases has with
    | true => exact dapply_fold_has n A0 c0 h r input w hv hsz hr hi h7
    | false => exact dapply_fold_new n A0 c0 h r input w hv hsz hr hi h7
  by_cases h8 : n.kind = 8
  · cases has with
    | true =>
      by_cases hx : n.n ≤ wrap64 (h.a + 1)
      · exact dapply_every_has n A0 c0 h r input w hv hsz hr hi h8 hx
      · exact dapply_wait_has n A0 c0 h r input w hv hsz hr hi h8 hx
    | false =>
      by_cases hx : n.n ≤ wrap64 (0 + 1)
      · exact dapply_every_new n A0 c0 h r input w hv hsz hr hi h8 hx
      · exact dapply_wait_new n A0 c0 h r input w hv hsz hr hi h8 hx
  by_cases h9 : n.kind = 9
  · cases has with
    | true => exact dapply_first_has n A0 c0 h r input w hv hsz hr hi h9
    | false => exact dapply_first_new n A0 c0 h r input w hv hsz hr hi h9
  have hj : ∀ j : Int, 2 ≤ j → j ≤ 9 → n.kind ≠ j := by omega
  cases has with
  | true => exact dapply_other_has n A0 c0 h r input w hv hsz hr hi hj
  | false => exact dapply_other_new n A0 c0 h r input w hv hsz hr hi hj

/-! ### What it makes stays within bounds -/
theorem i64_wrap (x : Int) : I64 (wrap64 x) := WalkArith.wf_i64 (by unfold wrap64; omega)
theorem i64_eval {s : ByteArray} {n st : Int} (hn : I64 n) (hs : I64 st) : I64 (evalOf s n st) := by
  have := evalOf_i64 (s := s) (i64_of_wf hn) (i64_of_wf hs)
  exact WalkArith.wf_i64 ⟨this.1, this.2⟩
theorem i64_zero : I64 0 := WalkArith.wf_i64 (by omega)
theorem i64_one : I64 1 := WalkArith.wf_i64 (by omega)
theorem passR_ok {r : Rec} (h1 : I64 r.num) (h2 : I64 r.time) : ∀ x ∈ passR r, FlowR x := by
  intro x hx
  unfold passR at hx
  split at hx
  · cases hx
  · rw [List.mem_singleton.1 hx]; exact ⟨by omega, h1, h2⟩
def DidOk (d : Did) : Prop := (∀ x ∈ d.out, FlowR x) ∧ I64 d.held.a ∧ I64 d.held.b
theorem DidOk.ends {l : List Rec} {h : Hld} {has : Bool} (hl : ∀ x ∈ l, FlowR x) (h1 : I64 h.a) (h2 : I64 h.b) : DidOk (ends_ l h has) := by
  refine ⟨hl, ?_⟩
  unfold ends_
  cases has with
  | true => exact ⟨h1, h2⟩
  | false => exact ⟨i64_zero, i64_zero⟩
theorem applyN_ok (n : Nod) (h : Hld) (has : Bool) (r : Rec) (input : Int) (hr : FlowR r) (hi : I64 h.a ∧ I64 h.b) : DidOk (applyN n h has r input) := by
  obtain ⟨_, r1, r2⟩ := hr
  obtain ⟨s, hs⟩ : ∃ s, s = begins h has r := ⟨_, rfl⟩
  have hsa : I64 s.a ∧ I64 s.b := by
    rw [hs]; unfold begins
    cases has with
    | true => exact hi
    | false => exact ⟨i64_zero, i64_zero⟩
  unfold applyN
  rw [← hs]
  simp only
  split
  · exact DidOk.ends (passR_ok (i64_eval r1 i64_zero) r2) hsa.1 hsa.2
  split
  · refine DidOk.ends ?_ hsa.1 hsa.2
    split
    · nofun
    · exact passR_ok r1 r2
  split
  · exact DidOk.ends (passR_ok r1 r2) hsa.1 hsa.2
  split
  · refine DidOk.ends ?_ hsa.1 hsa.2
    intro x hx
    obtain ⟨l, hl, hx⟩ := List.mem_flatten.1 hx
    rw [List.eq_of_mem_replicate hl] at hx
    exact passR_ok r1 r2 x hx
  split
  · exact DidOk.ends (passR_ok r1 r2) hsa.1 hsa.2
  split
  · exact DidOk.ends (passR_ok (i64_eval r1 hsa.1) r2) (i64_eval r1 hsa.1) hsa.2
  split
  · split
    · exact DidOk.ends (passR_ok (i64_wrap _) r2) i64_zero i64_zero
    · exact DidOk.ends nofun (i64_wrap _) (i64_wrap _)
  split
  · refine DidOk.ends ?_ i64_one hsa.2
    split
    · nofun
    · exact passR_ok r1 r2
  · exact DidOk.ends (passR_ok r1 r2) hsa.1 hsa.2
end Go.Proofs.YtfndhfekbbbliaaGreatDoor

/-
  The tactics' imports, and small laws over any program: bytes of a string; a fold's last step. No condition.
-/
namespace Go.Proofs.YtfndhfekbbbliaaGreatDoor
open Go.RowKit

theorem ret_true {b : Bool} (h : b = true) : Ending.returned (.bool b) = .returned (.bool true) := by rw [h]
theorem bytes_of (P : Program) (w : World) (src dst e : TypeId) (s : ByteArray) (hs : P.underlying src = some .string) (hd : P.underlying dst = some (.slice e)) (he : P.underlying e = some (.int .u8)) :
    ∃ cap o, (convert src dst (.string s)).run P w = .ok (.slice (some ⟨w.heap.size, 0, none⟩) s.size cap) (w.drew.alloc o) ∧ ∀ j (hj : j < s.size), (w.alloc o).cell? ⟨w.heap.size, j, none⟩ = some (.int .u8 (s[j].toNat : Int)) := by
  refine ⟨_, _, run_bytes_of_string w src dst e s hs hd he, fun j hj => ?_⟩
  have e1 : (w.alloc (.cells (bytesRow s (grownCap w s.size 0 e)) e ((bytesRow s (grownCap w s.size 0 e)).size, (bytesRow s (grownCap w s.size 0 e)).size + 1))).heap[w.heap.size]? = some (.cells (bytesRow s (grownCap w s.size 0 e)) e ((bytesRow s (grownCap w s.size 0 e)).size, (bytesRow s (grownCap w s.size 0 e)).size + 1)) := heap_alloc_new w _
  simp only [World.cell?, e1]
  have hj' : j < s.data.size := hj
  simp only [bytesRow]
  rw [Array.getElem?_append_left (by simpa using hj'), Array.getElem?_map, Array.getElem?_eq_getElem hj']
  rfl

theorem foldl_snoc {α β : Type} (f : α → β → α) (x : α) (l : List β) (c : β) : (l ++ [c]).foldl f x = f (l.foldl f x) c := by rw [List.foldl_append]; rfl
end Go.Proofs.YtfndhfekbbbliaaGreatDoor

/-
  Contracts of package weirsame: two lists that are the same are found the same.
-/
namespace Go.Proofs.YtfndhfekbbbliaaGreatDoor
open Go.RowKit
set_option linter.unusedVariables false

theorem records_same (A B : Option Addr) (c d : Nat) (l : List Rec) (w : World) (F G : Nat → Prop) (ha : SlA recE F w A c l) (hb : SlA recE G w B d l) :
    Calls Tryz.prog 19 #[.slice A l.length c, .slice B l.length d] w fun e w' => e = .returned (.bool true) ∧ ∃ k, w' = w.drewN k := by
  have hn := ha.le
  have H := Lib.hid ha
  have H' := Lib.hid hb
  clear ha hb
  go_enter Tryz.func19, Tryz.ntmps19
  go_wp2
  go_loopw [5] (fun i wr => ∃ k q : Nat, k ≤ l.length ∧ i = .int .i64 k ∧ wr = w.drewN q) (fun i _ => l.length - (intOf i).toNat)
  case atStart => exact ⟨0, 0, Nat.zero_le _, rfl, rfl⟩
  case round =>
    obtain ⟨k, q, hk, rfl, rfl⟩ := hrel
    by_cases hlt : k < l.length
    · obtain ⟨b, off, rfl, _, c0, c1, c2, _⟩ := H.out.rec_ hlt
      obtain ⟨b', off', rfl, _, d0, d1, d2, _⟩ := H'.out.rec_ hlt
      obtain ⟨s, hs⟩ : ∃ s, s = l[k] := ⟨_, rfl⟩
      rw [← hs] at c0 c1 c2 d0 d1 d2
      clear hs
      go_wp2
      go_quiet (fail)
      go_wp2
      go_roundw
      case rel => exact ⟨k + 1, q + nq, by omega, by go_num, by simp⟩
      case measure => simp [intOf]; omega
    · go_wp2
      go_ret
      exact ⟨rfl, q, rfl⟩
end Go.Proofs.YtfndhfekbbbliaaGreatDoor

/-
  From what the row lists to what the walks of package den ask: the two variables of Atoi's errors hold errors; the table of powers of ten. No condition.
-/
namespace Go.Proofs.YtfndhfekbbbliaaGreatDoor
open Go.RowKit Go.Shelf
set_option linter.unusedVariables false

theorem err_of_reads {w : World} {n nm : String} {g : Nat} {d : DataW Unit} (hg : Tryz.prog.globalNamed n = some g) (ht : (Tryz.prog.globals[g]?).map (·.type) = some 28) (h : Lib.VarReads Tryz.prog w n (.iface nm d)) :
    ∃ ev, w.cell? ⟨g, 0, none⟩ = some ev ∧ (ev = .nilIface ∨ ∃ te pe, ev = .iface te pe) := by
  obtain ⟨g', t', cs, fuel, p, hg', ht', hvar, hd⟩ := h
  obtain rfl := Option.some.inj (hg.symm.trans hg')
  obtain rfl := Option.some.inj (ht.symm.trans ht')
  obtain ⟨_, u, v, hcs, _, _⟩ := iface_of_trod Tryz.underlying28 hd
  refine ⟨.iface u v, ?_, .inr ⟨u, v, rfl⟩⟩
  obtain ⟨l⟩ := cs
  have hl : l = [.iface u v] := hcs
  subst hl
  simpa using World.var?_cell hg hvar 0
theorem errVars_of_reads {w : World} (h1 : Lib.VarReads Tryz.prog w "strconv.ErrSyntax" Rows.laid_strconv_ErrSyntax) (h2 : Lib.VarReads Tryz.prog w "strconv.ErrRange" Rows.laid_strconv_ErrRange) : ErrVars w :=
  ⟨err_of_reads (g := 3) (by kernel_rfl) (by kernel_rfl) h1, err_of_reads (g := 4) (by kernel_rfl) (by kernel_rfl) h2⟩
theorem pow_of_reads {w : World} (h : Lib.VarReads Tryz.prog w "internal/strconv.uint64pow10" Rows.laid_internal_strconv_uint64pow10) : PowTab w := by
  obtain ⟨g', t', cs, fuel, p, hg', ht', hvar, hd⟩ := h
  obtain rfl := Option.some.inj ((show Tryz.prog.globalNamed "internal/strconv.uint64pow10" = some 1 by kernel_rfl).symm.trans hg')
  obtain rfl := Option.some.inj ((show (Tryz.prog.globals[1]?).map (·.type) = some 251 by kernel_rfl).symm.trans ht')
  have e : (Rows.laid_internal_strconv_uint64pow10 : DataW Unit) = Lib.tabData .u64 Lib.pow10Tab := by kernel_rfl
  rw [e] at hd
  unfold PowTab Lib.TabIs
  rw [hvar, ← Lib.cells_of_tab Tryz.underlying251 Tryz.underlying161 (by kernel_rfl) (by kernel_rfl) hd]
end Go.Proofs.YtfndhfekbbbliaaGreatDoor
