/-
  The walk of ExprPrints: it returns true. Conditions: the two variables of Atoi's errors hold errors; the table of powers of ten reads as Go's text lays it.
-/
import Derived.Test.YtojkidaneggabaaDoorExprTexts
import Derived.Test.YtojkidaneggabaaDoorExprPrint
namespace Go.Proofs.YtojkidaneggabaaDoor
open Go.RowKit Go.Shelf
set_option linter.unusedVariables false

set_option maxRecDepth 100000 in
theorem print_fault (s : ByteArray) (w : World) (hv : ErrVars w) (hsz : s.size ≤ maxLen) {k : Nat} {j : Int} (hp : parseT s.data.toList = .fault k j) :
    Calls Tryd.prog 9 #[.string s] w fun e w' => e = .returned (.tuple #[.string ⟨#[]⟩, errV j]) ∧ Below w.heap.size w w' := by
  have HPR := Lib.hid (parse_reads s w hv hsz)
  have HP := Lib.hid hp
  clear hp hv
  go_enter Tryd.func9, Tryd.ntmps9
  go_wp2_with fail
  refine HPR.out.mono ?_
  rintro e w1 ⟨h1, hb⟩
  have h2 := parse_fault h1 HP.out
  subst h2
  have HB := Lib.hid hb
  clear hb h1 HP HPR
  unfold errV trA
  go_wp2_with fail
  go_ret2
  exact ⟨rfl, (HB.out.alloc HB.out.size _)⟩
set_option maxRecDepth 100000 in
theorem print_tree (s : ByteArray) (w : World) (hv : ErrVars w) (hT : PowTab w) (hsz : s.size ≤ maxLen) {t : Tr} (hp : parseT s.data.toList = .tree t) :
    Calls Tryd.prog 9 #[.string s] w fun e w' => e = .returned (.tuple #[.string (bs t.raw), .nilIface]) ∧ Below w.heap.size w w' := by
  have HPR := Lib.hid (parse_reads s w hv hsz)
  have hl : t.raw.length ≤ 200 := by
    have h1 := (print_back hp).2.1
    have h2 := (parse_ok hp).1
    omega
  have HEV := Lib.hid (prints t (fine_of hp) hl)
  have HP := Lib.hid hp
  have HT := Lib.hid hT
  clear hp hv hT hl
  go_enter Tryd.func9, Tryd.ntmps9
  go_wp2_with fail
  refine HPR.out.mono ?_
  rintro e w1 ⟨h1, hb⟩
  obtain ⟨o, k, A, c, rfl, ht⟩ := parse_tree h1 HP.out
  have HB := Lib.hid hb
  have HTR := Lib.hid ht
  clear hb h1 HP HPR ht
  unfold trA
  go_wp2_with fail
  have hb1 : Below w.heap.size w (w1.alloc (.cells #[.int .u8 o, .int .i64 k, .slice A c c] 35)) := HB.out.alloc HB.out.size _
  refine (HEV.out o k A c _ (HT.out.below hb1) (((HTR.out.in_ (G := fun j => j < w1.heap.size) fun j _ h => h).keep fun j hj => heap_alloc_old _ _ hj).in_ fun j hj hj2 => hj2)).mono ?_
  rintro e w2 ⟨rfl, hb2⟩
  have HB2 := Lib.hid (hb1.trans (hb2.mono hb1.size))
  clear hb1 hb2 HEV HTR HB HT
  go_wp2_with fail
  go_ret2
  exact ⟨rfl, HB2.out⟩
theorem paren_tree : parseT (⟨#[40, 40, 110, 41, 43, 40, 49, 41, 41, 42, 40, 50, 41]⟩ : ByteArray).data.toList = .tree (.bin 42 (.bin 43 (.nam true) (.num 1)) (.num 2)) := by kernel_rfl
theorem paren_raw : bs (Tr.bin 42 (.bin 43 (.nam true) (.num 1)) (.num 2)).raw = ⟨#[40, 110, 43, 49, 41, 42, 50]⟩ := by
  have e1 : Lib.itoa 1 = [49] := by rw [show (1 : Int) = ((1 : Nat) : Int) from rfl, itoa_nat_, dec_small (by decide)]; rfl
  have e2 : Lib.itoa 2 = [50] := by rw [show (2 : Int) = ((2 : Nat) : Int) from rfl, itoa_nat_, dec_small (by decide)]; rfl
  unfold Tr.raw
  unfold Tr.raw
  unfold Tr.raw
  rw [e1, e2]
  rfl
theorem bs_list (l : List UInt8) : (bs l).data.toList = l := by show l.toArray.toList = l; simp
set_option maxRecDepth 100000 in
set_option maxHeartbeats 4000000 in
theorem exprPrints_walk (a : ByteArray) (n s : Int) (w : World) (wa : a.size ≤ maxLen) (sa : a.size ≤ 140737488351232) (wn : (Lit.int .i64 n).wf = true) (ws : (Lit.int .i64 s).wf = true) (hv : ErrVars w) (hT : PowTab w) :
    Calls Tryd.prog 6 #[.string a, .int .i64 n, .int .i64 s] w fun e w' => e = .returned (.bool true) ∧ Below w.heap.size w w' := by
  have HN := Lib.hid (i64_of_wf wn)
  have HS := Lib.hid (i64_of_wf ws)
  have HV := Lib.hid hv
  have HT := Lib.hid hT
  have H1 := Lib.hid (print_tree ⟨#[40, 40, 110, 41, 43, 40, 49, 41, 41, 42, 40, 50, 41]⟩ w hv hT (by decide) paren_tree)
  clear hv wn ws wa hT
  go_enter Tryd.func6, Tryd.ntmps6
  go_wp2_with fail
  refine H1.out.mono ?_
  rintro e w1 ⟨rfl, b1⟩
  have B1 := Lib.hid b1
  clear b1 H1
  rw [paren_raw]
  go_wp2_with fail
  cases hp : parseT a.data.toList with
  | fault k j =>
    refine (print_fault a w1 (HV.out.below B1.out) (by unfold maxLen; omega) hp).mono ?_
    rintro e w2 ⟨rfl, b2⟩
    have B2 := Lib.hid (B1.out.trans (b2.mono B1.out.size))
    clear b2 hp
    unfold errV
    go_wp2_with fail
    go_ret
    exact ⟨rfl, B2.out⟩
  | tree t =>
    obtain ⟨hback, hlen, hfine⟩ := print_back hp
    have hl : t.raw.length ≤ 120 := by have := (parse_ok hp).1; omega
    have HP := Lib.hid hp
    have HBK : Hid (parseT (bs t.raw).data.toList = .tree t) := by rw [bs_list]; exact hback
    have hsl : (bs t.raw).size ≤ a.size := by
      rw [bs_size]
      have e : a.data.toList.length = a.size := by simp
      omega
    have hls : (bs t.raw).size ≤ 120 := by rw [bs_size]; exact hl
    clear hp hback hlen hl hfine
    refine (print_tree a w1 (HV.out.below B1.out) (HT.out.below B1.out) (by unfold maxLen; omega) HP.out).mono ?_
    rintro e w2 ⟨rfl, b2⟩
    have B2 := Lib.hid (B1.out.trans (b2.mono B1.out.size))
    clear b2
    have hrep : ∀ v : Tr, v = t → bs v.raw = bs t.raw := fun v h => by rw [h]
    obtain ⟨p, hp⟩ : ∃ p, p = bs t.raw := ⟨_, rfl⟩
    have HPP := Lib.hid hp
    rw [← hp] at hsl hls HBK ⊢
    clear hp hrep
    go_wp2_with fail
    refine (print_tree p w2 (HV.out.below B2.out) (HT.out.below B2.out) (by unfold maxLen; omega) HBK.out).mono ?_
    rintro e w3 ⟨rfl, b3⟩
    have B3 := Lib.hid (B2.out.trans (b3.mono B2.out.size))
    clear b3
    rw [← HPP.out]
    go_wp2_with fail
    refine (eval_tree a n s w3 (HV.out.below B3.out) (by unfold maxLen; omega) HN.out HS.out HP.out).mono ?_
    rintro e w4 ⟨rfl, b4⟩
    have B4 := Lib.hid (B3.out.trans (b4.mono B3.out.size))
    clear b4
    obtain ⟨x, hx⟩ : ∃ x, x = t.val n s := ⟨_, rfl⟩
    have HX := Lib.hid hx
    rw [← hx]
    clear hx
    go_wp2_with fail
    refine (eval_tree p n s w4 (HV.out.below B4.out) (by unfold maxLen; omega) HN.out HS.out HBK.out).mono ?_
    rintro e w5 ⟨rfl, b5⟩
    have B5 := Lib.hid (B4.out.trans (b5.mono B4.out.size))
    clear b5
    rw [← HX.out]
    have d1 : decide (p.size ≤ a.size) = true := decide_eq_true hsl
    go_wp2_with fail
    go_ret
    exact ⟨rfl, B5.out⟩
end Go.Proofs.YtojkidaneggabaaDoor
