/-
  Several texts of this claim in one, in build order; each begins with its own remark, which says what it proves and under which conditions.
-/
import Derived.Test.YtfndhfekbbbliaaGreatDoorPackC
import Derived.Shelf.Strconv.Itoa3
import Derived.Lib.LaidTab
import Derived.Lib.SmallJoins
import Derived.Lib.AppendIntMem
import Derived.Test.YtfndhfekbbbliaaGreatDoorRows
import Derived.LaidLaws
import Derived.Lib.LaidU8
import Derived.Test.YtfndhfekbbbliaaGreatDoorPackA
import Derived.BigQuiet
import Derived.Lib.ItoaNum
import Derived.Test.YtfndhfekbbbliaaGreatDoorPackB

/-
  Package expr: the contract of (tree).eval: what a tree comes to. Condition: its numbers are ints, its operators are some.
-/
namespace Go.Proofs.YtfndhfekbbbliaaGreatDoor
open Go.RowKit Go.Shelf
set_option linter.unusedVariables false
def I64_ (n : Int) : Prop := -9223372036854775808 ≤ n ∧ n ≤ 9223372036854775807
theorem isOp_cases {op : UInt8} (h : isOp op = true) : op = 109 ∨ op = 77 ∨ op = 61 ∨ op = 60 ∨ op = 62 ∨ op = 43 ∨ op = 45 ∨ op = 42 ∨ op = 47 ∨ op = 37 := by
 unfold isOp at h
 simpa [or_assoc] using h
theorem wrap_bounds (x : Int) : I64_ (wrap64 x) := by unfold wrap64 I64_; omega
theorem b2i_bounds (b : Bool) : I64_ (b2i b) := by cases b <;> (unfold b2i I64_; decide)
theorem tdiv_bounds {a b : Int} (ha : I64_ a) (h0 : b ≠ 0) (h1 : b ≠ -1) : I64_ (a.tdiv b) := by
 unfold I64_ at *
 by_cases e : b = 1
 ·subst e; rw [Int.tdiv_one]; exact ha
 ·have h := Int.natAbs_tdiv a b
  have h2 : (a.tdiv b).natAbs ≤ a.natAbs / 2 := by
   rw [h]; exact Nat.div_le_div_left (by omega) (by omega)
  omega
theorem tmod_bounds {a b : Int} (ha : I64_ a) : I64_ (a.tmod b) := by
 unfold I64_ at *
 have h : (a.tmod b).natAbs = a.natAbs % b.natAbs := Int.natAbs_tmod a b
 have h2 : (a.tmod b).natAbs ≤ a.natAbs := by rw [h]; exact Nat.mod_le _ _
 rcases Int.le_total 0 a with g | g
 ·have := Int.tmod_nonneg b g; omega
 ·have := Int.tmod_nonneg b (a := -a) (by omega); rw [Int.neg_tmod] at this; omega
theorem op_bounds (op : UInt8) {a b : Int} (ha : I64_ a) (hb : I64_ b) : I64_ (opVal op a b) := by
 unfold opVal
 repeat' split
 ·unfold I64_ at *; omega
 ·unfold I64_ at *; omega
 ·exact wrap_bounds _
 ·exact wrap_bounds _
 ·exact wrap_bounds _
 ·exact b2i_bounds _
 ·exact b2i_bounds _
 ·exact b2i_bounds _
 ·unfold I64_; omega
 ·unfold I64_; omega
 ·exact wrap_bounds _
 ·exact tdiv_bounds ha ‹_› ‹_›
 ·exact tmod_bounds ha
theorem val_bounds {t : Tr} {n s : Int} (hf : t.fine) (hn : I64_ n) (hs : I64_ s) : I64_ (t.val n s) := by
 induction t with
 | num k => unfold Tr.fine at hf; unfold Tr.val I64_; omega
 | nam b => unfold Tr.val; split <;> assumption
 | neg a ih => exact wrap_bounds _
 | bin op a b iha ihb => exact op_bounds op (iha hf.2.1) (ihb hf.2.2)
 | sel a b c iha ihb ihc => unfold Tr.val; split; exact ihc hf.2.2; exact ihb hf.2.1
set_option maxRecDepth 100000 in
theorem is_ok (b : Bool) (w : World) : Calls Tryz.prog 95 #[.bool b] w fun e w' => e = .returned (.int .i64 (b2i b)) ∧ w' = w := by
 cases b
 ·go_enter Tryz.func95, Tryz.ntmps95
  go_wp2
  go_ret
  exact ⟨rfl, rfl⟩
 ·go_enter Tryz.func95, Tryz.ntmps95
  go_wp2
  go_ret
  exact ⟨rfl, rfl⟩
theorem region_class {P : Program} {C : World → Prop} {id : Nat} {Q : Exit → Act → World → Prop} {a : Act} {w : World} {l : List Oper} (hm : P.follows .mixedOrders = true) (hB : Region.lexB .any l.toArray = true) (hC : C w.drew)
  (h : wpQuiet P l.toArray C (fun a' => ∀ w', C w' → Q .normal a' w') l a) : (Code.region id l.toArray true).wp P Q a w :=
 wp_region_quiet (C := C) hm hB hC (by simpa using h)
structure GrownW (w : World) where
 val : World
 bel : Below w.heap.size w val
set_option maxRecDepth 100000 in
set_option maxHeartbeats 4000000 in
theorem eval_ok (t : Tr) (hf : t.fine) (n s : Int) (hn : I64_ n) (hs : I64_ s) : ∀ (o k : Int) (A : Option Addr) (c : Nat) (w : World), TrC (· < w.heap.size) w t (trL o k A c) →
  Calls Tryz.prog 48 #[.agg #[.int .u8 o, .int .i64 k, .slice A c c], .int .i64 n, .int .i64 s] w fun e w' => e = .returned (.int .i64 (t.val n s)) ∧ Below w.heap.size w w' := by
 induction t with
 | num v =>
  intro o k A c w h
  obtain ⟨rfl, rfl, rfl, rfl⟩ : o = 48 ∧ k = v ∧ A = none ∧ c = 0 := by
   have h : trL o k A c = _ := h
   simp [trL] at h; exact h
  go_enter Tryz.func48, Tryz.ntmps48
  go_wp2_with fail
  go_ret
  exact ⟨rfl, (Below.refl _ _).alloc (Nat.le_refl _) _⟩
 | nam b =>
  intro o k A c w h
  obtain ⟨rfl, rfl, rfl, rfl⟩ : o = (if b then 110 else 115) ∧ k = 0 ∧ A = none ∧ c = 0 := by
   have h : trL o k A c = _ := h
   simp [trL] at h; exact h
  cases b
  ·simp only [Bool.false_eq_true, if_false]
   go_enter Tryz.func48, Tryz.ntmps48
   go_wp2_with fail
   go_ret
   exact ⟨rfl, (Below.refl _ _).alloc (Nat.le_refl _) _⟩
  ·simp only [if_true]
   go_enter Tryz.func48, Tryz.ntmps48
   go_wp2_with fail
   go_ret
   exact ⟨rfl, (Below.refl _ _).alloc (Nat.le_refl _) _⟩
 | neg a ih =>
  intro o k A c w h
  obtain ⟨g, ca, he, hk, ha⟩ := h
  obtain ⟨rfl, rfl, rfl, rfl⟩ : o = 126 ∧ k = 0 ∧ A = some ⟨g, 0, none⟩ ∧ c = 1 := by simp [trL] at he; exact he
  obtain ⟨o1, k1, A1, c1, rfl⟩ := ha.three
  obtain ⟨x0, x1, x2, xf⟩ := (TVar.allocs (w := w) (k := g) hk.2)
  have HIH := Lib.hid (ih hf)
  have HA := Lib.hid ha
  clear ih ha hk he
  go_enter Tryz.func48, Tryz.ntmps48
  go_wp2_with fail
  have hb1 : Below w.heap.size w (w.alloc (.cells #[.int .u8 126, .int .i64 0, .slice (some ⟨g, 0, none⟩) 1 1] 86)) := (Below.refl _ _).alloc (Nat.le_refl _) _
  refine (HIH.out o1 k1 A1 c1 _ ((HA.out.keep fun j hj => heap_alloc_old _ _ hj).in_ fun j hj hj2 => hj2)).mono ?_
  rintro e w2 ⟨rfl, hb2⟩
  have HB := Lib.hid (hb1.trans (hb2.mono hb1.size))
  clear hb1 hb2 HIH HA x0 x1 x2 xf
  go_wp2_with fail
  go_ret
  exact ⟨rfl, HB.out⟩
 | bin op a b iha ihb =>
  intro o k A c w h
  obtain ⟨g, ca, cb, he, hk, ha, hb⟩ := h
  obtain ⟨rfl, rfl, rfl, rfl⟩ : o = (op.toNat : Int) ∧ k = 0 ∧ A = some ⟨g, 0, none⟩ ∧ c = 2 := by simp [trL] at he; exact he
  obtain ⟨o1, k1, A1, c1, rfl⟩ := ha.three
  obtain ⟨o2, k2, A2, c2, rfl⟩ := hb.three
  obtain ⟨hop, hfa, hfb⟩ := hf
  have hgl := block_lt hk.2
  have HA := Lib.hid ha
  have HB := Lib.hid hb
  have HIA := Lib.hid (iha hfa)
  have HIB := Lib.hid (ihb hfb)
  have hk2 := hk.2
  obtain ⟨W1, hW1⟩ : ∃ W1, W1 = w.alloc (.cells #[.int .u8 (op.toNat : Int), .int .i64 0, .slice (some ⟨g, 0, none⟩) 2 2] 86) := ⟨_, rfl⟩
  have hb1 : Below w.heap.size w W1 := by rw [hW1]; exact (Below.refl _ _).alloc (Nat.le_refl _) _
  have hv1 : TVar W1 w.heap.size (.int .u8 (op.toNat : Int)) (.int .i64 0) (.slice (some ⟨g, 0, none⟩) 2 2) := by rw [hW1]; exact TVar.new _ _ _ _
  have hall : ∀ V : GrownW W1, V.val.cell? ⟨g, 0, none⟩ = some (.int .u8 o1) ∧ V.val.cell? ⟨g, 1, none⟩ = some (.int .i64 k1) ∧ V.val.cell? ⟨g, 2, none⟩ = some (.slice A1 c1 c1) ∧ V.val.cell? ⟨g, 3, none⟩ = some (.int .u8 o2) ∧ V.val.cell? ⟨g, 4, none⟩ = some (.int .i64 k2) ∧ V.val.cell? ⟨g, 5, none⟩ = some (.slice A2 c2 c2) ∧
    V.val.cell? ⟨w.heap.size, 0, none⟩ = some (.int .u8 (op.toNat : Int)) ∧ V.val.cell? ⟨w.heap.size, 2, none⟩ = some (.slice (some ⟨g, 0, none⟩) 2 2) := fun V => by
   have h : V.val.heap[g]? = _ := (V.bel.block g (by have := hb1.size; omega)).trans ((hb1.block g hgl).trans hk2)
   have h2 : TVar V.val w.heap.size (.int .u8 (op.toNat : Int)) (.int .i64 0) (.slice (some ⟨g, 0, none⟩) 2 2) := (V.bel.block _ (block_lt hv1)).trans hv1
   exact ⟨(cell_of_row V.val g 0 _ _ _ h).trans rfl, (cell_of_row V.val g 1 _ _ _ h).trans rfl, (cell_of_row V.val g 2 _ _ _ h).trans rfl, (cell_of_row V.val g 3 _ _ _ h).trans rfl, (cell_of_row V.val g 4 _ _ _ h).trans rfl, (cell_of_row V.val g 5 _ _ _ h).trans rfl, h2.cells.1, h2.cells.2.2.1⟩
  have x0 := fun V => (hall V).1
  have x1 := fun V => (hall V).2.1
  have x2 := fun V => (hall V).2.2.1
  have x3 := fun V => (hall V).2.2.2.1
  have x4 := fun V => (hall V).2.2.2.2.1
  have x5 := fun V => (hall V).2.2.2.2.2.1
  have x6 := fun V => (hall V).2.2.2.2.2.2.1
  have x7 := fun V => (hall V).2.2.2.2.2.2.2
  have m0 := x6 ⟨W1, Below.refl _ _⟩
  have HB1 := Lib.hid hb1
  have hne : ∀ c : UInt8, isOp c = false → ((op.toNat : Int) == (c.toNat : Int)) = false := fun c hc => beq_eq_false_iff_ne.2 fun e => by
   have : op = c := UInt8.toNat_inj.1 (by omega)
   rw [this, hc] at hop; cases hop
  have n1 : ((op.toNat : Int) == 110) = false := hne 110 rfl
  have n2 : ((op.toNat : Int) == 115) = false := hne 115 rfl
  have n3 : ((op.toNat : Int) == 48) = false := hne 48 rfl
  have n4 : ((op.toNat : Int) == 63) = false := hne 63 rfl
  have n5 : ((op.toNat : Int) == 126) = false := hne 126 rfl
  clear iha ihb ha hb he hk hall hb1 hv1 hk2 hne
  go_enter Tryz.func48, Tryz.ntmps48
  go_upto_region 1 with (fail)
  rw [← hW1]
  clear hW1
  go_upto_region 14 with (fail)
  refine region_class (C := fun W => ∃ V : GrownW W1, W = V.val) (by kernel_rfl) (by kernel_rfl) ⟨⟨W1.drew, (Below.refl _ _).drew⟩, rfl⟩ ?_
  have HCA : Hid (∀ V : GrownW W1, Calls Tryz.prog 48 #[.agg #[.int .u8 o1, .int .i64 k1, .slice A1 c1 c1], .int .i64 n, .int .i64 s] V.val fun e w' => e = .returned (.int .i64 (a.val n s)) ∧ ∃ V' : GrownW W1, w' = V'.val) := fun V => by
   refine (HIA.out o1 k1 A1 c1 V.val ((HA.out.keep fun j hj => (V.bel.block j (by have := HB1.out.size; omega)).trans (HB1.out.block j hj)).in_ fun j _ h => h)).mono ?_
   rintro e w' ⟨rfl, hb⟩
   exact ⟨rfl, ⟨w', V.bel.trans (hb.mono V.bel.size)⟩, rfl⟩
  have HCB : Hid (∀ V : GrownW W1, Calls Tryz.prog 48 #[.agg #[.int .u8 o2, .int .i64 k2, .slice A2 c2 c2], .int .i64 n, .int .i64 s] V.val fun e w' => e = .returned (.int .i64 (b.val n s)) ∧ ∃ V' : GrownW W1, w' = V'.val) := fun V => by
   refine (HIB.out o2 k2 A2 c2 V.val ((HB.out.keep fun j hj => (V.bel.block j (by have := HB1.out.size; omega)).trans (HB1.out.block j hj)).in_ fun j _ h => h)).mono ?_
   rintro e w' ⟨rfl, hb⟩
   exact ⟨rfl, ⟨w', V.bel.trans (hb.mono V.bel.size)⟩, rfl⟩
  have hne : Nonempty (GrownW W1) := ⟨⟨W1, Below.refl _ _⟩⟩
  repeat go_big_quiet_step (first | with_reducible exact HCA.out _ | with_reducible exact HCB.out _)
  refine wpQuiet_nil ?_
  intro _ hw'
  obtain ⟨V, rfl⟩ := hw'
  have HV := Lib.hid (HB1.out.trans (V.bel.mono HB1.out.size))
  have y0 := x6 V
  have HVL : Hid ((Tr.bin op a b).val n s = opVal op (a.val n s) (b.val n s)) := rfl
  obtain ⟨bA1, bA2⟩ := val_bounds hfa hn hs
  obtain ⟨bB1, bB2⟩ := val_bounds hfb hn hs
  generalize a.val n s = va at HVL bA1 bA2 ⊢
  generalize b.val n s = vb at HVL bB1 bB2 ⊢
  generalize V.val = W2 at HV y0 ⊢
  clear HCA HCB hne x0 x1 x2 x3 x4 x5 x6 x7 m0 HIA HIB HA HB V
  have hcs := isOp_cases hop
  clear n1 n2 n3 n4 n5 hop
  rcases hcs with rfl | rfl | rfl | rfl | rfl | rfl | rfl | rfl | rfl | rfl
  ·go_wp2_with fail
   go_ret
   exact ⟨by rw [HVL.out]; rfl, HV.out⟩
  ·go_wp2_with fail
   go_ret
   exact ⟨by rw [HVL.out]; rfl, HV.out⟩
  ·go_wp2_with fail
   refine (is_ok _ _).mono ?_
   rintro e w' ⟨rfl, rfl⟩
   go_wp2_with fail
   go_ret
   exact ⟨by rw [HVL.out]; rfl, HV.out⟩
  ·go_wp2_with fail
   refine (is_ok _ _).mono ?_
   rintro e w' ⟨rfl, rfl⟩
   go_wp2_with fail
   go_ret
   exact ⟨by rw [HVL.out]; rfl, HV.out⟩
  ·go_wp2_with fail
   refine (is_ok _ _).mono ?_
   rintro e w' ⟨rfl, rfl⟩
   go_wp2_with fail
   go_ret
   exact ⟨by rw [HVL.out]; rfl, HV.out⟩
  ·go_wp2_with fail
   go_ret
   exact ⟨by rw [HVL.out]; rfl, HV.out⟩
  ·go_wp2_with fail
   go_ret
   exact ⟨by rw [HVL.out]; rfl, HV.out⟩
  ·go_wp2_with fail
   go_ret
   exact ⟨by rw [HVL.out]; rfl, HV.out⟩
  ·by_cases h0 : vb = 0
   ·subst h0
    go_wp2_with fail
    go_ret
    exact ⟨by rw [HVL.out]; rfl, HV.out⟩
   ·have e0 : (vb == 0) = false := by simp [h0]
    by_cases h1 : vb = -1
    ·subst h1
     go_wp2_with fail
     go_ret
     exact ⟨by rw [HVL.out]; rfl, HV.out⟩
    ·have e1 : (vb == -1) = false := by simp [h1]
     have ho : opVal 47 va vb = wrap64 (va.tdiv vb) := by
      have hb := tdiv_bounds ⟨bA1, bA2⟩ h0 h1
      have e : opVal 47 va vb = va.tdiv vb := by unfold opVal; simp [h0, h1]
      rw [e]; unfold I64_ at hb; unfold wrap64; omega
     have HO := Lib.hid ho
     clear ho
     go_wp2_with fail
     go_ret
     exact ⟨by rw [HVL.out, HO.out]; rfl, HV.out⟩
  ·by_cases h0 : vb = 0
   ·subst h0
    go_wp2_with fail
    go_ret
    exact ⟨by rw [HVL.out]; rfl, HV.out⟩
   ·have e0 : (vb == 0) = false := by simp [h0]
    by_cases h1 : vb = -1
    ·subst h1
     go_wp2_with fail
     go_ret
     exact ⟨by rw [HVL.out]; rfl, HV.out⟩
    ·have e1 : (vb == -1) = false := by simp [h1]
     have ho : opVal 37 va vb = va.tmod vb := by unfold opVal; simp [h0, h1]
     have HO := Lib.hid ho
     clear ho
     go_wp2_with fail
     go_ret
     exact ⟨by rw [HVL.out, HO.out]; rfl, HV.out⟩
 | sel a b d iha ihb ihd =>
  intro o k A c w h
  obtain ⟨g, ca, cb, cd, he, hk, ha, hb, hd⟩ := h
  obtain ⟨rfl, rfl, rfl, rfl⟩ : o = 63 ∧ k = 0 ∧ A = some ⟨g, 0, none⟩ ∧ c = 3 := by simp [trL] at he; exact he
  obtain ⟨o1, k1, A1, c1, rfl⟩ := ha.three
  obtain ⟨o2, k2, A2, c2, rfl⟩ := hb.three
  obtain ⟨o3, k3, A3, c3, rfl⟩ := hd.three
  obtain ⟨hfa, hfb, hfd⟩ := hf
  have hrow : ∀ W : World, W.heap[g]? = w.heap[g]? → W.cell? ⟨g, 0, none⟩ = some (.int .u8 o1) ∧ W.cell? ⟨g, 1, none⟩ = some (.int .i64 k1) ∧ W.cell? ⟨g, 2, none⟩ = some (.slice A1 c1 c1) ∧ W.cell? ⟨g, 3, none⟩ = some (.int .u8 o2) ∧ W.cell? ⟨g, 4, none⟩ = some (.int .i64 k2) ∧ W.cell? ⟨g, 5, none⟩ = some (.slice A2 c2 c2) ∧ W.cell? ⟨g, 6, none⟩ = some (.int .u8 o3) ∧ W.cell? ⟨g, 7, none⟩ = some (.int .i64 k3) ∧ W.cell? ⟨g, 8, none⟩ = some (.slice A3 c3 c3) := fun W hW => by
   have h := hW.trans hk.2
   exact ⟨(cell_of_row W g 0 _ _ _ h).trans rfl, (cell_of_row W g 1 _ _ _ h).trans rfl, (cell_of_row W g 2 _ _ _ h).trans rfl, (cell_of_row W g 3 _ _ _ h).trans rfl, (cell_of_row W g 4 _ _ _ h).trans rfl, (cell_of_row W g 5 _ _ _ h).trans rfl, (cell_of_row W g 6 _ _ _ h).trans rfl, (cell_of_row W g 7 _ _ _ h).trans rfl, (cell_of_row W g 8 _ _ _ h).trans rfl⟩
  have HROW := Lib.hid hrow
  have hgl := block_lt hk.2
  have HA := Lib.hid ha
  have HB := Lib.hid hb
  have HD := Lib.hid hd
  have HIA := Lib.hid (iha hfa)
  have HIB := Lib.hid (ihb hfb)
  have HID := Lib.hid (ihd hfd)
  clear iha ihb ihd ha hb hd he hk hrow
  obtain ⟨W1, hW1⟩ : ∃ W1, W1 = w.alloc (.cells #[.int .u8 63, .int .i64 0, .slice (some ⟨g, 0, none⟩) 3 3] 86) := ⟨_, rfl⟩
  have hb1 : Below w.heap.size w W1 := by rw [hW1]; exact (Below.refl _ _).alloc (Nat.le_refl _) _
  have hv1 : TVar W1 w.heap.size (.int .u8 63) (.int .i64 0) (.slice (some ⟨g, 0, none⟩) 3 3) := by rw [hW1]; exact TVar.new _ _ _ _
  obtain ⟨x0, x1, x2, x3, x4, x5, x6, x7, x8⟩ := HROW.out W1 (hb1.block g hgl)
  obtain ⟨v0, v1, v2, vf⟩ := hv1.cells
  have HB1 := Lib.hid hb1
  have HV1 := Lib.hid hv1
  clear hb1 hv1
  go_enter Tryz.func48, Tryz.ntmps48
  go_upto_region 1 with (fail)
  rw [← hW1]
  clear hW1
  go_wp2_with fail
  refine (HIA.out o1 k1 A1 c1 W1 ((HA.out.keep fun j hj => HB1.out.block j hj).in_ fun j hj hj2 => hj2)).mono ?_
  rintro e w2 ⟨rfl, hb2⟩
  have HB2 := Lib.hid (HB1.out.trans (hb2.mono HB1.out.size))
  have hv2 : TVar w2 w.heap.size (.int .u8 63) (.int .i64 0) (.slice (some ⟨g, 0, none⟩) 3 3) := (hb2.block _ (block_lt HV1.out)).trans HV1.out
  obtain ⟨y0, y1, y2, y3, y4, y5, y6, y7, y8⟩ := HROW.out w2 (HB2.out.block g hgl)
  obtain ⟨u0, u1, u2, uf⟩ := hv2.cells
  have HVL : Hid ((Tr.sel a b d).val n s = if a.val n s = 0 then d.val n s else b.val n s) := rfl
  clear hb2 hv2 x0 x1 x2 x3 x4 x5 x6 x7 x8 v0 v1 v2 vf HB1 HV1
  generalize a.val n s = va at HVL ⊢
  by_cases h0 : va = 0
  ·subst h0
   go_wp2_with fail
   refine (HID.out o3 k3 A3 c3 w2 ((HD.out.keep fun j hj => HB2.out.block j hj).in_ fun j hj hj2 => hj2)).mono ?_
   rintro e w3 ⟨rfl, hb3⟩
   have HB3 := Lib.hid (HB2.out.trans (hb3.mono HB2.out.size))
   clear hb3
   go_wp2_with fail
   go_ret
   exact ⟨by rw [HVL.out]; rfl, HB3.out⟩
  ·have hne : (va != 0) = true := by simp [h0]
   go_wp2_with fail
   refine (HIB.out o2 k2 A2 c2 w2 ((HB.out.keep fun j hj => HB2.out.block j hj).in_ fun j hj hj2 => hj2)).mono ?_
   rintro e w3 ⟨rfl, hb3⟩
   have HB3 := Lib.hid (HB2.out.trans (hb3.mono HB2.out.size))
   clear hb3
   go_wp2_with fail
   go_ret
   exact ⟨by rw [HVL.out, if_neg h0]; rfl, HB3.out⟩
end Go.Proofs.YtfndhfekbbbliaaGreatDoor

/-
  strconv.Itoa at any int. Conditions: the table of powers of ten stands.
-/
namespace Go.Proofs.YtfndhfekbbbliaaGreatDoor
open Go.RowKit Go.Shelf
set_option linter.unusedVariables false
def PowTab (w : World) : Prop := Lib.TabIs Tryz.prog w "internal/strconv.uint64pow10" .u64 Lib.pow10Tab
theorem PowTab.below {w w' : World} (h : PowTab w) (hb : Below w.heap.size w w') : PowTab w' := by
 obtain ⟨g, hg⟩ := Option.isSome_iff_exists.1 (show (Tryz.prog.globalNamed "internal/strconv.uint64pow10").isSome = true by kernel_rfl)
 exact Go.Joins.tab_stays hg h hb (Nat.le_refl _)
theorem itoa_ok (n : Int) (w : World) (hn : I64_ n) (hT : PowTab w) : Calls Tryz.prog 53 #[.int .i64 n] w fun e w' => e = .returned (.string ⟨(Lib.itoa n).toArray⟩) ∧ Below w.heap.size w w' := by
 refine (Any.strconv_Itoa Tryz.itoa n hn.1 hn.2 w hT).mono ?_
 rintro e w' ⟨he, k, os, rfl⟩
 exact ⟨he, Go.Lib.below_grow _ w (Nat.le_refl _) k os⟩
end Go.Proofs.YtfndhfekbbbliaaGreatDoor

/-
  From what the row lists to what the walks of package den ask: the two variables of Atoi's errors hold errors; the table of powers of ten. No condition.
-/
namespace Go.Proofs.YtfndhfekbbbliaaGreatDoor
open Go.RowKit Go.Shelf
set_option linter.unusedVariables false
theorem err_of_reads {w : World} {n nm : String} {g : Nat} {d : DataW Unit} (hg : Tryz.prog.globalNamed n = some g) (ht : (Tryz.prog.globals[g]?).map (·.type) = some 28) (h : Lib.VarReads Tryz.prog w n (.iface nm d)) :
  ∃ ev, w.cell? ⟨g, 0, none⟩ = some ev ∧ (ev = .nilIface ∨ ∃ te pe, ev = .iface te pe) := by
 obtain ⟨g', t', cs, fuel, p, hg', ht', hvar, hd⟩ := h
 obtain rfl := Option.some.inj (hg.symm.trans hg')
 obtain rfl := Option.some.inj (ht.symm.trans ht')
 obtain ⟨_, u, v, hcs, _, _⟩ := iface_of_trod Tryz.underlying28 hd
 refine ⟨.iface u v, ?_, .inr ⟨u, v, rfl⟩⟩
 obtain ⟨l⟩ := cs
 have hl : l = [.iface u v] := hcs
 subst hl
 simpa using World.var?_cell hg hvar 0
theorem errVars_of_reads {w : World} (h1 : Lib.VarReads Tryz.prog w "strconv.ErrSyntax" Rows.laid_strconv_ErrSyntax) (h2 : Lib.VarReads Tryz.prog w "strconv.ErrRange" Rows.laid_strconv_ErrRange) : ErrVars w :=
 ⟨err_of_reads (g := 3) (by kernel_rfl) (by kernel_rfl) h1, err_of_reads (g := 4) (by kernel_rfl) (by kernel_rfl) h2⟩
theorem pow_of_reads {w : World} (h : Lib.VarReads Tryz.prog w "internal/strconv.uint64pow10" Rows.laid_internal_strconv_uint64pow10) : PowTab w := by
 obtain ⟨g', t', cs, fuel, p, hg', ht', hvar, hd⟩ := h
 obtain rfl := Option.some.inj ((show Tryz.prog.globalNamed "internal/strconv.uint64pow10" = some 1 by kernel_rfl).symm.trans hg')
 obtain rfl := Option.some.inj ((show (Tryz.prog.globals[1]?).map (·.type) = some 251 by kernel_rfl).symm.trans ht')
 have e : (Rows.laid_internal_strconv_uint64pow10 : DataW Unit) = Lib.tabData .u64 Lib.pow10Tab := by kernel_rfl
 rw [e] at hd
 unfold PowTab Lib.TabIs
 rw [hvar, ← Lib.cells_of_tab Tryz.underlying251 Tryz.underlying161 (by kernel_rfl) (by kernel_rfl) hd]
end Go.Proofs.YtfndhfekbbbliaaGreatDoor

/-
  The contract of weirsame.Ints at equal lists. No condition.
-/
namespace Go.Proofs.YtfndhfekbbbliaaGreatDoor
open Go.RowKit
set_option linter.unusedVariables false
set_option maxRecDepth 100000 in
theorem ints_same (A B : Option Addr) (c d : Nat) (l : List Int) (w : World) (F G : Nat → Prop) (ha : SlA (intE .i64) F w A c l) (hb : SlA (intE .i64) G w B d l) :
  Calls Tryz.prog 28 #[.slice A l.length c, .slice B l.length d] w fun e w' => e = .returned (.bool true) ∧ ∃ k, w' = w.drewN k := by
 have hn := ha.le
 have H := Lib.hid ha
 have H' := Lib.hid hb
 clear ha hb
 go_enter Tryz.func28, Tryz.ntmps28
 go_wp2
 go_loopw [5] (fun i wr => ∃ k q : Nat, k ≤ l.length ∧ i = .int .i64 k ∧ wr = w.drewN q) (fun i _ => l.length - (intOf i).toNat)
 case atStart => exact ⟨0, 0, Nat.zero_le _, rfl, rfl⟩
 case round =>
  obtain ⟨k, q, hk, rfl, rfl⟩ := hrel
  by_cases hlt : k < l.length
  ·obtain ⟨b, off, rfl, _, c0, _⟩ := H.out.int_ hlt
   obtain ⟨b', off', rfl, _, d0, _⟩ := H'.out.int_ hlt
   obtain ⟨s, hs⟩ : ∃ s, s = l[k] := ⟨_, rfl⟩
   rw [← hs] at c0 d0
   clear hs
   go_wp2
   go_quiet (fail)
   go_wp2
   go_roundw
   case rel => exact ⟨k + 1, q + nq, by omega, by go_num, by simp⟩
   case measure => simp [intOf]; omega
  ·go_wp2
   go_ret
   exact ⟨rfl, q, rfl⟩
end Go.Proofs.YtfndhfekbbbliaaGreatDoor

/-
  The document's records, as plain data and as they lie in memory, over this seat's table of types. No condition: definitions and lemmas.
-/
namespace Go.Proofs.YtfndhfekbbbliaaGreatDoor
open Go.RowKit Go.ChangeShapes Go.WideShapes
structure Rec where
 key : ByteArray
 num : Int
 time : Int
structure Lin where
 key : ByteArray
 nums : List Int
def I64 (n : Int) : Prop := (Lit.int .i64 n).wf = true
def recE : Elt Rec where
 sz := 3
 bulk := fun r => r.key.size + 4
 R := fun _ _ cs r => cs = [.string r.key, .int .i64 r.num, .int .i64 r.time] ∧ r.key.size ≤ maxLen ∧ I64 r.num ∧ I64 r.time
 len := fun _ _ _ _ h => by rw [h.1]; rfl
 keep := fun _ _ _ _ _ h _ => h
 more := fun _ _ _ _ _ h _ => h
def linE : Elt Lin where
 sz := 2
 bulk := fun r => r.key.size + sumBulk (fun _ => 1) r.nums + 3
 R := fun F w cs r => ∃ v, cs = [.string r.key, v] ∧ r.key.size ≤ maxLen ∧ Sl (intE .i64) F w v r.nums
 len := fun _ _ _ _ h => by obtain ⟨v, rfl, _⟩ := h; rfl
 keep := fun _ _ _ _ _ h hs => by obtain ⟨v, rfl, h1, h⟩ := h; exact ⟨v, rfl, h1, h.keep hs⟩
 more := fun _ _ _ _ _ h hF => by obtain ⟨v, rfl, h1, h⟩ := h; exact ⟨v, rfl, h1, h.more hF⟩
theorem SlA.rec_ {F : Nat → Prop} {w : World} {A : Option Addr} {c : Nat} {l : List Rec} (h : SlA recE F w A c l) {k : Nat} (hk : k < l.length) :
  ∃ b off, A = some ⟨b, off, none⟩ ∧ F b ∧ w.cell? ⟨b, off + k * 3, none⟩ = some (.string l[k].key) ∧ w.cell? ⟨b, off + k * 3 + 1, none⟩ = some (.int .i64 l[k].num) ∧ w.cell? ⟨b, off + k * 3 + 2, none⟩ = some (.int .i64 l[k].time) ∧
   l[k].key.size ≤ maxLen ∧ I64 l[k].num ∧ I64 l[k].time := by
 obtain ⟨b, off, cs, rfl, hb, hc, he, h1, h2, h3⟩ := h.at_ hk
 have c0 := hc 0 _ (by rw [he]; rfl)
 have c1 := hc 1 _ (by rw [he]; rfl)
 have c2 := hc 2 _ (by rw [he]; rfl)
 simp only [recE, Nat.add_zero] at c0 c1 c2
 exact ⟨b, off, rfl, hb, c0, by rw [Nat.add_assoc]; exact c1, by rw [Nat.add_assoc]; exact c2, h1, h2, h3⟩
theorem SlA.lin_ {F : Nat → Prop} {w : World} {A : Option Addr} {c : Nat} {l : List Lin} (h : SlA linE F w A c l) {k : Nat} (hk : k < l.length) :
  ∃ b off A' c', A = some ⟨b, off, none⟩ ∧ F b ∧ w.cell? ⟨b, off + k * 2, none⟩ = some (.string l[k].key) ∧ w.cell? ⟨b, off + k * 2 + 1, none⟩ = some (.slice A' l[k].nums.length c') ∧
   l[k].key.size ≤ maxLen ∧ SlA (intE .i64) F w A' c' l[k].nums := by
 obtain ⟨b, off, cs, rfl, hb, hc, v, he, h1, A', c', rfl, h2⟩ := h.at_ hk
 have c0 := hc 0 _ (by rw [he]; rfl)
 have c1 := hc 1 _ (by rw [he]; rfl)
 simp only [linE, Nat.add_zero] at c0 c1
 exact ⟨b, off, A', c', rfl, hb, c0, by rw [Nat.add_assoc]; exact c1, h1, h2⟩
structure Hld where
 node : Int
 key : ByteArray
 a : Int
 b : Int
theorem ofInts : OfT Tryz.prog 38 (slE (intE .i64)) := ofSl Tryz.underlying38 (by kernel_rfl) (ofInt Tryz.underlying3 (by kernel_rfl))
theorem ofRec : OfT Tryz.prog 44 recE := ⟨by kernel_rfl, by decide, fun enc w fuel cs x h => by
 obtain ⟨y0, y1, y2, n, rfl, hl, h0, h1, h2⟩ := Go.Deep.trod_struct3 Tryz.underlying44 h
 have e1 : Tryz.prog.cellsOf 44 = 3 := by kernel_rfl
 have e2 : Tryz.prog.cellsOf 9 = 1 := by kernel_rfl
 have e3 : Tryz.prog.cellsOf 3 = 1 := by kernel_rfl
 rw [e1] at hl
 rw [e2] at h0; rw [e3] at h1 h2
 obtain ⟨k, g0, rfl, hk⟩ := DataW.trod_string Tryz.underlying9 h0
 obtain ⟨a, g1, rfl, ha⟩ := DataW.trod_int Tryz.underlying3 h1
 obtain ⟨b, g2, rfl, hb⟩ := DataW.trod_int Tryz.underlying3 h2
 match cs, hl with
 | [c0, c1, c2], _ =>
  simp at g0 g1 g2
  subst g0; subst g1; subst g2
  exact ⟨⟨k, a, b⟩, ⟨rfl, hk, ha, hb⟩, by simp [recE, Rows.uptoBulk, Rows.uptoBulkAll]⟩⟩
theorem ofRecs : OfT Tryz.prog 47 (slE recE) := ofSl Tryz.underlying47 (by kernel_rfl) ofRec
theorem ofRecss : OfT Tryz.prog 71 (slE (slE recE)) := ofSl Tryz.underlying71 (by kernel_rfl) ofRecs
end Go.Proofs.YtfndhfekbbbliaaGreatDoor

/-
  The contract of weirsame.Lines at equal lists. No condition.
-/
namespace Go.Proofs.YtfndhfekbbbliaaGreatDoor
open Go.RowKit
set_option linter.unusedVariables false
theorem ints_qq {P : Program} {f : FuncId} {args : Array Value} {w : World} {q n : Nat} {v : Value} (h : Calls P f args (w.drewN (q + n)) fun e w' => e = .returned v ∧ ∃ k, w' = (w.drewN (q + n)).drewN k) :
  Calls P f args (w.drewN (q + n)) fun e w'' => e = .returned v ∧ ∃ m, w'' = w.drewN (q + m) :=
 h.mono fun e w' ⟨he, m, hm⟩ => ⟨he, n + m, by rw [hm, World.drewN_drewN, Nat.add_assoc]⟩
set_option maxRecDepth 100000 in
theorem lines_same (A B : Option Addr) (c d : Nat) (l : List Lin) (w : World) (F G : Nat → Prop) (ha : SlA linE F w A c l) (hb : SlA linE G w B d l) :
  Calls Tryz.prog 78 #[.slice A l.length c, .slice B l.length d] w fun e w' => e = .returned (.bool true) ∧ ∃ k, w' = w.drewN k := by
 have hn := ha.le
 have hca := ha.1
 have hcb := hb.1
 have H := Lib.hid ha
 have H' := Lib.hid hb
 clear ha hb
 go_enter Tryz.func78, Tryz.ntmps78
 go_wp2
 go_loopw [5] (fun i wr => ∃ k q : Nat, k ≤ l.length ∧ i = .int .i64 k ∧ wr = w.drewN q) (fun i _ => l.length - (intOf i).toNat)
 case atStart => exact ⟨0, 0, Nat.zero_le _, rfl, rfl⟩
 case round =>
  obtain ⟨k, q, hk, rfl, rfl⟩ := hrel
  by_cases hlt : k < l.length
  ·obtain ⟨b, off, A1, c1, rfl, _, x0, x1, _, hx⟩ := H.out.lin_ hlt
   obtain ⟨b', off', A2, c2, rfl, _, y0, y1, _, hy⟩ := H'.out.lin_ hlt
   obtain ⟨s, hs⟩ : ∃ s, s = l[k] := ⟨_, rfl⟩
   rw [← hs] at x0 x1 hx y0 y1 hy
   obtain ⟨sk, sn⟩ := s
   clear hs
   simp only at x0 x1 hx y0 y1 hy
   have hkk : (sk.toList == sk.toList) = true := beq_self_eq_true _
   have HIS := Lib.hid (fun n => ints_qq (q := q) (n := n) (ints_same A1 A2 c1 c2 sn (w.drewN (q + n)) _ _ (hx.drewN (q + n)) (hy.drewN (q + n))))
   clear hx hy
   go_wp2
   go_quiet ((with_reducible exact HIS.out _))
   go_wp2
   go_quiet (fail)
   go_wp2
   go_roundw
   case rel => exact ⟨k + 1, _, by omega, by go_num, by first | rfl | exact World.drewN_drewN _ _ _⟩
   case measure => simp [intOf]; omega
  ·go_wp2
   go_ret
   exact ⟨rfl, q, rfl⟩
end Go.Proofs.YtfndhfekbbbliaaGreatDoor

/-
  The contract of weirsame.Sinks at equal lists. No condition.
-/
namespace Go.Proofs.YtfndhfekbbbliaaGreatDoor
open Go.RowKit
set_option linter.unusedVariables false
set_option maxRecDepth 100000 in
theorem sinks_same (A B : Option Addr) (c d : Nat) (l : List (List Lin)) (w : World) (F G : Nat → Prop) (ha : SlA (slE linE) F w A c l) (hb : SlA (slE linE) G w B d l) :
  Calls Tryz.prog 34 #[.slice A l.length c, .slice B l.length d] w fun e w' => e = .returned (.bool true) ∧ ∃ k, w' = w.drewN k := by
 have hn := ha.le
 have hca := ha.1
 have hcb := hb.1
 have H := Lib.hid ha
 have H' := Lib.hid hb
 clear ha hb
 go_enter Tryz.func34, Tryz.ntmps34
 go_wp2
 go_loopw [5] (fun i wr => ∃ k q : Nat, k ≤ l.length ∧ i = .int .i64 k ∧ wr = w.drewN q) (fun i _ => l.length - (intOf i).toNat)
 case atStart => exact ⟨0, 0, Nat.zero_le _, rfl, rfl⟩
 case round =>
  obtain ⟨k, q, hk, rfl, rfl⟩ := hrel
  by_cases hlt : k < l.length
  ·obtain ⟨b, off, A1, c1, rfl, _, x0, hx⟩ := H.out.sl_ hlt
   obtain ⟨b', off', A2, c2, rfl, _, y0, hy⟩ := H'.out.sl_ hlt
   obtain ⟨s, hs⟩ : ∃ s, s = l[k] := ⟨_, rfl⟩
   rw [← hs] at x0 hx y0 hy
   clear hs
   have HIS := Lib.hid (fun n => ints_qq (q := q) (n := n) (lines_same A1 A2 c1 c2 s (w.drewN (q + n)) _ _ (hx.drewN (q + n)) (hy.drewN (q + n))))
   clear hx hy
   go_wp2
   go_quiet ((with_reducible exact HIS.out _))
   go_wp2
   go_roundw
   case rel => exact ⟨k + 1, _, by omega, by go_num, by first | rfl | exact World.drewN_drewN _ _ _⟩
   case measure => simp [intOf]; omega
  ·go_wp2
   go_ret
   exact ⟨rfl, q, rfl⟩
end Go.Proofs.YtfndhfekbbbliaaGreatDoor

/-
  A node of a job, as plain data and as it lies in memory, over this seat's table of types. No condition: definitions and lemmas.
-/
namespace Go.Proofs.YtfndhfekbbbliaaGreatDoor
open Go.RowKit Go.ChangeShapes Go.WideShapes
set_option linter.unusedVariables false
structure Nod where
 kind : Int
 from_ : List Int
 text : ByteArray
 n : Int
def nodE : Elt Nod where
 sz := 4
 bulk := fun r => r.text.size + sumBulk (fun _ => 1) r.from_ + 5
 R := fun F w cs r => ∃ v, cs = [.int .i64 r.kind, v, .string r.text, .int .i64 r.n] ∧ I64 r.kind ∧ r.text.size ≤ maxLen ∧ I64 r.n ∧ Sl (intE .i64) F w v r.from_
 len := fun _ _ _ _ h => by obtain ⟨v, rfl, _⟩ := h; rfl
 keep := fun _ _ _ _ _ h hs => by obtain ⟨v, rfl, h1, h2, h3, h⟩ := h; exact ⟨v, rfl, h1, h2, h3, h.keep hs⟩
 more := fun _ _ _ _ _ h hF => by obtain ⟨v, rfl, h1, h2, h3, h⟩ := h; exact ⟨v, rfl, h1, h2, h3, h.more hF⟩
theorem SlA.nod_ {F : Nat → Prop} {w : World} {A : Option Addr} {c : Nat} {l : List Nod} (h : SlA nodE F w A c l) {k : Nat} (hk : k < l.length) :
  ∃ b off A' c', A = some ⟨b, off, none⟩ ∧ F b ∧ w.cell? ⟨b, off + k * 4, none⟩ = some (.int .i64 l[k].kind) ∧ w.cell? ⟨b, off + k * 4 + 1, none⟩ = some (.slice A' l[k].from_.length c') ∧ w.cell? ⟨b, off + k * 4 + 2, none⟩ = some (.string l[k].text) ∧ w.cell? ⟨b, off + k * 4 + 3, none⟩ = some (.int .i64 l[k].n) ∧
   l[k].text.size ≤ maxLen ∧ I64 l[k].kind ∧ I64 l[k].n ∧ SlA (intE .i64) F w A' c' l[k].from_ := by
 obtain ⟨b, off, cs, rfl, hb, hc, v, he, h1, h2, h3, A', c', rfl, h4⟩ := h.at_ hk
 have c0 := hc 0 _ (by rw [he]; rfl)
 have c1 := hc 1 _ (by rw [he]; rfl)
 have c2 := hc 2 _ (by rw [he]; rfl)
 have c3 := hc 3 _ (by rw [he]; rfl)
 simp only [nodE, Nat.add_zero] at c0 c1 c2 c3
 exact ⟨b, off, A', c', rfl, hb, c0, by rw [Nat.add_assoc]; exact c1, by rw [Nat.add_assoc]; exact c2, by rw [Nat.add_assoc]; exact c3, h2, h1, h3, h4⟩
theorem ofNod : OfT Tryz.prog 40 nodE := ⟨by kernel_rfl, by decide, fun enc w fuel cs x h => by
 obtain ⟨y0, y1, y2, y3, n, rfl, hl, h0, h1, h2, h3⟩ := Go.Joins.trod_struct4 Tryz.underlying40 h
 have e1 : Tryz.prog.cellsOf 40 = 4 := by kernel_rfl
 have e2 : Tryz.prog.cellsOf 9 = 1 := by kernel_rfl
 have e3 : Tryz.prog.cellsOf 3 = 1 := by kernel_rfl
 have e4 : Tryz.prog.cellsOf 38 = 1 := by kernel_rfl
 rw [e1] at hl
 rw [e3] at h0 h3; rw [e4] at h1; rw [e2] at h2
 obtain ⟨a, g0, rfl, ha⟩ := DataW.trod_int Tryz.underlying3 h0
 obtain ⟨l, ⟨v, g1, hv⟩, hbk⟩ := ofInts.of enc w n _ _ h1
 obtain ⟨k, g2, rfl, hk⟩ := DataW.trod_string Tryz.underlying9 h2
 obtain ⟨c, g3, rfl, hc⟩ := DataW.trod_int Tryz.underlying3 h3
 match cs, hl with
 | [c0, c1, c2, c3], _ =>
  simp at g0 g1 g2 g3
  subst g0; subst g1; subst g2; subst g3
  refine ⟨⟨a, l, k, c⟩, ⟨_, rfl, ha, hk, hc, hv⟩, ?_⟩
  have hbk' : sumBulk (fun _ => 1) l + 1 ≤ Rows.uptoBulk y1.1 := hbk
  simp [nodE, Rows.uptoBulk, Rows.uptoBulkAll]; have : k.data.size = k.size := rfl; omega⟩
theorem ofNods : OfT Tryz.prog 45 (slE nodE) := ofSl Tryz.underlying45 (by kernel_rfl) ofNod
end Go.Proofs.YtfndhfekbbbliaaGreatDoor

/-
  Jobs, plain: what is wrong with one; who uses whom; which are of a kind. No condition: plain definitions and lemmas.
-/
namespace Go.Proofs.YtfndhfekbbbliaaGreatDoor
open Go.RowKit
set_option linter.unusedVariables false
def texted (k : Int) : Bool := k == 2 || k == 3 || k == 4 || k == 7
def counted (k : Int) : Bool := k == 1 || k == 5 || k == 8
def inLow (k : Int) : Int := if k = 1 then 0 else 1
def inHigh (k : Int) : Int := if k = 1 then 0 else if k = 6 then 4 else 1
def numLow (k : Int) : Int := if k = 1 then 1 else if k = 5 then 0 else if k = 8 then 1 else 0
def numHigh (k : Int) : Int := if k = 1 then 8 else if k = 5 then 3 else if k = 8 then 400 else 0
def textErr (s : List UInt8) : Int := match parseT s with
 | .tree _ => 0
 | .fault _ e => e
def fromErr (l : List Nod) (i : Nat) : List Int → Int
 | [] => 0
 | f :: r => if f < 0 ∨ (i : Int) ≤ f then 1 else if (l[f.toNat]?.map (·.kind)) = some 10 then 7 else fromErr l i r
def nodeErr (l : List Nod) (i : Nat) (n : Nod) : Int :=
 if n.kind < 1 ∨ 10 < n.kind then 1
 else if (n.from_.length : Int) < inLow n.kind ∨ inHigh n.kind < (n.from_.length : Int) then 3
 else if fromErr l i n.from_ ≠ 0 then fromErr l i n.from_
 else if (n.text.size ≠ 0 ∧ texted n.kind = false) ∨ (n.n ≠ 0 ∧ counted n.kind = false) then 3
 else if n.n < numLow n.kind ∨ numHigh n.kind < n.n then 1
 else if texted n.kind then textErr n.text.data.toList
 else 0
def nodesErr (l : List Nod) : Nat → List Nod → Int
 | _, [] => 0
 | i, n :: r => if nodeErr l i n ≠ 0 then nodeErr l i n else nodesErr l (i + 1) r
theorem nodes_cons (l : List Nod) (i : Nat) (n : Nod) (r : List Nod) : nodesErr l i (n :: r) = if nodeErr l i n ≠ 0 then nodeErr l i n else nodesErr l (i + 1) r := rfl
def hasKind (l : List Nod) (k : Int) : Bool := l.any fun n => n.kind == k
def endsErr (l : List Nod) : Int := if hasKind l 1 = true ∧ hasKind l 10 = true then 0 else 6
def jobErr (l : List Nod) : Int := if 12 < l.length then 4 else if nodesErr l 0 l ≠ 0 then nodesErr l 0 l else endsErr l
def ofKind (l : List Nod) (k : Int) : List Int := (l.zipIdx.filter fun p => p.1.kind == k).map fun p => (p.2 : Int)
def usesOf (l : List Nod) (f : Int) : List Int := (l.zipIdx.filter fun p => p.1.from_.contains f).map fun p => (p.2 : Int)
def usesAll (l : List Nod) : List (List Int) := (List.range l.length).map fun (f : Nat) => usesOf l (f : Int)
theorem hasKind_app (l r : List Nod) (k : Int) : hasKind (l ++ r) k = (hasKind l k || hasKind r k) := by simp [hasKind]
theorem job_parts {l : List Nod} (h : jobErr l = 0) : l.length ≤ 12 ∧ nodesErr l 0 l = 0 ∧ hasKind l 1 = true ∧ hasKind l 10 = true := by
 unfold jobErr at h
 split at h
 ·cases h
 ·split at h
  ·rename_i h1; exact absurd h h1
  ·rename_i h0 h1
   unfold endsErr at h
   split at h
   ·rename_i h2; exact ⟨by omega, by simpa using h1, h2.1, h2.2⟩
   ·cases h
end Go.Proofs.YtfndhfekbbbliaaGreatDoor

/-
  Jobs, plain: who uses whom, input by input. No condition: plain definitions and lemmas.
-/
namespace Go.Proofs.YtfndhfekbbbliaaGreatDoor
open Go.RowKit
set_option linter.unusedVariables false
def upk (rows : List (List Int)) (i : Nat) (fs : List Int) : Nat → List (List Int)
 | 0 => rows
 | k + 1 => match fs[k]? with
  | none => upk rows i fs k
  | some f => if (fs.take k).contains f = true then upk rows i fs k else (upk rows i fs k).modify f.toNat (· ++ [(i : Int)])
def upn (l : List Nod) : Nat → List (List Int)
 | 0 => List.replicate l.length []
 | i + 1 => match l[i]? with
  | none => upn l i
  | some n => upk (upn l i) i n.from_ n.from_.length
theorem upk_length (rows : List (List Int)) (i : Nat) (fs : List Int) (k : Nat) : (upk rows i fs k).length = rows.length := by
 induction k with
 | zero => rfl
 | succ k ih =>
  unfold upk
  split
  ·exact ih
  ·split
   ·exact ih
   ·rw [List.length_modify]; exact ih
theorem upn_length (l : List Nod) (i : Nat) : (upn l i).length = l.length := by
 induction i with
 | zero => simp [upn]
 | succ i ih =>
  unfold upn
  split
  ·exact ih
  ·rw [upk_length]; exact ih
theorem upk_get (rows : List (List Int)) (i : Nat) (fs : List Int) (hfs : ∀ f ∈ fs, 0 ≤ f) (k : Nat) (hk : k ≤ fs.length) (j : Nat) : (upk rows i fs k)[j]? = (rows[j]?).map fun r => r ++ if (fs.take k).contains (j : Int) = true then [(i : Int)] else [] := by
 induction k with
 | zero => simp [upk]
 | succ k ih =>
  have hlt : k < fs.length := by omega
  have ih := ih (by omega)
  unfold upk
  rw [List.getElem?_eq_getElem hlt]
  have ht : fs.take (k + 1) = fs.take k ++ [fs[k]] := List.take_succ_eq_append_getElem hlt
  have hct : ∀ x : Int, (fs.take (k + 1)).contains x = ((fs.take k).contains x || x == fs[k]) := fun x => by
   rw [Bool.eq_iff_iff, Bool.or_eq_true, beq_iff_eq, List.contains_iff_mem, List.contains_iff_mem, ht, List.mem_append, List.mem_singleton]
  have h0 := hfs fs[k] (List.getElem_mem hlt)
  simp only
  by_cases hc : (fs.take k).contains fs[k] = true
  ·rw [if_pos hc, ih]
   congr 1
   funext r
   rw [hct]
   by_cases hj : (j : Int) = fs[k]
   ·rw [hj, hc]; rfl
   ·rw [show ((j : Int) == fs[k]) = false from by simp [hj], Bool.or_false]
  ·rw [if_neg hc, List.getElem?_modify, ih]
   cases rows[j]? with
   | none => rfl
   | some r =>
    show some ((fun a => if fs[k].toNat = j then a ++ [(i : Int)] else a) _) = some _
    rw [hct]
    simp only []
    by_cases hj : (j : Int) = fs[k]
    ·have hj2 : fs[k].toNat = j := by omega
     have hcf : (fs.take k).contains fs[k] = false := by simpa using hc
     rw [hj, hcf, if_pos hj2]
     simp
    ·have hj2 : ¬ fs[k].toNat = j := by omega
     rw [show ((j : Int) == fs[k]) = false from by simp [hj], Bool.or_false, if_neg hj2]
theorem uses_take (l : List Nod) (f : Int) {i : Nat} (hi : i < l.length) : usesOf (l.take (i + 1)) f = usesOf (l.take i) f ++ if l[i].from_.contains f = true then [(i : Int)] else [] := by
 rw [List.take_succ_eq_append_getElem hi]
 unfold usesOf
 rw [List.zipIdx_append, List.filter_append, List.map_append]
 congr 1
 have e : 0 + (List.take i l).length = i := by rw [List.length_take]; omega
 by_cases h : l[i].from_.contains f = true
 ·rw [if_pos h]
  simp only [List.zipIdx_cons, List.zipIdx_nil, List.filter_cons, h, if_true, List.filter_nil, List.map_cons, List.map_nil, e]
 ·rw [if_neg h]
  simp only [List.zipIdx_cons, List.zipIdx_nil, List.filter_cons, h, List.filter_nil]
  rfl
theorem upn_get (l : List Nod) (hf : ∀ n ∈ l, ∀ f ∈ n.from_, 0 ≤ f) (i : Nat) (hi : i ≤ l.length) (j : Nat) (hj : j < l.length) : (upn l i)[j]? = some (usesOf (l.take i) (j : Int)) := by
 induction i with
 | zero => simp [upn, usesOf, hj]
 | succ i ih =>
  have hlt : i < l.length := by omega
  unfold upn
  rw [List.getElem?_eq_getElem hlt]
  simp only
  rw [upk_get _ _ _ (hf _ (List.getElem_mem hlt)) _ (Nat.le_refl _), ih (by omega), uses_take l _ hlt, List.take_length]
  rfl
theorem upn_all (l : List Nod) (hf : ∀ n ∈ l, ∀ f ∈ n.from_, 0 ≤ f) : upn l l.length = usesAll l := by
 apply List.ext_getElem?
 intro j
 rcases Nat.lt_or_ge j l.length with hj | hj
 ·rw [upn_get l hf _ (Nat.le_refl _) j hj, List.take_length]
  unfold usesAll
  rw [List.getElem?_map, List.getElem?_range hj]; rfl
 ·rw [List.getElem?_eq_none (by rw [upn_length]; exact hj), List.getElem?_eq_none (by unfold usesAll; simp; exact hj)]
theorem from_zero {l : List Nod} {i : Nat} {fs : List Int} (h : fromErr l i fs = 0) : ∀ f ∈ fs, 0 ≤ f ∧ f < i := by
 induction fs with
 | nil => nofun
 | cons f fs ih =>
  unfold fromErr at h
  split at h
  ·cases h
  ·rename_i h1
   split at h
   ·cases h
   ·intro g hg
    rcases List.mem_cons.1 hg with rfl | hg
    ·omega
    ·exact ih h g hg
theorem node_zero {l : List Nod} {i : Nat} {n : Nod} (h : nodeErr l i n = 0) : ∀ f ∈ n.from_, 0 ≤ f ∧ f < i := by
 unfold nodeErr at h
 split at h
 ·cases h
 ·split at h
  ·cases h
  ·split at h
   ·rename_i h1; exact absurd h h1
   ·rename_i h1
    exact from_zero (by simpa using h1)
theorem nodes_zero {l : List Nod} : ∀ (s : List Nod) (i : Nat), nodesErr l i s = 0 → ∀ j (hj : j < s.length), nodeErr l (i + j) s[j] = 0 := by
 intro s
 induction s with
 | nil => intro i _ j hj; cases hj
 | cons n s ih =>
  intro i h j hj
  rw [nodes_cons] at h
  split at h
  ·rename_i h1; exact absurd h h1
  ·rename_i h1
   cases j with
   | zero => simpa using h1
   | succ j =>
    have := ih (i + 1) h j (by simpa using hj)
    rw [show i + (j + 1) = i + 1 + j from by omega]
    exact this
theorem job_from {l : List Nod} (h : jobErr l = 0) {i : Nat} (hi : i < l.length) : ∀ f ∈ l[i].from_, 0 ≤ f ∧ f < i := by
 have h1 := nodes_zero l 0 (job_parts h).2.1 i hi
 rw [Nat.zero_add] at h1
 exact node_zero h1
theorem job_from_pos {l : List Nod} (h : jobErr l = 0) : ∀ n ∈ l, ∀ f ∈ n.from_, 0 ≤ f := fun n hn f hf => by
 obtain ⟨i, hi, rfl⟩ := List.mem_iff_getElem.1 hn
 exact (job_from h hi f hf).1
theorem upk_mem {rows : List (List Int)} {i : Nat} {fs : List Int} {N : Nat} (hi : i < N) (hr : ∀ r ∈ rows, ∀ x ∈ r, 0 ≤ x ∧ x < N) (k : Nat) : ∀ r ∈ upk rows i fs k, ∀ x ∈ r, 0 ≤ x ∧ x < N := by
 induction k with
 | zero => exact hr
 | succ k ih =>
  unfold upk
  split
  ·exact ih
  ·split
   ·exact ih
   ·intro r hrm x hx
    obtain ⟨j, hj⟩ := List.getElem?_of_mem hrm
    rw [List.getElem?_modify] at hj
    cases hs : (upk rows i fs k)[j]? with
    | none => rw [hs] at hj; simp at hj
    | some r0 =>
     rw [hs] at hj
     simp at hj
     have h0 := ih r0 (List.mem_of_getElem? hs)
     split at hj
     ·subst hj
      rcases List.mem_append.1 hx with hx | hx
      ·exact h0 x hx
      ·simp at hx; omega
     ·subst hj; exact h0 x hx
theorem upk_rowlen {rows : List (List Int)} {i : Nat} {fs : List Int} {m : Nat} (hr : ∀ r ∈ rows, r.length ≤ m) (hfs : ∀ f ∈ fs, 0 ≤ f) (k : Nat) (hk : k ≤ fs.length) : ∀ r ∈ upk rows i fs k, r.length ≤ m + 1 := by
 intro r hrm
 obtain ⟨j, hj⟩ := List.getElem?_of_mem hrm
 rw [upk_get rows i fs hfs k hk] at hj
 cases hs : rows[j]? with
 | none => rw [hs] at hj; cases hj
 | some r0 =>
  rw [hs] at hj
  simp only [Option.map_some, Option.some.injEq] at hj
  subst hj
  have := hr r0 (List.mem_of_getElem? hs)
  split <;> simp <;> omega
theorem upn_mem {l : List Nod} {i : Nat} (hi : i ≤ l.length) : ∀ r ∈ upn l i, ∀ x ∈ r, 0 ≤ x ∧ x < l.length := by
 induction i with
 | zero => intro r hr x hx; simp [upn] at hr; rw [hr.2] at hx; cases hx
 | succ i ih =>
  unfold upn
  split
  ·exact ih (by omega)
  ·exact upk_mem (N := l.length) (by omega) (ih (by omega)) _
theorem upn_rowlen {l : List Nod} (hf : ∀ n ∈ l, ∀ f ∈ n.from_, 0 ≤ f) {i : Nat} (hi : i ≤ l.length) : ∀ r ∈ upn l i, r.length ≤ i := by
 induction i with
 | zero => intro r hr; simp [upn] at hr; rw [hr.2]; simp
 | succ i ih =>
  have hlt : i < l.length := by omega
  unfold upn
  rw [List.getElem?_eq_getElem hlt]
  exact upk_rowlen (ih (by omega)) (hf _ (List.getElem_mem hlt)) _ (Nat.le_refl _)
end Go.Proofs.YtfndhfekbbbliaaGreatDoor

/-
  What comes of a job, plain: what a node does with a record, how records flow, what Sinks hold. No condition: plain definitions and lemmas.
-/
namespace Go.Proofs.YtfndhfekbbbliaaGreatDoor
open Go.RowKit
set_option linter.unusedVariables false
def pget {α : Type} (m : List (ByteArray × α)) (k : ByteArray) : Option α := (m.find? fun p => decide (p.1 = k)).map (·.2)
def pset {α : Type} : List (ByteArray × α) → ByteArray → α → List (ByteArray × α)
 | [], k, v => [(k, v)]
 | p :: r, k, v => if p.1 = k then (k, v) :: r else p :: pset r k v
def pkeys {α : Type} (m : List (ByteArray × α)) : List ByteArray := m.map (·.1)
theorem split_pkey {α : Type} : ∀ {m : List (ByteArray × α)} {k : ByteArray}, k ∈ pkeys m → ∃ a v b, m = a ++ (k, v) :: b ∧ k ∉ pkeys a
 | [], k, h => by simp [pkeys] at h
 | p :: r, k, h => by
  by_cases e : p.1 = k
  ·exact ⟨[], p.2, r, by rw [← e]; rfl, by simp [pkeys]⟩
  ·have h2 : k ∈ pkeys r := by
    simp only [pkeys, List.map_cons, List.mem_cons] at h
    rcases h with h | h
    ·exact absurd h.symm e
    ·exact h
   obtain ⟨a, v, b, h3, h4⟩ := split_pkey h2
   refine ⟨p :: a, v, b, by rw [h3]; rfl, ?_⟩
   simp only [pkeys, List.map_cons, List.mem_cons, not_or]
   exact ⟨fun e' => e e'.symm, h4⟩
theorem pget_split {α : Type} {a : List (ByteArray × α)} {k : ByteArray} {v : α} {b : List (ByteArray × α)} (h : k ∉ pkeys a) : pget (a ++ (k, v) :: b) k = some v := by
 unfold pget
 rw [List.find?_append]
 have h1 : (a.find? fun p => decide (p.1 = k)) = none := List.find?_eq_none.2 fun p hp hk => h (List.mem_map.2 ⟨p, hp, of_decide_eq_true hk⟩)
 rw [h1]
 simp
theorem pget_none {α : Type} {m : List (ByteArray × α)} {k : ByteArray} (h : k ∉ pkeys m) : pget m k = none := by
 unfold pget
 rw [List.find?_eq_none.2 fun p hp hk => h (List.mem_map.2 ⟨p, hp, of_decide_eq_true hk⟩)]
 rfl
theorem pset_split {α : Type} : ∀ {a : List (ByteArray × α)} {k : ByteArray} {v u : α} {b : List (ByteArray × α)}, k ∉ pkeys a → pset (a ++ (k, v) :: b) k u = a ++ (k, u) :: b
 | [], k, v, u, b, _ => by simp [pset]
 | p :: a, k, v, u, b, h => by
  simp only [pkeys, List.map_cons, List.mem_cons, not_or] at h
  simp only [List.cons_append, pset]
  rw [if_neg (fun e => h.1 e.symm), pset_split h.2]
theorem pset_none {α : Type} : ∀ {a : List (ByteArray × α)} {k : ByteArray} {u : α}, k ∉ pkeys a → pset a k u = a ++ [(k, u)]
 | [], k, u, _ => rfl
 | p :: a, k, u, h => by
  simp only [pkeys, List.map_cons, List.mem_cons, not_or] at h
  simp only [List.cons_append, pset]
  rw [if_neg (fun e => h.1 e.symm), pset_none h.2]
def evalOf (s : ByteArray) (n st : Int) : Int := match parseT s.data.toList with
 | .tree t => t.val n st
 | .fault _ _ => 0
def zeroH : Hld := ⟨0, ⟨#[]⟩, 0, 0⟩
def passR (r : Rec) : List Rec := if 40 < r.key.size then [] else [r]
def subKey (k : ByteArray) (n : Int) : ByteArray := k ++ (⟨#[47]⟩ ++ ⟨(Lib.itoa n).toArray⟩)
def uniKey (n : Int) (k : ByteArray) : ByteArray := ⟨(Lib.itoa n).toArray⟩ ++ ⟨#[58]⟩ ++ k
structure Did where
 out : List Rec
 held : Hld
 has : Bool
def begins (h : Hld) (has : Bool) (r : Rec) : Hld := if has then ⟨0, r.key, h.a, h.b⟩ else ⟨0, r.key, 0, 0⟩
def ends_ (out : List Rec) (h : Hld) (has : Bool) : Did := ⟨out, if has then h else zeroH, has⟩
def applyN (n : Nod) (h : Hld) (has : Bool) (r : Rec) (input : Int) : Did :=
 let s := begins h has r
 if n.kind = 2 then ends_ (passR { r with num := evalOf n.text r.num 0 }) s has
 else if n.kind = 3 then ends_ (if evalOf n.text r.num 0 = 0 then [] else passR r) s has
 else if n.kind = 4 then ends_ (passR { r with key := subKey r.key (evalOf n.text r.num 0) }) s has
 else if n.kind = 5 then ends_ ((List.replicate (min 3 n.n).toNat (passR r)).flatten) s has
 else if n.kind = 6 then ends_ (passR { r with key := uniKey input r.key }) s has
 else if n.kind = 7 then ends_ (passR { r with num := evalOf n.text r.num s.a }) { s with a := evalOf n.text r.num s.a } true
 else if n.kind = 8 then
  (if n.n ≤ wrap64 (s.a + 1) then ends_ (passR { r with num := wrap64 (s.b + r.num) }) { s with a := 0, b := 0 } true
  else ends_ [] { s with a := wrap64 (s.a + 1), b := wrap64 (s.b + r.num) } true)
 else if n.kind = 9 then ends_ (if has then [] else passR r) { s with a := 1 } true
 else ends_ (passR r) s has
structure Flw where
 st : List (List (ByteArray × Hld))
 gv : List Int
 ln : List (List (ByteArray × List Int))
def targets (J : List Nod) (U : List (List Int)) (i : Nat) : List (Nat × Nat) :=
 (U[i]?.getD []).flatMap fun u => (((J[u.toNat]?.map (·.from_)).getD []).zipIdx.filter fun p => p.1 == (i : Int)).map fun p => (u.toNat, p.2)
def addLine (m : List (ByteArray × List Int)) (r : Rec) : List (ByteArray × List Int) := pset m r.key ((pget m r.key).getD [] ++ [r.num])
def getF (J : List Nod) (H : Nat → Rec → Flw → Option Flw) (u : Nat) (r : Rec) (input : Nat) (f : Flw) : Option Flw :=
 match J[u]? with
 | none => none
 | some n =>
  if n.kind = 10 then some { f with ln := f.ln.modify u fun m => addLine m r }
  else
   let old := pget (f.st[u]?.getD []) r.key
   let d := applyN n (old.getD zeroH) old.isSome r input
   d.out.foldlM (fun f x => H u x f) (if d.has then { f with st := f.st.modify u fun m => pset m r.key d.held } else f)
def handF (J : List Nod) (U : List (List Int)) : Nat → Nat → Rec → Flw → Option Flw
 | 0, _, _, _ => none
 | k + 1, i, r, f =>
  let f1 := { f with gv := f.gv.set i ((f.gv[i]?.getD 0) + 1) }
  if 2000 < (f.gv[i]?.getD 0) + 1 then none else (targets J U i).foldlM (fun f p => getF J (handF J U k) p.1 r p.2 f) f1
def flow0 (n : Nat) : Flw := ⟨List.replicate n [], List.replicate n 0, List.replicate n []⟩
def feedF (J : List Nod) (s : Int) (d : List Rec) (f : Flw) : Option Flw := d.foldlM (fun f r => handF J (usesAll J) J.length s.toNat r f) f
def flowAll (J : List Nod) (data : List (List Rec)) : Option Flw := ((ofKind J 1).zip data).foldlM (fun f p => feedF J p.1 p.2 f) (flow0 J.length)
def recErr (r : Rec) : Bool := decide (40 < r.key.size) || decide (r.time < 0) || decide (1000000 < r.time)
def dataErr : List (List Rec) → Int
 | [] => 0
 | d :: r => if 300 < d.length then 4 else if d.any recErr = true then 1 else dataErr r
def denErr (J : List Nod) (data : List (List Rec)) : Int :=
 if jobErr J ≠ 0 then jobErr J else if data.length ≠ (ofKind J 1).length then 3 else dataErr data
def kLess (a b : ByteArray) : Prop := a.data.toList < b.data.toList
def LinesOf (m : List (ByteArray × List Int)) (out : List Lin) : Prop := out.Perm (m.map fun p => ⟨p.1, p.2⟩) ∧ out.Pairwise fun a b => kLess a.key b.key
def AllOf (J : List Nod) (f : Flw) (out : List (List Lin)) : Prop := out.length = (ofKind J 10).length ∧ ∀ (i : Nat) (s : Int) (o : List Lin), (ofKind J 10)[i]? = some s → out[i]? = some o → LinesOf (f.ln[s.toNat]?.getD []) o
end Go.Proofs.YtfndhfekbbbliaaGreatDoor

/-
  The flow of a job, plain: it fails only where a node hands on more than 2000 records; and what each node gets and hands on, from its beginning. No condition: plain definitions and lemmas.
-/
namespace Go.Proofs.YtfndhfekbbbliaaGreatDoor
open Go.RowKit
set_option linter.unusedVariables false
def getT (J : List Nod) (H : Nat → Rec → Flw → Flw) (u : Nat) (r : Rec) (input : Nat) (f : Flw) : Flw :=
 match J[u]? with
 | none => f
 | some n =>
  if n.kind = 10 then { f with ln := f.ln.modify u fun m => addLine m r }
  else
   let d := applyN n ((pget (f.st[u]?.getD []) r.key).getD zeroH) (pget (f.st[u]?.getD []) r.key).isSome r input
   d.out.foldl (fun f x => H u x f) (if d.has then { f with st := f.st.modify u fun m => pset m r.key d.held } else f)
def bump (i : Nat) (f : Flw) : Flw := { f with gv := f.gv.set i ((f.gv[i]?.getD 0) + 1) }
def handT (J : List Nod) (U : List (List Int)) : Nat → Nat → Rec → Flw → Flw
 | 0, _, _, f => f
 | k + 1, i, r, f => (targets J U i).foldl (fun f p => getT J (handT J U k) p.1 r p.2 f) (bump i f)
def Okf (n : Nat) (f : Flw) : Prop := f.gv.length = n ∧ ∀ c ∈ f.gv, c ≤ 2000
instance (n : Nat) (f : Flw) : Decidable (Okf n f) := inferInstanceAs (Decidable (f.gv.length = n ∧ ∀ c ∈ f.gv, c ≤ 2000))
def cutF (n : Nat) (f : Flw) : Option Flw := if Okf n f then some f else none
def Upf (f f' : Flw) : Prop := f'.gv.length = f.gv.length ∧ ∀ (i : Nat) (c : Int), f.gv[i]? = some c → ∃ c', f'.gv[i]? = some c' ∧ c ≤ c'
theorem Upf.refl (f : Flw) : Upf f f := ⟨rfl, fun i c h => ⟨c, h, Int.le_refl _⟩⟩
theorem Upf.trans {a b c : Flw} (h : Upf a b) (h' : Upf b c) : Upf a c := ⟨h'.1.trans h.1, fun i x hx => by
 obtain ⟨y, hy, hl⟩ := h.2 i x hx
 obtain ⟨z, hz, hl'⟩ := h'.2 i y hy
 exact ⟨z, hz, Int.le_trans hl hl'⟩⟩
theorem Upf.same {a b : Flw} (h : b.gv = a.gv) : Upf a b := ⟨by rw [h], fun i c hc => ⟨c, by rw [h]; exact hc, Int.le_refl _⟩⟩
theorem Upf.bump (i : Nat) (f : Flw) : Upf f (bump i f) := by
 refine ⟨by simp [Go.Proofs.YtfndhfekbbbliaaGreatDoor.bump], fun j c hc => ?_⟩
 show ∃ c', (f.gv.set i ((f.gv[i]?.getD 0) + 1))[j]? = some c' ∧ _
 rw [List.getElem?_set]
 by_cases h : i = j
 ·subst h
  have hl : i < f.gv.length := by
   rcases Nat.lt_or_ge i f.gv.length with h | h
   ·exact h
   ·rw [List.getElem?_eq_none h] at hc; cases hc
  rw [if_pos rfl, if_pos hl, hc]
  exact ⟨c + 1, rfl, by omega⟩
 ·rw [if_neg h]; exact ⟨c, hc, Int.le_refl _⟩
theorem Upf.fold {α : Type} {t : α → Flw → Flw} (h : ∀ a f, Upf f (t a f)) (l : List α) : ∀ f, Upf f (l.foldl (fun f a => t a f) f) := by
 induction l with
 | nil => exact fun f => Upf.refl f
 | cons a l ih => exact fun f => (h a f).trans (ih _)
theorem Upf.get {J : List Nod} {H : Nat → Rec → Flw → Flw} (hH : ∀ u x f, Upf f (H u x f)) (u : Nat) (r : Rec) (input : Nat) (f : Flw) : Upf f (getT J H u r input f) := by
 unfold getT
 split
 ·exact Upf.refl f
 ·split
  ·exact Upf.same rfl
  ·refine Upf.trans ?_ (Upf.fold (t := fun x f => H u x f) (fun x f => hH u x f) _ _)
   split
   ·exact Upf.same rfl
   ·exact Upf.refl f
theorem Upf.hand (J : List Nod) (U : List (List Int)) : ∀ k i r f, Upf f (handT J U k i r f) := by
 intro k
 induction k with
 | zero => exact fun i r f => Upf.refl f
 | succ k ih =>
  intro i r f
  exact (Upf.bump i f).trans (Upf.fold (t := fun (p : Nat × Nat) f => getT J (handT J U k) p.1 r p.2 f) (fun p f => Upf.get ih p.1 r p.2 f) _ _)
theorem Upf.ok {n : Nat} {f f' : Flw} (h : Upf f f') (ho : Okf n f') : Okf n f := by
 refine ⟨h.1 ▸ ho.1, fun c hc => ?_⟩
 obtain ⟨i, hi⟩ := List.getElem?_of_mem hc
 obtain ⟨c', h1, h2⟩ := h.2 i c hi
 exact Int.le_trans h2 (ho.2 c' (List.mem_of_getElem? h1))
theorem cutF_no {n : Nat} {f f' : Flw} (h : Upf f f') (ho : ¬ Okf n f) : cutF n f' = none := if_neg fun h' => ho (h.ok h')
theorem fold_cut {α : Type} {n : Nat} {g : α → Flw → Option Flw} {t : α → Flw → Flw} (hu : ∀ a f, Upf f (t a f)) (l : List α) (hg : ∀ a ∈ l, ∀ f, Okf n f → g a f = cutF n (t a f)) :
  ∀ f, Okf n f → l.foldlM (fun f a => g a f) f = cutF n (l.foldl (fun f a => t a f) f) := by
 induction l with
 | nil => intro f h; exact (if_pos h).symm
 | cons a l ih =>
  intro f h
  rw [List.foldlM_cons, hg a List.mem_cons_self f h, List.foldl_cons]
  by_cases h1 : Okf n (t a f)
  ·rw [show cutF n (t a f) = some (t a f) from if_pos h1]
   exact ih (fun b hb => hg b (List.mem_cons_of_mem _ hb)) _ h1
  ·rw [show cutF n (t a f) = none from if_neg h1]
   exact (cutF_no (Upf.fold hu l _) h1).symm
def InFrom (J : List Nod) (u x j : Nat) : Prop := ∃ n, J[u]? = some n ∧ n.from_[x]? = some (j : Int)
theorem InFrom.lt {J : List Nod} (hJ : jobErr J = 0) {u x j : Nat} (h : InFrom J u x j) : j < u ∧ u < J.length := by
 obtain ⟨n, hn, hx⟩ := h
 obtain ⟨hu, e⟩ := List.getElem?_eq_some_iff.1 hn
 have := (job_from hJ hu j (by rw [e]; exact List.mem_of_getElem? hx)).2
 omega
theorem uses_mem {J : List Nod} {f : Int} {y : Int} (h : y ∈ usesOf J f) : ∃ (u : Nat) (n : Nod), y = (u : Int) ∧ J[u]? = some n ∧ n.from_.contains f = true := by
 unfold usesOf at h
 obtain ⟨⟨n, u⟩, hp, rfl⟩ := List.mem_map.1 h
 obtain ⟨h1, h2⟩ := List.mem_filter.1 hp
 exact ⟨u, n, rfl, by have := List.mem_zipIdx_iff_getElem?.1 h1; simpa using this, h2⟩
theorem mem_uses {J : List Nod} {f : Int} {u : Nat} {n : Nod} (h : J[u]? = some n) (hc : n.from_.contains f = true) : (u : Int) ∈ usesOf J f := by
 unfold usesOf
 exact List.mem_map.2 ⟨(n, u), List.mem_filter.2 ⟨List.mem_zipIdx_iff_getElem?.2 (by simpa using h), hc⟩, rfl⟩
theorem uses_nodup (J : List Nod) (f : Int) : (usesOf J f).Nodup := by
 unfold usesOf
 have h : J.zipIdx.Pairwise fun a b => a.2 < b.2 := by
  have h1 : (J.zipIdx.map (·.2)).Pairwise (· < ·) := by
   rw [List.zipIdx_map_snd]
   exact List.pairwise_lt_range'
  exact List.pairwise_map.1 h1
 have h2 := h.sublist (List.filter_sublist (p := fun p => p.1.from_.contains f))
 exact List.pairwise_map.2 (h2.imp fun {a b} hab => by omega)
theorem targets_mem {J : List Nod} {i : Nat} (hi : i < J.length) {u x : Nat} : (u, x) ∈ targets J (usesAll J) i ↔ InFrom J u x i := by
 unfold targets usesAll
 rw [List.getElem?_map, List.getElem?_range hi]
 simp only [Option.map_some, Option.getD_some, List.mem_flatMap, List.mem_map, List.mem_filter]
 constructor
 ·rintro ⟨y, hy, ⟨z, k⟩, ⟨h1, h2⟩, h3⟩
  obtain ⟨v, n, rfl, hv, hc⟩ := uses_mem hy
  injection h3 with h3 h4
  simp at h3 h4
  subst h3; subst h4
  rw [Int.toNat_natCast, hv] at h1
  refine ⟨n, hv, ?_⟩
  have := List.mem_zipIdx_iff_getElem?.1 h1
  simp at this h2
  rw [this, h2]
 ·rintro ⟨n, hn, hx⟩
  refine ⟨(u : Int), mem_uses hn (by rw [List.contains_iff_mem]; exact List.mem_of_getElem? hx), ((i : Int), x), ⟨?_, by simp⟩, by simp⟩
  rw [Int.toNat_natCast, hn]
  exact List.mem_zipIdx_iff_getElem?.2 (by simpa using hx)
theorem targets_nodup (J : List Nod) {i : Nat} (hi : i < J.length) : (targets J (usesAll J) i).Nodup := by
 unfold targets usesAll
 rw [List.getElem?_map, List.getElem?_range hi]
 simp only [Option.map_some, Option.getD_some]
 unfold List.Nodup
 rw [List.pairwise_flatMap]
 constructor
 ·intro y hy
  refine List.pairwise_map.2 ?_
  have h : ((((J[y.toNat]?.map (·.from_)).getD []).zipIdx)).Pairwise fun a b => a.2 < b.2 := by
   have h1 : (((((J[y.toNat]?.map (·.from_)).getD []).zipIdx)).map (·.2)).Pairwise (· < ·) := by
    rw [List.zipIdx_map_snd]
    exact List.pairwise_lt_range'
   exact List.pairwise_map.1 h1
  exact (h.sublist List.filter_sublist).imp fun {a b} hab e => by
   injection e with _ e; omega
 ·refine (List.Pairwise.and_mem.1 (uses_nodup J i)).imp fun {a b} hab => ?_
  obtain ⟨ha, hb, hne⟩ := hab
  obtain ⟨u, n, rfl, _⟩ := uses_mem ha
  obtain ⟨v, m, rfl, _⟩ := uses_mem hb
  intro p hp q hq e
  obtain ⟨p', _, rfl⟩ := List.mem_map.1 hp
  obtain ⟨q', _, rfl⟩ := List.mem_map.1 hq
  injection e with e _
  simp at e
  exact hne (by rw [e])
theorem get_cut {J : List Nod} {n : Nat} {H : Nat → Rec → Flw → Option Flw} {HT : Nat → Rec → Flw → Flw} (u : Nat) (r : Rec) (input : Nat) (hu : u < J.length) (hH : ∀ x f, Okf n f → H u x f = cutF n (HT u x f)) (hU : ∀ i x f, Upf f (HT i x f)) (f : Flw) (hf : Okf n f) :
  getF J H u r input f = cutF n (getT J HT u r input f) := by
 unfold getF getT
 rw [List.getElem?_eq_getElem hu]
 simp only
 split
 ·exact (if_pos (show Okf n _ from hf)).symm
 ·refine fold_cut (t := fun x f => HT u x f) (g := fun x f => H u x f) (fun x f => hU u x f) _ (fun x _ f hf => hH x f hf) _ ?_
  split
  ·exact hf
  ·exact hf
theorem hand_cut {J : List Nod} (hJ : jobErr J = 0) : ∀ k i r f, J.length ≤ i + k → i < J.length → Okf J.length f → handF J (usesAll J) k i r f = cutF J.length (handT J (usesAll J) k i r f) := by
 intro k
 induction k with
 | zero => intro i r f h1 h2; omega
 | succ k ih =>
  intro i r f h1 h2 hf
  have hup : Upf (bump i f) (handT J (usesAll J) (k + 1) i r f) := Upf.fold (t := fun (p : Nat × Nat) f => getT J (handT J (usesAll J) k) p.1 r p.2 f) (fun p f => Upf.get (Upf.hand J _ k) p.1 r p.2 f) _ _
  have hil : i < f.gv.length := by rw [hf.1]; exact h2
  have hget : f.gv[i]? = some f.gv[i] := List.getElem?_eq_getElem hil
  unfold handF
  simp only
  by_cases hb : 2000 < (f.gv[i]?.getD 0) + 1
  ·rw [if_pos hb]
   refine (cutF_no hup fun ho => ?_).symm
   have := ho.2 ((f.gv[i]?.getD 0) + 1) (List.mem_of_getElem? (i := i) (by show (f.gv.set i _)[i]? = _; rw [List.getElem?_set_self hil]))
   omega
  ·rw [if_neg hb]
   have hbo : Okf J.length (bump i f) := by
    refine ⟨by show (f.gv.set i _).length = _; rw [List.length_set]; exact hf.1, fun c hc => ?_⟩
    rcases List.mem_or_eq_of_mem_set (show c ∈ f.gv.set i _ from hc) with h | h
    ·exact hf.2 c h
    ·omega
   refine fold_cut (t := fun (p : Nat × Nat) f => getT J (handT J (usesAll J) k) p.1 r p.2 f) (g := fun (p : Nat × Nat) f => getF J (handF J (usesAll J) k) p.1 r p.2 f) (fun p f => Upf.get (Upf.hand J _ k) p.1 r p.2 f) _ ?_ _ hbo
   rintro ⟨u, x⟩ hp g hg
   have hlt := ((targets_mem h2).1 hp).lt hJ
   exact get_cut u r x hlt.2 (fun x f hf => ih u x f (by omega) hlt.2 hf) (Upf.hand J _ k) g hg
def feedT (J : List Nod) (s : Int) (d : List Rec) (f : Flw) : Flw := d.foldl (fun f r => handT J (usesAll J) J.length s.toNat r f) f
def flowT (J : List Nod) (data : List (List Rec)) : Flw := ((ofKind J 1).zip data).foldl (fun f p => feedT J p.1 p.2 f) (flow0 J.length)
theorem kind_mem {J : List Nod} {k y : Int} (h : y ∈ ofKind J k) : ∃ (u : Nat) (n : Nod), y = (u : Int) ∧ J[u]? = some n ∧ n.kind = k := by
 unfold ofKind at h
 obtain ⟨⟨n, u⟩, hp, rfl⟩ := List.mem_map.1 h
 obtain ⟨h1, h2⟩ := List.mem_filter.1 hp
 exact ⟨u, n, rfl, by have := List.mem_zipIdx_iff_getElem?.1 h1; simpa using this, by simpa using h2⟩
theorem flow_cut {J : List Nod} (hJ : jobErr J = 0) (data : List (List Rec)) : flowAll J data = cutF J.length (flowT J data) := by
 unfold flowAll flowT
 refine fold_cut (t := fun (p : Int × List Rec) f => feedT J p.1 p.2 f) (g := fun (p : Int × List Rec) f => feedF J p.1 p.2 f) (fun p f => ?_) _ ?_ _ ?_
 ·exact Upf.fold (t := fun r f => handT J (usesAll J) J.length p.1.toNat r f) (fun r f => Upf.hand J _ _ _ r f) _ _
 ·rintro ⟨s, d⟩ hp f hf
  obtain ⟨u, n, rfl, hu, _⟩ := kind_mem (List.of_mem_zip hp).1
  have hlt : u < J.length := by
   rcases Nat.lt_or_ge u J.length with h | h
   ·exact h
   ·rw [List.getElem?_eq_none h] at hu; cases hu
  exact fold_cut (t := fun r f => handT J (usesAll J) J.length (u : Int).toNat r f) (g := fun r f => handF J (usesAll J) J.length (u : Int).toNat r f) (fun r f => Upf.hand J _ _ _ r f) _ (fun r _ f hf => hand_cut hJ _ _ r f (by omega) (by rw [Int.toNat_natCast]; exact hlt) hf) f hf
 ·refine ⟨by simp [flow0], fun c hc => ?_⟩
  have := List.eq_of_mem_replicate (show c ∈ List.replicate _ _ from hc)
  omega
end Go.Proofs.YtfndhfekbbbliaaGreatDoor

/-
  The flow of a job, plain: what each node got, input by input, and what it made of it. No condition: plain definitions and lemmas.
-/
namespace Go.Proofs.YtfndhfekbbbliaaGreatDoor
open Go.RowKit
set_option linter.unusedVariables false
def stepLog (n : Nod) (s : List (ByteArray × Hld) × List Rec) (p : Nat × Rec) : List (ByteArray × Hld) × List Rec :=
 let d := applyN n ((pget s.1 p.2.key).getD zeroH) (pget s.1 p.2.key).isSome p.2 p.1
 (if d.has then pset s.1 p.2.key d.held else s.1, s.2 ++ d.out)
def runLog (n : Nod) (log : List (Nat × Rec)) : List (ByteArray × Hld) × List Rec := log.foldl (stepLog n) ([], [])
def byIn (x : Nat) (l : List (Nat × Rec)) : List Rec := (l.filter fun p => p.1 == x).map (·.2)
theorem byIn_app (x : Nat) (l : List (Nat × Rec)) (y : Nat) (r : Rec) : byIn x (l ++ [(y, r)]) = byIn x l ++ (if y = x then [r] else []) := by
 unfold byIn
 rw [List.filter_append, List.map_append]
 by_cases h : y = x
 ·simp [h]
 ·simp [h]
structure Sim where
 f : Flw
 M : Nat → List (Nat × Rec)
 H : Nat → List Rec
def Local (J : List Nod) (v : Nat) (S : Sim) : Prop := ∀ n, J[v]? = some n →
 (n.kind = 10 → S.f.ln[v]? = some (((S.M v).map (·.2)).foldl addLine []) ∧ S.H v = []) ∧
 (n.kind ≠ 10 → n.kind ≠ 1 → S.f.st[v]? = some (runLog n (S.M v)).1 ∧ S.H v = (runLog n (S.M v)).2) ∧ ∀ p ∈ S.M v, p.1 < n.from_.length
structure Sound (J : List Nod) (S : Sim) : Prop where
 st : S.f.st.length = J.length
 gv : S.f.gv.length = J.length
 ln : S.f.ln.length = J.length
 counts : ∀ v, v < J.length → S.f.gv[v]? = some ((S.H v).length : Int)
def LocFrom (J : List Nod) (i : Nat) (S : Sim) : Prop := ∀ v, i ≤ v → Local J v S
def SyncFrom (J : List Nod) (i : Nat) (S : Sim) : Prop := ∀ u x j, i ≤ j → InFrom J u x j → byIn x (S.M u) = S.H j
structure Kept (J : List Nod) (i : Nat) (S S' : Sim) : Prop where
 hist : ∀ v, v < i → S'.H v = S.H v ∧ S'.M v = S.M v ∧ S'.f.st[v]? = S.f.st[v]? ∧ S'.f.ln[v]? = S.f.ln[v]?
 edge : ∀ u x j, j < i → u ≠ i → InFrom J u x j → byIn x (S'.M u) = byIn x (S.M u)
 alone : ∀ v, v ≠ i → (∀ x j, ¬ InFrom J v x j) → S'.H v = S.H v
theorem Kept.refl (J : List Nod) (i : Nat) (S : Sim) : Kept J i S S := ⟨fun _ _ => ⟨rfl, rfl, rfl, rfl⟩, fun _ _ _ _ _ _ => rfl, fun _ _ _ => rfl⟩
theorem Kept.trans {J : List Nod} {i : Nat} {A B C : Sim} (h : Kept J i A B) (h' : Kept J i B C) : Kept J i A C :=
 ⟨fun v hv => ⟨(h'.hist v hv).1.trans (h.hist v hv).1, (h'.hist v hv).2.1.trans (h.hist v hv).2.1, (h'.hist v hv).2.2.1.trans (h.hist v hv).2.2.1, (h'.hist v hv).2.2.2.trans (h.hist v hv).2.2.2⟩,
 fun u x j hj hu hi => (h'.edge u x j hj hu hi).trans (h.edge u x j hj hu hi), fun v hv ha => (h'.alone v hv ha).trans (h.alone v hv ha)⟩
theorem Local.same {J : List Nod} {v : Nat} {S S' : Sim} (h : Local J v S) (h1 : S'.H v = S.H v) (h2 : S'.M v = S.M v) (h3 : S'.f.st[v]? = S.f.st[v]?) (h4 : S'.f.ln[v]? = S.f.ln[v]?) : Local J v S' := by
 intro n hn
 obtain ⟨a, b, c⟩ := h n hn
 rw [h1, h2, h3, h4]
 exact ⟨a, b, c⟩
def setAt {α : Type} (g : Nat → α) (i : Nat) (v : α) : Nat → α := fun j => if j = i then v else g j
theorem setAt_same {α : Type} (g : Nat → α) (i : Nat) (v : α) : setAt g i v i = v := if_pos rfl
theorem setAt_other {α : Type} (g : Nat → α) {i j : Nat} (v : α) (h : j ≠ i) : setAt g i v j = g j := if_neg h
def HandHist (J : List Nod) (k : Nat) : Prop := ∀ (i : Nat) (r : Rec) (S : Sim), J.length ≤ i + k → i < J.length → Sound J S → LocFrom J (i + 1) S → SyncFrom J i S →
 ∃ S' : Sim, S'.f = handT J (usesAll J) k i r S.f ∧ Sound J S' ∧ LocFrom J (i + 1) S' ∧ SyncFrom J i S' ∧ Kept J i S S' ∧ S'.H i = S.H i ++ [r] ∧ S'.M i = S.M i ∧ S'.f.st[i]? = S.f.st[i]? ∧ S'.f.ln[i]? = S.f.ln[i]?
def GetHist (J : List Nod) (k : Nat) : Prop := ∀ (u : Nat) (r : Rec) (x : Nat) (j : Nat) (S : Sim), J.length ≤ u + k → InFrom J u x j → Sound J S → LocFrom J u S → SyncFrom J u S →
 ∃ S' : Sim, S'.f = getT J (handT J (usesAll J) k) u r x S.f ∧ Sound J S' ∧ LocFrom J u S' ∧ SyncFrom J u S' ∧ Kept J u S S' ∧ S'.M u = S.M u ++ [(x, r)]
theorem outs_hist {J : List Nod} {k : Nat} (hh : HandHist J k) {u : Nat} (hk : J.length ≤ u + k) (hu : u < J.length) : ∀ (xs : List Rec) (S : Sim), Sound J S → LocFrom J (u + 1) S → SyncFrom J u S →
  ∃ S' : Sim, S'.f = xs.foldl (fun f x => handT J (usesAll J) k u x f) S.f ∧ Sound J S' ∧ LocFrom J (u + 1) S' ∧ SyncFrom J u S' ∧ Kept J u S S' ∧ S'.H u = S.H u ++ xs ∧ S'.M u = S.M u ∧ S'.f.st[u]? = S.f.st[u]? ∧ S'.f.ln[u]? = S.f.ln[u]? := by
 intro xs
 induction xs with
 | nil => intro S h1 h2 h3; exact ⟨S, rfl, h1, h2, h3, Kept.refl _ _ _, (List.append_nil _).symm, rfl, rfl, rfl⟩
 | cons x xs ih =>
  intro S h1 h2 h3
  obtain ⟨A, a0, a1, a2, a3, a4, a5, a6, a7, a8⟩ := hh u x S hk hu h1 h2 h3
  obtain ⟨B, b0, b1, b2, b3, b4, b5, b6, b7, b8⟩ := ih A a1 a2 a3
  exact ⟨B, by rw [b0, a0]; rfl, b1, b2, b3, a4.trans b4, by rw [b5, a5, List.append_assoc]; rfl, b6.trans a6, b7.trans a7, b8.trans a8⟩
theorem getElem?_modify_same {α : Type} {l : List α} {i : Nat} {f : α → α} {a : α} (h : l[i]? = some a) : (l.modify i f)[i]? = some (f a) := by
 rw [List.getElem?_modify, h]; simp
theorem getElem?_modify_ne {α : Type} {l : List α} {i j : Nat} {f : α → α} (h : j ≠ i) : (l.modify i f)[j]? = l[j]? := by
 rw [List.getElem?_modify]
 cases l[j]? with
 | none => rfl
 | some a => show some (if i = j then f a else a) = _; rw [if_neg (fun e => h e.symm)]
theorem get_hist {J : List Nod} (hJ : jobErr J = 0) {k : Nat} (hh : HandHist J k) : GetHist J k := by
 intro u r x j S hk hin h1 h2 h3
 obtain ⟨hju, hu⟩ := hin.lt hJ
 obtain ⟨n, hn, hx⟩ := hin
 have hxl : x < n.from_.length := (List.getElem?_eq_some_iff.1 hx).1
 obtain ⟨hu', he⟩ := List.getElem?_eq_some_iff.1 hn
 have hk1 : n.kind ≠ 1 := fun e => by
  have h0 := nodes_zero J 0 (job_parts hJ).2.1 u hu
  rw [he] at h0
  unfold nodeErr at h0
  split at h0
  ·cases h0
  ·split at h0
   ·cases h0
   ·rename_i h5
    rw [e] at h5
    simp only [inHigh, if_true] at h5
    omega
 unfold getT
 rw [hn]
 simp only
 by_cases h10 : n.kind = 10
 ·rw [if_pos h10]
  obtain ⟨hl, hHe⟩ := (h2 u (Nat.le_refl _) n hn).1 h10
  refine ⟨⟨{ S.f with ln := S.f.ln.modify u fun m => addLine m r }, setAt S.M u (S.M u ++ [(x, r)]), S.H⟩, rfl, ⟨h1.st, h1.gv, by simp [h1.ln], h1.counts⟩, ?_, ?_, ?_, setAt_same _ _ _⟩
  ·intro v hv
   by_cases e : v = u
   ·subst e
    intro m hm
    rw [hn] at hm; injection hm with hm; subst hm
    refine ⟨fun _ => ⟨?_, hHe⟩, fun h => absurd h10 h, ?_⟩
    ·show (S.f.ln.modify v _)[v]? = some (((setAt S.M v (S.M v ++ [(x, r)]) v).map (·.2)).foldl addLine [])
     rw [setAt_same, getElem?_modify_same hl, List.map_append, List.foldl_append]
     rfl
    ·show ∀ p ∈ setAt S.M v (S.M v ++ [(x, r)]) v, _
     rw [setAt_same]
     intro p hp
     rcases List.mem_append.1 hp with hp | hp
     ·exact (h2 v (Nat.le_refl _) n hn).2.2 p hp
     ·simp at hp; subst hp; exact hxl
   ·exact (h2 v hv).same rfl (setAt_other _ _ e) rfl (getElem?_modify_ne e)
  ·intro w y j' hj' hi'
   have := hi'.lt hJ
   show byIn y (setAt S.M u _ w) = _
   rw [setAt_other _ _ (by omega)]
   exact h3 w y j' hj' hi'
  ·refine ⟨fun v hv => ⟨rfl, setAt_other _ _ (by omega), rfl, getElem?_modify_ne (by omega)⟩, fun w y j' hj' hw hi' => ?_, fun _ _ _ => rfl⟩
   show byIn y (setAt S.M u _ w) = _
   rw [setAt_other _ _ hw]
 ·rw [if_neg h10]
  obtain ⟨hst, hH⟩ := (h2 u (Nat.le_refl _) n hn).2.1 h10 hk1
  have hstep : runLog n (S.M u ++ [(x, r)]) = stepLog n (runLog n (S.M u)) (x, r) := by unfold runLog; rw [List.foldl_append]; rfl
  rw [hst, Option.getD_some]
  obtain ⟨m0, hm0⟩ : ∃ m0, m0 = (runLog n (S.M u)).1 := ⟨_, rfl⟩
  rw [← hm0] at hst ⊢
  obtain ⟨d, hd⟩ : ∃ d, d = applyN n ((pget m0 r.key).getD zeroH) (pget m0 r.key).isSome r x := ⟨_, rfl⟩
  have hs1 : (runLog n (S.M u ++ [(x, r)])).1 = if d.has = true then pset m0 r.key d.held else m0 := by rw [hstep, hd, hm0]; rfl
  have hs2 : (runLog n (S.M u ++ [(x, r)])).2 = S.H u ++ d.out := by rw [hstep, hH, hd, hm0]; rfl
  rw [← hd]
  obtain ⟨f1, hf1⟩ : ∃ f1 : Flw, f1 = (if d.has = true then { S.f with st := S.f.st.modify u fun m => pset m r.key d.held } else S.f) := ⟨_, rfl⟩
  rw [← hf1]
  have g1 : f1.st[u]? = some (if d.has = true then pset m0 r.key d.held else m0) := by
   rw [hf1]; split
   ·exact getElem?_modify_same hst
   ·exact hst
  have g2 : ∀ v, v ≠ u → f1.st[v]? = S.f.st[v]? := fun v hv => by
   rw [hf1]; split
   ·exact getElem?_modify_ne hv
   ·rfl
  have g3 : f1.ln = S.f.ln ∧ f1.gv = S.f.gv ∧ f1.st.length = S.f.st.length := by
   rw [hf1]; split
   ·exact ⟨rfl, rfl, by simp⟩
   ·exact ⟨rfl, rfl, rfl⟩
  obtain ⟨A, a0, a1, a2, a3, a4, a5, a6, a7, a8⟩ := outs_hist hh hk hu d.out ⟨f1, S.M, S.H⟩ ⟨g3.2.2.trans h1.st, by rw [g3.2.1]; exact h1.gv, by rw [g3.1]; exact h1.ln, by rw [g3.2.1]; exact h1.counts⟩
   (fun v hv => (h2 v (by omega)).same rfl rfl (g2 v (by omega)) (by rw [g3.1])) h3
  refine ⟨⟨A.f, setAt A.M u (S.M u ++ [(x, r)]), A.H⟩, a0, ⟨a1.st, a1.gv, a1.ln, a1.counts⟩, ?_, ?_, ?_, setAt_same _ _ _⟩
  ·intro v hv
   by_cases e : v = u
   ·subst e
    intro m hm
    rw [hn] at hm; injection hm with hm; subst hm
    refine ⟨fun h => absurd h h10, fun _ _ => ?_, ?_⟩
    ·show A.f.st[v]? = some (runLog n (setAt A.M v (S.M v ++ [(x, r)]) v)).1 ∧ A.H v = (runLog n (setAt A.M v (S.M v ++ [(x, r)]) v)).2
     rw [setAt_same, hs1, hs2]
     exact ⟨a7.trans g1, a5⟩
    ·show ∀ p ∈ setAt A.M v (S.M v ++ [(x, r)]) v, _
     rw [setAt_same]
     intro p hp
     rcases List.mem_append.1 hp with hp | hp
     ·exact (h2 v (Nat.le_refl _) n hn).2.2 p hp
     ·simp at hp; subst hp; exact hxl
   ·exact (a2 v (by omega)).same rfl (setAt_other _ _ e) rfl rfl
  ·intro w y j' hj' hi'
   have := hi'.lt hJ
   show byIn y (setAt A.M u _ w) = _
   rw [setAt_other _ _ (by omega)]
   exact a3 w y j' hj' hi'
  ·refine ⟨fun v hv => ⟨(a4.hist v hv).1, (setAt_other _ _ (by omega)).trans (a4.hist v hv).2.1, (a4.hist v hv).2.2.1.trans (g2 v (by omega)), (a4.hist v hv).2.2.2.trans (by rw [g3.1])⟩, fun w y j' hj' hw hi' => ?_, a4.alone⟩
   show byIn y (setAt A.M u _ w) = _
   rw [setAt_other _ _ hw]
   exact a4.edge w y j' hj' hw hi'
theorem loop_hist {J : List Nod} (hJ : jobErr J = 0) {k : Nat} (hg : GetHist J k) {i : Nat} (hk : J.length ≤ i + 1 + k) (r : Rec) : ∀ (ts : List (Nat × Nat)) (S : Sim), ts.Nodup → (∀ p ∈ ts, InFrom J p.1 p.2 i) → Sound J S → LocFrom J (i + 1) S → SyncFrom J (i + 1) S →
  ∃ S' : Sim, S'.f = ts.foldl (fun f p => getT J (handT J (usesAll J) k) p.1 r p.2 f) S.f ∧ Sound J S' ∧ LocFrom J (i + 1) S' ∧ SyncFrom J (i + 1) S' ∧
   (∀ v, v ≤ i → S'.H v = S.H v ∧ S'.M v = S.M v ∧ S'.f.st[v]? = S.f.st[v]? ∧ S'.f.ln[v]? = S.f.ln[v]?) ∧ (∀ u x j, j < i → InFrom J u x j → byIn x (S'.M u) = byIn x (S.M u)) ∧ (∀ v, (∀ x j, ¬ InFrom J v x j) → S'.H v = S.H v) ∧
   ∀ u x, InFrom J u x i → byIn x (S'.M u) = byIn x (S.M u) ++ (if (u, x) ∈ ts then [r] else []) := by
 intro ts
 induction ts with
 | nil => intro S _ _ h1 h2 h3; exact ⟨S, rfl, h1, h2, h3, fun _ _ => ⟨rfl, rfl, rfl, rfl⟩, fun _ _ _ _ _ => rfl, fun _ _ => rfl, fun u x _ => by simp⟩
 | cons p ts ih =>
  obtain ⟨u, x⟩ := p
  intro S hnd hin h1 h2 h3
  have hux := hin (u, x) List.mem_cons_self
  obtain ⟨hiu, hu⟩ := hux.lt hJ
  obtain ⟨A, a0, a1, a2, a3, a4, a5⟩ := hg u r x i S (by omega) hux h1 (fun v hv => h2 v (by omega)) (fun w y j hj => h3 w y j (by omega))
  have A2 : LocFrom J (i + 1) A := fun v hv => by
   rcases Nat.lt_or_ge v u with h | h
   ·exact (h2 v hv).same (a4.hist v h).1 (a4.hist v h).2.1 (a4.hist v h).2.2.1 (a4.hist v h).2.2.2
   ·exact a2 v h
  have hne : ∀ {y j}, InFrom J u y j → j ≠ i → y ≠ x := fun {y j} h hj e => by
   subst e
   obtain ⟨n, hn, hy⟩ := h
   obtain ⟨m, hm, hz⟩ := hux
   rw [hn] at hm; injection hm with hm; subst hm
   rw [hy] at hz; injection hz with hz; exact hj (by omega)
  have hedge : ∀ w y j, j < u → j ≠ i → InFrom J w y j → byIn y (A.M w) = byIn y (S.M w) := fun w y j hj hji hi => by
   by_cases e : w = u
   ·subst e
    rw [a5, byIn_app, if_neg (fun e => hne hi hji e.symm), List.append_nil]
   ·exact a4.edge w y j hj e hi
  have A3 : SyncFrom J (i + 1) A := fun w y j hj hi => by
   rcases Nat.lt_or_ge j u with h | h
   ·rw [hedge w y j h (by omega) hi, (a4.hist j h).1]; exact h3 w y j hj hi
   ·exact a3 w y j h hi
  have hnd2 := List.nodup_cons.1 hnd
  obtain ⟨B, b0, b1, b2, b3, b4, b5, b6, b7⟩ := ih A hnd2.2 (fun q hq => hin q (List.mem_cons_of_mem _ hq)) a1 A2 A3
  refine ⟨B, by rw [b0, a0]; rfl, b1, b2, b3, fun v hv => ?_, fun w y j hj hi => ?_, fun v hv => ?_, fun w y hi => ?_⟩
  ·obtain ⟨c1, c2, c3, c4⟩ := b4 v hv
   obtain ⟨d1, d2, d3, d4⟩ := a4.hist v (by omega)
   exact ⟨c1.trans d1, c2.trans d2, c3.trans d3, c4.trans d4⟩
  ·exact (b5 w y j hj hi).trans (hedge w y j (by omega) (by omega) hi)
  ·exact (b6 v hv).trans (a4.alone v (fun e => hv x i (e ▸ hux)) hv)
  ·rw [b7 w y hi]
   by_cases e : (w, y) = (u, x)
   ·injection e with e1 e2
    subst e1; subst e2
    rw [a5, byIn_app, if_pos rfl, if_neg hnd2.1, if_pos List.mem_cons_self, List.append_nil]
   ·have h4 : byIn y (A.M w) = byIn y (S.M w) := by
     by_cases ew : w = u
     ·subst ew
      rw [a5, byIn_app, if_neg (fun e2 => e (by rw [e2])), List.append_nil]
     ·exact a4.edge w y i hiu ew hi
    rw [h4]
    congr 1
    by_cases hm : (w, y) ∈ ts
    ·rw [if_pos hm, if_pos (List.mem_cons_of_mem _ hm)]
    ·rw [if_neg hm, if_neg (fun h => by rcases List.mem_cons.1 h with h | h; exact e h; exact hm h)]
theorem hand_hist {J : List Nod} (hJ : jobErr J = 0) : ∀ k, HandHist J k := by
 intro k
 induction k with
 | zero => intro i r S h1 h2; omega
 | succ k ih =>
  intro i r S hk hi h1 h2 h3
  have hil : i < S.f.gv.length := by rw [h1.gv]; exact hi
  have hS1 : Sound J ⟨bump i S.f, S.M, setAt S.H i (S.H i ++ [r])⟩ := by
   refine ⟨h1.st, by show (S.f.gv.set i _).length = _; rw [List.length_set]; exact h1.gv, h1.ln, fun v hv => ?_⟩
   show (S.f.gv.set i ((S.f.gv[i]?.getD 0) + 1))[v]? = some ((setAt S.H i (S.H i ++ [r]) v).length : Int)
   by_cases e : v = i
   ·subst e
    rw [List.getElem?_set_self hil, setAt_same, h1.counts v hv, List.length_append]
    simp
   ·rw [List.getElem?_set_ne (fun e2 => e e2.symm), setAt_other _ _ e]; exact h1.counts v hv
  obtain ⟨B, b0, b1, b2, b3, b4, b5, b6, b7⟩ := loop_hist hJ (get_hist hJ ih) (i := i) (by omega) r (targets J (usesAll J) i) ⟨bump i S.f, S.M, setAt S.H i (S.H i ++ [r])⟩ (targets_nodup J hi) (fun p hp => (targets_mem hi).1 hp) hS1
   (fun v hv => (h2 v hv).same (setAt_other _ _ (by omega)) rfl rfl rfl)
   (fun u x j hj hin => by show byIn x (S.M u) = setAt S.H i _ j; rw [setAt_other _ _ (by omega)]; exact h3 u x j (by omega) hin)
  have hHi : B.H i = S.H i ++ [r] := (b4 i (Nat.le_refl _)).1.trans (setAt_same _ _ _)
  refine ⟨B, b0, b1, b2, fun u x j hj hin => ?_, ⟨fun v hv => ?_, fun u x j hj hu hin => b5 u x j hj hin, fun v hv ha => (b6 v ha).trans (setAt_other _ _ hv)⟩, hHi, (b4 i (Nat.le_refl _)).2.1, (b4 i (Nat.le_refl _)).2.2.1, (b4 i (Nat.le_refl _)).2.2.2⟩
  ·by_cases e : j = i
   ·subst e
    rw [b7 u x hin, if_pos ((targets_mem hi).2 hin), hHi]
    show byIn x (S.M u) ++ _ = _
    rw [h3 u x j (Nat.le_refl _) hin]
   ·exact b3 u x j (by omega) hin
  ·obtain ⟨c1, c2⟩ := b4 v (by omega)
   exact ⟨c1.trans (setAt_other _ _ (by omega)), c2⟩
def AllRight (J : List Nod) (S : Sim) : Prop := Sound J S ∧ (∀ v, Local J v S) ∧ ∀ u x j, InFrom J u x j → byIn x (S.M u) = S.H j
theorem source_alone {J : List Nod} (hJ : jobErr J = 0) {s : Nat} {n : Nod} (hs : J[s]? = some n) (hk : n.kind = 1) (x j : Nat) : ¬ InFrom J s x j := by
 rintro ⟨m, hm, hx⟩
 rw [hs] at hm; injection hm with hm; subst hm
 obtain ⟨hu, he⟩ := List.getElem?_eq_some_iff.1 hs
 have h0 := nodes_zero J 0 (job_parts hJ).2.1 s hu
 rw [he] at h0
 have hxl := (List.getElem?_eq_some_iff.1 hx).1
 unfold nodeErr at h0
 split at h0
 ·cases h0
 ·split at h0
  ·cases h0
  ·rename_i h5
   rw [hk] at h5
   simp only [inHigh, if_true] at h5
   omega
theorem one_hist {J : List Nod} (hJ : jobErr J = 0) {s : Nat} {n : Nod} (hs : J[s]? = some n) (hk : n.kind = 1) (r : Rec) (S : Sim) (h : AllRight J S) :
  ∃ S' : Sim, S'.f = handT J (usesAll J) J.length s r S.f ∧ AllRight J S' ∧ S'.H s = S.H s ++ [r] ∧ ∀ v, v ≠ s → (∀ x j, ¬ InFrom J v x j) → S'.H v = S.H v := by
 obtain ⟨h1, h2, h3⟩ := h
 have hlt : s < J.length := (List.getElem?_eq_some_iff.1 hs).1
 obtain ⟨A, a0, a1, a2, a3, a4, a5, a6, a7, a8⟩ := hand_hist hJ J.length s r S (by omega) hlt h1 (fun v _ => h2 v) (fun u x j _ hi => h3 u x j hi)
 refine ⟨A, a0, ⟨a1, fun v => ?_, fun u x j hin => ?_⟩, a5, a4.alone⟩
 ·rcases Nat.lt_trichotomy v s with h | h | h
  ·exact (h2 v).same (a4.hist v h).1 (a4.hist v h).2.1 (a4.hist v h).2.2.1 (a4.hist v h).2.2.2
  ·subst h
   intro m hm
   rw [hs] at hm; injection hm with hm; subst hm
   exact ⟨fun e => absurd e (by omega), fun _ e => absurd hk e, by rw [a6]; exact (h2 v n hs).2.2⟩
  ·exact a2 v h
 ·rcases Nat.lt_or_ge j s with h | h
  ·rw [a4.edge u x j h (fun e => source_alone hJ hs hk x j (e ▸ hin)) hin, (a4.hist j h).1]; exact h3 u x j hin
  ·exact a3 u x j h hin
theorem feed_hist {J : List Nod} (hJ : jobErr J = 0) {s : Nat} {n : Nod} (hs : J[s]? = some n) (hk : n.kind = 1) : ∀ (d : List Rec) (S : Sim), AllRight J S →
  ∃ S' : Sim, S'.f = feedT J (s : Int) d S.f ∧ AllRight J S' ∧ S'.H s = S.H s ++ d ∧ ∀ v, v ≠ s → (∀ x j, ¬ InFrom J v x j) → S'.H v = S.H v := by
 intro d
 induction d with
 | nil => intro S h; exact ⟨S, rfl, h, (List.append_nil _).symm, fun _ _ _ => rfl⟩
 | cons r d ih =>
  intro S h
  obtain ⟨A, a0, a1, a2, a3⟩ := one_hist hJ hs hk r S h
  obtain ⟨B, b0, b1, b2, b3⟩ := ih A a1
  exact ⟨B, by rw [b0, a0]; rfl, b1, by rw [b2, a2, List.append_assoc]; rfl, fun v hv ha => (b3 v hv ha).trans (a3 v hv ha)⟩
theorem feeds_hist {J : List Nod} (hJ : jobErr J = 0) : ∀ (ps : List (Int × List Rec)) (S : Sim), (∀ p ∈ ps, p.1 ∈ ofKind J 1) → (ps.map (·.1)).Nodup → AllRight J S →
  ∃ S' : Sim, S'.f = ps.foldl (fun f p => feedT J p.1 p.2 f) S.f ∧ AllRight J S' ∧ (∀ p ∈ ps, S'.H p.1.toNat = S.H p.1.toNat ++ p.2) ∧ ∀ v : Nat, (v : Int) ∉ ps.map (·.1) → (∀ x j, ¬ InFrom J v x j) → S'.H v = S.H v := by
 intro ps
 induction ps with
 | nil => intro S _ _ h; exact ⟨S, rfl, h, nofun, fun _ _ _ => rfl⟩
 | cons p ps ih =>
  obtain ⟨y, d⟩ := p
  intro S hin hnd h
  obtain ⟨s, n, e, hs, hk⟩ := kind_mem (hin (y, d) List.mem_cons_self)
  simp only at e
  subst e
  obtain ⟨A, a0, a1, a2, a3⟩ := feed_hist hJ hs hk d S h
  obtain ⟨hn1, hn2⟩ := List.nodup_cons.1 (show ((s : Int) :: ps.map (·.1)).Nodup from hnd)
  obtain ⟨B, b0, b1, b2, b3⟩ := ih A (fun q hq => hin q (List.mem_cons_of_mem _ hq)) hn2 a1
  refine ⟨B, by rw [b0, a0]; rfl, b1, fun q hq => ?_, fun v hv ha => ?_⟩
  ·rcases List.mem_cons.1 hq with rfl | hq2
   ·show B.H (s : Int).toNat = S.H (s : Int).toNat ++ d
    rw [Int.toNat_natCast, b3 s hn1 (source_alone hJ hs hk), a2]
   ·obtain ⟨t, m, e, ht, hkt⟩ := kind_mem (hin q hq)
    have hts : t ≠ s := fun e2 => hn1 (by rw [← e2, ← e]; exact List.mem_map.2 ⟨q, hq2, rfl⟩)
    rw [b2 q hq2, e, Int.toNat_natCast, a3 t hts (source_alone hJ ht hkt)]
  ·have hv2 : ¬ ((v : Int) = (s : Int) ∨ (v : Int) ∈ ps.map (·.1)) := fun h => hv (by
    rcases h with h | h
    ·rw [h]; exact List.mem_cons_self
    ·exact List.mem_cons_of_mem _ h)
   rw [b3 v (fun h => hv2 (.inr h)) ha]
   exact a3 v (fun e => hv2 (.inl (by rw [e]))) ha
theorem kind_nodup (J : List Nod) (k : Int) : (ofKind J k).Nodup := by
 unfold ofKind
 have h : J.zipIdx.Pairwise fun a b => a.2 < b.2 := by
  have h1 : (J.zipIdx.map (·.2)).Pairwise (· < ·) := by
   rw [List.zipIdx_map_snd]
   exact List.pairwise_lt_range'
  exact List.pairwise_map.1 h1
 have h2 := h.sublist (List.filter_sublist (p := fun p => p.1.kind == k))
 exact List.pairwise_map.2 (h2.imp fun {a b} hab => by omega)
theorem flow_hist {J : List Nod} (hJ : jobErr J = 0) (data : List (List Rec)) (hd : data.length = (ofKind J 1).length) :
  ∃ S : Sim, S.f = flowT J data ∧ AllRight J S ∧ ∀ (k : Nat) (s : Int) (d : List Rec), (ofKind J 1)[k]? = some s → data[k]? = some d → S.H s.toNat = d := by
 have h0 : AllRight J ⟨flow0 J.length, fun _ => [], fun _ => []⟩ := by
  refine ⟨⟨by simp [flow0], by simp [flow0], by simp [flow0], fun v hv => by simp [flow0, hv]⟩, fun v n hn => ?_, fun u x j h => rfl⟩
  have hv := (List.getElem?_eq_some_iff.1 hn).1
  exact ⟨fun _ => ⟨by simp [flow0, hv], rfl⟩, fun _ _ => ⟨by simp [flow0, hv, runLog], rfl⟩, nofun⟩
 obtain ⟨A, a0, a1, a2, a3⟩ := feeds_hist hJ ((ofKind J 1).zip data) _ (fun p hp => (List.of_mem_zip hp).1) (by rw [List.map_fst_zip (by omega)]; exact kind_nodup J 1) h0
 refine ⟨A, a0, a1, fun k s d hs hdk => ?_⟩
 have := a2 (s, d) (List.mem_of_getElem? (i := k) (by rw [List.getElem?_zip_eq_some]; exact ⟨hs, hdk⟩))
 exact this
end Go.Proofs.YtfndhfekbbbliaaGreatDoor

/-
  Package expr: the contract of Check. Conditions: the text's length; the two variables of Atoi's errors hold errors.
-/
namespace Go.Proofs.YtfndhfekbbbliaaGreatDoor
open Go.RowKit Go.Shelf
set_option linter.unusedVariables false
def errV (e : Int) : Value := .iface 89 (.int .i64 e)
theorem parse_tree {s : ByteArray} {w : World} {e : Ending} {w' : World} {t : Tr} (h : ParsePost s w e w') (hp : parseT s.data.toList = .tree t) :
  ∃ o n A c, e = .returned (.tuple #[.agg (trA o n A c), .int .i64 0, .nilIface]) ∧ TrC (w.heap.size ≤ ·) w' t (trL o n A c) := by
 unfold ParsePost at h; rw [hp] at h; exact h
theorem parse_fault {s : ByteArray} {w : World} {e : Ending} {w' : World} {k : Nat} {j : Int} (h : ParsePost s w e w') (hp : parseT s.data.toList = .fault k j) :
  e = .returned (.tuple #[.agg (trA 0 0 none 0), .int .i64 k, errV j]) := by
 unfold ParsePost at h; rw [hp] at h; exact h
def atOf : Parsed → Int
 | .tree _ => 0
 | .fault k _ => k
def errOf : Parsed → Value
 | .tree _ => .nilIface
 | .fault _ j => errV j
set_option maxRecDepth 100000 in
theorem check_ok (s : ByteArray) (w : World) (hv : ErrVars w) (hsz : s.size ≤ maxLen) :
  Calls Tryz.prog 10 #[.string s] w fun e w' => e = .returned (.tuple #[.int .i64 (atOf (parseT s.data.toList)), errOf (parseT s.data.toList)]) ∧ Below w.heap.size w w' := by
 have HPR := Lib.hid (parse_reads s w hv hsz)
 clear hv
 go_enter Tryz.func10, Tryz.ntmps10
 go_wp2_with fail
 refine HPR.out.mono ?_
 clear HPR
 rintro e w1 ⟨h1, hb⟩
 have HB := Lib.hid hb
 clear hb
 cases hp : parseT s.data.toList with
 | tree t =>
  obtain ⟨o, k, A, c, rfl, ht⟩ := parse_tree h1 hp
  have HP := Lib.hid hp
  clear h1 hp ht
  unfold trA
  go_wp2_with fail
  go_ret2
  exact ⟨by rw [HP.out]; rfl, (HB.out.alloc HB.out.size _)⟩
 | fault k j =>
  have h2 := parse_fault h1 hp
  subst h2
  have HP := Lib.hid hp
  clear h1 hp
  unfold trA errV
  go_wp2_with fail
  go_ret2
  exact ⟨by rw [HP.out]; rfl, (HB.out.alloc HB.out.size _)⟩
end Go.Proofs.YtfndhfekbbbliaaGreatDoor

/-
  Expressions, plain: two in brackets with an operator between, one of two that a third one chooses, the least and the greatest of two: what they are read as. No condition: plain lemmas.
-/
namespace Go.Proofs.YtfndhfekbbbliaaGreatDoor
open Go.RowKit
set_option linter.unusedVariables false
section
variable {p : Prop}
variable {W : Reads} {d : Nat}
end
section
variable {p : Prop} {a b c : List UInt8} {t u s : Tr} {k : Nat}
end
theorem parse_ok {s : List UInt8} {t : Tr} (h : parseT s = .tree t) : s.length ≤ 120 ∧ wholeRd s.length 0 s = .ok t [] := by
 unfold parseT at h
 split at h
 ·cases h
 ·refine ⟨by omega, ?_⟩
  split at h
  ·rename_i e; injection h with h; subst h; exact e
  ·cases h
  ·cases h
theorem whole_succ {s : List UInt8} (h : 0 < s.length) : wholeRd s.length = wholeStep (wholeRd (s.length - 1)) := by
 obtain ⟨n, hn⟩ : ∃ n, s.length = n + 1 := ⟨s.length - 1, by omega⟩
 rw [hn]; rfl
section
variable {a b : List UInt8} {t u : Tr} (hA : wholeRd a.length 1 a = .ok t []) (hB : wholeRd b.length 1 b = .ok u [])
include hA hB
end
end Go.Proofs.YtfndhfekbbbliaaGreatDoor
