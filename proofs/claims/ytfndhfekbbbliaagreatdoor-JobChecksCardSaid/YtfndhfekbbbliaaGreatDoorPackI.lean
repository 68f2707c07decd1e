/-
  Several texts of this claim in one, in build order; each begins with its own remark, which says what it proves and under which conditions.
-/
import Derived.Test.YtfndhfekbbbliaaGreatDoorPackH
import Derived.Test.YtfndhfekbbbliaaGreatDoorPackC
import Derived.Test.YtfndhfekbbbliaaGreatDoorPackA
import Derived.Deep.CutRange

/-
  Package expr: the contract of (tree).eval: what a tree comes to. Condition: its numbers are ints, its operators are some.
-/
namespace Go.Proofs.YtfndhfekbbbliaaGreatDoor
open Go.RowKit Go.Shelf
set_option linter.unusedVariables false

def I64_ (n : Int) : Prop := -9223372036854775808 ≤ n ∧ n ≤ 9223372036854775807
theorem isOp_cases {op : UInt8} (h : isOp op = true) : op = 109 ∨ op = 77 ∨ op = 61 ∨ op = 60 ∨ op = 62 ∨ op = 43 ∨ op = 45 ∨ op = 42 ∨ op = 47 ∨ op = 37 := by
  unfold isOp at h
  simpa [or_assoc] using h
theorem wrap_bounds (x : Int) : I64_ (wrap64 x) := by unfold wrap64 I64_; omega
theorem b2i_bounds (b : Bool) : I64_ (b2i b) := by cases b <;> (unfold b2i I64_; decide)
theorem tdiv_bounds {a b : Int} (ha : I64_ a) (h0 : b ≠ 0) (h1 : b ≠ -1) : I64_ (a.tdiv b) := by
  unfold I64_ at *
  by_cases e : b = 1
  · subst e; rw [Int.tdiv_one]; exact ha
  · have h := Int.natAbs_tdiv a b
    have h2 : (a.tdiv b).natAbs ≤ a.natAbs / 2 := by
      rw [h]; exact Nat.div_le_div_left (by omega) (by omega)
    omega
theorem tmod_bounds {a b : Int} (ha : I64_ a) : I64_ (a.tmod b) := by
  unfold I64_ at *
  have h : (a.tmod b).natAbs = a.natAbs % b.natAbs := Int.natAbs_tmod a b
  have h2 : (a.tmod b).natAbs ≤ a.natAbs := by rw [h]; exact Nat.mod_le _ _
  rcases Int.le_total 0 a with g | g
  · have := Int.tmod_nonneg b g; omega
  · have := Int.tmod_nonneg b (a := -a) (by omega); rw [Int.neg_tmod] at this; omega
theorem op_bounds (op : UInt8) {a b : Int} (ha : I64_ a) (hb : I64_ b) : I64_ (opVal op a b) := by
  unfold opVal
  repeat' split
  · unfold I64_ at *; omega
  · unfold I64_ at *; omega
  · exact wrap_bounds _
  · exact wrap_bounds _
  · exact wrap_bounds _
  · exact b2i_bounds _
  · exact b2i_bounds _
  · exact b2i_bounds _
  · unfold I64_; omega
  · unfold I64_; omega
  · exact wrap_bounds _
  · exact tdiv_bounds ha ‹_› ‹_›
  · exact tmod_bounds ha
theorem val_bounds {t : Tr} {n s : Int} (hf : t.fine) (hn : I64_ n) (hs : I64_ s) : I64_ (t.val n s) := by
  induction t with
  | num k => unfold Tr.fine at hf; unfold Tr.val I64_; omega
  | nam b => unfold Tr.val; split <;> assumption
  | neg a ih => exact wrap_bounds _
  | bin op a b iha ihb => exact op_bounds op (iha hf.2.1) (ihb hf.2.2)
  | sel a b c iha ihb ihc => unfold Tr.val; split; exact ihc hf.2.2; exact ihb hf.2.1
set_option maxRecDepth 100000 in
theorem is_ok (b : Bool) (w : World) : Calls Tryz.prog 95 #[.bool b] w fun e w' => e = .returned (.int .i64 (b2i b)) ∧ w' = w := by
  cases b
  · go_enter Tryz.func95, Tryz.ntmps95
    go_wp2
    go_ret
    exact ⟨rfl, rfl⟩
  · go_enter Tryz.func95, Tryz.ntmps95
    go_wp2
    go_ret
    exact ⟨rfl, rfl⟩
/-- A region that draws its order, whose operations all yield one value in each world of a class: one walk in the text's order. -/
theorem region_class {P : Program} {C : World → Prop} {id : Nat} {Q : Exit → Act → World → Prop} {a : Act} {w : World} {l : List Oper} (hm : P.follows .mixedOrders = true) (hB : Region.lexB .any l.toArray = true) (hC : C w.drew)
    (h : wpQuiet P l.toArray C (fun a' => ∀ w', C w' → Q .normal a' w') l a) : (Code.region id l.toArray true).wp P Q a w :=
  wp_region_quiet (C := C) hm hB hC (by simpa using h)
/-- A world that grew out of w. -/
structure GrownW (w : World) where
  val : World
  bel : Below w.heap.size w val
set_option maxRecDepth 100000 in
set_option maxHeartbeats 4000000 in
theorem eval_ok (t : Tr) (hf : t.fine) (n s : Int) (hn : I64_ n) (hs : I64_ s) : ∀ (o k : Int) (A : Option Addr) (c : Nat) (w : World), TrC (· < w.heap.size) w t (trL o k A c) →
    Calls Tryz.prog 48 #[.agg #[.int .u8 o, .int .i64 k, .slice A c c], .int .i64 n, .int .i64 s] w fun e w' => e = .returned (.int .i64 (t.val n s)) ∧ Below w.heap.size w w' := by
  induction t with
  | num v =>
    intro o k A c w h
    obtain ⟨rfl, rfl, rfl, rfl⟩ : o = 48 ∧ k = v ∧ A = none ∧ c = 0 := by
      have h : trL o k A c = _ := h
      simp [trL] at h; exact h
    go_enter Tryz.func48, Tryz.ntmps48
    go_wp2_with fail
    go_ret
    exact ⟨rfl, (Below.refl _ _).alloc (Nat.le_refl _) _⟩
  | nam b =>
    intro o k A c w h
    obtain ⟨rfl, rfl, rfl, rfl⟩ : o = (if b then 110 else 115) ∧ k = 0 ∧ A = none ∧ c = 0 := by
      have h : trL o k A c = _ := h
      simp [trL] at h; exact h
    cases b
    · simp only [Bool.false_eq_true, if_false]
      go_enter Tryz.func48, Tryz.ntmps48
      go_wp2_with fail
      go_ret
      exact ⟨rfl, (Below.refl _ _).alloc (Nat.le_refl _) _⟩
    · simp only [if_true]
      go_enter Tryz.func48, Tryz.ntmps48
      go_wp2_with fail
      go_ret
      exact ⟨rfl, (Below.refl _ _).alloc (Nat.le_refl _) _⟩
  | neg a ih =>
    intro o k A c w h
    obtain ⟨g, ca, he, hk, ha⟩ := h
    obtain ⟨rfl, rfl, rfl, rfl⟩ : o = 126 ∧ k = 0 ∧ A = some ⟨g, 0, none⟩ ∧ c = 1 := by simp [trL] at he; exact he
    obtain ⟨o1, k1, A1, c1, rfl⟩ := ha.three
    obtain ⟨x0, x1, x2, xf⟩ := (TVar.allocs (w := w) (k := g) hk.2)
    have HIH := Lib.hid (ih hf)
    have HA := Lib.hid ha
    clear ih ha hk he
    go_enter Tryz.func48, Tryz.ntmps48
    go_wp2_with fail
    have hb1 : Below w.heap.size w (w.alloc (.cells #[.int .u8 126, .int .i64 0, .slice (some ⟨g, 0, none⟩) 1 1] 86)) := (Below.refl _ _).alloc (Nat.le_refl _) _
    refine (HIH.out o1 k1 A1 c1 _ ((HA.out.keep fun j hj => heap_alloc_old _ _ hj).in_ fun j hj hj2 => hj2)).mono ?_
    rintro e w2 ⟨rfl, hb2⟩
    have HB := Lib.hid (hb1.trans (hb2.mono hb1.size))
    clear hb1 hb2 HIH HA x0 x1 x2 xf
    go_wp2_with fail
    go_ret
    exact ⟨rfl, HB.out⟩
  | bin op a b iha ihb =>
    intro o k A c w h
    obtain ⟨g, ca, cb, he, hk, ha, hb⟩ := h
    obtain ⟨rfl, rfl, rfl, rfl⟩ : o = (op.toNat : Int) ∧ k = 0 ∧ A = some ⟨g, 0, none⟩ ∧ c = 2 := by simp [trL] at he; exact he
    obtain ⟨o1, k1, A1, c1, rfl⟩ := ha.three
    obtain ⟨o2, k2, A2, c2, rfl⟩ := hb.three
    obtain ⟨hop, hfa, hfb⟩ := hf
    have hgl := block_lt hk.2
    have HA := Lib.hid ha
    have HB := Lib.hid hb
    have HIA := Lib.hid (iha hfa)
    have HIB := Lib.hid (ihb hfb)
    have hk2 := hk.2
    obtain ⟨W1, hW1⟩ : ∃ W1, W1 = w.alloc (.cells #[.int .u8 (op.toNat : Int), .int .i64 0, .slice (some ⟨g, 0, none⟩) 2 2] 86) := ⟨_, rfl⟩
    have hb1 : Below w.heap.size w W1 := by rw [hW1]; exact (Below.refl _ _).alloc (Nat.le_refl _) _
    have hv1 : TVar W1 w.heap.size (.int .u8 (op.toNat : Int)) (.int .i64 0) (.slice (some ⟨g, 0, none⟩) 2 2) := by rw [hW1]; exact TVar.new _ _ _ _
    have hall : ∀ V : GrownW W1, V.val.cell? ⟨g, 0, none⟩ = some (.int .u8 o1) ∧ V.val.cell? ⟨g, 1, none⟩ = some (.int .i64 k1) ∧ V.val.cell? ⟨g, 2, none⟩ = some (.slice A1 c1 c1) ∧ V.val.cell? ⟨g, 3, none⟩ = some (.int .u8 o2) ∧ V.val.cell? ⟨g, 4, none⟩ = some (.int .i64 k2) ∧ V.val.cell? ⟨g, 5, none⟩ = some (.slice A2 c2 c2) ∧
        V.val.cell? ⟨w.heap.size, 0, none⟩ = some (.int .u8 (op.toNat : Int)) ∧ V.val.cell? ⟨w.heap.size, 2, none⟩ = some (.slice (some ⟨g, 0, none⟩) 2 2) := fun V => by
      have h : V.val.heap[g]? = _ := (V.bel.block g (by have := hb1.size; omega)).trans ((hb1.block g hgl).trans hk2)
      have h2 : TVar V.val w.heap.size (.int .u8 (op.toNat : Int)) (.int .i64 0) (.slice (some ⟨g, 0, none⟩) 2 2) := (V.bel.block _ (block_lt hv1)).trans hv1
      exact ⟨(cell_of_row V.val g 0 _ _ _ h).trans rfl, (cell_of_row V.val g 1 _ _ _ h).trans rfl, (cell_of_row V.val g 2 _ _ _ h).trans rfl, (cell_of_row V.val g 3 _ _ _ h).trans rfl, (cell_of_row V.val g 4 _ _ _ h).trans rfl, (cell_of_row V.val g 5 _ _ _ h).trans rfl, h2.cells.1, h2.cells.2.2.1⟩
    have x0 := fun V => (hall V).1
    have x1 := fun V => (hall V).2.1
    have x2 := fun V => (hall V).2.2.1
    have x3 := fun V => (hall V).2.2.2.1
    have x4 := fun V => (hall V).2.2.2.2.1
    have x5 := fun V => (hall V).2.2.2.2.2.1
    have x6 := fun V => (hall V).2.2.2.2.2.2.1
    have x7 := fun V => (hall V).2.2.2.2.2.2.2
    have m0 := x6 ⟨W1, Below.refl _ _⟩
    have HB1 := Lib.hid hb1
    have hne : ∀ c : UInt8, isOp c = false → ((op.toNat : Int) == (c.toNat : Int)) = false := fun c hc => beq_eq_false_iff_ne.2 fun e => by
      have : op = c := UInt8.toNat_inj.1 (by omega)
      rw [this, hc] at hop; cases hop
    have n1 : ((op.toNat : Int) == 110) = false := hne 110 rfl
    have n2 : ((op.toNat : Int) == 115) = false := hne 115 rfl
    have n3 : ((op.toNat : Int) == 48) = false := hne 48 rfl
    have n4 : ((op.toNat : Int) == 63) = false := hne 63 rfl
    have n5 : ((op.toNat : Int) == 126) = false := hne 126 rfl
    clear iha ihb ha hb he hk hall hb1 hv1 hk2 hne
    go_enter Tryz.func48, Tryz.ntmps48
    go_upto_region 1 with (fail)
    rw [← hW1]
    clear hW1
    go_upto_region 14 with (fail)
    refine region_class (C := fun W => ∃ V : GrownW W1, W = V.val) (by kernel_rfl) (by kernel_rfl) ⟨⟨W1.drew, (Below.refl _ _).drew⟩, rfl⟩ ?_
    have HCA : Hid (∀ V : GrownW W1, Calls Tryz.prog 48 #[.agg #[.int .u8 o1, .int .i64 k1, .slice A1 c1 c1], .int .i64 n, .int .i64 s] V.val fun e w' => e = .returned (.int .i64 (a.val n s)) ∧ ∃ V' : GrownW W1, w' = V'.val) := fun V => by
      refine (HIA.out o1 k1 A1 c1 V.val ((HA.out.keep fun j hj => (V.bel.block j (by have := HB1.out.size; omega)).trans (HB1.out.block j hj)).in_ fun j _ h => h)).mono ?_
      rintro e w' ⟨rfl, hb⟩
      exact ⟨rfl, ⟨w', V.bel.trans (hb.mono V.bel.size)⟩, rfl⟩
    have HCB : Hid (∀ V : GrownW W1, Calls Tryz.prog 48 #[.agg #[.int .u8 o2, .int .i64 k2, .slice A2 c2 c2], .int .i64 n, .int .i64 s] V.val fun e w' => e = .returned (.int .i64 (b.val n s)) ∧ ∃ V' : GrownW W1, w' = V'.val) := fun V => by
      refine (HIB.out o2 k2 A2 c2 V.val ((HB.out.keep fun j hj => (V.bel.block j (by have := HB1.out.size; omega)).trans (HB1.out.block j hj)).in_ fun j _ h => h)).mono ?_
      rintro e w' ⟨rfl, hb⟩
      exact ⟨rfl, ⟨w', V.bel.trans (hb.mono V.bel.size)⟩, rfl⟩
    have hne : Nonempty (GrownW W1) := ⟨⟨W1, Below.refl _ _⟩⟩
    repeat go_big_quiet_step (first | with_reducible exact HCA.out _ | with_reducible exact HCB.out _)
    refine wpQuiet_nil ?_
    intro _ hw'
    obtain ⟨V, rfl⟩ := hw'
    have HV := Lib.hid (HB1.out.trans (V.bel.mono HB1.out.size))
    have y0 := x6 V
    have HVL : Hid ((Tr.bin op a b).val n s = opVal op (a.val n s) (b.val n s)) := rfl
    obtain ⟨bA1, bA2⟩ := val_bounds hfa hn hs
    obtain ⟨bB1, bB2⟩ := val_bounds hfb hn hs
    generalize a.val n s = va at HVL bA1 bA2 ⊢
    generalize b.val n s = vb at HVL bB1 bB2 ⊢
    generalize V.val = W2 at HV y0 ⊢
    clear HCA HCB hne x0 x1 x2 x3 x4 x5 x6 x7 m0 HIA HIB HA HB V
    have hcs := isOp_cases hop
    clear n1 n2 n3 n4 n5 hop
    rcases hcs with rfl | rfl | rfl | rfl | rfl | rfl | rfl | rfl | rfl | rfl
    · go_wp2_with fail
      go_ret
      exact ⟨by rw [HVL.out]; rfl, HV.out⟩
    · go_wp2_with fail
      go_ret
      exact ⟨by rw [HVL.out]; rfl, HV.out⟩
    · go_wp2_with fail
      refine (is_ok _ _).mono ?_
      rintro e w' ⟨rfl, rfl⟩
      go_wp2_with fail
      go_ret
      exact ⟨by rw [HVL.out]; rfl, HV.out⟩
    · go_wp2_with fail
      refine (is_ok _ _).mono ?_
      rintro e w' ⟨rfl, rfl⟩
      go_wp2_with fail
      go_ret
      exact ⟨by rw [HVL.out]; rfl, HV.out⟩
    · go_wp2_with fail
      refine (is_ok _ _).mono ?_
      rintro e w' ⟨rfl, rfl⟩
      go_wp2_with fail
      go_ret
      exact ⟨by rw [HVL.out]; rfl, HV.out⟩
    · go_wp2_with fail
      go_ret
      exact ⟨by rw [HVL.out]; rfl, HV.out⟩
    · go_wp2_with fail
      go_ret
      exact ⟨by rw [HVL.out]; rfl, HV.out⟩
    · go_wp2_with fail
      go_ret
      exact ⟨by rw [HVL.out]; rfl, HV.out⟩
    · by_cases h0 : vb = 0
      · subst h0
        go_wp2_with fail
        go_ret
        exact ⟨by rw [HVL.out]; rfl, HV.out⟩
      · have e0 : (vb == 0) = false := by simp [h0]
        by_cases h1 : vb = -1
        · subst h1
          go_wp2_with fail
          go_ret
          exact ⟨by rw [HVL.out]; rfl, HV.out⟩
        · have e1 : (vb == -1) = false := by simp [h1]
          have ho : opVal 47 va vb = wrap64 (va.tdiv vb) := by
            have hb := tdiv_bounds ⟨bA1, bA2⟩ h0 h1
            have e : opVal 47 va vb = va.tdiv vb := by unfold opVal; simp [h0, h1]
            rw [e]; unfold I64_ at hb; unfold wrap64; omega
          have HO := Lib.hid ho
          clear ho
          go_wp2_with fail
          go_ret
          exact ⟨by rw [HVL.out, HO.out]; rfl, HV.out⟩
    · by_cases h0 : vb = 0
      · subst h0
        go_wp2_with fail
        go_ret
        exact ⟨by rw [HVL.out]; rfl, HV.out⟩
      · have e0 : (vb == 0) = false := by simp [h0]
        by_cases h1 : vb = -1
        · subst h1
          go_wp2_with fail
          go_ret
          exact ⟨by rw [HVL.out]; rfl, HV.out⟩
        · have e1 : (vb == -1) = false := by simp [h1]
          have ho : opVal 37 va vb = va.tmod vb := by unfold opVal; simp [h0, h1]
          have HO := Lib.hid ho
          clear ho
          go_wp2_with fail
          go_ret
          exact ⟨by rw [HVL.out, HO.out]; rfl, HV.out⟩
  | sel a b d iha ihb ihd =>
    intro o k A c w h
    obtain ⟨g, ca, cb, cd, he, hk, ha, hb, hd⟩ := h
    obtain ⟨rfl, rfl, rfl, rfl⟩ : o = 63 ∧ k = 0 ∧ A = some ⟨g, 0, none⟩ ∧ c = 3 := by simp [trL] at he; exact he
    obtain ⟨o1, k1, A1, c1, rfl⟩ := ha.three
    obtain ⟨o2, k2, A2, c2, rfl⟩ := hb.three
    obtain ⟨o3, k3, A3, c3, rfl⟩ := hd.three
    obtain ⟨hfa, hfb, hfd⟩ := hf
    have hrow : ∀ W : World, W.heap[g]? = w.heap[g]? → W.cell? ⟨g, 0, none⟩ = some (.int .u8 o1) ∧ W.cell? ⟨g, 1, none⟩ = some (.int .i64 k1) ∧ W.cell? ⟨g, 2, none⟩ = some (.slice A1 c1 c1) ∧ W.cell? ⟨g, 3, none⟩ = some (.int .u8 o2) ∧ W.cell? ⟨g, 4, none⟩ = some (.int .i64 k2) ∧ W.cell? ⟨g, 5, none⟩ = some (.slice A2 c2 c2) ∧ W.cell? ⟨g, 6, none⟩ = some (.int .u8 o3) ∧ W.cell? ⟨g, 7, none⟩ = some (.int .i64 k3) ∧ W.cell? ⟨g, 8, none⟩ = some (.slice A3 c3 c3) := fun W hW => by
      have h := hW.trans hk.2
      exact ⟨(cell_of_row W g 0 _ _ _ h).trans rfl, (cell_of_row W g 1 _ _ _ h).trans rfl, (cell_of_row W g 2 _ _ _ h).trans rfl, (cell_of_row W g 3 _ _ _ h).trans rfl, (cell_of_row W g 4 _ _ _ h).trans rfl, (cell_of_row W g 5 _ _ _ h).trans rfl, (cell_of_row W g 6 _ _ _ h).trans rfl, (cell_of_row W g 7 _ _ _ h).trans rfl, (cell_of_row W g 8 _ _ _ h).trans rfl⟩
    have HROW := Lib.hid hrow
    have hgl := block_lt hk.2
    have HA := Lib.hid ha
    have HB := Lib.hid hb
    have HD := Lib.hid hd
    have HIA := Lib.hid (iha hfa)
    have HIB := Lib.hid (ihb hfb)
    have HID := Lib.hid (ihd hfd)
    clear iha ihb ihd ha hb hd he hk hrow
    obtain ⟨W1, hW1⟩ : ∃ W1, W1 = w.alloc (.cells #[.int .u8 63, .int .i64 0, .slice (some ⟨g, 0, none⟩) 3 3] 86) := ⟨_, rfl⟩
    have hb1 : Below w.heap.size w W1 := by rw [hW1]; exact (Below.refl _ _).alloc (Nat.le_refl _) _
    have hv1 : TVar W1 w.heap.size (.int .u8 63) (.int .i64 0) (.slice (some ⟨g, 0, none⟩) 3 3) := by rw [hW1]; exact TVar.new _ _ _ _
    obtain ⟨x0, x1, x2, x3, x4, x5, x6, x7, x8⟩ := HROW.out W1 (hb1.block g hgl)
    obtain ⟨v0, v1, v2, vf⟩ := hv1.cells
    have HB1 := Lib.hid hb1
    have HV1 := Lib.hid hv1
    clear hb1 hv1
    go_enter Tryz.func48, Tryz.ntmps48
    go_upto_region 1 with (fail)
    rw [← hW1]
    clear hW1
    go_wp2_with fail
    refine (HIA.out o1 k1 A1 c1 W1 ((HA.out.keep fun j hj => HB1.out.block j hj).in_ fun j hj hj2 => hj2)).mono ?_
    rintro e w2 ⟨rfl, hb2⟩
    have HB2 := Lib.hid (HB1.out.trans (hb2.mono HB1.out.size))
    have hv2 : TVar w2 w.heap.size (.int .u8 63) (.int .i64 0) (.slice (some ⟨g, 0, none⟩) 3 3) := (hb2.block _ (block_lt HV1.out)).trans HV1.out
    obtain ⟨y0, y1, y2, y3, y4, y5, y6, y7, y8⟩ := HROW.out w2 (HB2.out.block g hgl)
    obtain ⟨u0, u1, u2, uf⟩ := hv2.cells
    have HVL : Hid ((Tr.sel a b d).val n s = if a.val n s = 0 then d.val n s else b.val n s) := rfl
    clear hb2 hv2 x0 x1 x2 x3 x4 x5 x6 x7 x8 v0 v1 v2 vf HB1 HV1
    generalize a.val n s = va at HVL ⊢
    by_cases h0 : va = 0
    · subst h0
      go_wp2_with fail
      refine (HID.out o3 k3 A3 c3 w2 ((HD.out.keep fun j hj => HB2.out.block j hj).in_ fun j hj hj2 => hj2)).mono ?_
      rintro e w3 ⟨rfl, hb3⟩
      have HB3 := Lib.hid (HB2.out.trans (hb3.mono HB2.out.size))
      clear hb3
      go_wp2_with fail
      go_ret
      exact ⟨by rw [HVL.out]; rfl, HB3.out⟩
    · have hne : (va != 0) = true := by simp [h0]
      go_wp2_with fail
      refine (HIB.out o2 k2 A2 c2 w2 ((HB.out.keep fun j hj => HB2.out.block j hj).in_ fun j hj hj2 => hj2)).mono ?_
      rintro e w3 ⟨rfl, hb3⟩
      have HB3 := Lib.hid (HB2.out.trans (hb3.mono HB2.out.size))
      clear hb3
      go_wp2_with fail
      go_ret
      exact ⟨by rw [HVL.out, if_neg h0]; rfl, HB3.out⟩
end Go.Proofs.YtfndhfekbbbliaaGreatDoor

/-
  Package expr: the contract of Check. Conditions: the text's length; the two variables of Atoi's errors hold errors.
-/
namespace Go.Proofs.YtfndhfekbbbliaaGreatDoor
open Go.RowKit Go.Shelf
set_option linter.unusedVariables false

def errV (e : Int) : Value := .iface 89 (.int .i64 e)
theorem parse_tree {s : ByteArray} {w : World} {e : Ending} {w' : World} {t : Tr} (h : ParsePost s w e w') (hp : parseT s.data.toList = .tree t) :
    ∃ o n A c, e = .returned (.tuple #[.agg (trA o n A c), .int .i64 0, .nilIface]) ∧ TrC (w.heap.size ≤ ·) w' t (trL o n A c) := by
  unfold ParsePost at h; rw [hp] at h; exact h
theorem parse_fault {s : ByteArray} {w : World} {e : Ending} {w' : World} {k : Nat} {j : Int} (h : ParsePost s w e w') (hp : parseT s.data.toList = .fault k j) :
    e = .returned (.tuple #[.agg (trA 0 0 none 0), .int .i64 k, errV j]) := by
  unfold ParsePost at h; rw [hp] at h; exact h
def atOf : Parsed → Int
  | .tree _ => 0
  | .fault k _ => k
def errOf : Parsed → Value
  | .tree _ => .nilIface
  | .fault _ j => errV j
set_option maxRecDepth 100000 in
theorem check_ok (s : ByteArray) (w : World) (hv : ErrVars w) (hsz : s.size ≤ maxLen) :
    Calls Tryz.prog 10 #[.string s] w fun e w' => e = .returned (.tuple #[.int .i64 (atOf (parseT s.data.toList)), errOf (parseT s.data.toList)]) ∧ Below w.heap.size w w' := by
  have HPR := Lib.hid (parse_reads s w hv hsz)
  clear hv
  go_enter Tryz.func10, Tryz.ntmps10
  go_wp2_with fail
  refine HPR.out.mono ?_
  clear HPR
  rintro e w1 ⟨h1, hb⟩
  have HB := Lib.hid hb
  clear hb
  cases hp : parseT s.data.toList with
  | tree t =>
    obtain ⟨o, k, A, c, rfl, ht⟩ := parse_tree h1 hp
    have HP := Lib.hid hp
    clear h1 hp ht
    unfold trA
    go_wp2_with fail
    go_ret2
    exact ⟨by rw [HP.out]; rfl, (HB.out.alloc HB.out.size _)⟩
  | fault k j =>
    have h2 := parse_fault h1 hp
    subst h2
    have HP := Lib.hid hp
    clear h1 hp
    unfold trA errV
    go_wp2_with fail
    go_ret2
    exact ⟨by rw [HP.out]; rfl, (HB.out.alloc HB.out.size _)⟩
end Go.Proofs.YtfndhfekbbbliaaGreatDoor

/-
  Expressions, plain: two in brackets with an operator between, one of two that a third one chooses, the least and the greatest of two: what they are read as. No condition: plain lemmas.
-/
namespace Go.Proofs.YtfndhfekbbbliaaGreatDoor
open Go.RowKit
set_option linter.unusedVariables false

/-- Read as t, r is left; or (where p) it is too deep. -/
def Is (p : Prop) (A : Rd) (t : Tr) (r : List UInt8) : Prop := A = .ok t r ∨ (p ∧ ∃ k, A = .bad k 4)
section
variable {p : Prop}
theorem Is.bind {A : Rd} {t t' : Tr} {r r' : List UInt8} {f : Tr → List UInt8 → Rd} (h : Is p A t r) (hf : Is p (f t r) t' r') : Is p (A.bind f) t' r' := by
  rcases h with rfl | ⟨h, k, rfl⟩
  · exact hf
  · exact .inr ⟨h, k, rfl⟩
theorem Is.deep {d k : Nat} {A : Rd} {t : Tr} {r : List UInt8} (hd : d = 20 → p) (h : d ≠ 20 → Is p A t r) : Is p (deepRd d k A) t r := by
  unfold deepRd
  by_cases e : d = 20
  · rw [if_pos e]; exact .inr ⟨hd e, k, rfl⟩
  · rw [if_neg e]; exact h e
theorem Is.want {c : UInt8} {l : List UInt8} {f : List UInt8 → Rd} {t : Tr} {r : List UInt8} (h : Is p (f l) t r) : Is p (wantRd c (c :: l) f) t r := by
  simp only [wantRd, if_true]; exact h
theorem row_one {next : List UInt8 → Rd} {ops : List UInt8} {L v : List UInt8} {t : Tr} (h : Is p (next L) t v) (hv : ∀ c r, v = c :: r → c ∉ ops) : Is p (rowRd next ops L) t v :=
  h.bind (.inl (loop_stop hv _ _))
theorem row_two {next : List UInt8 → Rd} {ops : List UInt8} {L r v : List UInt8} {c : UInt8} {t u : Tr} (h : Is p (next L) t (c :: r)) (hc : c ∈ ops) (h2 : Is p (next r) u v) (hv : ∀ c r, v = c :: r → c ∉ ops) : Is p (rowRd next ops L) (.bin c t u) v := by
  refine h.bind ?_
  simp only [List.length_cons, loopRd, if_pos hc]
  exact h2.bind (.inl (loop_stop hv _ _))
variable {W : Reads} {d : Nat}
theorem less_one {L v : List UInt8} {t : Tr} (h : Is p (oneRd W d L) t v) (hL : ∀ r, L ≠ 45 :: r) : Is p (lessRd W d L) t v := by
  cases L with
  | nil => exact h
  | cons c r => rw [less_other _ _ _ (fun e => hL r (e ▸ rfl))]; exact h
/-- What a text that stands behind begins with: nothing that goes on with a row. -/
def Past (ops : List UInt8) (v : List UInt8) : Prop := ∀ c r, v = c :: r → c ∉ ops
theorem past_nil (ops : List UInt8) : Past ops [] := fun c r h => by cases h
theorem past_cons {ops : List UInt8} {c : UInt8} {r : List UInt8} (h : c ∉ ops) : Past ops (c :: r) := fun c' r' e => by injection e with e _; subst e; exact h
theorem whole_of_add {L v : List UInt8} {t : Tr} (h : Is p (addRd W d L) t v) (hv : Past [61, 60, 62, 63] v) : Is p (wholeStep W d L) t v := by
  refine (show Is p (cmpRd W d L) t v from h.bind ?_).bind ?_
  · cases v with
    | nil => exact .inl rfl
    | cons c r =>
      have := hv c r rfl
      exact .inl (by simp only [cmpTl]; rw [if_neg (fun h => this (by simp only [List.mem_cons, List.not_mem_nil, or_false] at h ⊢; rcases h with h | h | h <;> simp [h]))])
  · cases v with
    | nil => exact .inl rfl
    | cons c r =>
      have := hv c r rfl
      exact .inl (by simp only [selRd]; rw [if_neg (fun h => this (by simp [h]))])
theorem whole_of_cmp {L r v : List UInt8} {c : UInt8} {t u : Tr} (h : Is p (addRd W d L) t (c :: r)) (hc : c ∈ ([61, 60, 62] : List UInt8)) (h2 : Is p (addRd W d r) u v) (hv : Past [63] v) : Is p (wholeStep W d L) (.bin c t u) v := by
  refine (show Is p (cmpRd W d L) (.bin c t u) v from h.bind ?_).bind ?_
  · simp only [cmpTl, if_pos hc]; exact h2.bind (.inl rfl)
  · cases v with
    | nil => exact .inl rfl
    | cons c r =>
      have := hv c r rfl
      exact .inl (by simp only [selRd]; rw [if_neg (fun h => this (by simp [h]))])
theorem whole_of_sel {L r r2 v : List UInt8} {t u s : Tr} (h : Is p (addRd W d L) t (63 :: r)) (hd : d = 20 → p) (h2 : d ≠ 20 → Is p (W (d + 1) r) u (58 :: r2)) (h3 : d ≠ 20 → Is p (W (d + 1) r2) s v) : Is p (wholeStep W d L) (.sel t u s) v := by
  refine (show Is p (cmpRd W d L) t (63 :: r) from h.bind ?_).bind ?_
  · exact .inl rfl
  · simp only [selRd, if_true]
    exact Is.deep hd fun e => (h2 e).bind (Is.want ((h3 e).bind (.inl rfl)))
end

/-! ### Of two texts that are read whole -/
/-- a is read as t, at depth d; where p, it may be too deep. -/
def Reads1 (p : Prop) (a : List UInt8) (t : Tr) : Prop := ∀ k v, a.length ≤ k → Stops v → Is p (wholeRd k 1 (a ++ v)) t v
theorem reads_any {a : List UInt8} {t : Tr} (h : wholeRd a.length 0 a = .ok t []) : Reads1 True a t := fun k v hk hv => by
  have := whole_ext (p := True) hv _ _ hk 0 1 a (by omega) (by omega) (fun _ => trivial)
  rw [h] at this
  exact this
theorem reads_sure {a : List UInt8} {t : Tr} (h : wholeRd a.length 1 a = .ok t []) : Reads1 False a t := fun k v hk hv => by
  have := whole_ext (p := False) hv _ _ hk 1 1 a (by omega) (by omega) (fun h => absurd h (by omega))
  rw [h] at this
  exact this
theorem reads_deep {a : List UInt8} {e : Nat} (h : wholeRd a.length 1 a = .bad e 4) : ∀ k v, a.length ≤ k → Stops v → ∃ j, wholeRd k 1 (a ++ v) = .bad j 4 := fun k v hk hv => by
  have := whole_ext (p := False) hv _ _ hk 1 1 a (by omega) (by omega) (fun h => absurd h (by omega))
  rw [h] at this
  exact this rfl
/-- What was read at depth 0 is read so at depth 1, or it is too deep there. -/
theorem reads_one {a : List UInt8} {t : Tr} (h : wholeRd a.length 0 a = .ok t []) : wholeRd a.length 1 a = .ok t [] ∨ ∃ e, wholeRd a.length 1 a = .bad e 4 := by
  have := reads_any h a.length [] (Nat.le_refl _) (.inl rfl)
  rw [List.append_nil] at this
  rcases this with h | ⟨_, h⟩
  · exact .inl h
  · exact .inr h
section
variable {p : Prop} {a b c : List UInt8} {t u s : Tr} {k : Nat}
theorem stop_close (v : List UInt8) : Stops (41 :: v) := .inr ⟨41, v, rfl, .inl rfl⟩
theorem stop_comma (v : List UInt8) : Stops (44 :: v) := .inr ⟨44, v, rfl, .inr (.inl rfl)⟩
/-- In brackets. -/
theorem paren_is (h : Reads1 p a t) (hk : a.length ≤ k) (v : List UInt8) : Is p (oneRd (wholeRd k) 0 (40 :: (a ++ 41 :: v))) t v :=
  Is.deep (fun e => absurd e (by decide)) fun _ => (h k (41 :: v) hk (stop_close v)).bind (Is.want (.inl rfl))
theorem less_paren (h : Reads1 p a t) (hk : a.length ≤ k) (v : List UInt8) : Is p (lessRd (wholeRd k) 0 (40 :: (a ++ 41 :: v))) t v :=
  less_one (paren_is h hk v) fun r e => by injection e with e _; exact absurd e (by decide)
theorem mul_paren (h : Reads1 p a t) (hk : a.length ≤ k) {v : List UInt8} (hv : Past [42, 47, 37] v) : Is p (mulRd (wholeRd k) 0 (40 :: (a ++ 41 :: v))) t v :=
  row_one (less_paren h hk v) hv
theorem add_paren (h : Reads1 p a t) (hk : a.length ≤ k) {v : List UInt8} (hv : Past [42, 47, 37] v) (hv2 : Past [43, 45] v) : Is p (addRd (wholeRd k) 0 (40 :: (a ++ 41 :: v))) t v :=
  row_one (mul_paren h hk hv) hv2
def joinB (op : UInt8) (a b : List UInt8) : List UInt8 := 40 :: (a ++ 41 :: op :: 40 :: (b ++ [41]))
def selB (a b c : List UInt8) : List UInt8 := 40 :: (a ++ 41 :: 63 :: 40 :: (b ++ 41 :: 58 :: 40 :: (c ++ [41])))
def minB (x y : UInt8) (a b : List UInt8) : List UInt8 := 109 :: x :: y :: 40 :: (a ++ 44 :: (b ++ [41]))
theorem join_whole (op : UInt8) (ho : op = 43 ∨ op = 42 ∨ op = 60 ∨ op = 62 ∨ op = 61) (ha : Reads1 p a t) (hb : Reads1 p b u) (hka : a.length ≤ k) (hkb : b.length ≤ k) : Is p (wholeStep (wholeRd k) 0 (joinB op a b)) (.bin op t u) [] := by
  rcases ho with rfl | rfl | ho
  · refine whole_of_add ?_ (past_nil _)
    exact row_two (mul_paren ha hka (past_cons (by decide))) (by decide) (mul_paren hb hkb (past_nil _)) (past_nil _)
  · refine whole_of_add ?_ (past_nil _)
    exact row_one (row_two (less_paren ha hka _) (by decide) (less_paren hb hkb []) (past_nil _)) (past_nil _)
  · have h1 : op ∈ ([61, 60, 62] : List UInt8) := by rcases ho with rfl | rfl | rfl <;> decide
    have h2 : op ∉ ([42, 47, 37] : List UInt8) := by rcases ho with rfl | rfl | rfl <;> decide
    have h3 : op ∉ ([43, 45] : List UInt8) := by rcases ho with rfl | rfl | rfl <;> decide
    exact whole_of_cmp (add_paren ha hka (past_cons h2) (past_cons h3)) h1 (add_paren hb hkb (past_nil _) (past_nil _)) (past_nil _)
theorem min_whole (x y : UInt8) (op : UInt8) (ho : (x = 105 ∧ y = 110 ∧ op = 109) ∨ (x = 97 ∧ y = 120 ∧ op = 77)) (ha : Reads1 p a t) (hb : Reads1 p b u) (hka : a.length ≤ k) (hkb : b.length ≤ k) : Is p (wholeStep (wholeRd k) 0 (minB x y a b)) (.bin op t u) [] := by
  have h2 : Is p (twoRd (wholeRd k) op 1 (a ++ 44 :: (b ++ [41]))) (.bin op t u) [] :=
    (ha k _ hka (stop_comma _)).bind (Is.want ((hb k [41] hkb (stop_close [])).bind (Is.want (.inl rfl))))
  have h1 : Is p (oneRd (wholeRd k) 0 (minB x y a b)) (.bin op t u) [] := by
    rcases ho with ⟨rfl, rfl, rfl⟩ | ⟨rfl, rfl, rfl⟩
    · exact Is.deep (fun e => absurd e (by decide)) fun _ => h2
    · exact Is.deep (fun e => absurd e (by decide)) fun _ => h2
  exact whole_of_add (row_one (row_one (less_one h1 fun r e => by injection e with e _; exact absurd e (by decide)) (past_nil _)) (past_nil _)) (past_nil _)
/-- The third one is at the end: nothing is behind it. -/
theorem sel_whole (ha : Reads1 p a t) (hb : Reads1 p b u) (hc : Reads1 p c s) (hb2 : ∀ v, Stops v → Is p (wholeRd k 1 (40 :: (b ++ 41 :: v))) u v) (hc2 : Is p (wholeRd k 1 (40 :: (c ++ [41]))) s []) (hka : a.length ≤ k) : Is p (wholeStep (wholeRd k) 0 (selB a b c)) (.sel t u s) [] :=
  whole_of_sel (add_paren ha hka (past_cons (by decide)) (past_cons (by decide))) (fun e => absurd e (by decide)) (fun _ => hb2 _ (.inr ⟨58, _, rfl, .inr (.inr rfl)⟩)) (fun _ => hc2)
end
/-- In brackets, at depth 1, where p holds. -/
theorem deep_paren {b : List UInt8} {u : Tr} (h : wholeRd b.length 0 b = .ok u []) {k : Nat} (hk : b.length + 1 ≤ k) (v : List UInt8) (hv : Stops v) : Is True (wholeRd k 1 (40 :: (b ++ 41 :: v))) u v := by
  obtain ⟨k2, rfl⟩ : ∃ k2, k = k2 + 1 := ⟨k - 1, by omega⟩
  have hb : Is True (wholeRd k2 2 (b ++ 41 :: v)) u (41 :: v) := by
    have := whole_ext (p := True) (stop_close v) _ _ (show b.length ≤ k2 by omega) 0 2 b (by omega) (by omega) (fun _ => trivial)
    rw [h] at this
    exact this
  have h1 : Is True (oneRd (wholeRd k2) 1 (40 :: (b ++ 41 :: v))) u v := Is.deep (fun e => absurd e (by decide)) fun _ => hb.bind (Is.want (.inl rfl))
  have hp : ∀ ops : List UInt8, 41 ∉ ops → 44 ∉ ops → 58 ∉ ops → Past ops v := fun ops h1 h2 h3 c r e => by
    rcases hv.head e with rfl | rfl | rfl
    · exact h1
    · exact h2
    · exact h3
  exact whole_of_add (row_one (row_one (less_one h1 fun r e => by injection e with e _; exact absurd e (by decide)) (hp _ (by decide) (by decide) (by decide))) (hp _ (by decide) (by decide) (by decide))) (hp _ (by decide) (by decide) (by decide))

/-! ### Texts -/
def IsTree (s : List UInt8) (t : Tr) : Prop := parseT s = .tree t ∨ ∃ k, parseT s = .fault k 4
theorem parse_ok {s : List UInt8} {t : Tr} (h : parseT s = .tree t) : s.length ≤ 120 ∧ wholeRd s.length 0 s = .ok t [] := by
  unfold parseT at h
  split at h
  · cases h
  · refine ⟨by omega, ?_⟩
    split at h
    · rename_i e; injection h with h; subst h; exact e
    · cases h
    · cases h
theorem parse_is {p : Prop} {s : List UInt8} {t : Tr} (hl : s.length ≤ 120) (h : Is p (wholeRd s.length 0 s) t []) : parseT s = .tree t ∨ (p ∧ ∃ k, parseT s = .fault k 4) := by
  unfold parseT
  rw [if_neg (by omega)]
  rcases h with h | ⟨hp, k, h⟩
  · rw [h]; exact .inl rfl
  · rw [h]; exact .inr ⟨hp, _, rfl⟩
theorem whole_succ {s : List UInt8} (h : 0 < s.length) : wholeRd s.length = wholeStep (wholeRd (s.length - 1)) := by
  obtain ⟨n, hn⟩ : ∃ n, s.length = n + 1 := ⟨s.length - 1, by omega⟩
  rw [hn]; rfl
theorem long_fault {s : List UInt8} (h : 120 < s.length) : parseT s = .fault 0 4 := by unfold parseT; rw [if_pos h]
theorem join_tree (op : UInt8) (ho : op = 43 ∨ op = 42 ∨ op = 60 ∨ op = 62 ∨ op = 61) {a b : List UInt8} {t u : Tr} (ha : parseT a = .tree t) (hb : parseT b = .tree u) : IsTree (joinB op a b) (.bin op t u) := by
  rcases Nat.lt_or_ge 120 (joinB op a b).length with hl | hl
  · exact .inr ⟨_, long_fault hl⟩
  · have hlen : (joinB op a b).length = a.length + b.length + 5 := by simp [joinB]; omega
    have h := join_whole (k := (joinB op a b).length - 1) op ho (reads_any (parse_ok ha).2) (reads_any (parse_ok hb).2) (by omega) (by omega)
    rw [← whole_succ (by omega)] at h
    rcases parse_is hl h with h | ⟨_, h⟩
    · exact .inl h
    · exact .inr h
theorem min_tree (x y : UInt8) (op : UInt8) (ho : (x = 105 ∧ y = 110 ∧ op = 109) ∨ (x = 97 ∧ y = 120 ∧ op = 77)) {a b : List UInt8} {t u : Tr} (ha : parseT a = .tree t) (hb : parseT b = .tree u) : IsTree (minB x y a b) (.bin op t u) := by
  rcases Nat.lt_or_ge 120 (minB x y a b).length with hl | hl
  · exact .inr ⟨_, long_fault hl⟩
  · have hlen : (minB x y a b).length = a.length + b.length + 6 := by simp [minB]; omega
    have h := min_whole (k := (minB x y a b).length - 1) x y op ho (reads_any (parse_ok ha).2) (reads_any (parse_ok hb).2) (by omega) (by omega)
    rw [← whole_succ (by omega)] at h
    rcases parse_is hl h with h | ⟨_, h⟩
    · exact .inl h
    · exact .inr h
theorem sel_tree {a b c : List UInt8} {t u s : Tr} (ha : parseT a = .tree t) (hb : parseT b = .tree u) (hc : parseT c = .tree s) : IsTree (selB a b c) (.sel t u s) := by
  rcases Nat.lt_or_ge 120 (selB a b c).length with hl | hl
  · exact .inr ⟨_, long_fault hl⟩
  · have hlen : (selB a b c).length = a.length + b.length + c.length + 8 := by simp [selB]; omega
    have h := sel_whole (k := (selB a b c).length - 1) (reads_any (parse_ok ha).2) (reads_any (parse_ok hb).2) (reads_any (parse_ok hc).2) (fun v hv => deep_paren (parse_ok hb).2 (by omega) v hv) (deep_paren (parse_ok hc).2 (by omega) [] (.inl rfl)) (by omega)
    rw [← whole_succ (by omega)] at h
    rcases parse_is hl h with h | ⟨_, h⟩
    · exact .inl h
    · exact .inr h

/-! ### Where one is right, all are -/
theorem sure_of_join {a b : List UInt8} {t u w : Tr} (ha : parseT a = .tree t) (hb : parseT b = .tree u) (h : parseT (joinB 43 a b) = .tree w) : wholeRd a.length 1 a = .ok t [] ∧ wholeRd b.length 1 b = .ok u [] := by
  have h1 := (parse_ok h).2
  have hlen : (joinB 43 a b).length = a.length + b.length + 5 := by simp [joinB]; omega
  rw [whole_succ (by omega)] at h1
  have hka : a.length ≤ (joinB 43 a b).length - 1 := by omega
  have hkb : b.length ≤ (joinB 43 a b).length - 1 := by omega
  generalize (joinB 43 a b).length - 1 = k at h1 hka hkb
  obtain ⟨a1, l1, h1, -⟩ := Rd.bind_ok h1
  obtain ⟨a2, l2, h2, -⟩ := Rd.bind_ok h1
  have hadd := h2
  obtain ⟨a3, l3, h3, -⟩ := Rd.bind_ok h2
  obtain ⟨a4, l4, h4, -⟩ := Rd.bind_ok h3
  have hl : lessRd (wholeRd k) 0 (joinB 43 a b) = oneRd (wholeRd k) 0 (joinB 43 a b) := less_other _ _ _ (by decide)
  rw [hl] at h4
  obtain ⟨a5, l5, h5, -⟩ := Rd.bind_ok (deep_ok h4).2
  have hA : wholeRd a.length 1 a = .ok t [] := by
    rcases reads_one (parse_ok ha).2 with hA | ⟨e, hA⟩
    · exact hA
    · obtain ⟨j, hj⟩ := reads_deep hA k _ hka (stop_close (43 :: 40 :: (b ++ [41])))
      rw [hj] at h5; cases h5
  refine ⟨hA, ?_⟩
  rcases reads_one (parse_ok hb).2 with hB | ⟨e, hB⟩
  · exact hB
  exfalso
  obtain ⟨j, hj⟩ := reads_deep hB k _ hkb (stop_close [])
  have hbad : oneRd (wholeRd k) 0 (40 :: (b ++ [41])) = .bad j 4 := by
    show deepRd 0 _ _ = _
    unfold deepRd
    rw [if_neg (by decide), hj]; rfl
  have hless : lessRd (wholeRd k) 0 (40 :: (b ++ [41])) = .bad j 4 := (less_other _ _ _ (by decide)).trans hbad
  have hmul : mulRd (wholeRd k) 0 (40 :: (b ++ [41])) = .bad j 4 := by unfold mulRd rowRd; rw [hless]; rfl
  rcases mul_paren (reads_sure hA) hka (v := 43 :: 40 :: (b ++ [41])) (past_cons (by decide)) with hm | ⟨hm, _⟩
  · have : addRd (wholeRd k) 0 (joinB 43 a b) = .bad j 4 := by
      show (mulRd (wholeRd k) 0 (joinB 43 a b)).bind _ = _
      rw [show mulRd (wholeRd k) 0 (joinB 43 a b) = _ from hm]
      simp only [Rd.bind, List.length_cons, loopRd]
      rw [if_pos (by decide), hmul]
    rw [this] at hadd; cases hadd
  · exact hm
section
variable {a b : List UInt8} {t u : Tr} (hA : wholeRd a.length 1 a = .ok t []) (hB : wholeRd b.length 1 b = .ok u [])
include hA hB
theorem join_sure (op : UInt8) (ho : op = 43 ∨ op = 42 ∨ op = 60 ∨ op = 62 ∨ op = 61) (hl : a.length + b.length + 5 ≤ 120) : parseT (joinB op a b) = .tree (.bin op t u) := by
  have hlen : (joinB op a b).length = a.length + b.length + 5 := by simp [joinB]; omega
  have h := join_whole (k := (joinB op a b).length - 1) op ho (reads_sure hA) (reads_sure hB) (by omega) (by omega)
  rw [← whole_succ (by omega)] at h
  rcases parse_is (by omega) h with h | ⟨h, _⟩
  · exact h
  · exact absurd h id
theorem min_sure (x y : UInt8) (op : UInt8) (ho : (x = 105 ∧ y = 110 ∧ op = 109) ∨ (x = 97 ∧ y = 120 ∧ op = 77)) (hl : a.length + b.length + 6 ≤ 120) : parseT (minB x y a b) = .tree (.bin op t u) := by
  have hlen : (minB x y a b).length = a.length + b.length + 6 := by simp [minB]; omega
  have h := min_whole (k := (minB x y a b).length - 1) x y op ho (reads_sure hA) (reads_sure hB) (by omega) (by omega)
  rw [← whole_succ (by omega)] at h
  rcases parse_is (by omega) h with h | ⟨h, _⟩
  · exact h
  · exact absurd h id
end
theorem join_len {op : UInt8} {a b : List UInt8} {w : Tr} (h : parseT (joinB op a b) = .tree w) : a.length + b.length + 5 ≤ 120 := by
  have := (parse_ok h).1
  have hlen : (joinB op a b).length = a.length + b.length + 5 := by simp [joinB]; omega
  omega
theorem min_len {x y : UInt8} {a b : List UInt8} {w : Tr} (h : parseT (minB x y a b) = .tree w) : a.length + b.length + 6 ≤ 120 := by
  have := (parse_ok h).1
  have hlen : (minB x y a b).length = a.length + b.length + 6 := by simp [minB]; omega
  omega
end Go.Proofs.YtfndhfekbbbliaaGreatDoor

/-
  Expressions, plain: a tree's text is read as that tree. Conditions: its numbers and operators are some, its depth is at most 20, its text is short enough.
-/
namespace Go.Proofs.YtfndhfekbbbliaaGreatDoor
open Go.RowKit
set_option linter.unusedVariables false

/-- What stands behind does not go on with what is so tight. -/
def PastL (L : Nat) (v : List UInt8) : Prop := ∀ c r, v = c :: r → isDig c = false ∧ (L ≤ 3 → c ∉ ([42, 47, 37] : List UInt8)) ∧ (L ≤ 2 → c ∉ ([43, 45] : List UInt8)) ∧ (L ≤ 1 → c ∉ ([61, 60, 62] : List UInt8)) ∧ (L ≤ 0 → c ≠ 63)
theorem pastL_nil (L : Nat) : PastL L [] := fun c r h => by cases h
theorem pastL_cons {L : Nat} {c : UInt8} (r : List UInt8) (h : isDig c = false ∧ (L ≤ 3 → c ∉ ([42, 47, 37] : List UInt8)) ∧ (L ≤ 2 → c ∉ ([43, 45] : List UInt8)) ∧ (L ≤ 1 → c ∉ ([61, 60, 62] : List UInt8)) ∧ (L ≤ 0 → c ≠ 63)) : PastL L (c :: r) := fun c' r' e => by injection e with e _; subst e; exact h
theorem PastL.up {L M : Nat} {v : List UInt8} (h : PastL L v) (hL : L ≤ M) : PastL M v := fun c r e => by
  obtain ⟨h1, h2, h3, h4, h5⟩ := h c r e
  exact ⟨h1, fun x => h2 (by omega), fun x => h3 (by omega), fun x => h4 (by omega), fun x => h5 (by omega)⟩
/-- The reader of each level. -/
def lvl (W : Reads) : Nat → Reads
  | 0 => wholeStep W
  | 1 => cmpRd W
  | 2 => addRd W
  | 3 => mulRd W
  | 4 => lessRd W
  | _ => oneRd W
theorem lift_one {W : Reads} {L d : Nat} {x v : List UInt8} {t : Tr} (hL : L < 5) (h : lvl W (L + 1) d x = .ok t v) (hv : PastL L v) : lvl W L d x = .ok t v := by
  match L, hL with
  | 4, _ =>
    cases x with
    | nil => exact h
    | cons c r =>
      show lessRd W d (c :: r) = _
      rw [less_other]
      · exact h
      · rintro rfl
        have h : oneRd W d (45 :: r) = .ok t v := h
        have : oneRd W d (45 :: r) = numRd (45 :: r) := by
          unfold oneRd
          split
          · rename_i e; injection e with e _; exact absurd e (by decide)
          · rename_i e; injection e with e _; exact absurd e (by decide)
          · rename_i e; injection e with e _; exact absurd e (by decide)
          · rename_i e; injection e with e _; exact absurd e (by decide)
          · rename_i e; injection e with e _; exact absurd e (by decide)
          · rfl
        rw [this] at h
        obtain ⟨c, r2, e, hc⟩ := num_head (num_ok h).1
        injection e with e _; subst e; exact absurd hc (by decide)
  | 3, _ =>
    have h : lessRd W d x = .ok t v := h
    show (lessRd W d x).bind _ = _
    rw [h]
    exact loop_stop (fun c r e => (hv c r e).2.1 (by omega)) _ _
  | 2, _ =>
    have h : mulRd W d x = .ok t v := h
    show (mulRd W d x).bind _ = _
    rw [h]
    exact loop_stop (fun c r e => (hv c r e).2.2.1 (by omega)) _ _
  | 1, _ =>
    have h : addRd W d x = .ok t v := h
    show (addRd W d x).bind _ = _
    rw [h]
    cases v with
    | nil => rfl
    | cons c r =>
      show cmpTl W d t (c :: r) = _
      simp only [cmpTl, if_neg ((hv c r rfl).2.2.2.1 (by omega))]
  | 0, _ =>
    have h : cmpRd W d x = .ok t v := h
    show (cmpRd W d x).bind _ = _
    rw [h]
    cases v with
    | nil => rfl
    | cons c r =>
      show selRd W d t (c :: r) = _
      simp only [selRd, if_neg ((hv c r rfl).2.2.2.2 (by omega))]
theorem lift {W : Reads} {L M d : Nat} {x v : List UInt8} {t : Tr} (hLM : L ≤ M) (hM : M ≤ 5) (h : lvl W M d x = .ok t v) (hv : PastL L v) : lvl W L d x = .ok t v := by
  obtain ⟨n, rfl⟩ : ∃ n, M = L + n := ⟨M - L, by omega⟩
  induction n with
  | zero => exact h
  | succ n ih => exact ih (by omega) (by omega) (lift_one (L := L + n) (by omega) h (hv.up (by omega)))

/-! ### The loop, whatever its fuel -/
theorem loop_fuel {next : List UInt8 → Rd} {ops : List UInt8} (hn : Short next) : ∀ k k' a l, l.length ≤ k → l.length ≤ k' → loopRd next ops k a l = loopRd next ops k' a l := by
  intro k
  induction k with
  | zero =>
    intro k' a l h1 h2
    obtain rfl := List.eq_nil_of_length_eq_zero (Nat.le_zero.1 h1)
    cases k' <;> rfl
  | succ k ih =>
    intro k' a l h1 h2
    cases l with
    | nil => cases k' <;> rfl
    | cons c r =>
      obtain ⟨k2, rfl⟩ : ∃ k2, k' = k2 + 1 := ⟨k' - 1, by simp only [List.length_cons] at h2; omega⟩
      simp only [loopRd, List.length_cons] at h1 h2 ⊢
      split
      · cases h : next r with
        | ok b l1 =>
          have := hn _ _ _ h
          exact ih k2 _ l1 (by omega) (by omega)
        | bad k e => rfl
      · rfl

/-! ### Texts are read back -/
/-- t's text, where it has to be L tight, is read at level L as t. -/
def BackL (t : Tr) (L : Nat) : Prop := ∀ k d v, (t.at_ L).length + v.length ≤ k + 1 → d + t.needs L ≤ 20 → PastL L v → lvl (wholeRd k) L d (t.at_ L ++ v) = .ok t v
/-- t's text, where it goes on: at the levels of rows. -/
def BackR (t : Tr) (L : Nat) (next : Nat → Reads) (ops : List UInt8) : Prop := ∀ k d v, (t.at_ L).length + v.length ≤ k + 1 → d + t.needs L ≤ 20 → PastL (L + 1) v → rowRd (next k d) ops (t.at_ L ++ v) = loopRd (next k d) ops v.length t v
structure Back (t : Tr) : Prop where
  all : ∀ L, L ≤ 5 → BackL t L
  mul : BackR t 3 (fun k => lessRd (wholeRd k)) [42, 47, 37]
  add : BackR t 2 (fun k => mulRd (wholeRd k)) [43, 45]
theorem at_pos (t : Tr) : 0 < t.raw.length := by
  cases t with
  | num k =>
    show 0 < (Lib.itoa k).length
    unfold Lib.itoa
    split
    · simp
    · rw [Lib.decDigits_length]; exact Lib.nDigits_pos _
  | nam n => cases n <;> simp [Tr.raw]
  | neg a => simp [Tr.raw]
  | bin op a b => simp only [Tr.raw]; split <;> (try split) <;> simp <;> omega
  | sel a b c => simp [Tr.raw]; omega
theorem at_pos' (t : Tr) (L : Nat) : 0 < (t.at_ L).length := by have := at_pos t; rw [at_length]; omega
/-- A reader of whole expressions, of strictly less. -/
theorem whole_of {k d : Nat} {x v : List UInt8} {t : Tr} (hx : 0 < x.length) (hk : x.length ≤ k) (h : ∀ k2, k = k2 + 1 → lvl (wholeRd k2) 0 d x = .ok t v) : wholeRd k d x = .ok t v := by
  obtain ⟨k2, rfl⟩ : ∃ k2, k = k2 + 1 := ⟨k - 1, by omega⟩
  exact h k2 rfl
/-- From the text itself to all levels. -/
theorem back_all {t : Tr} (h : ∀ k d v, t.raw.length + v.length ≤ k + 1 → d + t.need ≤ 20 → PastL t.tight v → lvl (wholeRd k) t.tight d (t.raw ++ v) = .ok t v) (ht : t.tight ≤ 5) : ∀ L, L ≤ 5 → BackL t L := by
  intro L hL k d v hlen hd hv
  by_cases hb : t.tight < L
  · have e1 : t.at_ L = 40 :: (t.raw ++ [41]) := by unfold Tr.at_; rw [decide_eq_true hb]; rfl
    have e2 : t.needs L = t.need + 1 := by unfold Tr.needs; rw [if_pos hb]
    rw [e1] at hlen ⊢
    rw [e2] at hd
    have hstop : ∀ M, PastL M (41 :: v) := fun M => pastL_cons v ⟨by decide, fun _ => by decide, fun _ => by decide, fun _ => by decide, fun _ => by decide⟩
    have hW : wholeRd k (d + 1) (t.raw ++ 41 :: v) = .ok t (41 :: v) := by
      simp only [List.length_append, List.length_cons, List.length_nil] at hlen
      refine whole_of (by have := at_pos t; rw [List.length_append]; omega) (by simp only [List.length_append, List.length_cons]; omega) fun k2 hk2 => ?_
      exact lift (Nat.zero_le _) ht (h k2 (d + 1) (41 :: v) (by simp only [List.length_cons]; omega) (by omega) (hstop _)) (hstop _)
    have h5 : lvl (wholeRd k) 5 d (40 :: (t.raw ++ [41]) ++ v) = .ok t v := by
      show oneRd (wholeRd k) d (40 :: ((t.raw ++ [41]) ++ v)) = _
      rw [List.append_assoc]
      show deepRd d _ _ = _
      unfold deepRd
      rw [if_neg (by omega), List.singleton_append, hW]
      simp [Rd.bind, wantRd]
    exact lift hL (Nat.le_refl _) h5 hv
  · obtain ⟨e1, e2⟩ := at_of_tight (t := t) (L := L) (by omega)
    rw [e1] at hlen ⊢
    rw [e2] at hd
    exact lift (by omega) ht (h k d v hlen hd (hv.up (by omega))) hv
/-- A row's text where it begins no row of its own. -/
theorem back_row {t : Tr} {L : Nat} (hL : L = 2 ∨ L = 3) (h : BackL t (L + 1)) (ht : t.at_ L = t.at_ (L + 1)) (ht2 : t.needs L = t.needs (L + 1)) (ops : List UInt8) : BackR t L (fun k => lvl (wholeRd k) (L + 1)) ops := by
  intro k d v hlen hd hv
  rw [ht] at hlen ⊢
  rw [ht2] at hd
  show (lvl (wholeRd k) (L + 1) d _).bind _ = _
  rw [h k d v hlen hd hv]
  rfl
theorem at_same {t : Tr} {L : Nat} (h : t.tight ≠ L) : t.at_ L = t.at_ (L + 1) ∧ t.needs L = t.needs (L + 1) := by
  unfold Tr.at_ Tr.needs
  by_cases h1 : t.tight < L
  · rw [decide_eq_true h1, decide_eq_true (show t.tight < L + 1 by omega), if_pos h1, if_pos (show t.tight < L + 1 by omega)]; exact ⟨rfl, rfl⟩
  · rw [decide_eq_false h1, decide_eq_false (show ¬ t.tight < L + 1 by omega), if_neg h1, if_neg (show ¬ t.tight < L + 1 by omega)]; exact ⟨rfl, rfl⟩
theorem back_of {t : Tr} (ht : t.tight ≤ 5) (h2 : t.tight ≠ 2) (h3 : t.tight ≠ 3) (h : ∀ k d v, t.raw.length + v.length ≤ k + 1 → d + t.need ≤ 20 → PastL t.tight v → lvl (wholeRd k) t.tight d (t.raw ++ v) = .ok t v) : Back t := by
  have ha := back_all h ht
  exact ⟨ha, back_row (.inr rfl) (ha 4 (by omega)) (at_same h3).1 (at_same h3).2 _, back_row (.inl rfl) (ha 3 (by omega)) (at_same h2).1 (at_same h2).2 _⟩

theorem isDig_no {c : UInt8} (h : c.toNat < 48 ∨ 57 < c.toNat) : isDig c = false := by
  unfold isDig
  rcases h with h | h
  · rw [decide_eq_false (by omega)]; rfl
  · rw [Bool.and_eq_false_iff]; right; exact decide_eq_false (by omega)
theorem digs_past {ds v : List UInt8} (h : ∀ c ∈ ds, isDig c = true) (hv : ∀ c r, v = c :: r → isDig c = false) : digsOf (ds ++ v) = ds := by
  induction ds with
  | nil =>
    cases v with
    | nil => rfl
    | cons c r => simp [digsOf, hv c r rfl]
  | cons c r ih =>
    unfold digsOf at ih ⊢
    rw [List.cons_append, List.takeWhile_cons, h c List.mem_cons_self, if_pos rfl, ih fun c hc => h c (List.mem_cons_of_mem _ hc)]
theorem num_back {k : Int} (h1 : 0 ≤ k) (h2 : k ≤ 9223372036854775807) {v : List UInt8} (hv : ∀ c r, v = c :: r → isDig c = false) : numRd (Lib.itoa k ++ v) = .ok (.num k) v := by
  obtain ⟨n, rfl⟩ := Int.eq_ofNat_of_zero_le h1
  rw [itoa_nat_]
  have hd : digsOf (Lib.decDigits n ++ v) = Lib.decDigits n := digs_past (dec_digs n) hv
  have hn : numOf (Lib.decDigits n ++ v) = Lib.decDigits n := by
    unfold numOf
    rw [hd]
    split
    · rename_i c d r e
      rw [if_neg]
      · exact e.symm
      · rintro rfl
        rcases Nat.eq_zero_or_pos n with rfl | hn
        · rw [dec_small (by decide)] at e; injection e with _ e; cases e
        · obtain ⟨c, r2, e2, hc⟩ := dec_head n hn
          rw [e] at e2; injection e2 with e2 _; exact hc e2.symm
    · rfl
  unfold numRd
  rw [hn, dec_val]
  have hne : Lib.decDigits n ≠ [] := fun e => by
    have := Lib.decDigits_length n
    rw [e] at this
    have := Lib.nDigits_pos n
    simp at *; omega
  rw [if_neg (by rintro (h | h); exact hne h; omega), List.drop_append_of_le_length (Nat.le_refl _), List.drop_length]
  rfl
theorem min_back {x y op : UInt8} (ho : (x = 105 ∧ y = 110 ∧ op = 109) ∨ (x = 97 ∧ y = 120 ∧ op = 77)) {a b : Tr} (ha : BackL a 0) (hb : BackL b 0) {k d : Nat} {v : List UInt8} (hlen : a.raw.length + b.raw.length + 6 + v.length ≤ k + 1) (hd : d + (1 + max a.need b.need) ≤ 20) :
    oneRd (wholeRd k) d ((109 :: x :: y :: 40 :: (a.raw ++ 44 :: (b.raw ++ [41]))) ++ v) = .ok (.bin op a b) v := by
  have e : (109 :: x :: y :: 40 :: (a.raw ++ 44 :: (b.raw ++ [41]))) ++ v = 109 :: x :: y :: 40 :: (a.raw ++ 44 :: (b.raw ++ 41 :: v)) := by simp
  have h1 : wholeRd k (d + 1) (a.raw ++ 44 :: (b.raw ++ 41 :: v)) = .ok a (44 :: (b.raw ++ 41 :: v)) := by
    refine whole_of (by have := at_pos a; rw [List.length_append]; omega) (by simp only [List.length_append, List.length_cons]; omega) fun k2 hk2 => ?_
    have := ha k2 (d + 1) (44 :: (b.raw ++ 41 :: v)) (by rw [at_zero]; simp only [List.length_append, List.length_cons]; omega) (by rw [needs_zero]; omega) (pastL_cons _ ⟨by decide, fun _ => by decide, fun _ => by decide, fun _ => by decide, fun _ => by decide⟩)
    rw [at_zero] at this; exact this
  have h2 : wholeRd k (d + 1) (b.raw ++ 41 :: v) = .ok b (41 :: v) := by
    refine whole_of (by have := at_pos b; rw [List.length_append]; omega) (by simp only [List.length_append, List.length_cons]; omega) fun k2 hk2 => ?_
    have := hb k2 (d + 1) (41 :: v) (by rw [at_zero]; simp only [List.length_cons]; omega) (by rw [needs_zero]; omega) (pastL_cons _ ⟨by decide, fun _ => by decide, fun _ => by decide, fun _ => by decide, fun _ => by decide⟩)
    rw [at_zero] at this; exact this
  have h3 : ∀ op, twoRd (wholeRd k) op (d + 1) (a.raw ++ 44 :: (b.raw ++ 41 :: v)) = .ok (.bin op a b) v := fun op => by
    unfold twoRd
    rw [h1]
    simp only [Rd.bind, wantRd, if_true, h2]
  rw [e]
  rcases ho with ⟨rfl, rfl, rfl⟩ | ⟨rfl, rfl, rfl⟩
  · show deepRd d _ _ = _
    unfold deepRd
    rw [if_neg (by omega)]; exact h3 _
  · show deepRd d _ _ = _
    unfold deepRd
    rw [if_neg (by omega)]; exact h3 _
/-- An operator of a row: its text goes on. -/
theorem bin_row {L : Nat} {ops : List UInt8} (hL : L = 2 ∨ L = 3) {op : UInt8} (ho : op ∈ ops) (hpast : ∀ r, PastL (L + 1) (op :: r)) {a b : Tr} (hS : ∀ k d, Short (lvl (wholeRd k) (L + 1) d)) (ha : BackR a L (fun k => lvl (wholeRd k) (L + 1)) ops) (hb : BackL b (L + 1)) {k d : Nat} {v : List UInt8}
    (hlen : (a.at_ L).length + (1 + (b.at_ (L + 1)).length) + v.length ≤ k + 1) (hd1 : d + a.needs L ≤ 20) (hd2 : d + b.needs (L + 1) ≤ 20) (hv : PastL (L + 1) v) :
    rowRd (lvl (wholeRd k) (L + 1) d) ops ((a.at_ L ++ op :: b.at_ (L + 1)) ++ v) = loopRd (lvl (wholeRd k) (L + 1) d) ops v.length (.bin op a b) v := by
  have e : (a.at_ L ++ op :: b.at_ (L + 1)) ++ v = a.at_ L ++ (op :: (b.at_ (L + 1) ++ v)) := by simp
  rw [e, ha k d (op :: (b.at_ (L + 1) ++ v)) (by simp only [List.length_cons, List.length_append]; omega) hd1 (hpast _)]
  simp only [List.length_cons, loopRd, if_pos ho]
  rw [hb k d v (by omega) hd2 hv]
  exact loop_fuel (hS k d) _ _ _ _ (by rw [List.length_append]; omega) (Nat.le_refl _)
theorem bin_parts {op : UInt8} {a b : Tr} (h1 : op ≠ 109) (h2 : op ≠ 77) : (Tr.bin op a b).raw = a.at_ (leftOf (tightOp op)) ++ op :: b.at_ (tightOp op + 1) ∧ (Tr.bin op a b).need = max (a.needs (leftOf (tightOp op))) (b.needs (tightOp op + 1)) := by
  refine ⟨?_, ?_⟩
  · simp only [Tr.raw, if_neg h1, if_neg h2]; rfl
  · simp only [Tr.need, if_neg (show ¬ (op = 109 ∨ op = 77) from fun h => h.elim h1 h2)]; rfl
theorem row_back {L : Nat} {ops : List UInt8} (hL : L = 2 ∨ L = 3) {op : UInt8} {a b : Tr} (ht : tightOp op = L) (hraw : (Tr.bin op a b).raw = a.at_ L ++ op :: b.at_ (L + 1)) (hneed : (Tr.bin op a b).need = max (a.needs L) (b.needs (L + 1)))
    (hlv : ∀ k d x, lvl (wholeRd k) L d x = rowRd (lvl (wholeRd k) (L + 1) d) ops x) (hstop : ∀ v, PastL L v → ∀ c r, v = c :: r → c ∉ ops)
    (hrow : ∀ k d v, (a.at_ L).length + (1 + (b.at_ (L + 1)).length) + v.length ≤ k + 1 → d + a.needs L ≤ 20 → d + b.needs (L + 1) ≤ 20 → PastL (L + 1) v → rowRd (lvl (wholeRd k) (L + 1) d) ops ((a.at_ L ++ op :: b.at_ (L + 1)) ++ v) = loopRd (lvl (wholeRd k) (L + 1) d) ops v.length (.bin op a b) v) :
    (∀ M, M ≤ 5 → BackL (.bin op a b) M) ∧ BackR (.bin op a b) L (fun k => lvl (wholeRd k) (L + 1)) ops := by
  have htt : (Tr.bin op a b).tight = L := ht
  obtain ⟨e1, e2⟩ := at_of_tight (t := .bin op a b) (L := L) (by rw [htt]; exact Nat.le_refl _)
  refine ⟨back_all (fun k d v hlen hd hv => ?_) (by rw [htt]; omega), fun k d v hlen hd hv => ?_⟩
  · rw [htt] at hv ⊢
    rw [hraw] at hlen ⊢
    rw [hneed] at hd
    rw [hlv, hrow k d v (by simp only [List.length_append, List.length_cons] at hlen; omega) (by omega) (by omega) (hv.up (by omega))]
    exact loop_stop (hstop v hv) _ _
  · rw [e1, hraw] at hlen ⊢
    rw [e2, hneed] at hd
    exact hrow k d v (by simp only [List.length_append, List.length_cons] at hlen; omega) (by omega) (by omega) hv
theorem back (t : Tr) (hf : t.fine) : Back t := by
  induction t with
  | num k =>
    refine back_of (Nat.le_refl _) (show (5 : Nat) ≠ 2 by omega) (show (5 : Nat) ≠ 3 by omega) fun k' d v hlen hd hv => ?_
    show oneRd _ d (Lib.itoa k ++ v) = _
    have hn : numRd (Lib.itoa k ++ v) = .ok (.num k) v := num_back hf.1 hf.2 fun c r e => (hv c r e).1
    obtain ⟨c, r, e, hc⟩ := num_head (num_ok hn).1
    rw [← hn, e]
    exact one_dig _ _ _ hc
  | nam n =>
    refine back_of (Nat.le_refl _) (show (5 : Nat) ≠ 2 by omega) (show (5 : Nat) ≠ 3 by omega) fun k' d v hlen hd hv => ?_
    cases n <;> rfl
  | neg a ih =>
    have ha := (ih hf).all 4 (by omega)
    refine back_of (show 4 ≤ 5 by omega) (show (4 : Nat) ≠ 2 by omega) (show (4 : Nat) ≠ 3 by omega) fun k d v hlen hd hv => ?_
    have e1 : (Tr.neg a).raw = 45 :: a.at_ 4 := rfl
    have e2 : (Tr.neg a).need = 1 + a.needs 4 := rfl
    rw [e1] at hlen ⊢
    rw [e2] at hd
    show lessRd _ d (45 :: (a.at_ 4 ++ v)) = _
    rw [less_minus]
    unfold deepRd
    rw [if_neg (by omega)]
    have h : lessRd (wholeRd k) (d + 1) (a.at_ 4 ++ v) = .ok a v := ha k (d + 1) v (by simp only [List.length_cons] at hlen; omega) (by omega) hv
    rw [h]; rfl
  | sel a b c iha ihb ihc =>
    obtain ⟨hfa, hfb, hfc⟩ := hf
    refine back_of (Nat.zero_le _) (show (0 : Nat) ≠ 2 by omega) (show (0 : Nat) ≠ 3 by omega) fun k d v hlen hd hv => ?_
    have e1 : (Tr.sel a b c).raw = a.at_ 1 ++ 63 :: (b.raw ++ 58 :: c.raw) := rfl
    have e2 : (Tr.sel a b c).need = max (a.needs 1) (max (1 + b.need) (1 + c.need)) := rfl
    rw [e1] at hlen ⊢
    rw [e2] at hd
    simp only [List.length_append, List.length_cons] at hlen
    have e3 : a.at_ 1 ++ 63 :: (b.raw ++ 58 :: c.raw) ++ v = a.at_ 1 ++ 63 :: (b.raw ++ 58 :: (c.raw ++ v)) := by simp
    have h1 : cmpRd (wholeRd k) d (a.at_ 1 ++ 63 :: (b.raw ++ 58 :: (c.raw ++ v))) = .ok a (63 :: (b.raw ++ 58 :: (c.raw ++ v))) :=
      (iha hfa).all 1 (by omega) k d _ (by simp only [List.length_append, List.length_cons]; omega) (by omega) (pastL_cons _ ⟨by decide, fun _ => by decide, fun _ => by decide, fun _ => by decide, fun h => absurd h (by omega)⟩)
    have h2 : wholeRd k (d + 1) (b.raw ++ 58 :: (c.raw ++ v)) = .ok b (58 :: (c.raw ++ v)) := by
      refine whole_of (by have := at_pos b; rw [List.length_append]; omega) (by simp only [List.length_append, List.length_cons]; omega) fun k2 hk2 => ?_
      have := (ihb hfb).all 0 (by omega) k2 (d + 1) (58 :: (c.raw ++ v)) (by rw [at_zero]; simp only [List.length_append, List.length_cons]; omega) (by rw [needs_zero]; omega) (pastL_cons _ ⟨by decide, fun _ => by decide, fun _ => by decide, fun _ => by decide, fun _ => by decide⟩)
      rw [at_zero] at this; exact this
    have h3 : wholeRd k (d + 1) (c.raw ++ v) = .ok c v := by
      refine whole_of (by have := at_pos c; rw [List.length_append]; omega) (by simp only [List.length_append]; omega) fun k2 hk2 => ?_
      have := (ihc hfc).all 0 (by omega) k2 (d + 1) v (by rw [at_zero]; omega) (by rw [needs_zero]; omega) hv
      rw [at_zero] at this; exact this
    rw [e3]
    show (cmpRd _ d _).bind _ = _
    rw [h1]
    show selRd _ d a (63 :: _) = _
    simp only [selRd, if_true]
    unfold deepRd
    rw [if_neg (by omega), h2]
    simp only [Rd.bind, wantRd, if_true, h3]
  | bin op a b iha ihb =>
    obtain ⟨ho, hfa, hfb⟩ := hf
    have ha := iha hfa
    have hb := ihb hfb
    have ho' : op = 109 ∨ op = 77 ∨ (op = 61 ∨ op = 60 ∨ op = 62) ∨ (op = 43 ∨ op = 45) ∨ (op = 42 ∨ op = 47 ∨ op = 37) := by
      simp only [isOp, Bool.or_eq_true, beq_iff_eq] at ho
      rcases ho with ((((((((h | h) | h) | h) | h) | h) | h) | h) | h) | h <;> simp [h]
    rcases ho' with rfl | rfl | ho | ho | ho
    · refine back_of (Nat.le_refl _) (show (5 : Nat) ≠ 2 by omega) (show (5 : Nat) ≠ 3 by omega) fun k d v hlen hd hv => ?_
      exact min_back (.inl ⟨rfl, rfl, rfl⟩) (ha.all 0 (by omega)) (hb.all 0 (by omega)) (by simp only [Tr.raw, if_true, List.length_append, List.length_cons, List.length_nil] at hlen; omega) hd
    · refine back_of (Nat.le_refl _) (show (5 : Nat) ≠ 2 by omega) (show (5 : Nat) ≠ 3 by omega) fun k d v hlen hd hv => ?_
      exact min_back (.inr ⟨rfl, rfl, rfl⟩) (ha.all 0 (by omega)) (hb.all 0 (by omega)) (by have e := (min_len_ 77 (.inr rfl) a b).1; rw [e] at hlen; omega) hd
    · have hk : tightOp op = 1 ∧ op ≠ 109 ∧ op ≠ 77 := by rcases ho with rfl | rfl | rfl <;> decide
      obtain ⟨hk, n1, n2⟩ := hk
      obtain ⟨p1, p2⟩ := bin_parts (a := a) (b := b) n1 n2
      rw [hk] at p1 p2
      have htt : (Tr.bin op a b).tight = 1 := hk
      refine back_of (by rw [htt]; omega) (by rw [htt]; omega) (by rw [htt]; omega) fun k d v hlen hd hv => ?_
      rw [htt] at hv ⊢
      have q1 : (Tr.bin op a b).raw = a.at_ 2 ++ op :: b.at_ 2 := p1
      have q2 : (Tr.bin op a b).need = max (a.needs 2) (b.needs 2) := p2
      rw [q1] at hlen ⊢
      rw [q2] at hd
      simp only [List.length_append, List.length_cons] at hlen
      have e3 : a.at_ 2 ++ op :: b.at_ 2 ++ v = a.at_ 2 ++ op :: (b.at_ 2 ++ v) := by simp
      have h1 : addRd (wholeRd k) d (a.at_ 2 ++ op :: (b.at_ 2 ++ v)) = .ok a (op :: (b.at_ 2 ++ v)) :=
        ha.all 2 (by omega) k d _ (by simp only [List.length_append, List.length_cons]; omega) (by omega) (pastL_cons _ (by rcases ho with rfl | rfl | rfl <;> exact ⟨by decide, fun _ => by decide, fun _ => by decide, fun h => absurd h (by omega), fun h => absurd h (by omega)⟩))
      have h2 : addRd (wholeRd k) d (b.at_ 2 ++ v) = .ok b v := hb.all 2 (by omega) k d v (by omega) (by omega) (hv.up (by omega))
      rw [e3]
      show (addRd _ d _).bind _ = _
      rw [h1]
      show cmpTl _ d a (op :: _) = _
      have hm : op ∈ ([61, 60, 62] : List UInt8) := by rcases ho with rfl | rfl | rfl <;> decide
      simp only [cmpTl, if_pos hm, h2, Rd.bind]
    · have hk : tightOp op = 2 ∧ op ≠ 109 ∧ op ≠ 77 := by rcases ho with rfl | rfl <;> decide
      obtain ⟨hk, n1, n2⟩ := hk
      obtain ⟨p1, p2⟩ := bin_parts (a := a) (b := b) n1 n2
      rw [hk] at p1 p2
      have hm : op ∈ ([43, 45] : List UInt8) := by rcases ho with rfl | rfl <;> decide
      have hp : ∀ r, PastL 3 (op :: r) := fun r => pastL_cons _ (by rcases ho with rfl | rfl <;> exact ⟨by decide, fun _ => by decide, fun h => absurd h (by omega), fun h => absurd h (by omega), fun h => absurd h (by omega)⟩)
      obtain ⟨r1, r2⟩ := row_back (ops := [43, 45]) (.inl rfl) hk p1 p2 (fun k d x => rfl) (fun v hv c r e => (hv c r e).2.2.1 (by omega)) (fun k d v g1 g2 g3 g4 => bin_row (.inl rfl) hm hp (fun k d => row_short (less_short (whole_short k) d) _) ha.add (hb.all 3 (by omega)) g1 g2 g3 g4)
      have htt : (Tr.bin op a b).tight = 2 := hk
      exact ⟨r1, back_row (.inr rfl) (r1 4 (by omega)) (at_same (by rw [htt]; omega)).1 (at_same (by rw [htt]; omega)).2 _, r2⟩
    · have hk : tightOp op = 3 ∧ op ≠ 109 ∧ op ≠ 77 := by rcases ho with rfl | rfl | rfl <;> decide
      obtain ⟨hk, n1, n2⟩ := hk
      obtain ⟨p1, p2⟩ := bin_parts (a := a) (b := b) n1 n2
      rw [hk] at p1 p2
      have hm : op ∈ ([42, 47, 37] : List UInt8) := by rcases ho with rfl | rfl | rfl <;> decide
      have hp : ∀ r, PastL 4 (op :: r) := fun r => pastL_cons _ (by rcases ho with rfl | rfl | rfl <;> exact ⟨by decide, fun h => absurd h (by omega), fun h => absurd h (by omega), fun h => absurd h (by omega), fun h => absurd h (by omega)⟩)
      obtain ⟨r1, r2⟩ := row_back (ops := [42, 47, 37]) (.inr rfl) hk p1 p2 (fun k d x => rfl) (fun v hv c r e => (hv c r e).2.1 (by omega)) (fun k d v g1 g2 g3 g4 => bin_row (.inr rfl) hm hp (fun k d => less_short (whole_short k) d) ha.mul (hb.all 4 (by omega)) g1 g2 g3 g4)
      have htt : (Tr.bin op a b).tight = 3 := hk
      exact ⟨r1, r2, back_row (.inl rfl) (r1 3 (by omega)) (at_same (by rw [htt]; omega)).1 (at_same (by rw [htt]; omega)).2 _⟩

/-- What is printed is read as it was, and is no longer. -/
theorem print_back {s : List UInt8} {t : Tr} (h : parseT s = .tree t) : parseT t.raw = .tree t ∧ t.raw.length ≤ s.length ∧ t.fine := by
  obtain ⟨hl, h⟩ := parse_ok h
  obtain ⟨hf, h1, h2⟩ := whole_fits _ _ _ _ _ (by omega) h
  rw [at_zero] at h1
  rw [needs_zero] at h2
  have hlen : t.raw.length ≤ s.length := by simpa using h1
  refine ⟨?_, hlen, hf⟩
  unfold parseT
  rw [if_neg (by omega)]
  have hp := at_pos t
  rw [whole_succ hp]
  have hb := (back t hf).all 0 (by omega) (t.raw.length - 1) 0 [] (by rw [at_zero]; simp; omega) (by rw [needs_zero]; omega) (pastL_nil 0)
  rw [at_zero, List.append_nil] at hb
  rw [show wholeStep (wholeRd (t.raw.length - 1)) 0 t.raw = _ from hb]
end Go.Proofs.YtfndhfekbbbliaaGreatDoor

/-
  Package expr: the contract of Eval. Conditions: the text's length; the two variables of Atoi's errors hold errors.
-/
namespace Go.Proofs.YtfndhfekbbbliaaGreatDoor
open Go.RowKit Go.Shelf
set_option linter.unusedVariables false

theorem fine_of {s : List UInt8} {t : Tr} (h : parseT s = .tree t) : t.fine := (print_back h).2.2
set_option maxRecDepth 100000 in
theorem eval_fault (s : ByteArray) (n sv : Int) (w : World) (hv : ErrVars w) (hsz : s.size ≤ maxLen) {k : Nat} {j : Int} (hp : parseT s.data.toList = .fault k j) :
    Calls Tryz.prog 15 #[.string s, .int .i64 n, .int .i64 sv] w fun e w' => e = .returned (.tuple #[.int .i64 0, errV j]) ∧ Below w.heap.size w w' := by
  have HPR := Lib.hid (parse_reads s w hv hsz)
  have HP := Lib.hid hp
  clear hp hv
  go_enter Tryz.func15, Tryz.ntmps15
  go_wp2_with fail
  refine HPR.out.mono ?_
  rintro e w1 ⟨h1, hb⟩
  have h2 := parse_fault h1 HP.out
  subst h2
  have HB := Lib.hid hb
  clear hb h1 HP HPR
  unfold errV trA
  go_wp2_with fail
  go_ret2
  exact ⟨rfl, (HB.out.alloc HB.out.size _)⟩
set_option maxRecDepth 100000 in
theorem eval_tree (s : ByteArray) (n sv : Int) (w : World) (hv : ErrVars w) (hsz : s.size ≤ maxLen) (hn : I64_ n) (hs : I64_ sv) {t : Tr} (hp : parseT s.data.toList = .tree t) :
    Calls Tryz.prog 15 #[.string s, .int .i64 n, .int .i64 sv] w fun e w' => e = .returned (.tuple #[.int .i64 (t.val n sv), .nilIface]) ∧ Below w.heap.size w w' := by
  have HPR := Lib.hid (parse_reads s w hv hsz)
  have HEV := Lib.hid (eval_ok t (fine_of hp) n sv hn hs)
  have HP := Lib.hid hp
  clear hp hv
  go_enter Tryz.func15, Tryz.ntmps15
  go_wp2_with fail
  refine HPR.out.mono ?_
  rintro e w1 ⟨h1, hb⟩
  obtain ⟨o, k, A, c, rfl, ht⟩ := parse_tree h1 HP.out
  have HB := Lib.hid hb
  have HT := Lib.hid ht
  clear hb h1 HP HPR ht
  unfold trA
  go_wp2_with fail
  have hb1 : Below w.heap.size w (w1.alloc (.cells #[.int .u8 o, .int .i64 k, .slice A c c] 86)) := HB.out.alloc HB.out.size _
  refine (HEV.out o k A c _ (((HT.out.in_ (G := fun j => j < w1.heap.size) fun j _ h => h).keep fun j hj => heap_alloc_old _ _ hj).in_ fun j hj hj2 => hj2)).mono ?_
  rintro e w2 ⟨rfl, hb2⟩
  have HB2 := Lib.hid (hb1.trans (hb2.mono hb1.size))
  clear hb1 hb2 HEV HT HB
  go_wp2_with fail
  go_ret2
  exact ⟨rfl, HB2.out⟩
end Go.Proofs.YtfndhfekbbbliaaGreatDoor

/-
  Expressions, plain: where a text is wrong the fault is one of two. No condition: plain lemmas.
-/
namespace Go.Proofs.YtfndhfekbbbliaaGreatDoor
open Go.RowKit
set_option linter.unusedVariables false

def Two (r : Rd) : Prop := match r with
  | .ok _ _ => True
  | .bad _ e => e = 2 ∨ e = 4
theorem Two.bind {r : Rd} {f : Tr → List UInt8 → Rd} (h : Two r) (hf : ∀ t l, Two (f t l)) : Two (r.bind f) := by
  cases r with
  | ok t l => exact hf t l
  | bad k e => exact h
theorem Two.want (c : UInt8) (l : List UInt8) {f : List UInt8 → Rd} (hf : ∀ l, Two (f l)) : Two (wantRd c l f) := by
  unfold wantRd
  split
  · split
    · exact hf _
    · exact .inl rfl
  · exact .inl rfl
theorem Two.deep (d k : Nat) {r : Rd} (h : Two r) : Two (deepRd d k r) := by
  unfold deepRd
  split
  · exact .inr rfl
  · exact h
theorem num_two (l : List UInt8) : Two (numRd l) := by
  unfold numRd
  split
  · exact .inl rfl
  · trivial
theorem loop_two {next : List UInt8 → Rd} (hn : ∀ l, Two (next l)) (ops : List UInt8) : ∀ k a l, Two (loopRd next ops k a l) := by
  intro k
  induction k with
  | zero => intro a l; trivial
  | succ k ih =>
    intro a l
    unfold loopRd
    split
    · split
      · exact (hn _).bind fun b l1 => ih _ _
      · trivial
    · trivial
theorem row_two_ {next : List UInt8 → Rd} (hn : ∀ l, Two (next l)) (ops : List UInt8) (l : List UInt8) : Two (rowRd next ops l) :=
  (hn l).bind fun a l1 => loop_two hn ops _ _ _
section
variable {W : Reads} (hW : ∀ d l, Two (W d l))
include hW
theorem two_two (op : UInt8) (d : Nat) (l : List UInt8) : Two (twoRd W op d l) :=
  (hW d l).bind fun a l1 => Two.want 44 l1 fun l2 => (hW d l2).bind fun b l3 => Two.want 41 l3 fun l4 => trivial
theorem one_two (d : Nat) (l : List UInt8) : Two (oneRd W d l) := by
  unfold oneRd
  split
  · exact Two.deep _ _ (two_two hW _ _ _)
  · exact Two.deep _ _ (two_two hW _ _ _)
  · trivial
  · trivial
  · exact Two.deep _ _ ((hW _ _).bind fun a l1 => Two.want 41 l1 fun l2 => trivial)
  · exact num_two _
theorem less_two (l : List UInt8) : ∀ d, Two (lessRd W d l) := by
  induction l with
  | nil => intro d; exact one_two hW d []
  | cons c r ih =>
    intro d
    unfold lessRd
    split
    · rename_i r' e
      injection e with e1 e2
      subst e2
      exact Two.deep _ _ ((ih _).bind fun a l1 => trivial)
    · exact one_two hW d _
theorem add_two (d : Nat) (l : List UInt8) : Two (addRd W d l) := row_two_ (fun l => row_two_ (fun l => less_two hW l d) _ l) _ l
theorem step_two (d : Nat) (l : List UInt8) : Two (wholeStep W d l) := by
  refine Two.bind (Two.bind (add_two hW d l) fun a l1 => ?_) fun a l1 => ?_
  · unfold cmpTl
    split
    · split
      · exact (add_two hW d _).bind fun b l2 => trivial
      · trivial
    · trivial
  · unfold selRd
    split
    · split
      · exact Two.deep _ _ ((hW _ _).bind fun b l2 => Two.want 58 l2 fun l3 => (hW _ _).bind fun c l4 => trivial)
      · trivial
    · trivial
end
theorem whole_two : ∀ k d l, Two (wholeRd k d l) := by
  intro k
  induction k with
  | zero => intro d l; exact step_two (W := fun _ l => .bad l.length 2) (fun d l => (Or.inl rfl : (2 : Int) = 2 ∨ (2 : Int) = 4)) d l
  | succ k ih => intro d l; exact step_two ih d l
theorem parse_two {s : List UInt8} {k : Nat} {e : Int} (h : parseT s = .fault k e) : e = 2 ∨ e = 4 := by
  unfold parseT at h
  split at h
  · injection h with h1 h2; exact .inr h2.symm
  · have hw := whole_two s.length 0 s
    split at h
    · cases h
    · injection h with h1 h2; exact .inl h2.symm
    · rename_i k' e' heq
      injection h with h1 h2
      subst h2
      rw [heq] at hw
      exact hw
theorem parse_err_pos {s : List UInt8} {k : Nat} {e : Int} (h : parseT s = .fault k e) : e ≠ 0 := by
  rcases parse_two h with h | h <;> omega
end Go.Proofs.YtfndhfekbbbliaaGreatDoor

/-
  Package job: the contracts of texted, counted, inputs, numbers, node. Conditions: where the job lies; the two variables of Atoi's errors hold errors.
-/
namespace Go.Proofs.YtfndhfekbbbliaaGreatDoor
open Go.RowKit Go.Shelf
set_option linter.unusedVariables false

def errJ (e : Int) : Value := if e = 0 then .nilIface else errV e
theorem texted_ok (k : Int) (w : World) : Calls Tryz.prog 62 #[.int .i64 k] w fun e w' => e = .returned (.bool (texted k)) ∧ w = w' := by
  by_cases h2 : k = 2
  · subst h2
    go_enter Tryz.func62, Tryz.ntmps62
    go_wp2
    go_ret
    exact ⟨rfl, rfl⟩
  by_cases h3 : k = 3
  · subst h3
    go_enter Tryz.func62, Tryz.ntmps62
    go_wp2
    go_ret
    exact ⟨rfl, rfl⟩
  by_cases h4 : k = 4
  · subst h4
    go_enter Tryz.func62, Tryz.ntmps62
    go_wp2
    go_ret
    exact ⟨rfl, rfl⟩
  have e2 : (k == 2) = false := by simp [h2]
  have e3 : (k == 3) = false := by simp [h3]
  have e4 : (k == 4) = false := by simp [h4]
  have HT : Hid (texted k = (k == 7)) := by simp [Hid, texted, h2, h3, h4]
  clear h2 h3 h4
  go_enter Tryz.func62, Tryz.ntmps62
  go_wp2
  go_ret
  exact ⟨by rw [HT.out]; rfl, rfl⟩
theorem counted_ok (k : Int) (w : World) : Calls Tryz.prog 61 #[.int .i64 k] w fun e w' => e = .returned (.bool (counted k)) ∧ w = w' := by
  by_cases h2 : k = 1
  · subst h2
    go_enter Tryz.func61, Tryz.ntmps61
    go_wp2
    go_ret
    exact ⟨rfl, rfl⟩
  by_cases h3 : k = 5
  · subst h3
    go_enter Tryz.func61, Tryz.ntmps61
    go_wp2
    go_ret
    exact ⟨rfl, rfl⟩
  have e2 : (k == 1) = false := by simp [h2]
  have e3 : (k == 5) = false := by simp [h3]
  have HT : Hid (counted k = (k == 8)) := by simp [Hid, counted, h2, h3]
  clear h2 h3
  go_enter Tryz.func61, Tryz.ntmps61
  go_wp2
  go_ret
  exact ⟨by rw [HT.out]; rfl, rfl⟩
theorem inputs_ok (k : Int) (w : World) : Calls Tryz.prog 97 #[.int .i64 k] w fun e w' => e = .returned (.tuple #[.int .i64 (inLow k), .int .i64 (inHigh k)]) ∧ w = w' := by
  by_cases h1 : k = 1
  · subst h1
    go_enter Tryz.func97, Tryz.ntmps97
    go_wp2
    go_ret2
    exact ⟨rfl, rfl⟩
  by_cases h6 : k = 6
  · subst h6
    go_enter Tryz.func97, Tryz.ntmps97
    go_wp2
    go_ret2
    exact ⟨rfl, rfl⟩
  have e1 : (k == 1) = false := by simp [h1]
  have e6 : (k == 6) = false := by simp [h6]
  have HT : Hid (inLow k = 1 ∧ inHigh k = 1) := by simp [Hid, inLow, inHigh, h1, h6]
  clear h1 h6
  go_enter Tryz.func97, Tryz.ntmps97
  go_wp2
  go_ret2
  exact ⟨by rw [HT.out.1, HT.out.2]; rfl, rfl⟩
theorem numbers_ok (k : Int) (w : World) : Calls Tryz.prog 98 #[.int .i64 k] w fun e w' => e = .returned (.tuple #[.int .i64 (numLow k), .int .i64 (numHigh k)]) ∧ w = w' := by
  by_cases h1 : k = 1
  · subst h1
    go_enter Tryz.func98, Tryz.ntmps98
    go_wp2
    go_ret2
    exact ⟨rfl, rfl⟩
  by_cases h5 : k = 5
  · subst h5
    go_enter Tryz.func98, Tryz.ntmps98
    go_wp2
    go_ret2
    exact ⟨rfl, rfl⟩
  by_cases h8 : k = 8
  · subst h8
    go_enter Tryz.func98, Tryz.ntmps98
    go_wp2
    go_ret2
    exact ⟨rfl, rfl⟩
  have e1 : (k == 1) = false := by simp [h1]
  have e5 : (k == 5) = false := by simp [h5]
  have e8 : (k == 8) = false := by simp [h8]
  have HT : Hid (numLow k = 0 ∧ numHigh k = 0) := by simp [Hid, numLow, numHigh, h1, h5, h8]
  clear h1 h5 h8
  go_enter Tryz.func98, Tryz.ntmps98
  go_wp2
  go_ret2
  exact ⟨by rw [HT.out.1, HT.out.2]; rfl, rfl⟩
/-- What is checked of a node ahead of its inputs' being. -/
def nodeBody (l : List Nod) (i : Nat) (n : Nod) : Int :=
  if (n.text.size ≠ 0 ∧ texted n.kind = false) ∨ (n.n ≠ 0 ∧ counted n.kind = false) then 3
  else if n.n < numLow n.kind ∨ numHigh n.kind < n.n then 1
  else if texted n.kind then textErr n.text.data.toList
  else 0
theorem nodeErr_eq (l : List Nod) (i : Nat) (n : Nod) : nodeErr l i n =
  if n.kind < 1 ∨ 10 < n.kind then 1
  else if (n.from_.length : Int) < inLow n.kind ∨ inHigh n.kind < (n.from_.length : Int) then 3
  else if fromErr l i n.from_ ≠ 0 then fromErr l i n.from_
  else nodeBody l i n := rfl
theorem from_cons (l : List Nod) (i : Nat) (f : Int) (r : List Int) : fromErr l i (f :: r) = if f < 0 ∨ (i : Int) ≤ f then 1 else if (l[f.toNat]?.map (·.kind)) = some 10 then 7 else fromErr l i r := rfl
theorem size_of_nil {s : ByteArray} (h : s.toList = []) : s.size = 0 := by
  rw [ByteArray.toList_eq] at h
  have : s.data.toList.length = s.size := by simp
  rw [h] at this
  exact this.symm
theorem text_err (s : List UInt8) : errOf (parseT s) = errJ (textErr s) := by
  unfold textErr errJ
  cases h : parseT s with
  | tree t => rfl
  | fault k e => rw [if_neg (parse_err_pos h)]; rfl
theorem empty_of_size {s : ByteArray} (h : s.size = 0) : s = ⟨#[]⟩ := by
  apply ByteArray.ext
  exact Array.eq_empty_of_size_eq_zero h
set_option maxRecDepth 100000 in
set_option maxHeartbeats 4000000 in
theorem node_ok (F : Nat → Prop) (A : Option Addr) (c : Nat) (l : List Nod) (i : Nat) (hi : i < l.length) (w : World) (hl : SlA nodE F w A c l) (hF : ∀ k, F k → k < w.heap.size) (hv : ErrVars w) :
    Calls Tryz.prog 55 #[.slice A l.length c, .int .i64 i] w fun e w' => e = .returned (errJ (nodeErr l i l[i])) ∧ Below w.heap.size w w' := by
  obtain ⟨b, off, A', c', rfl, hFb, x0, x1, x2, x3, htm, hki, hni, hfr⟩ := hl.nod_ hi
  have hbw := hF b hFb
  have HL := Lib.hid hl
  have HV := Lib.hid hv
  have HFR := Lib.hid hfr
  have hll := hl.le
  have hfl := hfr.le
  have bk := bounds_i64 hki
  have bn := bounds_i64 hni
  have HEQ := Lib.hid (nodeErr_eq l i l[i])
  clear hl hv hfr hki hni
  generalize hn : l[i] = nd at x0 x1 x2 x3 htm HFR hfl bk bn HEQ ⊢
  clear hn
  obtain ⟨kind, from_, text, nn⟩ := nd
  simp only at x0 x1 x2 x3 htm HFR hfl bk bn HEQ ⊢
  by_cases hk : kind < 1 ∨ 10 < kind
  · rw [if_pos hk] at HEQ
    rcases hk with hk | hk
    · have d1 : decide (kind < 1) = true := decide_eq_true hk
      go_enter Tryz.func55, Tryz.ntmps55
      go_wp2_with fail
      go_ret
      exact ⟨by rw [HEQ.out]; rfl, (Below.refl _ _).alloc (Nat.le_refl _) _⟩
    · have d1 : decide (kind < 1) = false := decide_eq_false (by omega)
      have d2 : decide (10 < kind) = true := decide_eq_true hk
      go_enter Tryz.func55, Tryz.ntmps55
      go_wp2_with fail
      go_ret
      exact ⟨by rw [HEQ.out]; rfl, (Below.refl _ _).alloc (Nat.le_refl _) _⟩
  rw [if_neg hk] at HEQ
  have hk1 : 1 ≤ kind := by omega
  have hk2 : kind ≤ 10 := by omega
  clear hk
  obtain ⟨W1, hW1⟩ : ∃ W1, W1 = w.alloc (.cells #[.int .i64 kind, .slice A' from_.length c', .string text, .int .i64 nn] 40) := ⟨_, rfl⟩
  have hb1 : Below w.heap.size w W1 := by rw [hW1]; exact (Below.refl _ _).alloc (Nat.le_refl _) _
  have hv1 : W1.heap[w.heap.size]? = some (.cells #[.int .i64 kind, .slice A' from_.length c', .string text, .int .i64 nn] 40 (0, 0)) := by rw [hW1]; exact heap_alloc_new _ _
  have v0 : W1.cell? ⟨w.heap.size, 0, none⟩ = some (.int .i64 kind) := (cell_of_row W1 _ 0 _ _ _ hv1).trans rfl
  have v1 : W1.cell? ⟨w.heap.size, 1, none⟩ = some (.slice A' from_.length c') := (cell_of_row W1 _ 1 _ _ _ hv1).trans rfl
  have v2 : W1.cell? ⟨w.heap.size, 2, none⟩ = some (.string text) := (cell_of_row W1 _ 2 _ _ _ hv1).trans rfl
  have v3 : W1.cell? ⟨w.heap.size, 3, none⟩ = some (.int .i64 nn) := (cell_of_row W1 _ 3 _ _ _ hv1).trans rfl
  have HL1 := Lib.hid (HL.out.keep (fun j hj => hb1.block j (hF j hj)))
  have HF1 := Lib.hid (HFR.out.keep (fun j hj => hb1.block j (hF j hj)))
  have HB1 := Lib.hid hb1
  have HV1 := Lib.hid (HV.out.below hb1)
  clear hb1 hv1 HL HFR HV
  go_enter Tryz.func55, Tryz.ntmps55
  go_upto_region 2 with (fail)
  rw [← hW1]
  clear hW1 x0 x1 x2 x3
  go_wp2_with fail
  refine (inputs_ok kind W1).mono ?_
  rintro e w2 ⟨rfl, rfl⟩
  by_cases hlo : (from_.length : Int) < inLow kind
  · rw [if_pos (.inl hlo)] at HEQ
    have d1 : decide ((from_.length : Int) < inLow kind) = true := decide_eq_true hlo
    go_wp2_with fail
    go_ret
    exact ⟨by rw [HEQ.out]; rfl, HB1.out⟩
  by_cases hhi : inHigh kind < (from_.length : Int)
  · rw [if_pos (.inr hhi)] at HEQ
    have d1 : decide ((from_.length : Int) < inLow kind) = false := decide_eq_false hlo
    have d2 : decide (inHigh kind < (from_.length : Int)) = true := decide_eq_true hhi
    go_wp2_with fail
    go_ret
    exact ⟨by rw [HEQ.out]; rfl, HB1.out⟩
  rw [if_neg (by omega)] at HEQ
  have d1 : decide ((from_.length : Int) < inLow kind) = false := decide_eq_false hlo
  have d2 : decide (inHigh kind < (from_.length : Int)) = false := decide_eq_false hhi
  clear hlo hhi
  go_wp2_with fail
  go_loop [49] (fun jv => ∃ j : Nat, j ≤ from_.length ∧ jv = .int .i64 j ∧ Hid (fromErr l i (from_.drop j) = fromErr l i from_)) (fun jv => from_.length - (intOf jv).toNat)
  case atStart => exact ⟨0, Nat.zero_le _, rfl, rfl⟩
  case round =>
    obtain ⟨j, hj, rfl, HJ⟩ := hrel
    by_cases hlt : j < from_.length
    · obtain ⟨bf, of_, rfl, _, hcf, _⟩ := HF1.out.int_ hlt
      have hdr : from_.drop j = from_[j] :: from_.drop (j + 1) := List.drop_eq_getElem_cons hlt
      have HJ2 : Hid (fromErr l i from_ = if from_[j] < 0 ∨ (i : Int) ≤ from_[j] then 1 else if (l[from_[j].toNat]?.map (·.kind)) = some 10 then 7 else fromErr l i (from_.drop (j + 1))) := by
        show _ = _
        rw [← HJ.out, hdr, from_cons]
      generalize from_[j] = f at hcf HJ2
      clear hdr HJ
      by_cases hf : f < 0 ∨ (i : Int) ≤ f
      · rw [if_pos hf] at HJ2
        have HE : Hid (nodeErr l i ⟨kind, from_, text, nn⟩ = 1) := by show _ = _; rw [HEQ.out, HJ2.out]; rfl
        rcases hf with hf | hf
        · have e1 : decide (f < 0) = true := decide_eq_true hf
          go_wp2_with fail
          go_ret
          exact ⟨by rw [HE.out]; rfl, HB1.out⟩
        · have e1 : decide (f < 0) = false := decide_eq_false (by omega)
          have e2 : decide ((i : Int) ≤ f) = true := decide_eq_true hf
          go_wp2_with fail
          go_ret
          exact ⟨by rw [HE.out]; rfl, HB1.out⟩
      · rw [if_neg hf] at HJ2
        obtain ⟨fn, rfl⟩ : ∃ fn : Nat, f = fn := ⟨f.toNat, by omega⟩
        have hfi : fn < i := by omega
        have hfl2 : fn < l.length := by omega
        obtain ⟨bl, ol, A2, c2, hAl, _, y0, _, _, _, _, _, _, _⟩ := HL1.out.nod_ hfl2
        injection hAl with hAl
        injection hAl with hA1 hA2
        subst hA1; subst hA2
        obtain ⟨fk, hfk⟩ : ∃ fk, l[fn].kind = fk := ⟨_, rfl⟩
        have HJ2b : Hid (fromErr l i from_ = if fk = 10 then 7 else fromErr l i (from_.drop (j + 1))) := by
          show _ = _
          rw [HJ2.out, Int.toNat_natCast, List.getElem?_eq_getElem hfl2, ← hfk]
          by_cases h : l[fn].kind = 10 <;> simp [h]
        rw [hfk] at y0
        clear hfk HJ2
        by_cases h10 : fk = 10
        · subst h10
          have HE : Hid (nodeErr l i ⟨kind, from_, text, nn⟩ = 7) := by show _ = _; rw [HEQ.out, HJ2b.out]; rfl
          go_wp2_with fail
          go_ret
          exact ⟨by rw [HE.out]; rfl, HB1.out⟩
        · have e10 : (fk == 10) = false := by simp [h10]
          have HJ3 : Hid (fromErr l i (from_.drop (j + 1)) = fromErr l i from_) := by
            show _ = _
            rw [HJ2b.out, if_neg h10]
          clear h10 HJ2b hf
          go_wp2_with fail
          go_round
          case rel => exact ⟨j + 1, by omega, by go_num, HJ3⟩
          case measure => simp [intOf]; omega
    · have dj : decide (j < from_.length) = false := decide_eq_false hlt
      have HJ0 : Hid (fromErr l i from_ = 0) := by
        show _ = _
        rw [← HJ.out, List.drop_eq_nil_of_le (by omega)]; rfl
      rw [if_neg (by rw [HJ0.out]; simp)] at HEQ
      clear HJ HJ0 hj hlt
      go_wp2_with fail
      refine (numbers_ok kind W1).mono ?_
      rintro e w3 ⟨rfl, rfl⟩
      go_upto_region 16 with (fail)
      go_cut [75] from 76 to 84 (fun bv wx => ∃ B : Bool, bv = .bool B ∧ W1 = wx ∧ Hid (B = true ↔ (text.size ≠ 0 ∧ texted kind = false)))
      case first =>
        by_cases ht : text.size = 0
        · have hte : text = ⟨#[]⟩ := empty_of_size ht
          subst hte
          go_wp2_with fail
          go_meet
          case rel => exact ⟨false, rfl, rfl, by simp [Hid, ByteArray.size]⟩
        · have hn1 : ¬ text.toList = [] := fun e => ht (size_of_nil e)
          have hn2 : (!text.toList.isEmpty) = true := by simp [hn1]
          go_wp2_with fail
          refine (texted_ok kind W1).mono ?_
          rintro e w4 ⟨rfl, rfl⟩
          go_wp2_with fail
          go_meet
          case rel => exact ⟨!texted kind, rfl, rfl, by simp [Hid, ht]⟩
      case rest =>
        obtain ⟨B, rfl, rfl, hB⟩ := hcut
        cases B with
        | true =>
          have hBB := hB.out.1 rfl
          have HE : Hid (nodeErr l i ⟨kind, from_, text, nn⟩ = 3) := by show _ = _; rw [HEQ.out]; unfold nodeBody; rw [if_pos (.inl hBB)]
          clear hBB hB
          go_wp2_with fail
          go_ret
          exact ⟨by rw [HE.out]; rfl, HB1.out⟩
        | false =>
          go_upto_region 17 with (fail)
          go_cut [75] from 85 to 93 (fun bv wx => ∃ B : Bool, bv = .bool B ∧ W1 = wx ∧ Hid (B = true ↔ (nn ≠ 0 ∧ counted kind = false)))
          case first =>
            by_cases ht : nn = 0
            · subst ht
              go_wp2_with fail
              go_meet
              case rel => exact ⟨false, rfl, rfl, by simp [Hid]⟩
            · have hn1 : (nn != 0) = true := by simp [ht]
              have hn2 : (nn == 0) = false := by simp [ht]
              go_wp2_with fail
              refine (counted_ok kind W1).mono ?_
              rintro e w4 ⟨rfl, rfl⟩
              go_wp2_with fail
              go_meet
              case rel => exact ⟨!counted kind, rfl, rfl, by simp [Hid, ht]⟩
          case rest =>
            obtain ⟨C, rfl, rfl, hC⟩ := hcut
            cases C with
            | true =>
              have hCC := hC.out.1 rfl
              have HE : Hid (nodeErr l i ⟨kind, from_, text, nn⟩ = 3) := by show _ = _; rw [HEQ.out]; unfold nodeBody; rw [if_pos (.inr hCC)]
              clear hCC hC hB
              go_wp2_with fail
              go_ret
              exact ⟨by rw [HE.out]; rfl, HB1.out⟩
            | false =>
              have HQ : Hid (nodeErr l i ⟨kind, from_, text, nn⟩ = if nn < numLow kind ∨ numHigh kind < nn then 1 else if texted kind = true then textErr text.data.toList else 0) := by
                show _ = _
                rw [HEQ.out]; unfold nodeBody
                rw [if_neg (fun h => h.elim (fun h => by have := hB.out.2 h; cases this) (fun h => by have := hC.out.2 h; cases this))]
              clear hC hB HEQ
              by_cases hlo : nn < numLow kind
              · rw [if_pos (.inl hlo)] at HQ
                have e1 : decide (nn < numLow kind) = true := decide_eq_true hlo
                go_wp2_with fail
                go_ret
                exact ⟨by rw [HQ.out]; rfl, HB1.out⟩
              by_cases hhi : numHigh kind < nn
              · rw [if_pos (.inr hhi)] at HQ
                have e1 : decide (nn < numLow kind) = false := decide_eq_false hlo
                have e2 : decide (numHigh kind < nn) = true := decide_eq_true hhi
                go_wp2_with fail
                go_ret
                exact ⟨by rw [HQ.out]; rfl, HB1.out⟩
              rw [if_neg (by omega)] at HQ
              have e1 : decide (nn < numLow kind) = false := decide_eq_false hlo
              have e2 : decide (numHigh kind < nn) = false := decide_eq_false hhi
              clear hlo hhi
              go_wp2_with fail
              refine (texted_ok kind W1).mono ?_
              rintro e w4 ⟨rfl, rfl⟩
              cases htx : texted kind with
              | false =>
                rw [htx] at HQ
                clear htx
                go_wp2_with fail
                go_ret
                exact ⟨by rw [HQ.out]; rfl, HB1.out⟩
              | true =>
                rw [htx] at HQ
                clear htx
                go_wp2_with fail
                refine (check_ok text W1 HV1.out htm).mono ?_
                rintro e w5 ⟨rfl, hb5⟩
                have HB5 := Lib.hid (HB1.out.trans (hb5.mono HB1.out.size))
                clear hb5
                go_wp2_with fail
                go_ret
                exact ⟨by rw [HQ.out]; exact congrArg Ending.returned (text_err _), HB5.out⟩
end Go.Proofs.YtfndhfekbbbliaaGreatDoor

/-
  Package job: the contracts of ends and Check. Conditions: where the job lies; the two variables of Atoi's errors hold errors.
-/
namespace Go.Proofs.YtfndhfekbbbliaaGreatDoor
open Go.RowKit Go.Shelf
set_option linter.unusedVariables false

set_option maxRecDepth 100000 in
theorem is_kind (kind : Int) (v : Value) (t : ByteArray) (n : Int) (K : Nat) (k : Int) (w : World) (hK : w.cell? ⟨K, 0, none⟩ = some (.int .i64 k)) :
    Calls Tryz.prog 101 #[.agg #[.int .i64 kind, v, .string t, .int .i64 n], .pointer (some ⟨K, 0, none⟩)] w fun e w' => e = .returned (.bool (kind == k)) ∧ Below w.heap.size w w' := by
  have hlt := cell_lt hK
  have hK2 : (w.alloc (.cells #[.int .i64 kind, v, .string t, .int .i64 n] 40)).cell? ⟨K, 0, none⟩ = some (.int .i64 k) := ((Below.refl _ _).alloc (Nat.le_refl _) _ |>.cell (p := ⟨K, 0, none⟩) hlt).trans hK
  go_enter Tryz.func101, Tryz.ntmps101
  go_wp2_with fail
  go_ret
  exact ⟨rfl, (Below.refl _ _).alloc (Nat.le_refl _) _⟩
def FindPost (l : List Nod) (k : Int) (w : World) (e : Ending) (w' : World) : Prop := ∃ j : Int, e = .returned (.int .i64 j) ∧ decide (0 ≤ j) = hasKind l k ∧ Below w.heap.size w w'
theorem hasKind_take (l : List Nod) (k : Int) {j : Nat} (hj : j < l.length) : hasKind (l.take (j + 1)) k = (hasKind (l.take j) k || (l[j].kind == k)) := by
  rw [List.take_succ_eq_append_getElem hj, hasKind_app]; simp [hasKind]
theorem hasKind_mem {l : List Nod} {k : Int} {j : Nat} (hj : j < l.length) (h : (l[j].kind == k) = true) : hasKind l k = true := by
  unfold hasKind
  exact List.any_eq_true.2 ⟨l[j], List.getElem_mem hj, h⟩
set_option maxRecDepth 100000 in
set_option maxHeartbeats 1000000 in
theorem index_kind (F : Nat → Prop) (A : Option Addr) (c : Nat) (l : List Nod) (K : Nat) (k : Int) (w : World) (hl : SlA nodE F w A c l) (hF : ∀ k, F k → k < w.heap.size) (hK : w.cell? ⟨K, 0, none⟩ = some (.int .i64 k)) :
    Calls Tryz.prog 130 #[.slice A l.length c, .func (.func 101) #[] #[.pointer (some ⟨K, 0, none⟩)]] w (FindPost l k w) := by
  have HL := Lib.hid hl
  have hle := hl.le
  have HK := Lib.hid hK
  clear hl hK
  go_enter Tryz.func130, Tryz.ntmps130
  go_wp2_with fail
  go_loopw [8] (fun jv wr => ∃ j : Nat, j ≤ l.length ∧ jv = .int .i64 j ∧ Hid (hasKind (l.take j) k = false) ∧ Hid (Below w.heap.size w wr)) (fun jv _ => l.length - (intOf jv).toNat)
  case atStart => exact ⟨0, Nat.zero_le _, rfl, rfl, Below.refl _ _⟩
  case round =>
    obtain ⟨j, hj, rfl, HJ, HB⟩ := hrel
    by_cases hlt : j < l.length
    · obtain ⟨b, off, A', c', rfl, hFb, x0, x1, x2, x3, htm, hki, hni, hfr⟩ := (HL.out.keep (fun i hi => HB.out.block i (hF i hi))).nod_ hlt
      have HT := Lib.hid (hasKind_take l k hlt)
      have HM := Lib.hid (fun h => hasKind_mem (k := k) hlt h)
      have HKC := Lib.hid ((HB.out.cell (p := ⟨K, 0, none⟩) (cell_lt HK.out)).trans HK.out)
      clear hfr hki hni hFb htm
      generalize l[j] = nd at x0 x1 x2 x3 HT HM
      obtain ⟨kind, from_, text, nn⟩ := nd
      simp only at x0 x1 x2 x3 HT HM
      go_wp2_with fail
      refine (is_kind kind _ text nn K k _ HKC.out).mono ?_
      rintro e w2 ⟨rfl, hb2⟩
      have HB2 := Lib.hid (HB.out.trans (hb2.mono HB.out.size))
      clear hb2 x0 x1 x2 x3
      cases hkk : (kind == k) with
      | true =>
        have HMM := Lib.hid (HM.out hkk)
        clear hkk
        go_wp2_with fail
        go_ret
        exact ⟨j, rfl, by rw [HMM.out]; exact decide_eq_true (by omega), HB2.out⟩
      | false =>
        have HJ2 : Hid (hasKind (l.take (j + 1)) k = false) := by show _ = _; rw [HT.out, HJ.out, hkk]; rfl
        clear hkk HT HM
        go_wp2_with fail
        go_roundw
        case rel => exact ⟨j + 1, by omega, by go_num, HJ2, HB2⟩
        case measure => simp [intOf]; omega
    · have dj : decide (j < l.length) = false := decide_eq_false hlt
      have HE : Hid (hasKind l k = false) := by
        have h := HJ.out
        rw [List.take_of_length_le (by omega)] at h
        exact h
      clear hj hlt HJ
      go_wp2_with fail
      go_ret
      exact ⟨-1, rfl, by rw [HE.out]; rfl, HB.out⟩
set_option maxRecDepth 100000 in
theorem contains_kind (F : Nat → Prop) (A : Option Addr) (c : Nat) (l : List Nod) (K : Nat) (k : Int) (w : World) (hl : SlA nodE F w A c l) (hF : ∀ k, F k → k < w.heap.size) (hK : w.cell? ⟨K, 0, none⟩ = some (.int .i64 k)) :
    Calls Tryz.prog 100 #[.slice A l.length c, .func (.func 101) #[] #[.pointer (some ⟨K, 0, none⟩)]] w fun e w' => e = .returned (.bool (hasKind l k)) ∧ Below w.heap.size w w' := by
  have HI := Lib.hid (index_kind F A c l K k w hl hF hK)
  clear hl hF hK
  go_enter Tryz.func100, Tryz.ntmps100
  go_wp2_with fail
  refine HI.out.mono ?_
  rintro e w2 ⟨j, rfl, hj, hb⟩
  have HB := Lib.hid hb
  have HJ := Lib.hid hj
  clear hb hj HI
  go_wp2_with fail
  go_ret
  exact ⟨by rw [← HJ.out]; rfl, HB.out⟩
set_option maxRecDepth 100000 in
theorem is_ok_ (F : Nat → Prop) (A : Option Addr) (c : Nat) (l : List Nod) (B : Nat) (k : Int) (w : World) (hl : SlA nodE F w A c l) (hF : ∀ k, F k → k < w.heap.size) (hB : w.cell? ⟨B, 0, none⟩ = some (.slice A l.length c)) :
    Calls Tryz.prog 99 #[.int .i64 k, .pointer (some ⟨B, 0, none⟩)] w fun e w' => e = .returned (.bool (hasKind l k)) ∧ Below w.heap.size w w' := by
  have hmf : ∀ (fn : Fn) (first cap : Array Value) (w : World), (Instr.makeFunc fn first cap).run Tryz.prog w = .ok (.func fn first cap) w := fun _ _ _ _ => rfl
  obtain ⟨W1, hW1⟩ : ∃ W1, W1 = w.alloc (.cells #[.int .i64 k] 3) := ⟨_, rfl⟩
  have hb1 : Below w.heap.size w W1 := by rw [hW1]; exact (Below.refl _ _).alloc (Nat.le_refl _) _
  have hB1 : W1.cell? ⟨B, 0, none⟩ = some (.slice A l.length c) := (hb1.cell (p := ⟨B, 0, none⟩) (cell_lt hB)).trans hB
  have hK1 : W1.cell? ⟨w.heap.size, 0, none⟩ = some (.int .i64 k) := by rw [hW1]; exact (cell_of_row _ _ 0 _ _ _ (heap_alloc_new w _)).trans rfl
  have HC := Lib.hid (contains_kind F A c l w.heap.size k W1 (hl.keep (fun i hi => hb1.block i (hF i hi))) (fun i hi => Nat.lt_of_lt_of_le (hF i hi) hb1.size) hK1)
  have HB1 := Lib.hid hb1
  clear hl hb1 hK1 hB hF
  go_enter Tryz.func99, Tryz.ntmps99
  go_upto_region 1 with (fail)
  rw [← hW1]
  clear hW1
  go_wp2_with fail
  refine HC.out.mono ?_
  rintro e w2 ⟨rfl, hb2⟩
  have HB2 := Lib.hid (HB1.out.trans (hb2.mono HB1.out.size))
  clear hb2
  go_wp2_with fail
  go_ret
  exact ⟨rfl, HB2.out⟩
set_option maxRecDepth 100000 in
set_option maxHeartbeats 1000000 in
theorem ends_ok (F : Nat → Prop) (A : Option Addr) (c : Nat) (l : List Nod) (w : World) (hl : SlA nodE F w A c l) (hF : ∀ k, F k → k < w.heap.size) :
    Calls Tryz.prog 56 #[.slice A l.length c] w fun e w' => e = .returned (errJ (endsErr l)) ∧ Below w.heap.size w w' := by
  have hmf : ∀ (fn : Fn) (first cap : Array Value) (w : World), (Instr.makeFunc fn first cap).run Tryz.prog w = .ok (.func fn first cap) w := fun _ _ _ _ => rfl
  obtain ⟨W1, hW1⟩ : ∃ W1, W1 = w.alloc (.cells #[.slice A l.length c] 45) := ⟨_, rfl⟩
  have hb1 : Below w.heap.size w W1 := by rw [hW1]; exact (Below.refl _ _).alloc (Nat.le_refl _) _
  have hv1 : W1.heap[w.heap.size]? = some (.cells #[.slice A l.length c] 45 (0, 0)) := by rw [hW1]; exact heap_alloc_new _ _
  have HC := Lib.hid (fun W (hb : Below w.heap.size w W) (hv : W.heap[w.heap.size]? = some (.cells #[.slice A l.length c] 45 (0, 0))) k => is_ok_ F A c l w.heap.size k W (hl.keep (fun i hi => hb.block i (hF i hi))) (fun i hi => Nat.lt_of_lt_of_le (hF i hi) hb.size) ((cell_of_row W _ 0 _ _ _ hv).trans rfl))
  have HB1 := Lib.hid hb1
  have HV1 := Lib.hid hv1
  have HE : Hid (endsErr l = if hasKind l 1 = true ∧ hasKind l 10 = true then 0 else 6) := rfl
  clear hl hb1 hv1
  go_enter Tryz.func56, Tryz.ntmps56
  go_upto_region 1 with (fail)
  rw [← hW1]
  clear hW1
  go_wp2_with fail
  refine (HC.out W1 HB1.out HV1.out 1).mono ?_
  rintro e w2 ⟨rfl, hb2⟩
  have HB2 := Lib.hid (HB1.out.trans (hb2.mono HB1.out.size))
  have HV2 := Lib.hid ((hb2.block _ (block_lt HV1.out)).trans HV1.out)
  clear hb2
  cases h1 : hasKind l 1 with
  | false =>
    have HE2 : Hid (endsErr l = 6) := by show _ = _; rw [HE.out, h1]; rfl
    clear h1
    go_wp2_with fail
    go_ret
    exact ⟨by rw [HE2.out]; rfl, HB2.out⟩
  | true =>
    have HE2 : Hid (endsErr l = if hasKind l 10 = true then 0 else 6) := by
      show _ = _; rw [HE.out, h1]; by_cases h : hasKind l 10 = true <;> simp [h]
    clear h1
    go_wp2_with fail
    refine (HC.out w2 HB2.out HV2.out 10).mono ?_
    rintro e w3 ⟨rfl, hb3⟩
    have HB3 := Lib.hid (HB2.out.trans (hb3.mono HB2.out.size))
    clear hb3
    cases h10 : hasKind l 10 with
    | false =>
      have HE3 : Hid (endsErr l = 6) := by show _ = _; rw [HE2.out, h10]; rfl
      clear h10
      go_wp2_with fail
      go_ret
      exact ⟨by rw [HE3.out]; rfl, HB3.out⟩
    | true =>
      have HE3 : Hid (endsErr l = 0) := by show _ = _; rw [HE2.out, h10]; rfl
      clear h10
      go_wp2_with fail
      go_ret
      exact ⟨by rw [HE3.out]; rfl, HB3.out⟩
theorem nodes_drop (l : List Nod) {j : Nat} (hj : j < l.length) : nodesErr l j (l.drop j) = if nodeErr l j l[j] ≠ 0 then nodeErr l j l[j] else nodesErr l (j + 1) (l.drop (j + 1)) := by
  rw [List.drop_eq_getElem_cons hj, nodes_cons]
set_option maxRecDepth 100000 in
set_option maxHeartbeats 1000000 in
theorem jcheck_ok (F : Nat → Prop) (A : Option Addr) (c : Nat) (l : List Nod) (w : World) (hl : SlA nodE F w A c l) (hF : ∀ k, F k → k < w.heap.size) (hv : ErrVars w) :
    Calls Tryz.prog 21 #[.slice A l.length c] w fun e w' => e = .returned (errJ (jobErr l)) ∧ Below w.heap.size w w' := by
  have HL := Lib.hid hl
  have hle := hl.le
  have HV := Lib.hid hv
  clear hl hv
  by_cases h12 : 12 < l.length
  · have HE : Hid (jobErr l = 4) := by show _ = _; unfold jobErr; rw [if_pos h12]
    have d1 : decide ((12 : Int) < (l.length : Int)) = true := decide_eq_true (by omega)
    go_enter Tryz.func21, Tryz.ntmps21
    go_wp2_with fail
    go_ret
    exact ⟨by rw [HE.out]; rfl, Below.refl _ _⟩
  · have HE : Hid (jobErr l = if nodesErr l 0 l ≠ 0 then nodesErr l 0 l else endsErr l) := by show _ = _; unfold jobErr; rw [if_neg h12]
    have d1 : decide ((12 : Int) < (l.length : Int)) = false := decide_eq_false (by omega)
    go_enter Tryz.func21, Tryz.ntmps21
    go_wp2_with fail
    go_loopw [11] (fun jv wr => ∃ j : Nat, j ≤ l.length ∧ jv = .int .i64 j ∧ Hid (nodesErr l j (l.drop j) = nodesErr l 0 l) ∧ Hid (Below w.heap.size w wr)) (fun jv _ => l.length - (intOf jv).toNat)
    case atStart => exact ⟨0, Nat.zero_le _, rfl, rfl, Below.refl _ _⟩
    case round =>
      obtain ⟨j, hj, rfl, HJ, HB⟩ := hrel
      by_cases hlt : j < l.length
      · have HD : Hid (nodesErr l 0 l = if nodeErr l j l[j] ≠ 0 then nodeErr l j l[j] else nodesErr l (j + 1) (l.drop (j + 1))) := by show _ = _; rw [← HJ.out, nodes_drop l hlt]
        have HN := Lib.hid (node_ok F A c l j hlt wr (HL.out.keep (fun i hi => HB.out.block i (hF i hi))) (fun i hi => Nat.lt_of_lt_of_le (hF i hi) HB.out.size) (HV.out.below HB.out))
        generalize nodeErr l j l[j] = ne at HN HD
        go_wp2_with fail
        refine HN.out.mono ?_
        rintro e w2 ⟨rfl, hb2⟩
        have HB2 := Lib.hid (HB.out.trans (hb2.mono HB.out.size))
        clear hb2 HN
        by_cases h0 : ne = 0
        · subst h0
          have HJ2 : Hid (nodesErr l (j + 1) (l.drop (j + 1)) = nodesErr l 0 l) := by show _ = _; rw [HD.out]; rfl
          rw [show errJ 0 = .nilIface from rfl]
          clear HD
          go_wp2_with fail
          go_roundw
          case rel => exact ⟨j + 1, by omega, by go_num, HJ2, HB2⟩
          case measure => simp [intOf]; omega
        · have HE2 : Hid (errJ (jobErr l) = errV ne) := by
            show _ = _
            rw [HE.out, HD.out, if_pos h0]
            rw [if_pos h0]
            unfold errJ; rw [if_neg h0]
          rw [show errJ ne = errV ne from by unfold errJ; rw [if_neg h0]]
          unfold errV
          clear HD h0
          go_wp2_with fail
          go_ret
          exact ⟨by rw [HE2.out]; rfl, HB2.out⟩
      · have dj : decide (j < l.length) = false := decide_eq_false hlt
        have HE2 : Hid (jobErr l = endsErr l) := by
          have h : nodesErr l 0 l = 0 := by rw [← HJ.out, List.drop_eq_nil_of_le (by omega)]; rfl
          show _ = _
          rw [HE.out, h]; rfl
        have HN := Lib.hid (ends_ok F A c l wr (HL.out.keep (fun i hi => HB.out.block i (hF i hi))) (fun i hi => Nat.lt_of_lt_of_le (hF i hi) HB.out.size))
        clear hj hlt HJ
        go_wp2_with fail
        refine HN.out.mono ?_
        rintro e w2 ⟨rfl, hb2⟩
        have HB2 := Lib.hid (HB.out.trans (hb2.mono HB.out.size))
        clear hb2 HN
        go_wp2_with fail
        go_ret
        exact ⟨by rw [HE2.out]; rfl, HB2.out⟩
end Go.Proofs.YtfndhfekbbbliaaGreatDoor

/-
  Package job: the contracts of of, Sinks (and Sources). Conditions: where the job lies; the two variables of Atoi's errors hold errors.
-/
namespace Go.Proofs.YtfndhfekbbbliaaGreatDoor
open Go.RowKit Go.Shelf
set_option linter.unusedVariables false

def intV (zs : List Int) : List Value := zs.map fun n => .int .i64 n
theorem intV_len (zs : List Int) : (intV zs).length = zs.length := by simp [intV]
theorem intV_flat (zs : List Int) : intV zs = zs.flatMap fun n => [Value.int .i64 n] := by induction zs with | nil => rfl | cons a r ih => simp [intV] at ih ⊢; exact ih
theorem row_new {w : World} {base : Nat} {v : Value} {zs : List Int} (h : w.ownsRow base 3 1 v zs.length (intV zs)) (hI : ∀ x ∈ zs, I64 x) : ∃ A c, v = .slice A zs.length c ∧ SlA (intE .i64) (fun k => base ≤ k ∧ k < w.heap.size) w A c zs := by
  obtain ⟨A, c, rfl, ho, hb⟩ := OwnS.of_row h
  rw [intV_flat] at ho
  exact ⟨A, c, rfl, OwnS.sl (E := intE .i64) (fun n => [.int .i64 n]) (fun _ => rfl) ho rfl (fun k e => ⟨hb k e, ho.lt k e⟩) (fun x hx => ⟨rfl, hI x hx⟩)⟩
theorem of_take (l : List Nod) (k : Int) {j : Nat} (hj : j < l.length) : ofKind (l.take (j + 1)) k = ofKind (l.take j) k ++ if l[j].kind == k then [(j : Int)] else [] := by
  rw [List.take_succ_eq_append_getElem hj]
  unfold ofKind
  rw [List.zipIdx_append, List.filter_append, List.map_append]
  congr 1
  have e : 0 + (List.take j l).length = j := by rw [List.length_take]; omega
  by_cases h : (l[j].kind == k) = true
  · simp [h]; omega
  · simp [h]
theorem of_len (l : List Nod) (k : Int) : (ofKind l k).length ≤ l.length := by
  unfold ofKind
  rw [List.length_map]
  exact Nat.le_trans (List.length_filter_le _ _) (by simp)
theorem of_mem {l : List Nod} {k x : Int} (h : x ∈ ofKind l k) : 0 ≤ x ∧ x < l.length := by
  unfold ofKind at h
  obtain ⟨p, hp, rfl⟩ := List.mem_map.1 h
  have := List.mem_zipIdx (List.mem_filter.1 hp).1
  omega
theorem info_int : (Tryz.prog.info? 3).map (fun i => (i.zero, i.size, i.bytes)) = some (some (.int .i64 0), 1, 8) := by kernel_rfl
def OfPost (l : List Nod) (k : Int) (w : World) (e : Ending) (w' : World) : Prop :=
  (jobErr l = 0 → ∃ A c, e = .returned (.tuple #[.slice A (ofKind l k).length c, .nilIface]) ∧ SlA (intE .i64) (fun j => w.heap.size ≤ j ∧ j < w'.heap.size) w' A c (ofKind l k)) ∧ (jobErr l ≠ 0 → e = .returned (.tuple #[.slice none 0 0, errV (jobErr l)])) ∧ Below w.heap.size w w'
set_option maxRecDepth 100000 in
set_option maxHeartbeats 2000000 in
theorem of_ok (F : Nat → Prop) (A : Option Addr) (c : Nat) (l : List Nod) (k : Int) (w : World) (hl : SlA nodE F w A c l) (hF : ∀ k, F k → k < w.heap.size) (hv : ErrVars w) :
    Calls Tryz.prog 65 #[.slice A l.length c, .int .i64 k] w (OfPost l k w) := by
  have HL := Lib.hid hl
  have hle := hl.le
  have HC := Lib.hid (jcheck_ok F A c l w hl hF hv)
  clear hl hv
  by_cases h0 : jobErr l = 0
  · rw [h0] at HC
    have H0 := Lib.hid h0
    have hl12 := (job_parts h0).1
    clear h0
    go_enter Tryz.func65, Tryz.ntmps65
    go_wp2_with fail
    refine HC.out.mono ?_
    rintro e w2 ⟨rfl, hb2⟩
    rw [show errJ 0 = .nilIface from rfl]
    have HB2 := Lib.hid hb2
    have HL2 := Lib.hid (HL.out.keep (fun i hi => hb2.block i (hF i hi)))
    have hF2 : Hid (∀ i, F i → i < w2.heap.size) := fun i hi => Nat.lt_of_lt_of_le (hF i hi) hb2.size
    clear hb2 HL HC
    go_wp2_with fail
    go_loopw [7, 17] (fun v jv wr => ∃ j : Nat, j ≤ l.length ∧ jv = .int .i64 j ∧ Hid (wr.ownsRow w2.heap.size 3 1 v (ofKind (l.take j) k).length (intV (ofKind (l.take j) k))) ∧ Hid (Below w2.heap.size w2 wr)) (fun _ jv _ => l.length - (intOf jv).toNat)
    case atStart => exact ⟨0, Nat.zero_le _, rfl, World.ownsRow_nil _ _ _ _, Below.refl _ _⟩
    case round =>
      obtain ⟨j, hj, rfl, HR, HB⟩ := hrel
      by_cases hlt : j < l.length
      · obtain ⟨b, off, A', c', rfl, hFb, x0, x1, x2, x3, htm, hki, hni, hfr⟩ := (HL2.out.keep (fun i hi => HB.out.block i (hF2.out i hi))).nod_ hlt
        have HT := Lib.hid (of_take l k hlt)
        have hm : (ofKind (l.take j) k).length ≤ j := Nat.le_trans (of_len _ _) (List.length_take_le _ _)
        clear hfr hki hni hFb htm
        generalize l[j] = nd at x0 x1 x2 x3 HT
        obtain ⟨kind, from_, text, nn⟩ := nd
        simp only at x0 x1 x2 x3 HT
        generalize ofKind (l.take j) k = zs at HR HT hm
        cases hkk : (kind == k) with
        | false =>
          have HT2 : Hid (ofKind (l.take (j + 1)) k = zs) := by show _ = _; rw [HT.out, hkk]; simp
          go_wp2_with fail
          have hb3 : Below w2.heap.size w2 (wr.alloc (.cells #[.int .i64 kind, .slice A' from_.length c', .string text, .int .i64 nn] 40)) := HB.out.alloc HB.out.size _
          go_roundw
          case rel => exact ⟨j + 1, by omega, by go_num, by show World.ownsRow _ _ _ _ _ _ _; rw [HT2.out]; exact HR.out.alloc _, hb3⟩
          case measure => simp [intOf]; omega
        | true =>
          have HT2 : Hid (ofKind (l.take (j + 1)) k = zs ++ [(j : Int)]) := by show _ = _; rw [HT.out, hkk]; simp
          obtain ⟨W3, hW3⟩ : ∃ W3, W3 = wr.alloc (.cells #[.int .i64 kind, .slice A' from_.length c', .string text, .int .i64 nn] 40) := ⟨_, rfl⟩
          have hb3 : Below w2.heap.size w2 W3 := by rw [hW3]; exact HB.out.alloc HB.out.size _
          have HR3 : Hid (W3.ownsRow w2.heap.size 3 1 u7 zs.length (intV zs)) := by rw [hW3]; exact HR.out.alloc _
          go_upto_region 9 with (fail)
          rw [← hW3]
          clear hW3 x0 x1 x2 x3
          clear HT HR
          go_wp2_with (at_builtin; refine wpList_push rfl _ _ 38 rfl w2.heap.size 3 (.int .i64 0) 1 8 Tryz.underlying38 info_int rfl (by decide) u7 zs.length (intV zs) rfl HR3.out [.int .i64 j] rfl rfl ?_ ?_ ?_ hb3.size hb3 (Nat.le_refl _) ?_)
          · rintro u hu; simp at hu; subst hu; rfl
          · unfold maxLen; omega
          · omega
          · intro v' w8 hown8 hg8 hb8 _
            have HR8 : Hid (w8.ownsRow w2.heap.size 3 1 v' (ofKind (l.take (j + 1)) k).length (intV (ofKind (l.take (j + 1)) k))) := by
              show World.ownsRow _ _ _ _ _ _ _
              rw [HT2.out, List.length_append, show intV (zs ++ [(j : Int)]) = intV zs ++ [.int .i64 j] from by simp [intV]]; exact hown8
            have HB8 := Lib.hid hb8
            clear hown8 hg8 hb8 hb3 HT2
            go_wp2_with fail
            refine ⟨⟨j + 1, by omega, by congr 1, HR8, HB8⟩, ?_⟩
            simp [intOf]; omega
      · have dj : decide (j < l.length) = false := decide_eq_false hlt
        have e : l.take j = l := List.take_of_length_le (by omega)
        rw [e] at HR
        obtain ⟨A3, c3, rfl, hs3⟩ := row_new HR.out (fun x hx => WalkArith.wf_i64 (by have := of_mem hx; omega))
        have HS3 := Lib.hid hs3
        have HB3 := Lib.hid (HB2.out.trans (HB.out.mono HB2.out.size))
        clear hs3 HR e hj hlt
        go_wp2_with fail
        go_ret2
        exact ⟨fun _ => ⟨A3, c3, rfl, HS3.out.more fun i ⟨h1, h2⟩ => ⟨Nat.le_trans HB2.out.size h1, h2⟩⟩, fun h => absurd H0.out h, HB3.out⟩
  · have H0 := Lib.hid h0
    rw [show errJ (jobErr l) = errV (jobErr l) from by unfold errJ; rw [if_neg h0]] at HC
    obtain ⟨je, hje⟩ : ∃ je, je = jobErr l := ⟨_, rfl⟩
    have HJE := Lib.hid hje
    rw [← hje] at HC
    clear h0 hje
    go_enter Tryz.func65, Tryz.ntmps65
    go_wp2_with fail
    refine HC.out.mono ?_
    rintro e w2 ⟨rfl, hb2⟩
    have HB2 := Lib.hid hb2
    clear hb2
    unfold errV
    go_wp2_with fail
    go_ret2
    exact ⟨fun h => absurd h H0.out, fun _ => by rw [← HJE.out]; rfl, HB2.out⟩
end Go.Proofs.YtfndhfekbbbliaaGreatDoor
