/-
  Package expr: the contract of (tree).eval: what a tree comes to. Condition: its numbers are ints, its operators are some.
-/
import Derived.Test.YtojkidaneggabaaDoorExprParse
import Derived.Test.YtojkidaneggabaaDoorExprText
namespace Go.Proofs.YtojkidaneggabaaDoor
open Go.RowKit Go.Shelf
set_option linter.unusedVariables false

def I64_ (n : Int) : Prop := -9223372036854775808 ≤ n ∧ n ≤ 9223372036854775807
theorem isOp_cases {op : UInt8} (h : isOp op = true) : op = 109 ∨ op = 77 ∨ op = 61 ∨ op = 60 ∨ op = 62 ∨ op = 43 ∨ op = 45 ∨ op = 42 ∨ op = 47 ∨ op = 37 := by
  unfold isOp at h
  simpa [or_assoc] using h
theorem wrap_bounds (x : Int) : I64_ (wrap64 x) := by unfold wrap64 I64_; omega
theorem b2i_bounds (b : Bool) : I64_ (b2i b) := by cases b <;> (unfold b2i I64_; decide)
theorem tdiv_bounds {a b : Int} (ha : I64_ a) (h0 : b ≠ 0) (h1 : b ≠ -1) : I64_ (a.tdiv b) := by
  unfold I64_ at *
  by_cases e : b = 1
  · subst e; rw [Int.tdiv_one]; exact ha
  · have h := Int.natAbs_tdiv a b
    have h2 : (a.tdiv b).natAbs ≤ a.natAbs / 2 := by
      rw [h]; exact Nat.div_le_div_left (by omega) (by omega)
    omega
theorem tmod_bounds {a b : Int} (ha : I64_ a) : I64_ (a.tmod b) := by
  unfold I64_ at *
  have h : (a.tmod b).natAbs = a.natAbs % b.natAbs := Int.natAbs_tmod a b
  have h2 : (a.tmod b).natAbs ≤ a.natAbs := by rw [h]; exact Nat.mod_le _ _
  rcases Int.le_total 0 a with g | g
  · have := Int.tmod_nonneg b g; omega
  · have := Int.tmod_nonneg b (a := -a) (by omega); rw [Int.neg_tmod] at this; omega
theorem op_bounds (op : UInt8) {a b : Int} (ha : I64_ a) (hb : I64_ b) : I64_ (opVal op a b) := by
  unfold opVal
  repeat' split
  · unfold I64_ at *; omega
  · unfold I64_ at *; omega
  · exact wrap_bounds _
  · exact wrap_bounds _
  · exact wrap_bounds _
  · exact b2i_bounds _
  · exact b2i_bounds _
  · exact b2i_bounds _
  · unfold I64_; omega
  · unfold I64_; omega
  · exact wrap_bounds _
  · exact tdiv_bounds ha ‹_› ‹_›
  · exact tmod_bounds ha
theorem val_bounds {t : Tr} {n s : Int} (hf : t.fine) (hn : I64_ n) (hs : I64_ s) : I64_ (t.val n s) := by
  induction t with
  | num k => unfold Tr.fine at hf; unfold Tr.val I64_; omega
  | nam b => unfold Tr.val; split <;> assumption
  | neg a ih => exact wrap_bounds _
  | bin op a b iha ihb => exact op_bounds op (iha hf.2.1) (ihb hf.2.2)
  | sel a b c iha ihb ihc => unfold Tr.val; split; exact ihc hf.2.2; exact ihb hf.2.1
set_option maxRecDepth 100000 in
theorem is_ok (b : Bool) (w : World) : Calls Tryd.prog 16 #[.bool b] w fun e w' => e = .returned (.int .i64 (b2i b)) ∧ w' = w := by
  cases b
  · go_enter Tryd.func16, Tryd.ntmps16
    go_wp2
    go_ret
    exact ⟨rfl, rfl⟩
  · go_enter Tryd.func16, Tryd.ntmps16
    go_wp2
    go_ret
    exact ⟨rfl, rfl⟩
/-- A region that draws its order, whose operations all yield one value in each world of a class: one walk in the text's order. -/
theorem region_class {P : Program} {C : World → Prop} {id : Nat} {Q : Exit → Act → World → Prop} {a : Act} {w : World} {l : List Oper} (hm : P.follows .mixedOrders = true) (hB : Region.lexB .any l.toArray = true) (hC : C w.drew)
    (h : wpQuiet P l.toArray C (fun a' => ∀ w', C w' → Q .normal a' w') l a) : (Code.region id l.toArray true).wp P Q a w :=
  wp_region_quiet (C := C) hm hB hC (by simpa using h)
/-- A world that grew out of w. -/
structure GrownW (w : World) where
  val : World
  bel : Below w.heap.size w val
set_option maxRecDepth 100000 in
set_option maxHeartbeats 4000000 in
theorem eval_ok (t : Tr) (hf : t.fine) (n s : Int) (hn : I64_ n) (hs : I64_ s) : ∀ (o k : Int) (A : Option Addr) (c : Nat) (w : World), TrC (· < w.heap.size) w t (trL o k A c) →
    Calls Tryd.prog 11 #[.agg #[.int .u8 o, .int .i64 k, .slice A c c], .int .i64 n, .int .i64 s] w fun e w' => e = .returned (.int .i64 (t.val n s)) ∧ Below w.heap.size w w' := by
  induction t with
  | num v =>
    intro o k A c w h
    obtain ⟨rfl, rfl, rfl, rfl⟩ : o = 48 ∧ k = v ∧ A = none ∧ c = 0 := by
      have h : trL o k A c = _ := h
      simp [trL] at h; exact h
    go_enter Tryd.func11, Tryd.ntmps11
    go_wp2_with fail
    go_ret
    exact ⟨rfl, (Below.refl _ _).alloc (Nat.le_refl _) _⟩
  | nam b =>
    intro o k A c w h
    obtain ⟨rfl, rfl, rfl, rfl⟩ : o = (if b then 110 else 115) ∧ k = 0 ∧ A = none ∧ c = 0 := by
      have h : trL o k A c = _ := h
      simp [trL] at h; exact h
    cases b
    · simp only [Bool.false_eq_true, if_false]
      go_enter Tryd.func11, Tryd.ntmps11
      go_wp2_with fail
      go_ret
      exact ⟨rfl, (Below.refl _ _).alloc (Nat.le_refl _) _⟩
    · simp only [if_true]
      go_enter Tryd.func11, Tryd.ntmps11
      go_wp2_with fail
      go_ret
      exact ⟨rfl, (Below.refl _ _).alloc (Nat.le_refl _) _⟩
  | neg a ih =>
    intro o k A c w h
    obtain ⟨g, ca, he, hk, ha⟩ := h
    obtain ⟨rfl, rfl, rfl, rfl⟩ : o = 126 ∧ k = 0 ∧ A = some ⟨g, 0, none⟩ ∧ c = 1 := by simp [trL] at he; exact he
    obtain ⟨o1, k1, A1, c1, rfl⟩ := ha.three
    obtain ⟨x0, x1, x2, xf⟩ := (TVar.allocs (w := w) (k := g) hk.2)
    have HIH := Lib.hid (ih hf)
    have HA := Lib.hid ha
    clear ih ha hk he
    go_enter Tryd.func11, Tryd.ntmps11
    go_wp2_with fail
    have hb1 : Below w.heap.size w (w.alloc (.cells #[.int .u8 126, .int .i64 0, .slice (some ⟨g, 0, none⟩) 1 1] 35)) := (Below.refl _ _).alloc (Nat.le_refl _) _
    refine (HIH.out o1 k1 A1 c1 _ ((HA.out.keep fun j hj => heap_alloc_old _ _ hj).in_ fun j hj hj2 => hj2)).mono ?_
    rintro e w2 ⟨rfl, hb2⟩
    have HB := Lib.hid (hb1.trans (hb2.mono hb1.size))
    clear hb1 hb2 HIH HA x0 x1 x2 xf
    go_wp2_with fail
    go_ret
    exact ⟨rfl, HB.out⟩
  | bin op a b iha ihb =>
    intro o k A c w h
    obtain ⟨g, ca, cb, he, hk, ha, hb⟩ := h
    obtain ⟨rfl, rfl, rfl, rfl⟩ : o = (op.toNat : Int) ∧ k = 0 ∧ A = some ⟨g, 0, none⟩ ∧ c = 2 := by simp [trL] at he; exact he
    obtain ⟨o1, k1, A1, c1, rfl⟩ := ha.three
    obtain ⟨o2, k2, A2, c2, rfl⟩ := hb.three
    obtain ⟨hop, hfa, hfb⟩ := hf
    have hgl := block_lt hk.2
    have HA := Lib.hid ha
    have HB := Lib.hid hb
    have HIA := Lib.hid (iha hfa)
    have HIB := Lib.hid (ihb hfb)
    have hk2 := hk.2
    obtain ⟨W1, hW1⟩ : ∃ W1, W1 = w.alloc (.cells #[.int .u8 (op.toNat : Int), .int .i64 0, .slice (some ⟨g, 0, none⟩) 2 2] 35) := ⟨_, rfl⟩
    have hb1 : Below w.heap.size w W1 := by rw [hW1]; exact (Below.refl _ _).alloc (Nat.le_refl _) _
    have hv1 : TVar W1 w.heap.size (.int .u8 (op.toNat : Int)) (.int .i64 0) (.slice (some ⟨g, 0, none⟩) 2 2) := by rw [hW1]; exact TVar.new _ _ _ _
    have hall : ∀ V : GrownW W1, V.val.cell? ⟨g, 0, none⟩ = some (.int .u8 o1) ∧ V.val.cell? ⟨g, 1, none⟩ = some (.int .i64 k1) ∧ V.val.cell? ⟨g, 2, none⟩ = some (.slice A1 c1 c1) ∧ V.val.cell? ⟨g, 3, none⟩ = some (.int .u8 o2) ∧ V.val.cell? ⟨g, 4, none⟩ = some (.int .i64 k2) ∧ V.val.cell? ⟨g, 5, none⟩ = some (.slice A2 c2 c2) ∧
        V.val.cell? ⟨w.heap.size, 0, none⟩ = some (.int .u8 (op.toNat : Int)) ∧ V.val.cell? ⟨w.heap.size, 2, none⟩ = some (.slice (some ⟨g, 0, none⟩) 2 2) := fun V => by
      have h : V.val.heap[g]? = _ := (V.bel.block g (by have := hb1.size; omega)).trans ((hb1.block g hgl).trans hk2)
      have h2 : TVar V.val w.heap.size (.int .u8 (op.toNat : Int)) (.int .i64 0) (.slice (some ⟨g, 0, none⟩) 2 2) := (V.bel.block _ (block_lt hv1)).trans hv1
      exact ⟨(cell_of_row V.val g 0 _ _ _ h).trans rfl, (cell_of_row V.val g 1 _ _ _ h).trans rfl, (cell_of_row V.val g 2 _ _ _ h).trans rfl, (cell_of_row V.val g 3 _ _ _ h).trans rfl, (cell_of_row V.val g 4 _ _ _ h).trans rfl, (cell_of_row V.val g 5 _ _ _ h).trans rfl, h2.cells.1, h2.cells.2.2.1⟩
    have x0 := fun V => (hall V).1
    have x1 := fun V => (hall V).2.1
    have x2 := fun V => (hall V).2.2.1
    have x3 := fun V => (hall V).2.2.2.1
    have x4 := fun V => (hall V).2.2.2.2.1
    have x5 := fun V => (hall V).2.2.2.2.2.1
    have x6 := fun V => (hall V).2.2.2.2.2.2.1
    have x7 := fun V => (hall V).2.2.2.2.2.2.2
    have m0 := x6 ⟨W1, Below.refl _ _⟩
    have HB1 := Lib.hid hb1
    have hne : ∀ c : UInt8, isOp c = false → ((op.toNat : Int) == (c.toNat : Int)) = false := fun c hc => beq_eq_false_iff_ne.2 fun e => by
      have : op = c := UInt8.toNat_inj.1 (by omega)
      rw [this, hc] at hop; cases hop
    have n1 : ((op.toNat : Int) == 110) = false := hne 110 rfl
    have n2 : ((op.toNat : Int) == 115) = false := hne 115 rfl
    have n3 : ((op.toNat : Int) == 48) = false := hne 48 rfl
    have n4 : ((op.toNat : Int) == 63) = false := hne 63 rfl
    have n5 : ((op.toNat : Int) == 126) = false := hne 126 rfl
    clear iha ihb ha hb he hk hall hb1 hv1 hk2 hne
    go_enter Tryd.func11, Tryd.ntmps11
    go_upto_region 1 with (fail)
    rw [← hW1]
    clear hW1
    go_upto_region 14 with (fail)
    refine region_class (C := fun W => ∃ V : GrownW W1, W = V.val) (by kernel_rfl) (by kernel_rfl) ⟨⟨W1.drew, (Below.refl _ _).drew⟩, rfl⟩ ?_
    have HCA : Hid (∀ V : GrownW W1, Calls Tryd.prog 11 #[.agg #[.int .u8 o1, .int .i64 k1, .slice A1 c1 c1], .int .i64 n, .int .i64 s] V.val fun e w' => e = .returned (.int .i64 (a.val n s)) ∧ ∃ V' : GrownW W1, w' = V'.val) := fun V => by
      refine (HIA.out o1 k1 A1 c1 V.val ((HA.out.keep fun j hj => (V.bel.block j (by have := HB1.out.size; omega)).trans (HB1.out.block j hj)).in_ fun j _ h => h)).mono ?_
      rintro e w' ⟨rfl, hb⟩
      exact ⟨rfl, ⟨w', V.bel.trans (hb.mono V.bel.size)⟩, rfl⟩
    have HCB : Hid (∀ V : GrownW W1, Calls Tryd.prog 11 #[.agg #[.int .u8 o2, .int .i64 k2, .slice A2 c2 c2], .int .i64 n, .int .i64 s] V.val fun e w' => e = .returned (.int .i64 (b.val n s)) ∧ ∃ V' : GrownW W1, w' = V'.val) := fun V => by
      refine (HIB.out o2 k2 A2 c2 V.val ((HB.out.keep fun j hj => (V.bel.block j (by have := HB1.out.size; omega)).trans (HB1.out.block j hj)).in_ fun j _ h => h)).mono ?_
      rintro e w' ⟨rfl, hb⟩
      exact ⟨rfl, ⟨w', V.bel.trans (hb.mono V.bel.size)⟩, rfl⟩
    have hne : Nonempty (GrownW W1) := ⟨⟨W1, Below.refl _ _⟩⟩
    repeat go_big_quiet_step (first | with_reducible exact HCA.out _ | with_reducible exact HCB.out _)
    refine wpQuiet_nil ?_
    intro _ hw'
    obtain ⟨V, rfl⟩ := hw'
    have HV := Lib.hid (HB1.out.trans (V.bel.mono HB1.out.size))
    have y0 := x6 V
    have HVL : Hid ((Tr.bin op a b).val n s = opVal op (a.val n s) (b.val n s)) := rfl
    obtain ⟨bA1, bA2⟩ := val_bounds hfa hn hs
    obtain ⟨bB1, bB2⟩ := val_bounds hfb hn hs
    generalize a.val n s = va at HVL bA1 bA2 ⊢
    generalize b.val n s = vb at HVL bB1 bB2 ⊢
    generalize V.val = W2 at HV y0 ⊢
    clear HCA HCB hne x0 x1 x2 x3 x4 x5 x6 x7 m0 HIA HIB HA HB V
    have hcs := isOp_cases hop
    clear n1 n2 n3 n4 n5 hop
    rcases hcs with rfl | rfl | rfl | rfl | rfl | rfl | rfl | rfl | rfl | rfl
    · go_wp2_with fail
      go_ret
      exact ⟨by rw [HVL.out]; rfl, HV.out⟩
    · go_wp2_with fail
      go_ret
      exact ⟨by rw [HVL.out]; rfl, HV.out⟩
    · go_wp2_with fail
      refine (is_ok _ _).mono ?_
      rintro e w' ⟨rfl, rfl⟩
      go_wp2_with fail
      go_ret
      exact ⟨by rw [HVL.out]; rfl, HV.out⟩
    · go_wp2_with fail
      refine (is_ok _ _).mono ?_
      rintro e w' ⟨rfl, rfl⟩
      go_wp2_with fail
      go_ret
      exact ⟨by rw [HVL.out]; rfl, HV.out⟩
    · go_wp2_with fail
      refine (is_ok _ _).mono ?_
      rintro e w' ⟨rfl, rfl⟩
      go_wp2_with fail
      go_ret
      exact ⟨by rw [HVL.out]; rfl, HV.out⟩
    · go_wp2_with fail
      go_ret
      exact ⟨by rw [HVL.out]; rfl, HV.out⟩
    · go_wp2_with fail
      go_ret
      exact ⟨by rw [HVL.out]; rfl, HV.out⟩
    · go_wp2_with fail
      go_ret
      exact ⟨by rw [HVL.out]; rfl, HV.out⟩
    · by_cases h0 : vb = 0
      · subst h0
        go_wp2_with fail
        go_ret
        exact ⟨by rw [HVL.out]; rfl, HV.out⟩
      · have e0 : (vb == 0) = false := by simp [h0]
        by_cases h1 : vb = -1
        · subst h1
          go_wp2_with fail
          go_ret
          exact ⟨by rw [HVL.out]; rfl, HV.out⟩
        · have e1 : (vb == -1) = false := by simp [h1]
          have ho : opVal 47 va vb = wrap64 (va.tdiv vb) := by
            have hb := tdiv_bounds ⟨bA1, bA2⟩ h0 h1
            have e : opVal 47 va vb = va.tdiv vb := by unfold opVal; simp [h0, h1]
            rw [e]; unfold I64_ at hb; unfold wrap64; omega
          have HO := Lib.hid ho
          clear ho
          go_wp2_with fail
          go_ret
          exact ⟨by rw [HVL.out, HO.out]; rfl, HV.out⟩
    · by_cases h0 : vb = 0
      · subst h0
        go_wp2_with fail
        go_ret
        exact ⟨by rw [HVL.out]; rfl, HV.out⟩
      · have e0 : (vb == 0) = false := by simp [h0]
        by_cases h1 : vb = -1
        · subst h1
          go_wp2_with fail
          go_ret
          exact ⟨by rw [HVL.out]; rfl, HV.out⟩
        · have e1 : (vb == -1) = false := by simp [h1]
          have ho : opVal 37 va vb = va.tmod vb := by unfold opVal; simp [h0, h1]
          have HO := Lib.hid ho
          clear ho
          go_wp2_with fail
          go_ret
          exact ⟨by rw [HVL.out, HO.out]; rfl, HV.out⟩
  | sel a b d iha ihb ihd =>
    intro o k A c w h
    obtain ⟨g, ca, cb, cd, he, hk, ha, hb, hd⟩ := h
    obtain ⟨rfl, rfl, rfl, rfl⟩ : o = 63 ∧ k = 0 ∧ A = some ⟨g, 0, none⟩ ∧ c = 3 := by simp [trL] at he; exact he
    obtain ⟨o1, k1, A1, c1, rfl⟩ := ha.three
    obtain ⟨o2, k2, A2, c2, rfl⟩ := hb.three
    obtain ⟨o3, k3, A3, c3, rfl⟩ := hd.three
    obtain ⟨hfa, hfb, hfd⟩ := hf
    have hrow : ∀ W : World, W.heap[g]? = w.heap[g]? → W.cell? ⟨g, 0, none⟩ = some (.int .u8 o1) ∧ W.cell? ⟨g, 1, none⟩ = some (.int .i64 k1) ∧ W.cell? ⟨g, 2, none⟩ = some (.slice A1 c1 c1) ∧ W.cell? ⟨g, 3, none⟩ = some (.int .u8 o2) ∧ W.cell? ⟨g, 4, none⟩ = some (.int .i64 k2) ∧ W.cell? ⟨g, 5, none⟩ = some (.slice A2 c2 c2) ∧ W.cell? ⟨g, 6, none⟩ = some (.int .u8 o3) ∧ W.cell? ⟨g, 7, none⟩ = some (.int .i64 k3) ∧ W.cell? ⟨g, 8, none⟩ = some (.slice A3 c3 c3) := fun W hW => by
      have h := hW.trans hk.2
      exact ⟨(cell_of_row W g 0 _ _ _ h).trans rfl, (cell_of_row W g 1 _ _ _ h).trans rfl, (cell_of_row W g 2 _ _ _ h).trans rfl, (cell_of_row W g 3 _ _ _ h).trans rfl, (cell_of_row W g 4 _ _ _ h).trans rfl, (cell_of_row W g 5 _ _ _ h).trans rfl, (cell_of_row W g 6 _ _ _ h).trans rfl, (cell_of_row W g 7 _ _ _ h).trans rfl, (cell_of_row W g 8 _ _ _ h).trans rfl⟩
    have HROW := Lib.hid hrow
    have hgl := block_lt hk.2
    have HA := Lib.hid ha
    have HB := Lib.hid hb
    have HD := Lib.hid hd
    have HIA := Lib.hid (iha hfa)
    have HIB := Lib.hid (ihb hfb)
    have HID := Lib.hid (ihd hfd)
    clear iha ihb ihd ha hb hd he hk hrow
    obtain ⟨W1, hW1⟩ : ∃ W1, W1 = w.alloc (.cells #[.int .u8 63, .int .i64 0, .slice (some ⟨g, 0, none⟩) 3 3] 35) := ⟨_, rfl⟩
    have hb1 : Below w.heap.size w W1 := by rw [hW1]; exact (Below.refl _ _).alloc (Nat.le_refl _) _
    have hv1 : TVar W1 w.heap.size (.int .u8 63) (.int .i64 0) (.slice (some ⟨g, 0, none⟩) 3 3) := by rw [hW1]; exact TVar.new _ _ _ _
    obtain ⟨x0, x1, x2, x3, x4, x5, x6, x7, x8⟩ := HROW.out W1 (hb1.block g hgl)
    obtain ⟨v0, v1, v2, vf⟩ := hv1.cells
    have HB1 := Lib.hid hb1
    have HV1 := Lib.hid hv1
    clear hb1 hv1
    go_enter Tryd.func11, Tryd.ntmps11
    go_upto_region 1 with (fail)
    rw [← hW1]
    clear hW1
    go_wp2_with fail
    refine (HIA.out o1 k1 A1 c1 W1 ((HA.out.keep fun j hj => HB1.out.block j hj).in_ fun j hj hj2 => hj2)).mono ?_
    rintro e w2 ⟨rfl, hb2⟩
    have HB2 := Lib.hid (HB1.out.trans (hb2.mono HB1.out.size))
    have hv2 : TVar w2 w.heap.size (.int .u8 63) (.int .i64 0) (.slice (some ⟨g, 0, none⟩) 3 3) := (hb2.block _ (block_lt HV1.out)).trans HV1.out
    obtain ⟨y0, y1, y2, y3, y4, y5, y6, y7, y8⟩ := HROW.out w2 (HB2.out.block g hgl)
    obtain ⟨u0, u1, u2, uf⟩ := hv2.cells
    have HVL : Hid ((Tr.sel a b d).val n s = if a.val n s = 0 then d.val n s else b.val n s) := rfl
    clear hb2 hv2 x0 x1 x2 x3 x4 x5 x6 x7 x8 v0 v1 v2 vf HB1 HV1
    generalize a.val n s = va at HVL ⊢
    by_cases h0 : va = 0
    · subst h0
      go_wp2_with fail
      refine (HID.out o3 k3 A3 c3 w2 ((HD.out.keep fun j hj => HB2.out.block j hj).in_ fun j hj hj2 => hj2)).mono ?_
      rintro e w3 ⟨rfl, hb3⟩
      have HB3 := Lib.hid (HB2.out.trans (hb3.mono HB2.out.size))
      clear hb3
      go_wp2_with fail
      go_ret
      exact ⟨by rw [HVL.out]; rfl, HB3.out⟩
    · have hne : (va != 0) = true := by simp [h0]
      go_wp2_with fail
      refine (HIB.out o2 k2 A2 c2 w2 ((HB.out.keep fun j hj => HB2.out.block j hj).in_ fun j hj hj2 => hj2)).mono ?_
      rintro e w3 ⟨rfl, hb3⟩
      have HB3 := Lib.hid (HB2.out.trans (hb3.mono HB2.out.size))
      clear hb3
      go_wp2_with fail
      go_ret
      exact ⟨by rw [HVL.out, if_neg h0]; rfl, HB3.out⟩
end Go.Proofs.YtojkidaneggabaaDoor
