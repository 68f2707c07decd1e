/-
  Package expr: the contracts of (tree).tight, (tree).at, (tree).print: the shortest text of a tree. Conditions: its numbers are ints, its operators are some; it is short; the table of powers of ten reads as Go's text lays it.
-/
import Derived.Test.YtojkidaneggabaaDoorExprEval
import Derived.Shelf.Strconv.Itoa3
import Derived.Lib.LaidTab
import Derived.Lib.SmallJoins
import Derived.Lib.AppendIntMem
namespace Go.Proofs.YtojkidaneggabaaDoor
open Go.RowKit Go.Shelf
set_option linter.unusedVariables false

def PowTab (w : World) : Prop := Lib.TabIs Tryd.prog w "internal/strconv.uint64pow10" .u64 Lib.pow10Tab
def bs (l : List UInt8) : ByteArray := ⟨l.toArray⟩
theorem bs_app (l r : List UInt8) : bs l ++ bs r = bs (l ++ r) := by
  simp [bs, ByteArray.ext_iff]
theorem bs_size (l : List UInt8) : (bs l).size = l.length := by show l.toArray.size = _; simp
theorem brk_bs (l : List UInt8) : (⟨#[40]⟩ : ByteArray) ++ bs l ++ ⟨#[41]⟩ = bs (brk true l) := by
  rw [show (⟨#[40]⟩ : ByteArray) = bs [40] from rfl, show (⟨#[41]⟩ : ByteArray) = bs [41] from rfl, bs_app, bs_app]; rfl
/-- How tight, by the operator's byte. -/
def tightI (o : Int) : Int := if o = 63 then 0 else if o = 61 ∨ o = 60 ∨ o = 62 then 1 else if o = 43 ∨ o = 45 then 2 else if o = 42 ∨ o = 47 ∨ o = 37 then 3 else if o = 126 then 4 else 5
def OpI (o : Int) : Prop := o = 63 ∨ o = 126 ∨ o = 48 ∨ o = 110 ∨ o = 115 ∨ o = 109 ∨ o = 77 ∨ o = 61 ∨ o = 60 ∨ o = 62 ∨ o = 43 ∨ o = 45 ∨ o = 42 ∨ o = 47 ∨ o = 37
theorem trL_op {F : Nat → Prop} {w : World} {t : Tr} (hf : t.fine) {o k : Int} {A : Option Addr} {c : Nat} (h : TrC F w t (trL o k A c)) : OpI o ∧ tightI o = (t.tight : Int) := by
  cases t with
  | num v =>
    have h : trL o k A c = _ := h
    simp [trL] at h; obtain ⟨rfl, _⟩ := h
    exact ⟨by simp [OpI], rfl⟩
  | nam b =>
    have h : trL o k A c = _ := h
    simp [trL] at h; obtain ⟨rfl, _⟩ := h
    cases b <;> exact ⟨by simp [OpI], rfl⟩
  | neg a =>
    obtain ⟨g, ca, h, _⟩ := h
    simp [trL] at h; obtain ⟨rfl, _⟩ := h
    exact ⟨by simp [OpI], rfl⟩
  | bin op a b =>
    obtain ⟨g, ca, cb, h, _⟩ := h
    simp [trL] at h; obtain ⟨rfl, _⟩ := h
    rcases isOp_cases hf.1 with rfl | rfl | rfl | rfl | rfl | rfl | rfl | rfl | rfl | rfl <;> exact ⟨by simp [OpI], rfl⟩
  | sel a b d =>
    obtain ⟨g, ca, cb, cc, h, _⟩ := h
    simp [trL] at h; obtain ⟨rfl, _⟩ := h
    exact ⟨by simp [OpI], rfl⟩
set_option maxRecDepth 100000 in
set_option maxHeartbeats 1000000 in
theorem tight_o (o k : Int) (A : Option Addr) (c : Nat) (ho : OpI o) (w : World) :
    Calls Tryd.prog 19 #[.agg #[.int .u8 o, .int .i64 k, .slice A c c]] w fun e w' => e = .returned (.int .i64 (tightI o)) ∧ Below w.heap.size w w' := by
  rcases ho with rfl | rfl | rfl | rfl | rfl | rfl | rfl | rfl | rfl | rfl | rfl | rfl | rfl | rfl | rfl <;>
  · go_enter Tryd.func19, Tryd.ntmps19
    go_wp2_with fail
    go_ret
    exact ⟨rfl, (Below.refl _ _).alloc (Nat.le_refl _) _⟩
/-- A tree's text is what print returns. -/
def Prints (t : Tr) : Prop := ∀ (o k : Int) (A : Option Addr) (c : Nat) (w : World), PowTab w → TrC (· < w.heap.size) w t (trL o k A c) →
    Calls Tryd.prog 12 #[.agg #[.int .u8 o, .int .i64 k, .slice A c c]] w fun e w' => e = .returned (.string (bs t.raw)) ∧ Below w.heap.size w w'
theorem PowTab.below {w w' : World} (h : PowTab w) (hb : Below w.heap.size w w') : PowTab w' := by
  obtain ⟨g, hg⟩ := Option.isSome_iff_exists.1 (show (Tryd.prog.globalNamed "internal/strconv.uint64pow10").isSome = true by kernel_rfl)
  exact Go.Joins.tab_stays hg h hb (Nat.le_refl _)
theorem itoa_ok (n : Int) (w : World) (hn : I64_ n) (hT : PowTab w) : Calls Tryd.prog 17 #[.int .i64 n] w fun e w' => e = .returned (.string (bs (Lib.itoa n))) ∧ Below w.heap.size w w' := by
  refine (Any.strconv_Itoa Tryd.itoa n hn.1 hn.2 w hT).mono ?_
  rintro e w' ⟨he, k, os, rfl⟩
  exact ⟨he, Go.Lib.below_grow _ w (Nat.le_refl _) k os⟩
set_option maxRecDepth 100000 in
set_option maxHeartbeats 1000000 in
theorem at_of (t : Tr) (hf : t.fine) (hl : t.raw.length ≤ 200) (hp : Prints t) (L : Nat) (hL : L ≤ 10) : ∀ (o k : Int) (A : Option Addr) (c : Nat) (w : World), PowTab w → TrC (· < w.heap.size) w t (trL o k A c) →
    Calls Tryd.prog 18 #[.agg #[.int .u8 o, .int .i64 k, .slice A c c], .int .i64 L] w fun e w' => e = .returned (.string (bs (t.at_ L))) ∧ Below w.heap.size w w' := by
  intro o k A c w hT h
  obtain ⟨hop, hti⟩ := trL_op hf h
  have HTI := Lib.hid hti
  have HP := Lib.hid hp
  have HT := Lib.hid hT
  have HH := Lib.hid h
  have hls := bs_size t.raw
  have htl : t.tight ≤ 10 := by
    have e : (t.tight : Int) = tightI o := hti.symm
    unfold tightI at e; repeat' split at e
    all_goals omega
  obtain ⟨W1, hW1⟩ : ∃ W1, W1 = w.alloc (.cells #[.int .u8 o, .int .i64 k, .slice A c c] 35) := ⟨_, rfl⟩
  have hb1 : Below w.heap.size w W1 := by rw [hW1]; exact (Below.refl _ _).alloc (Nat.le_refl _) _
  have hv1 : TVar W1 w.heap.size (.int .u8 o) (.int .i64 k) (.slice A c c) := by rw [hW1]; exact TVar.new _ _ _ _
  obtain ⟨v0, v1, v2, vf⟩ := hv1.cells
  have HB1 := Lib.hid hb1
  have HV1 := Lib.hid hv1
  clear hp hT h hti hb1 hv1
  go_enter Tryd.func18, Tryd.ntmps18
  go_upto_region 1 with (fail)
  rw [← hW1]
  clear hW1
  go_wp2_with fail
  refine (tight_o o k A c hop W1).mono ?_
  rintro e w2 ⟨rfl, hb2⟩
  have HB2 := Lib.hid (HB1.out.trans (hb2.mono HB1.out.size))
  have hv2 : TVar w2 w.heap.size (.int .u8 o) (.int .i64 k) (.slice A c c) := (hb2.block _ (block_lt HV1.out)).trans HV1.out
  have HC := Lib.hid (HP.out o k A c w2 (HT.out.below HB2.out) ((HH.out.keep fun j hj => HB2.out.block j hj).in_ fun j hj hj2 => hj2))
  rw [HTI.out]
  have HAT : Hid (t.at_ L = brk (decide (t.tight < L)) t.raw) := rfl
  generalize t.tight = q at HAT htl ⊢
  clear v0 v1 v2 vf hb2 HV1 HB1 HTI HH HT HP
  obtain ⟨v0, v1, v2, vf⟩ := hv2.cells
  clear hv2
  by_cases hlt : q < L
  · have d1 : decide (q < L) = true := decide_eq_true hlt
    rw [d1] at HAT
    go_wp2_with fail
    refine HC.out.mono ?_
    rintro e w3 ⟨rfl, hb3⟩
    have HB3 := Lib.hid (HB2.out.trans (hb3.mono HB2.out.size))
    clear hb3
    go_wp2_with fail
    go_ret
    exact ⟨by rw [HAT.out]; exact congrArg (fun x => Ending.returned (.string x)) (brk_bs t.raw), HB3.out⟩
  · have d1 : decide (q < L) = false := decide_eq_false hlt
    rw [d1] at HAT
    go_wp2_with fail
    refine HC.out.mono ?_
    rintro e w3 ⟨rfl, hb3⟩
    have HB3 := Lib.hid (HB2.out.trans (hb3.mono HB2.out.size))
    clear hb3
    go_wp2_with fail
    go_ret
    exact ⟨by rw [HAT.out]; rfl, HB3.out⟩
theorem prints_class {t : Tr} {w W1 : World} {o k : Int} {A : Option Addr} {c : Nat} (hp : Prints t) (hT : PowTab w) (hb : Below w.heap.size w W1) (h : TrC (· < w.heap.size) w t (trL o k A c)) :
    ∀ V : GrownW W1, Calls Tryd.prog 12 #[.agg #[.int .u8 o, .int .i64 k, .slice A c c]] V.val fun e w' => e = .returned (.string (bs t.raw)) ∧ ∃ V' : GrownW W1, w' = V'.val := fun V => by
  have hbV : Below w.heap.size w V.val := hb.trans (V.bel.mono hb.size)
  refine (hp o k A c V.val (hT.below hbV) ((h.keep fun j hj => hbV.block j hj).in_ fun j _ h => h)).mono ?_
  rintro e w' ⟨rfl, hb2⟩
  exact ⟨rfl, ⟨w', V.bel.trans (hb2.mono V.bel.size)⟩, rfl⟩
theorem at_class {t : Tr} (hf : t.fine) (hl : t.raw.length ≤ 200) (L : Nat) (hL : L ≤ 10) (Li : Int) (hLi : Li = L) {w W1 : World} {o k : Int} {A : Option Addr} {c : Nat} (hp : Prints t) (hT : PowTab w) (hb : Below w.heap.size w W1) (h : TrC (· < w.heap.size) w t (trL o k A c)) :
    ∀ V : GrownW W1, Calls Tryd.prog 18 #[.agg #[.int .u8 o, .int .i64 k, .slice A c c], .int .i64 Li] V.val fun e w' => e = .returned (.string (bs (t.at_ L))) ∧ ∃ V' : GrownW W1, w' = V'.val := fun V => by
  subst hLi
  have hbV : Below w.heap.size w V.val := hb.trans (V.bel.mono hb.size)
  refine (at_of t hf hl hp L hL o k A c V.val (hT.below hbV) ((h.keep fun j hj => hbV.block j hj).in_ fun j _ h => h)).mono ?_
  rintro e w' ⟨rfl, hb2⟩
  exact ⟨rfl, ⟨w', V.bel.trans (hb2.mono V.bel.size)⟩, rfl⟩
theorem bs_at (t : Tr) (hl : t.raw.length ≤ 200) (L : Nat) : (bs (t.at_ L)).size ≤ 202 := by
  rw [bs_size, at_length]; split <;> omega
theorem min_bs (x y op : UInt8) (ho : (x = 105 ∧ y = 110 ∧ op = 109) ∨ (x = 97 ∧ y = 120 ∧ op = 77)) (a b : Tr) : (⟨#[109, x, y, 40]⟩ : ByteArray) ++ bs a.raw ++ ⟨#[44]⟩ ++ bs b.raw ++ ⟨#[41]⟩ = bs (Tr.bin op a b).raw := by
  rw [show (⟨#[109, x, y, 40]⟩ : ByteArray) = bs [109, x, y, 40] from rfl, show (⟨#[41]⟩ : ByteArray) = bs [41] from rfl, show (⟨#[44]⟩ : ByteArray) = bs [44] from rfl, bs_app, bs_app, bs_app, bs_app]
  congr 1
  rcases ho with ⟨rfl, rfl, rfl⟩ | ⟨rfl, rfl, rfl⟩ <;> simp [Tr.raw]
set_option maxRecDepth 100000 in
set_option maxHeartbeats 4000000 in
theorem print_min (op : UInt8) (ho : op = 109 ∨ op = 77) (a b : Tr) (hla : a.raw.length ≤ 200) (hlb : b.raw.length ≤ 200) (hpa : Prints a) (hpb : Prints b) : Prints (.bin op a b) := by
  intro o k A c w hT h
  obtain ⟨g, ca, cb, he, hk, ha, hb⟩ := h
  obtain ⟨hoi, rfl, rfl, rfl⟩ : o = (op.toNat : Int) ∧ k = 0 ∧ A = some ⟨g, 0, none⟩ ∧ c = 2 := by simp [trL] at he; exact he
  obtain ⟨o1, k1, A1, c1, rfl⟩ := ha.three
  obtain ⟨o2, k2, A2, c2, rfl⟩ := hb.three
  have hgl := block_lt hk.2
  have hk2 := hk.2
  obtain ⟨W1, hW1⟩ : ∃ W1, W1 = w.alloc (.cells #[.int .u8 o, .int .i64 0, .slice (some ⟨g, 0, none⟩) 2 2] 35) := ⟨_, rfl⟩
  have hb1 : Below w.heap.size w W1 := by rw [hW1]; exact (Below.refl _ _).alloc (Nat.le_refl _) _
  have hv1 : TVar W1 w.heap.size (.int .u8 o) (.int .i64 0) (.slice (some ⟨g, 0, none⟩) 2 2) := by rw [hW1]; exact TVar.new _ _ _ _
  have hall : ∀ V : GrownW W1, V.val.cell? ⟨g, 0, none⟩ = some (.int .u8 o1) ∧ V.val.cell? ⟨g, 1, none⟩ = some (.int .i64 k1) ∧ V.val.cell? ⟨g, 2, none⟩ = some (.slice A1 c1 c1) ∧ V.val.cell? ⟨g, 3, none⟩ = some (.int .u8 o2) ∧ V.val.cell? ⟨g, 4, none⟩ = some (.int .i64 k2) ∧ V.val.cell? ⟨g, 5, none⟩ = some (.slice A2 c2 c2) ∧
      V.val.cell? ⟨w.heap.size, 0, none⟩ = some (.int .u8 o) ∧ V.val.cell? ⟨w.heap.size, 2, none⟩ = some (.slice (some ⟨g, 0, none⟩) 2 2) := fun V => by
    have h : V.val.heap[g]? = _ := (V.bel.block g (by have := hb1.size; omega)).trans ((hb1.block g hgl).trans hk2)
    have h2 : TVar V.val w.heap.size (.int .u8 o) (.int .i64 0) (.slice (some ⟨g, 0, none⟩) 2 2) := (V.bel.block _ (block_lt hv1)).trans hv1
    exact ⟨(cell_of_row V.val g 0 _ _ _ h).trans rfl, (cell_of_row V.val g 1 _ _ _ h).trans rfl, (cell_of_row V.val g 2 _ _ _ h).trans rfl, (cell_of_row V.val g 3 _ _ _ h).trans rfl, (cell_of_row V.val g 4 _ _ _ h).trans rfl, (cell_of_row V.val g 5 _ _ _ h).trans rfl, h2.cells.1, h2.cells.2.2.1⟩
  have x0 := fun V => (hall V).1
  have x1 := fun V => (hall V).2.1
  have x2 := fun V => (hall V).2.2.1
  have x3 := fun V => (hall V).2.2.2.1
  have x4 := fun V => (hall V).2.2.2.2.1
  have x5 := fun V => (hall V).2.2.2.2.2.1
  have x6 := fun V => (hall V).2.2.2.2.2.2.1
  have x7 := fun V => (hall V).2.2.2.2.2.2.2
  have HCA := Lib.hid (prints_class hpa hT hb1 ha)
  have HCB := Lib.hid (prints_class hpb hT hb1 hb)
  have hsa : (bs a.raw).size ≤ 200 := by rw [bs_size]; exact hla
  have hsb : (bs b.raw).size ≤ 200 := by rw [bs_size]; exact hlb
  have HM := Lib.hid (min_bs 105 110 109 (.inl ⟨rfl, rfl, rfl⟩) a b)
  have HX := Lib.hid (min_bs 97 120 77 (.inr ⟨rfl, rfl, rfl⟩) a b)
  generalize bs a.raw = sa at HCA hsa HM HX
  generalize bs b.raw = sb at HCB hsb HM HX
  have m0 := x6 ⟨W1, Below.refl _ _⟩
  have HB1 := Lib.hid hb1
  have hne : Nonempty (GrownW W1) := ⟨⟨W1, Below.refl _ _⟩⟩
  clear ha hb he hk hall hb1 hv1 hk2 hpa hpb hT hla hlb
  rcases ho with rfl | rfl
  · obtain rfl : o = 109 := hoi
    go_enter Tryd.func12, Tryd.ntmps12
    go_upto_region 1 with (fail)
    rw [← hW1]
    clear hW1
    go_upto_region 12 with (fail)
    refine region_class (C := fun W => ∃ V : GrownW W1, W = V.val) (by kernel_rfl) (by kernel_rfl) ⟨⟨W1.drew, (Below.refl _ _).drew⟩, rfl⟩ ?_
    repeat go_big_quiet_step (first | with_reducible exact HCA.out _ | with_reducible exact HCB.out _)
    refine wpQuiet_nil ?_
    intro _ hw'
    obtain ⟨V, rfl⟩ := hw'
    have HV := Lib.hid (HB1.out.trans (V.bel.mono HB1.out.size))
    generalize V.val = W2 at HV ⊢
    clear HCA HCB hne x0 x1 x2 x3 x4 x5 x6 x7 m0 V
    go_wp2_with fail
    go_ret
    first | exact ⟨congrArg (fun x => Ending.returned (.string x)) HM.out, HV.out⟩ | exact ⟨congrArg (fun x => Ending.returned (.string x)) HX.out, HV.out⟩
  · obtain rfl : o = 77 := hoi
    go_enter Tryd.func12, Tryd.ntmps12
    go_upto_region 1 with (fail)
    rw [← hW1]
    clear hW1
    go_upto_region 12 with (fail)
    refine region_class (C := fun W => ∃ V : GrownW W1, W = V.val) (by kernel_rfl) (by kernel_rfl) ⟨⟨W1.drew, (Below.refl _ _).drew⟩, rfl⟩ ?_
    repeat go_big_quiet_step (first | with_reducible exact HCA.out _ | with_reducible exact HCB.out _)
    refine wpQuiet_nil ?_
    intro _ hw'
    obtain ⟨V, rfl⟩ := hw'
    have HV := Lib.hid (HB1.out.trans (V.bel.mono HB1.out.size))
    generalize V.val = W2 at HV ⊢
    clear HCA HCB hne x0 x1 x2 x3 x4 x5 x6 x7 m0 V
    go_wp2_with fail
    go_ret
    first | exact ⟨congrArg (fun x => Ending.returned (.string x)) HM.out, HV.out⟩ | exact ⟨congrArg (fun x => Ending.returned (.string x)) HX.out, HV.out⟩
theorem op_cells {w W1 : World} {g : Nat} {o o1 k1 o2 k2 : Int} {A1 A2 : Option Addr} {c1 c2 : Nat} (hk2 : w.heap[g]? = some (.cells (trL o1 k1 A1 c1 ++ trL o2 k2 A2 c2).toArray 35 (0, 0))) (hgl : g < w.heap.size) (hb1 : Below w.heap.size w W1)
    (hv1 : TVar W1 w.heap.size (.int .u8 o) (.int .i64 0) (.slice (some ⟨g, 0, none⟩) 2 2)) : ∀ V : GrownW W1, V.val.cell? ⟨g, 0, none⟩ = some (.int .u8 o1) ∧ V.val.cell? ⟨g, 1, none⟩ = some (.int .i64 k1) ∧ V.val.cell? ⟨g, 2, none⟩ = some (.slice A1 c1 c1) ∧ V.val.cell? ⟨g, 3, none⟩ = some (.int .u8 o2) ∧ V.val.cell? ⟨g, 4, none⟩ = some (.int .i64 k2) ∧ V.val.cell? ⟨g, 5, none⟩ = some (.slice A2 c2 c2) ∧
      V.val.cell? ⟨w.heap.size, 0, none⟩ = some (.int .u8 o) ∧ V.val.cell? ⟨w.heap.size, 2, none⟩ = some (.slice (some ⟨g, 0, none⟩) 2 2) := fun V => by
  have h : V.val.heap[g]? = _ := (V.bel.block g (by have := hb1.size; omega)).trans ((hb1.block g hgl).trans hk2)
  have h2 : TVar V.val w.heap.size (.int .u8 o) (.int .i64 0) (.slice (some ⟨g, 0, none⟩) 2 2) := (V.bel.block _ (block_lt hv1)).trans hv1
  exact ⟨(cell_of_row V.val g 0 _ _ _ h).trans rfl, (cell_of_row V.val g 1 _ _ _ h).trans rfl, (cell_of_row V.val g 2 _ _ _ h).trans rfl, (cell_of_row V.val g 3 _ _ _ h).trans rfl, (cell_of_row V.val g 4 _ _ _ h).trans rfl, (cell_of_row V.val g 5 _ _ _ h).trans rfl, h2.cells.1, h2.cells.2.2.1⟩
theorem op_bs (op : UInt8) (h1 : op ≠ 109) (h2 : op ≠ 77) (a b : Tr) : bs (a.at_ (leftOf (tightOp op))) ++ ⟨#[op]⟩ ++ bs (b.at_ (tightOp op + 1)) = bs (Tr.bin op a b).raw := by
  rw [show (⟨#[op]⟩ : ByteArray) = bs [op] from rfl, bs_app, bs_app]
  congr 1
  simp [Tr.raw, h1, h2, Tr.at_]
set_option maxRecDepth 100000 in
set_option maxHeartbeats 4000000 in
theorem print_op (op : UInt8) (ho : op = 61 ∨ op = 60 ∨ op = 62 ∨ op = 43 ∨ op = 45 ∨ op = 42 ∨ op = 47 ∨ op = 37) (a b : Tr) (hfa : a.fine) (hfb : b.fine) (hla : a.raw.length ≤ 200) (hlb : b.raw.length ≤ 200) (hpa : Prints a) (hpb : Prints b) : Prints (.bin op a b) := by
  intro o k A c w hT h
  obtain ⟨g, ca, cb, he, hk, ha, hb⟩ := h
  obtain ⟨hoi, rfl, rfl, rfl⟩ : o = (op.toNat : Int) ∧ k = 0 ∧ A = some ⟨g, 0, none⟩ ∧ c = 2 := by simp [trL] at he; exact he
  obtain ⟨o1, k1, A1, c1, rfl⟩ := ha.three
  obtain ⟨o2, k2, A2, c2, rfl⟩ := hb.three
  have hgl := block_lt hk.2
  have hk2 := hk.2
  obtain ⟨W1, hW1⟩ : ∃ W1, W1 = w.alloc (.cells #[.int .u8 o, .int .i64 0, .slice (some ⟨g, 0, none⟩) 2 2] 35) := ⟨_, rfl⟩
  have hb1 : Below w.heap.size w W1 := by rw [hW1]; exact (Below.refl _ _).alloc (Nat.le_refl _) _
  have hv1 : TVar W1 w.heap.size (.int .u8 o) (.int .i64 0) (.slice (some ⟨g, 0, none⟩) 2 2) := by rw [hW1]; exact TVar.new _ _ _ _
  have HB1 := Lib.hid hb1
  have HV1 := Lib.hid hv1
  have HAA := Lib.hid ha
  have HBB := Lib.hid hb
  have HT := Lib.hid hT
  have HPA := Lib.hid hpa
  have HPB := Lib.hid hpb
  have HK2 := Lib.hid hk2
  clear ha hb he hk hb1 hk2 hpa hpb hT
  have h1 : op ≠ 109 := by rcases ho with rfl | rfl | rfl | rfl | rfl | rfl | rfl | rfl <;> decide
  have h2 : op ≠ 77 := by rcases ho with rfl | rfl | rfl | rfl | rfl | rfl | rfl | rfl <;> decide
  have HS := Lib.hid (op_bs op h1 h2 a b)
  have HO : Hid (OpI o) := by rcases ho with rfl | rfl | rfl | rfl | rfl | rfl | rfl | rfl <;> (have e := hoi; simp at e; subst e; simp [Hid, OpI])
  clear h1 h2
  rcases ho with rfl | rfl | rfl | rfl | rfl | rfl | rfl | rfl
  · obtain rfl : o = 61 := hoi
    have henc : Utf8.encode 61 = ⟨#[61]⟩ := by kernel_rfl
    obtain ⟨v0, v1, v2, vf⟩ := hv1.cells
    clear hv1
    go_enter Tryd.func12, Tryd.ntmps12
    go_upto_region 1 with (fail)
    rw [← hW1]
    clear hW1
    go_wp2_with fail
    refine (tight_o 61 0 _ 2 HO.out W1).mono ?_
    rintro e w2 ⟨rfl, hb2⟩
    rw [show tightI 61 = 1 from by decide]
    have hbw : Below w.heap.size w w2 := HB1.out.trans (hb2.mono HB1.out.size)
    have hv2 : TVar w2 w.heap.size (.int .u8 61) (.int .i64 0) (.slice (some ⟨g, 0, none⟩) 2 2) := (hb2.block _ (block_lt HV1.out)).trans HV1.out
    have HCA := Lib.hid (at_class hfa hla 2 (by decide) 2 rfl HPA.out HT.out hbw HAA.out)
    have HCB := Lib.hid (at_class hfb hlb 2 (by decide) 2 rfl HPB.out HT.out hbw HBB.out)
    have hall := op_cells HK2.out hgl hbw hv2
    have HBW := Lib.hid hbw
    have hsa : (bs (a.at_ 2)).size ≤ 202 := bs_at a hla 2
    have hsb : (bs (b.at_ 2)).size ≤ 202 := bs_at b hlb 2
    have HSS : Hid (bs (a.at_ 2) ++ ⟨#[61]⟩ ++ bs (b.at_ 2) = bs (Tr.bin 61 a b).raw) := HS.out
    generalize bs (a.at_ 2) = sa at HCA hsa HSS
    generalize bs (b.at_ 2) = sb at HCB hsb HSS
    have x0 := fun V => (hall V).1
    have x1 := fun V => (hall V).2.1
    have x2 := fun V => (hall V).2.2.1
    have x3 := fun V => (hall V).2.2.2.1
    have x4 := fun V => (hall V).2.2.2.2.1
    have x5 := fun V => (hall V).2.2.2.2.2.1
    have x6 := fun V => (hall V).2.2.2.2.2.2.1
    have x7 := fun V => (hall V).2.2.2.2.2.2.2
    have hne : Nonempty (GrownW w2) := ⟨⟨w2, Below.refl _ _⟩⟩
    clear hb2 hv2 hbw hall HB1 HV1 HAA HBB HT HPA HPB HK2 HS HO v0 v1 v2 vf
    go_upto_region 21 with (fail)
    refine region_class (C := fun W => ∃ V : GrownW w2, W = V.val) (by kernel_rfl) (by kernel_rfl) ⟨⟨w2.drew, (Below.refl _ _).drew⟩, rfl⟩ ?_
    repeat go_big_quiet_step (first | with_reducible exact HCA.out _ | with_reducible exact HCB.out _)
    refine wpQuiet_nil ?_
    intro _ hw'
    obtain ⟨V, rfl⟩ := hw'
    have HV := Lib.hid (HBW.out.trans (V.bel.mono HBW.out.size))
    generalize V.val = W2 at HV ⊢
    clear HCA HCB hne x0 x1 x2 x3 x4 x5 x6 x7 V
    go_wp2_with fail
    go_ret
    exact ⟨congrArg (fun x => Ending.returned (.string x)) HSS.out, HV.out⟩
  · obtain rfl : o = 60 := hoi
    have henc : Utf8.encode 60 = ⟨#[60]⟩ := by kernel_rfl
    obtain ⟨v0, v1, v2, vf⟩ := hv1.cells
    clear hv1
    go_enter Tryd.func12, Tryd.ntmps12
    go_upto_region 1 with (fail)
    rw [← hW1]
    clear hW1
    go_wp2_with fail
    refine (tight_o 60 0 _ 2 HO.out W1).mono ?_
    rintro e w2 ⟨rfl, hb2⟩
    rw [show tightI 60 = 1 from by decide]
    have hbw : Below w.heap.size w w2 := HB1.out.trans (hb2.mono HB1.out.size)
    have hv2 : TVar w2 w.heap.size (.int .u8 60) (.int .i64 0) (.slice (some ⟨g, 0, none⟩) 2 2) := (hb2.block _ (block_lt HV1.out)).trans HV1.out
    have HCA := Lib.hid (at_class hfa hla 2 (by decide) 2 rfl HPA.out HT.out hbw HAA.out)
    have HCB := Lib.hid (at_class hfb hlb 2 (by decide) 2 rfl HPB.out HT.out hbw HBB.out)
    have hall := op_cells HK2.out hgl hbw hv2
    have HBW := Lib.hid hbw
    have hsa : (bs (a.at_ 2)).size ≤ 202 := bs_at a hla 2
    have hsb : (bs (b.at_ 2)).size ≤ 202 := bs_at b hlb 2
    have HSS : Hid (bs (a.at_ 2) ++ ⟨#[60]⟩ ++ bs (b.at_ 2) = bs (Tr.bin 60 a b).raw) := HS.out
    generalize bs (a.at_ 2) = sa at HCA hsa HSS
    generalize bs (b.at_ 2) = sb at HCB hsb HSS
    have x0 := fun V => (hall V).1
    have x1 := fun V => (hall V).2.1
    have x2 := fun V => (hall V).2.2.1
    have x3 := fun V => (hall V).2.2.2.1
    have x4 := fun V => (hall V).2.2.2.2.1
    have x5 := fun V => (hall V).2.2.2.2.2.1
    have x6 := fun V => (hall V).2.2.2.2.2.2.1
    have x7 := fun V => (hall V).2.2.2.2.2.2.2
    have hne : Nonempty (GrownW w2) := ⟨⟨w2, Below.refl _ _⟩⟩
    clear hb2 hv2 hbw hall HB1 HV1 HAA HBB HT HPA HPB HK2 HS HO v0 v1 v2 vf
    go_upto_region 21 with (fail)
    refine region_class (C := fun W => ∃ V : GrownW w2, W = V.val) (by kernel_rfl) (by kernel_rfl) ⟨⟨w2.drew, (Below.refl _ _).drew⟩, rfl⟩ ?_
    repeat go_big_quiet_step (first | with_reducible exact HCA.out _ | with_reducible exact HCB.out _)
    refine wpQuiet_nil ?_
    intro _ hw'
    obtain ⟨V, rfl⟩ := hw'
    have HV := Lib.hid (HBW.out.trans (V.bel.mono HBW.out.size))
    generalize V.val = W2 at HV ⊢
    clear HCA HCB hne x0 x1 x2 x3 x4 x5 x6 x7 V
    go_wp2_with fail
    go_ret
    exact ⟨congrArg (fun x => Ending.returned (.string x)) HSS.out, HV.out⟩
  · obtain rfl : o = 62 := hoi
    have henc : Utf8.encode 62 = ⟨#[62]⟩ := by kernel_rfl
    obtain ⟨v0, v1, v2, vf⟩ := hv1.cells
    clear hv1
    go_enter Tryd.func12, Tryd.ntmps12
    go_upto_region 1 with (fail)
    rw [← hW1]
    clear hW1
    go_wp2_with fail
    refine (tight_o 62 0 _ 2 HO.out W1).mono ?_
    rintro e w2 ⟨rfl, hb2⟩
    rw [show tightI 62 = 1 from by decide]
    have hbw : Below w.heap.size w w2 := HB1.out.trans (hb2.mono HB1.out.size)
    have hv2 : TVar w2 w.heap.size (.int .u8 62) (.int .i64 0) (.slice (some ⟨g, 0, none⟩) 2 2) := (hb2.block _ (block_lt HV1.out)).trans HV1.out
    have HCA := Lib.hid (at_class hfa hla 2 (by decide) 2 rfl HPA.out HT.out hbw HAA.out)
    have HCB := Lib.hid (at_class hfb hlb 2 (by decide) 2 rfl HPB.out HT.out hbw HBB.out)
    have hall := op_cells HK2.out hgl hbw hv2
    have HBW := Lib.hid hbw
    have hsa : (bs (a.at_ 2)).size ≤ 202 := bs_at a hla 2
    have hsb : (bs (b.at_ 2)).size ≤ 202 := bs_at b hlb 2
    have HSS : Hid (bs (a.at_ 2) ++ ⟨#[62]⟩ ++ bs (b.at_ 2) = bs (Tr.bin 62 a b).raw) := HS.out
    generalize bs (a.at_ 2) = sa at HCA hsa HSS
    generalize bs (b.at_ 2) = sb at HCB hsb HSS
    have x0 := fun V => (hall V).1
    have x1 := fun V => (hall V).2.1
    have x2 := fun V => (hall V).2.2.1
    have x3 := fun V => (hall V).2.2.2.1
    have x4 := fun V => (hall V).2.2.2.2.1
    have x5 := fun V => (hall V).2.2.2.2.2.1
    have x6 := fun V => (hall V).2.2.2.2.2.2.1
    have x7 := fun V => (hall V).2.2.2.2.2.2.2
    have hne : Nonempty (GrownW w2) := ⟨⟨w2, Below.refl _ _⟩⟩
    clear hb2 hv2 hbw hall HB1 HV1 HAA HBB HT HPA HPB HK2 HS HO v0 v1 v2 vf
    go_upto_region 21 with (fail)
    refine region_class (C := fun W => ∃ V : GrownW w2, W = V.val) (by kernel_rfl) (by kernel_rfl) ⟨⟨w2.drew, (Below.refl _ _).drew⟩, rfl⟩ ?_
    repeat go_big_quiet_step (first | with_reducible exact HCA.out _ | with_reducible exact HCB.out _)
    refine wpQuiet_nil ?_
    intro _ hw'
    obtain ⟨V, rfl⟩ := hw'
    have HV := Lib.hid (HBW.out.trans (V.bel.mono HBW.out.size))
    generalize V.val = W2 at HV ⊢
    clear HCA HCB hne x0 x1 x2 x3 x4 x5 x6 x7 V
    go_wp2_with fail
    go_ret
    exact ⟨congrArg (fun x => Ending.returned (.string x)) HSS.out, HV.out⟩
  · obtain rfl : o = 43 := hoi
    have henc : Utf8.encode 43 = ⟨#[43]⟩ := by kernel_rfl
    obtain ⟨v0, v1, v2, vf⟩ := hv1.cells
    clear hv1
    go_enter Tryd.func12, Tryd.ntmps12
    go_upto_region 1 with (fail)
    rw [← hW1]
    clear hW1
    go_wp2_with fail
    refine (tight_o 43 0 _ 2 HO.out W1).mono ?_
    rintro e w2 ⟨rfl, hb2⟩
    rw [show tightI 43 = 2 from by decide]
    have hbw : Below w.heap.size w w2 := HB1.out.trans (hb2.mono HB1.out.size)
    have hv2 : TVar w2 w.heap.size (.int .u8 43) (.int .i64 0) (.slice (some ⟨g, 0, none⟩) 2 2) := (hb2.block _ (block_lt HV1.out)).trans HV1.out
    have HCA := Lib.hid (at_class hfa hla 2 (by decide) 2 rfl HPA.out HT.out hbw HAA.out)
    have HCB := Lib.hid (at_class hfb hlb 3 (by decide) 3 rfl HPB.out HT.out hbw HBB.out)
    have hall := op_cells HK2.out hgl hbw hv2
    have HBW := Lib.hid hbw
    have hsa : (bs (a.at_ 2)).size ≤ 202 := bs_at a hla 2
    have hsb : (bs (b.at_ 3)).size ≤ 202 := bs_at b hlb 3
    have HSS : Hid (bs (a.at_ 2) ++ ⟨#[43]⟩ ++ bs (b.at_ 3) = bs (Tr.bin 43 a b).raw) := HS.out
    generalize bs (a.at_ 2) = sa at HCA hsa HSS
    generalize bs (b.at_ 3) = sb at HCB hsb HSS
    have x0 := fun V => (hall V).1
    have x1 := fun V => (hall V).2.1
    have x2 := fun V => (hall V).2.2.1
    have x3 := fun V => (hall V).2.2.2.1
    have x4 := fun V => (hall V).2.2.2.2.1
    have x5 := fun V => (hall V).2.2.2.2.2.1
    have x6 := fun V => (hall V).2.2.2.2.2.2.1
    have x7 := fun V => (hall V).2.2.2.2.2.2.2
    have hne : Nonempty (GrownW w2) := ⟨⟨w2, Below.refl _ _⟩⟩
    clear hb2 hv2 hbw hall HB1 HV1 HAA HBB HT HPA HPB HK2 HS HO v0 v1 v2 vf
    go_upto_region 21 with (fail)
    refine region_class (C := fun W => ∃ V : GrownW w2, W = V.val) (by kernel_rfl) (by kernel_rfl) ⟨⟨w2.drew, (Below.refl _ _).drew⟩, rfl⟩ ?_
    repeat go_big_quiet_step (first | with_reducible exact HCA.out _ | with_reducible exact HCB.out _)
    refine wpQuiet_nil ?_
    intro _ hw'
    obtain ⟨V, rfl⟩ := hw'
    have HV := Lib.hid (HBW.out.trans (V.bel.mono HBW.out.size))
    generalize V.val = W2 at HV ⊢
    clear HCA HCB hne x0 x1 x2 x3 x4 x5 x6 x7 V
    go_wp2_with fail
    go_ret
    exact ⟨congrArg (fun x => Ending.returned (.string x)) HSS.out, HV.out⟩
  · obtain rfl : o = 45 := hoi
    have henc : Utf8.encode 45 = ⟨#[45]⟩ := by kernel_rfl
    obtain ⟨v0, v1, v2, vf⟩ := hv1.cells
    clear hv1
    go_enter Tryd.func12, Tryd.ntmps12
    go_upto_region 1 with (fail)
    rw [← hW1]
    clear hW1
    go_wp2_with fail
    refine (tight_o 45 0 _ 2 HO.out W1).mono ?_
    rintro e w2 ⟨rfl, hb2⟩
    rw [show tightI 45 = 2 from by decide]
    have hbw : Below w.heap.size w w2 := HB1.out.trans (hb2.mono HB1.out.size)
    have hv2 : TVar w2 w.heap.size (.int .u8 45) (.int .i64 0) (.slice (some ⟨g, 0, none⟩) 2 2) := (hb2.block _ (block_lt HV1.out)).trans HV1.out
    have HCA := Lib.hid (at_class hfa hla 2 (by decide) 2 rfl HPA.out HT.out hbw HAA.out)
    have HCB := Lib.hid (at_class hfb hlb 3 (by decide) 3 rfl HPB.out HT.out hbw HBB.out)
    have hall := op_cells HK2.out hgl hbw hv2
    have HBW := Lib.hid hbw
    have hsa : (bs (a.at_ 2)).size ≤ 202 := bs_at a hla 2
    have hsb : (bs (b.at_ 3)).size ≤ 202 := bs_at b hlb 3
    have HSS : Hid (bs (a.at_ 2) ++ ⟨#[45]⟩ ++ bs (b.at_ 3) = bs (Tr.bin 45 a b).raw) := HS.out
    generalize bs (a.at_ 2) = sa at HCA hsa HSS
    generalize bs (b.at_ 3) = sb at HCB hsb HSS
    have x0 := fun V => (hall V).1
    have x1 := fun V => (hall V).2.1
    have x2 := fun V => (hall V).2.2.1
    have x3 := fun V => (hall V).2.2.2.1
    have x4 := fun V => (hall V).2.2.2.2.1
    have x5 := fun V => (hall V).2.2.2.2.2.1
    have x6 := fun V => (hall V).2.2.2.2.2.2.1
    have x7 := fun V => (hall V).2.2.2.2.2.2.2
    have hne : Nonempty (GrownW w2) := ⟨⟨w2, Below.refl _ _⟩⟩
    clear hb2 hv2 hbw hall HB1 HV1 HAA HBB HT HPA HPB HK2 HS HO v0 v1 v2 vf
    go_upto_region 21 with (fail)
    refine region_class (C := fun W => ∃ V : GrownW w2, W = V.val) (by kernel_rfl) (by kernel_rfl) ⟨⟨w2.drew, (Below.refl _ _).drew⟩, rfl⟩ ?_
    repeat go_big_quiet_step (first | with_reducible exact HCA.out _ | with_reducible exact HCB.out _)
    refine wpQuiet_nil ?_
    intro _ hw'
    obtain ⟨V, rfl⟩ := hw'
    have HV := Lib.hid (HBW.out.trans (V.bel.mono HBW.out.size))
    generalize V.val = W2 at HV ⊢
    clear HCA HCB hne x0 x1 x2 x3 x4 x5 x6 x7 V
    go_wp2_with fail
    go_ret
    exact ⟨congrArg (fun x => Ending.returned (.string x)) HSS.out, HV.out⟩
  · obtain rfl : o = 42 := hoi
    have henc : Utf8.encode 42 = ⟨#[42]⟩ := by kernel_rfl
    obtain ⟨v0, v1, v2, vf⟩ := hv1.cells
    clear hv1
    go_enter Tryd.func12, Tryd.ntmps12
    go_upto_region 1 with (fail)
    rw [← hW1]
    clear hW1
    go_wp2_with fail
    refine (tight_o 42 0 _ 2 HO.out W1).mono ?_
    rintro e w2 ⟨rfl, hb2⟩
    rw [show tightI 42 = 3 from by decide]
    have hbw : Below w.heap.size w w2 := HB1.out.trans (hb2.mono HB1.out.size)
    have hv2 : TVar w2 w.heap.size (.int .u8 42) (.int .i64 0) (.slice (some ⟨g, 0, none⟩) 2 2) := (hb2.block _ (block_lt HV1.out)).trans HV1.out
    have HCA := Lib.hid (at_class hfa hla 3 (by decide) 3 rfl HPA.out HT.out hbw HAA.out)
    have HCB := Lib.hid (at_class hfb hlb 4 (by decide) 4 rfl HPB.out HT.out hbw HBB.out)
    have hall := op_cells HK2.out hgl hbw hv2
    have HBW := Lib.hid hbw
    have hsa : (bs (a.at_ 3)).size ≤ 202 := bs_at a hla 3
    have hsb : (bs (b.at_ 4)).size ≤ 202 := bs_at b hlb 4
    have HSS : Hid (bs (a.at_ 3) ++ ⟨#[42]⟩ ++ bs (b.at_ 4) = bs (Tr.bin 42 a b).raw) := HS.out
    generalize bs (a.at_ 3) = sa at HCA hsa HSS
    generalize bs (b.at_ 4) = sb at HCB hsb HSS
    have x0 := fun V => (hall V).1
    have x1 := fun V => (hall V).2.1
    have x2 := fun V => (hall V).2.2.1
    have x3 := fun V => (hall V).2.2.2.1
    have x4 := fun V => (hall V).2.2.2.2.1
    have x5 := fun V => (hall V).2.2.2.2.2.1
    have x6 := fun V => (hall V).2.2.2.2.2.2.1
    have x7 := fun V => (hall V).2.2.2.2.2.2.2
    have hne : Nonempty (GrownW w2) := ⟨⟨w2, Below.refl _ _⟩⟩
    clear hb2 hv2 hbw hall HB1 HV1 HAA HBB HT HPA HPB HK2 HS HO v0 v1 v2 vf
    go_upto_region 21 with (fail)
    refine region_class (C := fun W => ∃ V : GrownW w2, W = V.val) (by kernel_rfl) (by kernel_rfl) ⟨⟨w2.drew, (Below.refl _ _).drew⟩, rfl⟩ ?_
    repeat go_big_quiet_step (first | with_reducible exact HCA.out _ | with_reducible exact HCB.out _)
    refine wpQuiet_nil ?_
    intro _ hw'
    obtain ⟨V, rfl⟩ := hw'
    have HV := Lib.hid (HBW.out.trans (V.bel.mono HBW.out.size))
    generalize V.val = W2 at HV ⊢
    clear HCA HCB hne x0 x1 x2 x3 x4 x5 x6 x7 V
    go_wp2_with fail
    go_ret
    exact ⟨congrArg (fun x => Ending.returned (.string x)) HSS.out, HV.out⟩
  · obtain rfl : o = 47 := hoi
    have henc : Utf8.encode 47 = ⟨#[47]⟩ := by kernel_rfl
    obtain ⟨v0, v1, v2, vf⟩ := hv1.cells
    clear hv1
    go_enter Tryd.func12, Tryd.ntmps12
    go_upto_region 1 with (fail)
    rw [← hW1]
    clear hW1
    go_wp2_with fail
    refine (tight_o 47 0 _ 2 HO.out W1).mono ?_
    rintro e w2 ⟨rfl, hb2⟩
    rw [show tightI 47 = 3 from by decide]
    have hbw : Below w.heap.size w w2 := HB1.out.trans (hb2.mono HB1.out.size)
    have hv2 : TVar w2 w.heap.size (.int .u8 47) (.int .i64 0) (.slice (some ⟨g, 0, none⟩) 2 2) := (hb2.block _ (block_lt HV1.out)).trans HV1.out
    have HCA := Lib.hid (at_class hfa hla 3 (by decide) 3 rfl HPA.out HT.out hbw HAA.out)
    have HCB := Lib.hid (at_class hfb hlb 4 (by decide) 4 rfl HPB.out HT.out hbw HBB.out)
    have hall := op_cells HK2.out hgl hbw hv2
    have HBW := Lib.hid hbw
    have hsa : (bs (a.at_ 3)).size ≤ 202 := bs_at a hla 3
    have hsb : (bs (b.at_ 4)).size ≤ 202 := bs_at b hlb 4
    have HSS : Hid (bs (a.at_ 3) ++ ⟨#[47]⟩ ++ bs (b.at_ 4) = bs (Tr.bin 47 a b).raw) := HS.out
    generalize bs (a.at_ 3) = sa at HCA hsa HSS
    generalize bs (b.at_ 4) = sb at HCB hsb HSS
    have x0 := fun V => (hall V).1
    have x1 := fun V => (hall V).2.1
    have x2 := fun V => (hall V).2.2.1
    have x3 := fun V => (hall V).2.2.2.1
    have x4 := fun V => (hall V).2.2.2.2.1
    have x5 := fun V => (hall V).2.2.2.2.2.1
    have x6 := fun V => (hall V).2.2.2.2.2.2.1
    have x7 := fun V => (hall V).2.2.2.2.2.2.2
    have hne : Nonempty (GrownW w2) := ⟨⟨w2, Below.refl _ _⟩⟩
    clear hb2 hv2 hbw hall HB1 HV1 HAA HBB HT HPA HPB HK2 HS HO v0 v1 v2 vf
    go_upto_region 21 with (fail)
    refine region_class (C := fun W => ∃ V : GrownW w2, W = V.val) (by kernel_rfl) (by kernel_rfl) ⟨⟨w2.drew, (Below.refl _ _).drew⟩, rfl⟩ ?_
    repeat go_big_quiet_step (first | with_reducible exact HCA.out _ | with_reducible exact HCB.out _)
    refine wpQuiet_nil ?_
    intro _ hw'
    obtain ⟨V, rfl⟩ := hw'
    have HV := Lib.hid (HBW.out.trans (V.bel.mono HBW.out.size))
    generalize V.val = W2 at HV ⊢
    clear HCA HCB hne x0 x1 x2 x3 x4 x5 x6 x7 V
    go_wp2_with fail
    go_ret
    exact ⟨congrArg (fun x => Ending.returned (.string x)) HSS.out, HV.out⟩
  · obtain rfl : o = 37 := hoi
    have henc : Utf8.encode 37 = ⟨#[37]⟩ := by kernel_rfl
    obtain ⟨v0, v1, v2, vf⟩ := hv1.cells
    clear hv1
    go_enter Tryd.func12, Tryd.ntmps12
    go_upto_region 1 with (fail)
    rw [← hW1]
    clear hW1
    go_wp2_with fail
    refine (tight_o 37 0 _ 2 HO.out W1).mono ?_
    rintro e w2 ⟨rfl, hb2⟩
    rw [show tightI 37 = 3 from by decide]
    have hbw : Below w.heap.size w w2 := HB1.out.trans (hb2.mono HB1.out.size)
    have hv2 : TVar w2 w.heap.size (.int .u8 37) (.int .i64 0) (.slice (some ⟨g, 0, none⟩) 2 2) := (hb2.block _ (block_lt HV1.out)).trans HV1.out
    have HCA := Lib.hid (at_class hfa hla 3 (by decide) 3 rfl HPA.out HT.out hbw HAA.out)
    have HCB := Lib.hid (at_class hfb hlb 4 (by decide) 4 rfl HPB.out HT.out hbw HBB.out)
    have hall := op_cells HK2.out hgl hbw hv2
    have HBW := Lib.hid hbw
    have hsa : (bs (a.at_ 3)).size ≤ 202 := bs_at a hla 3
    have hsb : (bs (b.at_ 4)).size ≤ 202 := bs_at b hlb 4
    have HSS : Hid (bs (a.at_ 3) ++ ⟨#[37]⟩ ++ bs (b.at_ 4) = bs (Tr.bin 37 a b).raw) := HS.out
    generalize bs (a.at_ 3) = sa at HCA hsa HSS
    generalize bs (b.at_ 4) = sb at HCB hsb HSS
    have x0 := fun V => (hall V).1
    have x1 := fun V => (hall V).2.1
    have x2 := fun V => (hall V).2.2.1
    have x3 := fun V => (hall V).2.2.2.1
    have x4 := fun V => (hall V).2.2.2.2.1
    have x5 := fun V => (hall V).2.2.2.2.2.1
    have x6 := fun V => (hall V).2.2.2.2.2.2.1
    have x7 := fun V => (hall V).2.2.2.2.2.2.2
    have hne : Nonempty (GrownW w2) := ⟨⟨w2, Below.refl _ _⟩⟩
    clear hb2 hv2 hbw hall HB1 HV1 HAA HBB HT HPA HPB HK2 HS HO v0 v1 v2 vf
    go_upto_region 21 with (fail)
    refine region_class (C := fun W => ∃ V : GrownW w2, W = V.val) (by kernel_rfl) (by kernel_rfl) ⟨⟨w2.drew, (Below.refl _ _).drew⟩, rfl⟩ ?_
    repeat go_big_quiet_step (first | with_reducible exact HCA.out _ | with_reducible exact HCB.out _)
    refine wpQuiet_nil ?_
    intro _ hw'
    obtain ⟨V, rfl⟩ := hw'
    have HV := Lib.hid (HBW.out.trans (V.bel.mono HBW.out.size))
    generalize V.val = W2 at HV ⊢
    clear HCA HCB hne x0 x1 x2 x3 x4 x5 x6 x7 V
    go_wp2_with fail
    go_ret
    exact ⟨congrArg (fun x => Ending.returned (.string x)) HSS.out, HV.out⟩
theorem sel_cells {w W1 : World} {g : Nat} {o o1 k1 o2 k2 o3 k3 : Int} {A1 A2 A3 : Option Addr} {c1 c2 c3 : Nat} (hk2 : w.heap[g]? = some (.cells (trL o1 k1 A1 c1 ++ trL o2 k2 A2 c2 ++ trL o3 k3 A3 c3).toArray 35 (0, 0))) (hgl : g < w.heap.size) (hb1 : Below w.heap.size w W1)
    (hv1 : TVar W1 w.heap.size (.int .u8 o) (.int .i64 0) (.slice (some ⟨g, 0, none⟩) 3 3)) : ∀ V : GrownW W1, V.val.cell? ⟨g, 0, none⟩ = some (.int .u8 o1) ∧ V.val.cell? ⟨g, 1, none⟩ = some (.int .i64 k1) ∧ V.val.cell? ⟨g, 2, none⟩ = some (.slice A1 c1 c1) ∧ V.val.cell? ⟨g, 3, none⟩ = some (.int .u8 o2) ∧ V.val.cell? ⟨g, 4, none⟩ = some (.int .i64 k2) ∧ V.val.cell? ⟨g, 5, none⟩ = some (.slice A2 c2 c2) ∧
      V.val.cell? ⟨g, 6, none⟩ = some (.int .u8 o3) ∧ V.val.cell? ⟨g, 7, none⟩ = some (.int .i64 k3) ∧ V.val.cell? ⟨g, 8, none⟩ = some (.slice A3 c3 c3) ∧
      V.val.cell? ⟨w.heap.size, 0, none⟩ = some (.int .u8 o) ∧ V.val.cell? ⟨w.heap.size, 2, none⟩ = some (.slice (some ⟨g, 0, none⟩) 3 3) := fun V => by
  have h : V.val.heap[g]? = _ := (V.bel.block g (by have := hb1.size; omega)).trans ((hb1.block g hgl).trans hk2)
  have h2 : TVar V.val w.heap.size (.int .u8 o) (.int .i64 0) (.slice (some ⟨g, 0, none⟩) 3 3) := (V.bel.block _ (block_lt hv1)).trans hv1
  exact ⟨(cell_of_row V.val g 0 _ _ _ h).trans rfl, (cell_of_row V.val g 1 _ _ _ h).trans rfl, (cell_of_row V.val g 2 _ _ _ h).trans rfl, (cell_of_row V.val g 3 _ _ _ h).trans rfl, (cell_of_row V.val g 4 _ _ _ h).trans rfl, (cell_of_row V.val g 5 _ _ _ h).trans rfl, (cell_of_row V.val g 6 _ _ _ h).trans rfl, (cell_of_row V.val g 7 _ _ _ h).trans rfl, (cell_of_row V.val g 8 _ _ _ h).trans rfl, h2.cells.1, h2.cells.2.2.1⟩
theorem sel_bs (a b c : Tr) : bs (a.at_ 1) ++ ⟨#[63]⟩ ++ bs b.raw ++ ⟨#[58]⟩ ++ bs c.raw = bs (Tr.sel a b c).raw := by
  rw [show (⟨#[63]⟩ : ByteArray) = bs [63] from rfl, show (⟨#[58]⟩ : ByteArray) = bs [58] from rfl, bs_app, bs_app, bs_app, bs_app]
  congr 1
  simp [Tr.raw, Tr.at_]
set_option maxRecDepth 100000 in
set_option maxHeartbeats 4000000 in
theorem print_sel (a b d : Tr) (hfa : a.fine) (hla : a.raw.length ≤ 200) (hlb : b.raw.length ≤ 200) (hld : d.raw.length ≤ 200) (hpa : Prints a) (hpb : Prints b) (hpd : Prints d) : Prints (.sel a b d) := by
  intro o k A c w hT h
  obtain ⟨g, ca, cb, cd, he, hk, ha, hb, hd⟩ := h
  obtain ⟨rfl, rfl, rfl, rfl⟩ : o = 63 ∧ k = 0 ∧ A = some ⟨g, 0, none⟩ ∧ c = 3 := by simp [trL] at he; exact he
  obtain ⟨o1, k1, A1, c1, rfl⟩ := ha.three
  obtain ⟨o2, k2, A2, c2, rfl⟩ := hb.three
  obtain ⟨o3, k3, A3, c3, rfl⟩ := hd.three
  have hgl := block_lt hk.2
  have hk2 := hk.2
  obtain ⟨W1, hW1⟩ : ∃ W1, W1 = w.alloc (.cells #[.int .u8 63, .int .i64 0, .slice (some ⟨g, 0, none⟩) 3 3] 35) := ⟨_, rfl⟩
  have hb1 : Below w.heap.size w W1 := by rw [hW1]; exact (Below.refl _ _).alloc (Nat.le_refl _) _
  have hv1 : TVar W1 w.heap.size (.int .u8 63) (.int .i64 0) (.slice (some ⟨g, 0, none⟩) 3 3) := by rw [hW1]; exact TVar.new _ _ _ _
  have hall := sel_cells hk2 hgl hb1 hv1
  have HCA := Lib.hid (at_class hfa hla 1 (by decide) 1 rfl hpa hT hb1 ha)
  have HCB := Lib.hid (prints_class hpb hT hb1 hb)
  have HCD := Lib.hid (prints_class hpd hT hb1 hd)
  have hsa : (bs (a.at_ 1)).size ≤ 202 := bs_at a hla 1
  have hsb : (bs b.raw).size ≤ 200 := by rw [bs_size]; exact hlb
  have hsd : (bs d.raw).size ≤ 200 := by rw [bs_size]; exact hld
  have HSS := Lib.hid (sel_bs a b d)
  generalize bs (a.at_ 1) = sa at HCA hsa HSS
  generalize bs b.raw = sb at HCB hsb HSS
  generalize bs d.raw = sd at HCD hsd HSS
  have x0 := fun V => (hall V).1
  have x1 := fun V => (hall V).2.1
  have x2 := fun V => (hall V).2.2.1
  have x3 := fun V => (hall V).2.2.2.1
  have x4 := fun V => (hall V).2.2.2.2.1
  have x5 := fun V => (hall V).2.2.2.2.2.1
  have x6 := fun V => (hall V).2.2.2.2.2.2.1
  have x7 := fun V => (hall V).2.2.2.2.2.2.2.1
  have x8 := fun V => (hall V).2.2.2.2.2.2.2.2.1
  have y0 := fun V => (hall V).2.2.2.2.2.2.2.2.2.1
  have y1 := fun V => (hall V).2.2.2.2.2.2.2.2.2.2
  have m0 := y0 ⟨W1, Below.refl _ _⟩
  have HB1 := Lib.hid hb1
  have hne : Nonempty (GrownW W1) := ⟨⟨W1, Below.refl _ _⟩⟩
  clear ha hb hd he hk hall hb1 hv1 hk2 hpa hpb hpd hT hla hlb hld
  go_enter Tryd.func12, Tryd.ntmps12
  go_upto_region 1 with (fail)
  rw [← hW1]
  clear hW1
  go_upto_region 16 with (fail)
  refine region_class (C := fun W => ∃ V : GrownW W1, W = V.val) (by kernel_rfl) (by kernel_rfl) ⟨⟨W1.drew, (Below.refl _ _).drew⟩, rfl⟩ ?_
  repeat go_big_quiet_step (first | with_reducible exact HCA.out _ | with_reducible exact HCB.out _ | with_reducible exact HCD.out _)
  refine wpQuiet_nil ?_
  intro _ hw'
  obtain ⟨V, rfl⟩ := hw'
  have HV := Lib.hid (HB1.out.trans (V.bel.mono HB1.out.size))
  generalize V.val = W2 at HV ⊢
  clear HCA HCB HCD hne x0 x1 x2 x3 x4 x5 x6 x7 x8 y0 y1 m0 V
  go_wp2_with fail
  go_ret
  exact ⟨congrArg (fun x => Ending.returned (.string x)) HSS.out, HV.out⟩
set_option maxRecDepth 100000 in
set_option maxHeartbeats 1000000 in
theorem print_num (v : Int) (hf : (Tr.num v).fine) : Prints (.num v) := by
  intro o k A c w hT h
  obtain ⟨rfl, rfl, rfl, rfl⟩ : o = 48 ∧ k = v ∧ A = none ∧ c = 0 := by
    have h : trL o k A c = _ := h
    simp [trL] at h; exact h
  have HF : Hid (I64_ k) := by
    have h : 0 ≤ k ∧ k ≤ 9223372036854775807 := hf
    show I64_ k
    unfold I64_; omega
  have hb1 : Below w.heap.size w (w.alloc (.cells #[.int .u8 48, .int .i64 k, .slice none 0 0] 35)) := (Below.refl _ _).alloc (Nat.le_refl _) _
  have HIT := Lib.hid (itoa_ok k _ HF.out (hT.below hb1))
  have HB1 := Lib.hid hb1
  clear hf h hT hb1
  go_enter Tryd.func12, Tryd.ntmps12
  go_wp2_with fail
  refine HIT.out.mono ?_
  rintro e w2 ⟨rfl, hb2⟩
  have HB2 := Lib.hid (HB1.out.trans (hb2.mono HB1.out.size))
  clear hb2
  go_wp2_with fail
  go_ret
  exact ⟨rfl, HB2.out⟩
set_option maxRecDepth 100000 in
set_option maxHeartbeats 1000000 in
theorem print_nam (b : Bool) : Prints (.nam b) := by
  intro o k A c w hT h
  obtain ⟨rfl, rfl, rfl, rfl⟩ : o = (if b then 110 else 115) ∧ k = 0 ∧ A = none ∧ c = 0 := by
    have h : trL o k A c = _ := h
    simp [trL] at h; exact h
  have e1 : Utf8.encode 110 = ⟨#[110]⟩ := by kernel_rfl
  have e2 : Utf8.encode 115 = ⟨#[115]⟩ := by kernel_rfl
  clear h hT
  cases b
  · simp only [Bool.false_eq_true, if_false]
    go_enter Tryd.func12, Tryd.ntmps12
    go_wp2_with fail
    go_ret
    exact ⟨rfl, (Below.refl _ _).alloc (Nat.le_refl _) _⟩
  · simp only [if_true]
    go_enter Tryd.func12, Tryd.ntmps12
    go_wp2_with fail
    go_ret
    exact ⟨rfl, (Below.refl _ _).alloc (Nat.le_refl _) _⟩
theorem neg_bs (a : Tr) : (⟨#[45]⟩ : ByteArray) ++ bs (a.at_ 4) = bs (Tr.neg a).raw := by
  rw [show (⟨#[45]⟩ : ByteArray) = bs [45] from rfl, bs_app]; rfl
set_option maxRecDepth 100000 in
set_option maxHeartbeats 1000000 in
theorem print_neg (a : Tr) (hfa : a.fine) (hla : a.raw.length ≤ 200) (hpa : Prints a) : Prints (.neg a) := by
  intro o k A c w hT h
  obtain ⟨g, ca, he, hk, ha⟩ := h
  obtain ⟨rfl, rfl, rfl, rfl⟩ : o = 126 ∧ k = 0 ∧ A = some ⟨g, 0, none⟩ ∧ c = 1 := by simp [trL] at he; exact he
  obtain ⟨o1, k1, A1, c1, rfl⟩ := ha.three
  obtain ⟨x0, x1, x2, xf⟩ := (TVar.allocs (w := w) (k := g) hk.2)
  have hb1 : Below w.heap.size w (w.alloc (.cells #[.int .u8 126, .int .i64 0, .slice (some ⟨g, 0, none⟩) 1 1] 35)) := (Below.refl _ _).alloc (Nat.le_refl _) _
  have HAT := Lib.hid (at_class hfa hla 4 (by decide) 4 rfl hpa hT hb1 ha ⟨_, Below.refl _ _⟩)
  have hsa : (bs (a.at_ 4)).size ≤ 202 := bs_at a hla 4
  have HSS := Lib.hid (neg_bs a)
  generalize bs (a.at_ 4) = sa at HAT hsa HSS
  have HB1 := Lib.hid hb1
  clear ha hk he hT hb1 hpa hla
  go_enter Tryd.func12, Tryd.ntmps12
  go_wp2_with fail
  refine HAT.out.mono ?_
  rintro e w2 ⟨rfl, V, rfl⟩
  have HB := Lib.hid (HB1.out.trans (V.bel.mono HB1.out.size))
  generalize V.val = W2 at HB ⊢
  clear HAT HB1 x0 x1 x2 xf V
  go_wp2_with fail
  go_ret
  exact ⟨congrArg (fun x => Ending.returned (.string x)) HSS.out, HB.out⟩
/-- print returns a tree's text. -/
theorem prints (t : Tr) (hf : t.fine) (hl : t.raw.length ≤ 200) : Prints t := by
  induction t with
  | num v => exact print_num v hf
  | nam b => exact print_nam b
  | neg a ih =>
    have h : (Tr.neg a).raw.length = (brk (decide (a.tight < 4)) a.raw).length + 1 := by simp [Tr.raw]
    rw [brk_length] at h
    exact print_neg a hf (by omega) (ih hf (by omega))
  | bin op a b iha ihb =>
    have hab : a.raw.length ≤ 200 ∧ b.raw.length ≤ 200 := by
      unfold Tr.raw at hl
      split at hl
      · simp at hl; omega
      · split at hl
        · simp at hl; omega
        · rw [List.length_append, List.length_cons, brk_length, brk_length] at hl; omega
    rcases isOp_cases hf.1 with h | h | h | h | h | h | h | h | h | h
    · exact print_min op (.inl h) a b hab.1 hab.2 (iha hf.2.1 hab.1) (ihb hf.2.2 hab.2)
    · exact print_min op (.inr h) a b hab.1 hab.2 (iha hf.2.1 hab.1) (ihb hf.2.2 hab.2)
    all_goals exact print_op op (by simp [h]) a b hf.2.1 hf.2.2 hab.1 hab.2 (iha hf.2.1 hab.1) (ihb hf.2.2 hab.2)
  | sel a b c iha ihb ihc =>
    have h : (Tr.sel a b c).raw.length = (brk (decide (a.tight < 1)) a.raw).length + b.raw.length + c.raw.length + 2 := by simp [Tr.raw]; omega
    rw [brk_length] at h
    exact print_sel a b c hf.1 (by omega) (by omega) (by omega) (iha hf.1 (by omega)) (ihb hf.2.1 (by omega)) (ihc hf.2.2 (by omega))
end Go.Proofs.YtojkidaneggabaaDoor
