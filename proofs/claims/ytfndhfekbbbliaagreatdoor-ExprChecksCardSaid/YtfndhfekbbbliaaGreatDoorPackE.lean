/-
  Several texts of this claim in one, in build order; each begins with its own remark, which says what it proves and under which conditions.
-/
import Derived.Test.YtfndhfekbbbliaaGreatDoorPackD
import Derived.Shelf.Strconv.Itoa3
import Derived.Lib.LaidTab
import Derived.Lib.SmallJoins
import Derived.Lib.AppendIntMem
import Derived.Test.YtfndhfekbbbliaaGreatDoorPackA
import Derived.LaidEql
import Derived.Stop.Asserts
import Derived.RowKitTokens
import Derived.BigQuiet
import Derived.Lib.ItoaLen
import Derived.Deep.OwnRows
import Derived.Deep.RegionLaw
import Derived.Deep.CutRange
import Derived.Laws.CopyOwn
import Derived.Deep.RegionHeld3

/-
  Package expr: the contracts of (tree).tight, (tree).at, (tree).print: the shortest text of a tree. Conditions: its numbers are ints, its operators are some; it is short; the table of powers of ten reads as Go's text lays it.
-/
namespace Go.Proofs.YtfndhfekbbbliaaGreatDoor
open Go.RowKit Go.Shelf
set_option linter.unusedVariables false

def PowTab (w : World) : Prop := Lib.TabIs Tryz.prog w "internal/strconv.uint64pow10" .u64 Lib.pow10Tab
def bs (l : List UInt8) : ByteArray := ⟨l.toArray⟩
theorem bs_app (l r : List UInt8) : bs l ++ bs r = bs (l ++ r) := by
  simp [bs, ByteArray.ext_iff]
theorem bs_size (l : List UInt8) : (bs l).size = l.length := by show l.toArray.size = _; simp
theorem brk_bs (l : List UInt8) : (⟨#[40]⟩ : ByteArray) ++ bs l ++ ⟨#[41]⟩ = bs (brk true l) := by
  rw [show (⟨#[40]⟩ : ByteArray) = bs [40] from rfl, show (⟨#[41]⟩ : ByteArray) = bs [41] from rfl, bs_app, bs_app]; rfl
/-- How tight, by the operator's byte. -/
def tightI (o : Int) : Int := if o = 63 then 0 else if o = 61 ∨ o = 60 ∨ o = 62 then 1 else if o = 43 ∨ o = 45 then 2 else if o = 42 ∨ o = 47 ∨ o = 37 then 3 else if o = 126 then 4 else 5
def OpI (o : Int) : Prop := o = 63 ∨ o = 126 ∨ o = 48 ∨ o = 110 ∨ o = 115 ∨ o = 109 ∨ o = 77 ∨ o = 61 ∨ o = 60 ∨ o = 62 ∨ o = 43 ∨ o = 45 ∨ o = 42 ∨ o = 47 ∨ o = 37
theorem trL_op {F : Nat → Prop} {w : World} {t : Tr} (hf : t.fine) {o k : Int} {A : Option Addr} {c : Nat} (h : TrC F w t (trL o k A c)) : OpI o ∧ tightI o = (t.tight : Int) := by
  cases t with
  | num v =>
    have h : trL o k A c = _ := h
    simp [trL] at h; obtain ⟨rfl, _⟩ := h
    exact ⟨by simp [OpI], rfl⟩
  | nam b =>
    have h : trL o k A c = _ := h
    simp [trL] at h; obtain ⟨rfl, _⟩ := h
    cases b <;> exact ⟨by simp [OpI], rfl⟩
  | neg a =>
    obtain ⟨g, ca, h, _⟩ := h
    simp [trL] at h; obtain ⟨rfl, _⟩ := h
    exact ⟨by simp [OpI], rfl⟩
  | bin op a b =>
    obtain ⟨g, ca, cb, h, _⟩ := h
    simp [trL] at h; obtain ⟨rfl, _⟩ := h
    rcases isOp_cases hf.1 with rfl | rfl | rfl | rfl | rfl | rfl | rfl | rfl | rfl | rfl <;> exact ⟨by simp [OpI], rfl⟩
  | sel a b d =>
    obtain ⟨g, ca, cb, cc, h, _⟩ := h
    simp [trL] at h; obtain ⟨rfl, _⟩ := h
    exact ⟨by simp [OpI], rfl⟩
set_option maxRecDepth 100000 in
set_option maxHeartbeats 1000000 in
theorem tight_o (o k : Int) (A : Option Addr) (c : Nat) (ho : OpI o) (w : World) :
    Calls Tryz.prog 94 #[.agg #[.int .u8 o, .int .i64 k, .slice A c c]] w fun e w' => e = .returned (.int .i64 (tightI o)) ∧ Below w.heap.size w w' := by
  rcases ho with rfl | rfl | rfl | rfl | rfl | rfl | rfl | rfl | rfl | rfl | rfl | rfl | rfl | rfl | rfl <;>
  · go_enter Tryz.func94, Tryz.ntmps94
    go_wp2_with fail
    go_ret
    exact ⟨rfl, (Below.refl _ _).alloc (Nat.le_refl _) _⟩
/-- A tree's text is what print returns. -/
def Prints (t : Tr) : Prop := ∀ (o k : Int) (A : Option Addr) (c : Nat) (w : World), PowTab w → TrC (· < w.heap.size) w t (trL o k A c) →
    Calls Tryz.prog 47 #[.agg #[.int .u8 o, .int .i64 k, .slice A c c]] w fun e w' => e = .returned (.string (bs t.raw)) ∧ Below w.heap.size w w'
theorem PowTab.below {w w' : World} (h : PowTab w) (hb : Below w.heap.size w w') : PowTab w' := by
  obtain ⟨g, hg⟩ := Option.isSome_iff_exists.1 (show (Tryz.prog.globalNamed "internal/strconv.uint64pow10").isSome = true by kernel_rfl)
  exact Go.Joins.tab_stays hg h hb (Nat.le_refl _)
theorem itoa_ok (n : Int) (w : World) (hn : I64_ n) (hT : PowTab w) : Calls Tryz.prog 53 #[.int .i64 n] w fun e w' => e = .returned (.string (bs (Lib.itoa n))) ∧ Below w.heap.size w w' := by
  refine (Any.strconv_Itoa Tryz.itoa n hn.1 hn.2 w hT).mono ?_
  rintro e w' ⟨he, k, os, rfl⟩
  exact ⟨he, Go.Lib.below_grow _ w (Nat.le_refl _) k os⟩
set_option maxRecDepth 100000 in
set_option maxHeartbeats 1000000 in
theorem at_of (t : Tr) (hf : t.fine) (hl : t.raw.length ≤ 200) (hp : Prints t) (L : Nat) (hL : L ≤ 10) : ∀ (o k : Int) (A : Option Addr) (c : Nat) (w : World), PowTab w → TrC (· < w.heap.size) w t (trL o k A c) →
    Calls Tryz.prog 93 #[.agg #[.int .u8 o, .int .i64 k, .slice A c c], .int .i64 L] w fun e w' => e = .returned (.string (bs (t.at_ L))) ∧ Below w.heap.size w w' := by
  intro o k A c w hT h
  obtain ⟨hop, hti⟩ := trL_op hf h
  have HTI := Lib.hid hti
  have HP := Lib.hid hp
  have HT := Lib.hid hT
  have HH := Lib.hid h
  have hls := bs_size t.raw
  have htl : t.tight ≤ 10 := by
    have e : (t.tight : Int) = tightI o := hti.symm
    unfold tightI at e; repeat' split at e
    all_goals omega
  obtain ⟨W1, hW1⟩ : ∃ W1, W1 = w.alloc (.cells #[.int .u8 o, .int .i64 k, .slice A c c] 86) := ⟨_, rfl⟩
  have hb1 : Below w.heap.size w W1 := by rw [hW1]; exact (Below.refl _ _).alloc (Nat.le_refl _) _
  have hv1 : TVar W1 w.heap.size (.int .u8 o) (.int .i64 k) (.slice A c c) := by rw [hW1]; exact TVar.new _ _ _ _
  obtain ⟨v0, v1, v2, vf⟩ := hv1.cells
  have HB1 := Lib.hid hb1
  have HV1 := Lib.hid hv1
  clear hp hT h hti hb1 hv1
  go_enter Tryz.func93, Tryz.ntmps93
  go_upto_region 1 with (fail)
  rw [← hW1]
  clear hW1
  go_wp2_with fail
  refine (tight_o o k A c hop W1).mono ?_
  rintro e w2 ⟨rfl, hb2⟩
  have HB2 := Lib.hid (HB1.out.trans (hb2.mono HB1.out.size))
  have hv2 : TVar w2 w.heap.size (.int .u8 o) (.int .i64 k) (.slice A c c) := (hb2.block _ (block_lt HV1.out)).trans HV1.out
  have HC := Lib.hid (HP.out o k A c w2 (HT.out.below HB2.out) ((HH.out.keep fun j hj => HB2.out.block j hj).in_ fun j hj hj2 => hj2))
  rw [HTI.out]
  have HAT : Hid (t.at_ L = brk (decide (t.tight < L)) t.raw) := rfl
  generalize t.tight = q at HAT htl ⊢
  clear v0 v1 v2 vf hb2 HV1 HB1 HTI HH HT HP
  obtain ⟨v0, v1, v2, vf⟩ := hv2.cells
  clear hv2
  by_cases hlt : q < L
  · have d1 : decide (q < L) = true := decide_eq_true hlt
    rw [d1] at HAT
    go_wp2_with fail
    refine HC.out.mono ?_
    rintro e w3 ⟨rfl, hb3⟩
    have HB3 := Lib.hid (HB2.out.trans (hb3.mono HB2.out.size))
    clear hb3
    go_wp2_with fail
    go_ret
    exact ⟨by rw [HAT.out]; exact congrArg (fun x => Ending.returned (.string x)) (brk_bs t.raw), HB3.out⟩
  · have d1 : decide (q < L) = false := decide_eq_false hlt
    rw [d1] at HAT
    go_wp2_with fail
    refine HC.out.mono ?_
    rintro e w3 ⟨rfl, hb3⟩
    have HB3 := Lib.hid (HB2.out.trans (hb3.mono HB2.out.size))
    clear hb3
    go_wp2_with fail
    go_ret
    exact ⟨by rw [HAT.out]; rfl, HB3.out⟩
theorem prints_class {t : Tr} {w W1 : World} {o k : Int} {A : Option Addr} {c : Nat} (hp : Prints t) (hT : PowTab w) (hb : Below w.heap.size w W1) (h : TrC (· < w.heap.size) w t (trL o k A c)) :
    ∀ V : GrownW W1, Calls Tryz.prog 47 #[.agg #[.int .u8 o, .int .i64 k, .slice A c c]] V.val fun e w' => e = .returned (.string (bs t.raw)) ∧ ∃ V' : GrownW W1, w' = V'.val := fun V => by
  have hbV : Below w.heap.size w V.val := hb.trans (V.bel.mono hb.size)
  refine (hp o k A c V.val (hT.below hbV) ((h.keep fun j hj => hbV.block j hj).in_ fun j _ h => h)).mono ?_
  rintro e w' ⟨rfl, hb2⟩
  exact ⟨rfl, ⟨w', V.bel.trans (hb2.mono V.bel.size)⟩, rfl⟩
theorem at_class {t : Tr} (hf : t.fine) (hl : t.raw.length ≤ 200) (L : Nat) (hL : L ≤ 10) (Li : Int) (hLi : Li = L) {w W1 : World} {o k : Int} {A : Option Addr} {c : Nat} (hp : Prints t) (hT : PowTab w) (hb : Below w.heap.size w W1) (h : TrC (· < w.heap.size) w t (trL o k A c)) :
    ∀ V : GrownW W1, Calls Tryz.prog 93 #[.agg #[.int .u8 o, .int .i64 k, .slice A c c], .int .i64 Li] V.val fun e w' => e = .returned (.string (bs (t.at_ L))) ∧ ∃ V' : GrownW W1, w' = V'.val := fun V => by
  subst hLi
  have hbV : Below w.heap.size w V.val := hb.trans (V.bel.mono hb.size)
  refine (at_of t hf hl hp L hL o k A c V.val (hT.below hbV) ((h.keep fun j hj => hbV.block j hj).in_ fun j _ h => h)).mono ?_
  rintro e w' ⟨rfl, hb2⟩
  exact ⟨rfl, ⟨w', V.bel.trans (hb2.mono V.bel.size)⟩, rfl⟩
theorem bs_at (t : Tr) (hl : t.raw.length ≤ 200) (L : Nat) : (bs (t.at_ L)).size ≤ 202 := by
  rw [bs_size, at_length]; split <;> omega
theorem min_bs (x y op : UInt8) (ho : (x = 105 ∧ y = 110 ∧ op = 109) ∨ (x = 97 ∧ y = 120 ∧ op = 77)) (a b : Tr) : (⟨#[109, x, y, 40]⟩ : ByteArray) ++ bs a.raw ++ ⟨#[44]⟩ ++ bs b.raw ++ ⟨#[41]⟩ = bs (Tr.bin op a b).raw := by
  rw [show (⟨#[109, x, y, 40]⟩ : ByteArray) = bs [109, x, y, 40] from rfl, show (⟨#[41]⟩ : ByteArray) = bs [41] from rfl, show (⟨#[44]⟩ : ByteArray) = bs [44] from rfl, bs_app, bs_app, bs_app, bs_app]
  congr 1
  rcases ho with ⟨rfl, rfl, rfl⟩ | ⟨rfl, rfl, rfl⟩ <;> simp [Tr.raw]
set_option maxRecDepth 100000 in
set_option maxHeartbeats 4000000 in
theorem print_min (op : UInt8) (ho : op = 109 ∨ op = 77) (a b : Tr) (hla : a.raw.length ≤ 200) (hlb : b.raw.length ≤ 200) (hpa : Prints a) (hpb : Prints b) : Prints (.bin op a b) := by
  intro o k A c w hT h
  obtain ⟨g, ca, cb, he, hk, ha, hb⟩ := h
  obtain ⟨hoi, rfl, rfl, rfl⟩ : o = (op.toNat : Int) ∧ k = 0 ∧ A = some ⟨g, 0, none⟩ ∧ c = 2 := by simp [trL] at he; exact he
  obtain ⟨o1, k1, A1, c1, rfl⟩ := ha.three
  obtain ⟨o2, k2, A2, c2, rfl⟩ := hb.three
  have hgl := block_lt hk.2
  have hk2 := hk.2
  obtain ⟨W1, hW1⟩ : ∃ W1, W1 = w.alloc (.cells #[.int .u8 o, .int .i64 0, .slice (some ⟨g, 0, none⟩) 2 2] 86) := ⟨_, rfl⟩
  have hb1 : Below w.heap.size w W1 := by rw [hW1]; exact (Below.refl _ _).alloc (Nat.le_refl _) _
  have hv1 : TVar W1 w.heap.size (.int .u8 o) (.int .i64 0) (.slice (some ⟨g, 0, none⟩) 2 2) := by rw [hW1]; exact TVar.new _ _ _ _
  have hall : ∀ V : GrownW W1, V.val.cell? ⟨g, 0, none⟩ = some (.int .u8 o1) ∧ V.val.cell? ⟨g, 1, none⟩ = some (.int .i64 k1) ∧ V.val.cell? ⟨g, 2, none⟩ = some (.slice A1 c1 c1) ∧ V.val.cell? ⟨g, 3, none⟩ = some (.int .u8 o2) ∧ V.val.cell? ⟨g, 4, none⟩ = some (.int .i64 k2) ∧ V.val.cell? ⟨g, 5, none⟩ = some (.slice A2 c2 c2) ∧
      V.val.cell? ⟨w.heap.size, 0, none⟩ = some (.int .u8 o) ∧ V.val.cell? ⟨w.heap.size, 2, none⟩ = some (.slice (some ⟨g, 0, none⟩) 2 2) := fun V => by
    have h : V.val.heap[g]? = _ := (V.bel.block g (by have := hb1.size; omega)).trans ((hb1.block g hgl).trans hk2)
    have h2 : TVar V.val w.heap.size (.int .u8 o) (.int .i64 0) (.slice (some ⟨g, 0, none⟩) 2 2) := (V.bel.block _ (block_lt hv1)).trans hv1
    exact ⟨(cell_of_row V.val g 0 _ _ _ h).trans rfl, (cell_of_row V.val g 1 _ _ _ h).trans rfl, (cell_of_row V.val g 2 _ _ _ h).trans rfl, (cell_of_row V.val g 3 _ _ _ h).trans rfl, (cell_of_row V.val g 4 _ _ _ h).trans rfl, (cell_of_row V.val g 5 _ _ _ h).trans rfl, h2.cells.1, h2.cells.2.2.1⟩
  have x0 := fun V => (hall V).1
  have x1 := fun V => (hall V).2.1
  have x2 := fun V => (hall V).2.2.1
  have x3 := fun V => (hall V).2.2.2.1
  have x4 := fun V => (hall V).2.2.2.2.1
  have x5 := fun V => (hall V).2.2.2.2.2.1
  have x6 := fun V => (hall V).2.2.2.2.2.2.1
  have x7 := fun V => (hall V).2.2.2.2.2.2.2
  have HCA := Lib.hid (prints_class hpa hT hb1 ha)
  have HCB := Lib.hid (prints_class hpb hT hb1 hb)
  have hsa : (bs a.raw).size ≤ 200 := by rw [bs_size]; exact hla
  have hsb : (bs b.raw).size ≤ 200 := by rw [bs_size]; exact hlb
  have HM := Lib.hid (min_bs 105 110 109 (.inl ⟨rfl, rfl, rfl⟩) a b)
  have HX := Lib.hid (min_bs 97 120 77 (.inr ⟨rfl, rfl, rfl⟩) a b)
  generalize bs a.raw = sa at HCA hsa HM HX
  generalize bs b.raw = sb at HCB hsb HM HX
  have m0 := x6 ⟨W1, Below.refl _ _⟩
  have HB1 := Lib.hid hb1
  have hne : Nonempty (GrownW W1) := ⟨⟨W1, Below.refl _ _⟩⟩
  clear ha hb he hk hall hb1 hv1 hk2 hpa hpb hT hla hlb
  rcases ho with rfl | rfl
  · obtain rfl : o = 109 := hoi
    go_enter Tryz.func47, Tryz.ntmps47
    go_upto_region 1 with (fail)
    rw [← hW1]
    clear hW1
    go_upto_region 12 with (fail)
    refine region_class (C := fun W => ∃ V : GrownW W1, W = V.val) (by kernel_rfl) (by kernel_rfl) ⟨⟨W1.drew, (Below.refl _ _).drew⟩, rfl⟩ ?_
    repeat go_big_quiet_step (first | with_reducible exact HCA.out _ | with_reducible exact HCB.out _)
    refine wpQuiet_nil ?_
    intro _ hw'
    obtain ⟨V, rfl⟩ := hw'
    have HV := Lib.hid (HB1.out.trans (V.bel.mono HB1.out.size))
    generalize V.val = W2 at HV ⊢
    clear HCA HCB hne x0 x1 x2 x3 x4 x5 x6 x7 m0 V
    go_wp2_with fail
    go_ret
    first | exact ⟨congrArg (fun x => Ending.returned (.string x)) HM.out, HV.out⟩ | exact ⟨congrArg (fun x => Ending.returned (.string x)) HX.out, HV.out⟩
  · obtain rfl : o = 77 := hoi
    go_enter Tryz.func47, Tryz.ntmps47
    go_upto_region 1 with (fail)
    rw [← hW1]
    clear hW1
    go_upto_region 12 with (fail)
    refine region_class (C := fun W => ∃ V : GrownW W1, W = V.val) (by kernel_rfl) (by kernel_rfl) ⟨⟨W1.drew, (Below.refl _ _).drew⟩, rfl⟩ ?_
    repeat go_big_quiet_step (first | with_reducible exact HCA.out _ | with_reducible exact HCB.out _)
    refine wpQuiet_nil ?_
    intro _ hw'
    obtain ⟨V, rfl⟩ := hw'
    have HV := Lib.hid (HB1.out.trans (V.bel.mono HB1.out.size))
    generalize V.val = W2 at HV ⊢
    clear HCA HCB hne x0 x1 x2 x3 x4 x5 x6 x7 m0 V
    go_wp2_with fail
    go_ret
    first | exact ⟨congrArg (fun x => Ending.returned (.string x)) HM.out, HV.out⟩ | exact ⟨congrArg (fun x => Ending.returned (.string x)) HX.out, HV.out⟩
theorem op_cells {w W1 : World} {g : Nat} {o o1 k1 o2 k2 : Int} {A1 A2 : Option Addr} {c1 c2 : Nat} (hk2 : w.heap[g]? = some (.cells (trL o1 k1 A1 c1 ++ trL o2 k2 A2 c2).toArray 86 (0, 0))) (hgl : g < w.heap.size) (hb1 : Below w.heap.size w W1)
    (hv1 : TVar W1 w.heap.size (.int .u8 o) (.int .i64 0) (.slice (some ⟨g, 0, none⟩) 2 2)) : ∀ V : GrownW W1, V.val.cell? ⟨g, 0, none⟩ = some (.int .u8 o1) ∧ V.val.cell? ⟨g, 1, none⟩ = some (.int .i64 k1) ∧ V.val.cell? ⟨g, 2, none⟩ = some (.slice A1 c1 c1) ∧ V.val.cell? ⟨g, 3, none⟩ = some (.int .u8 o2) ∧ V.val.cell? ⟨g, 4, none⟩ = some (.int .i64 k2) ∧ V.val.cell? ⟨g, 5, none⟩ = some (.slice A2 c2 c2) ∧
      V.val.cell? ⟨w.heap.size, 0, none⟩ = some (.int .u8 o) ∧ V.val.cell? ⟨w.heap.size, 2, none⟩ = some (.slice (some ⟨g, 0, none⟩) 2 2) := fun V => by
  have h : V.val.heap[g]? = _ := (V.bel.block g (by have := hb1.size; omega)).trans ((hb1.block g hgl).trans hk2)
  have h2 : TVar V.val w.heap.size (.int .u8 o) (.int .i64 0) (.slice (some ⟨g, 0, none⟩) 2 2) := (V.bel.block _ (block_lt hv1)).trans hv1
  exact ⟨(cell_of_row V.val g 0 _ _ _ h).trans rfl, (cell_of_row V.val g 1 _ _ _ h).trans rfl, (cell_of_row V.val g 2 _ _ _ h).trans rfl, (cell_of_row V.val g 3 _ _ _ h).trans rfl, (cell_of_row V.val g 4 _ _ _ h).trans rfl, (cell_of_row V.val g 5 _ _ _ h).trans rfl, h2.cells.1, h2.cells.2.2.1⟩
theorem op_bs (op : UInt8) (h1 : op ≠ 109) (h2 : op ≠ 77) (a b : Tr) : bs (a.at_ (leftOf (tightOp op))) ++ ⟨#[op]⟩ ++ bs (b.at_ (tightOp op + 1)) = bs (Tr.bin op a b).raw := by
  rw [show (⟨#[op]⟩ : ByteArray) = bs [op] from rfl, bs_app, bs_app]
  congr 1
  simp [Tr.raw, h1, h2, Tr.at_]
set_option maxRecDepth 100000 in
set_option maxHeartbeats 4000000 in
theorem print_op (op : UInt8) (ho : op = 61 ∨ op = 60 ∨ op = 62 ∨ op = 43 ∨ op = 45 ∨ op = 42 ∨ op = 47 ∨ op = 37) (a b : Tr) (hfa : a.fine) (hfb : b.fine) (hla : a.raw.length ≤ 200) (hlb : b.raw.length ≤ 200) (hpa : Prints a) (hpb : Prints b) : Prints (.bin op a b) := by
  intro o k A c w hT h
  obtain ⟨g, ca, cb, he, hk, ha, hb⟩ := h
  obtain ⟨hoi, rfl, rfl, rfl⟩ : o = (op.toNat : Int) ∧ k = 0 ∧ A = some ⟨g, 0, none⟩ ∧ c = 2 := by simp [trL] at he; exact he
  obtain ⟨o1, k1, A1, c1, rfl⟩ := ha.three
  obtain ⟨o2, k2, A2, c2, rfl⟩ := hb.three
  have hgl := block_lt hk.2
  have hk2 := hk.2
  obtain ⟨W1, hW1⟩ : ∃ W1, W1 = w.alloc (.cells #[.int .u8 o, .int .i64 0, .slice (some ⟨g, 0, none⟩) 2 2] 86) := ⟨_, rfl⟩
  have hb1 : Below w.heap.size w W1 := by rw [hW1]; exact (Below.refl _ _).alloc (Nat.le_refl _) _
  have hv1 : TVar W1 w.heap.size (.int .u8 o) (.int .i64 0) (.slice (some ⟨g, 0, none⟩) 2 2) := by rw [hW1]; exact TVar.new _ _ _ _
  have HB1 := Lib.hid hb1
  have HV1 := Lib.hid hv1
  have HAA := Lib.hid ha
  have HBB := Lib.hid hb
  have HT := Lib.hid hT
  have HPA := Lib.hid hpa
  have HPB := Lib.hid hpb
  have HK2 := Lib.hid hk2
  clear ha hb he hk hb1 hk2 hpa hpb hT
  have h1 : op ≠ 109 := by rcases ho with rfl | rfl | rfl | rfl | rfl | rfl | rfl | rfl <;> decide
  have h2 : op ≠ 77 := by rcases ho with rfl | rfl | rfl | rfl | rfl | rfl | rfl | rfl <;> decide
  have HS := Lib.hid (op_bs op h1 h2 a b)
  have HO : Hid (OpI o) := by rcases ho with rfl | rfl | rfl | rfl | rfl | rfl | rfl | rfl <;> (have e := hoi; simp at e; subst e; simp [Hid, OpI])
  clear h1 h2
  rcases ho with rfl | rfl | rfl | rfl | rfl | rfl | rfl | rfl
  · obtain rfl : o = 61 := hoi
    have henc : Utf8.encode 61 = ⟨#[61]⟩ := by kernel_rfl
    obtain ⟨v0, v1, v2, vf⟩ := hv1.cells
    clear hv1
    go_enter Tryz.func47, Tryz.ntmps47
    go_upto_region 1 with (fail)
    rw [← hW1]
    clear hW1
    go_wp2_with fail
    refine (tight_o 61 0 _ 2 HO.out W1).mono ?_
    rintro e w2 ⟨rfl, hb2⟩
    rw [show tightI 61 = 1 from by decide]
    have hbw : Below w.heap.size w w2 := HB1.out.trans (hb2.mono HB1.out.size)
    have hv2 : TVar w2 w.heap.size (.int .u8 61) (.int .i64 0) (.slice (some ⟨g, 0, none⟩) 2 2) := (hb2.block _ (block_lt HV1.out)).trans HV1.out
    have HCA := Lib.hid (at_class hfa hla 2 (by decide) 2 rfl HPA.out HT.out hbw HAA.out)
    have HCB := Lib.hid (at_class hfb hlb 2 (by decide) 2 rfl HPB.out HT.out hbw HBB.out)
    have hall := op_cells HK2.out hgl hbw hv2
    have HBW := Lib.hid hbw
    have hsa : (bs (a.at_ 2)).size ≤ 202 := bs_at a hla 2
    have hsb : (bs (b.at_ 2)).size ≤ 202 := bs_at b hlb 2
    have HSS : Hid (bs (a.at_ 2) ++ ⟨#[61]⟩ ++ bs (b.at_ 2) = bs (Tr.bin 61 a b).raw) := HS.out
    generalize bs (a.at_ 2) = sa at HCA hsa HSS
    generalize bs (b.at_ 2) = sb at HCB hsb HSS
    have x0 := fun V => (hall V).1
    have x1 := fun V => (hall V).2.1
    have x2 := fun V => (hall V).2.2.1
    have x3 := fun V => (hall V).2.2.2.1
    have x4 := fun V => (hall V).2.2.2.2.1
    have x5 := fun V => (hall V).2.2.2.2.2.1
    have x6 := fun V => (hall V).2.2.2.2.2.2.1
    have x7 := fun V => (hall V).2.2.2.2.2.2.2
    have hne : Nonempty (GrownW w2) := ⟨⟨w2, Below.refl _ _⟩⟩
    clear hb2 hv2 hbw hall HB1 HV1 HAA HBB HT HPA HPB HK2 HS HO v0 v1 v2 vf
    go_upto_region 21 with (fail)
    refine region_class (C := fun W => ∃ V : GrownW w2, W = V.val) (by kernel_rfl) (by kernel_rfl) ⟨⟨w2.drew, (Below.refl _ _).drew⟩, rfl⟩ ?_
    repeat go_big_quiet_step (first | with_reducible exact HCA.out _ | with_reducible exact HCB.out _)
    refine wpQuiet_nil ?_
    intro _ hw'
    obtain ⟨V, rfl⟩ := hw'
    have HV := Lib.hid (HBW.out.trans (V.bel.mono HBW.out.size))
    generalize V.val = W2 at HV ⊢
    clear HCA HCB hne x0 x1 x2 x3 x4 x5 x6 x7 V
    go_wp2_with fail
    go_ret
    exact ⟨congrArg (fun x => Ending.returned (.string x)) HSS.out, HV.out⟩
  · obtain rfl : o = 60 := hoi
    have henc : Utf8.encode 60 = ⟨#[60]⟩ := by kernel_rfl
    obtain ⟨v0, v1, v2, vf⟩ := hv1.cells
    clear hv1
    go_enter Tryz.func47, Tryz.ntmps47
    go_upto_region 1 with (fail)
    rw [← hW1]
    clear hW1
    go_wp2_with fail
    refine (tight_o 60 0 _ 2 HO.out W1).mono ?_
    rintro e w2 ⟨rfl, hb2⟩
    rw [show tightI 60 = 1 from by decide]
    have hbw : Below w.heap.size w w2 := HB1.out.trans (hb2.mono HB1.out.size)
    have hv2 : TVar w2 w.heap.size (.int .u8 60) (.int .i64 0) (.slice (some ⟨g, 0, none⟩) 2 2) := (hb2.block _ (block_lt HV1.out)).trans HV1.out
    have HCA := Lib.hid (at_class hfa hla 2 (by decide) 2 rfl HPA.out HT.out hbw HAA.out)
    have HCB := Lib.hid (at_class hfb hlb 2 (by decide) 2 rfl HPB.out HT.out hbw HBB.out)
    have hall := op_cells HK2.out hgl hbw hv2
    have HBW := Lib.hid hbw
    have hsa : (bs (a.at_ 2)).size ≤ 202 := bs_at a hla 2
    have hsb : (bs (b.at_ 2)).size ≤ 202 := bs_at b hlb 2
    have HSS : Hid (bs (a.at_ 2) ++ ⟨#[60]⟩ ++ bs (b.at_ 2) = bs (Tr.bin 60 a b).raw) := HS.out
    generalize bs (a.at_ 2) = sa at HCA hsa HSS
    generalize bs (b.at_ 2) = sb at HCB hsb HSS
    have x0 := fun V => (hall V).1
    have x1 := fun V => (hall V).2.1
    have x2 := fun V => (hall V).2.2.1
    have x3 := fun V => (hall V).2.2.2.1
    have x4 := fun V => (hall V).2.2.2.2.1
    have x5 := fun V => (hall V).2.2.2.2.2.1
    have x6 := fun V => (hall V).2.2.2.2.2.2.1
    have x7 := fun V => (hall V).2.2.2.2.2.2.2
    have hne : Nonempty (GrownW w2) := ⟨⟨w2, Below.refl _ _⟩⟩
    clear hb2 hv2 hbw hall HB1 HV1 HAA HBB HT HPA HPB HK2 HS HO v0 v1 v2 vf
    go_upto_region 21 with (fail)
    refine region_class (C := fun W => ∃ V : GrownW w2, W = V.val) (by kernel_rfl) (by kernel_rfl) ⟨⟨w2.drew, (Below.refl _ _).drew⟩, rfl⟩ ?_
    repeat go_big_quiet_step (first | with_reducible exact HCA.out _ | with_reducible exact HCB.out _)
    refine wpQuiet_nil ?_
    intro _ hw'
    obtain ⟨V, rfl⟩ := hw'
    have HV := Lib.hid (HBW.out.trans (V.bel.mono HBW.out.size))
    generalize V.val = W2 at HV ⊢
    clear HCA HCB hne x0 x1 x2 x3 x4 x5 x6 x7 V
    go_wp2_with fail
    go_ret
    exact ⟨congrArg (fun x => Ending.returned (.string x)) HSS.out, HV.out⟩
  · obtain rfl : o = 62 := hoi
    have henc : Utf8.encode 62 = ⟨#[62]⟩ := by kernel_rfl
    obtain ⟨v0, v1, v2, vf⟩ := hv1.cells
    clear hv1
    go_enter Tryz.func47, Tryz.ntmps47
    go_upto_region 1 with (fail)
    rw [← hW1]
    clear hW1
    go_wp2_with fail
    refine (tight_o 62 0 _ 2 HO.out W1).mono ?_
    rintro e w2 ⟨rfl, hb2⟩
    rw [show tightI 62 = 1 from by decide]
    have hbw : Below w.heap.size w w2 := HB1.out.trans (hb2.mono HB1.out.size)
    have hv2 : TVar w2 w.heap.size (.int .u8 62) (.int .i64 0) (.slice (some ⟨g, 0, none⟩) 2 2) := (hb2.block _ (block_lt HV1.out)).trans HV1.out
    have HCA := Lib.hid (at_class hfa hla 2 (by decide) 2 rfl HPA.out HT.out hbw HAA.out)
    have HCB := Lib.hid (at_class hfb hlb 2 (by decide) 2 rfl HPB.out HT.out hbw HBB.out)
    have hall := op_cells HK2.out hgl hbw hv2
    have HBW := Lib.hid hbw
    have hsa : (bs (a.at_ 2)).size ≤ 202 := bs_at a hla 2
    have hsb : (bs (b.at_ 2)).size ≤ 202 := bs_at b hlb 2
    have HSS : Hid (bs (a.at_ 2) ++ ⟨#[62]⟩ ++ bs (b.at_ 2) = bs (Tr.bin 62 a b).raw) := HS.out
    generalize bs (a.at_ 2) = sa at HCA hsa HSS
    generalize bs (b.at_ 2) = sb at HCB hsb HSS
    have x0 := fun V => (hall V).1
    have x1 := fun V => (hall V).2.1
    have x2 := fun V => (hall V).2.2.1
    have x3 := fun V => (hall V).2.2.2.1
    have x4 := fun V => (hall V).2.2.2.2.1
    have x5 := fun V => (hall V).2.2.2.2.2.1
    have x6 := fun V => (hall V).2.2.2.2.2.2.1
    have x7 := fun V => (hall V).2.2.2.2.2.2.2
    have hne : Nonempty (GrownW w2) := ⟨⟨w2, Below.refl _ _⟩⟩
    clear hb2 hv2 hbw hall HB1 HV1 HAA HBB HT HPA HPB HK2 HS HO v0 v1 v2 vf
    go_upto_region 21 with (fail)
    refine region_class (C := fun W => ∃ V : GrownW w2, W = V.val) (by kernel_rfl) (by kernel_rfl) ⟨⟨w2.drew, (Below.refl _ _).drew⟩, rfl⟩ ?_
    repeat go_big_quiet_step (first | with_reducible exact HCA.out _ | with_reducible exact HCB.out _)
    refine wpQuiet_nil ?_
    intro _ hw'
    obtain ⟨V, rfl⟩ := hw'
    have HV := Lib.hid (HBW.out.trans (V.bel.mono HBW.out.size))
    generalize V.val = W2 at HV ⊢
    clear HCA HCB hne x0 x1 x2 x3 x4 x5 x6 x7 V
    go_wp2_with fail
    go_ret
    exact ⟨congrArg (fun x => Ending.returned (.string x)) HSS.out, HV.out⟩
  · obtain rfl : o = 43 := hoi
    have henc : Utf8.encode 43 = ⟨#[43]⟩ := by kernel_rfl
    obtain ⟨v0, v1, v2, vf⟩ := hv1.cells
    clear hv1
    go_enter Tryz.func47, Tryz.ntmps47
    go_upto_region 1 with (fail)
    rw [← hW1]
    clear hW1
    go_wp2_with fail
    refine (tight_o 43 0 _ 2 HO.out W1).mono ?_
    rintro e w2 ⟨rfl, hb2⟩
    rw [show tightI 43 = 2 from by decide]
    have hbw : Below w.heap.size w w2 := HB1.out.trans (hb2.mono HB1.out.size)
    have hv2 : TVar w2 w.heap.size (.int .u8 43) (.int .i64 0) (.slice (some ⟨g, 0, none⟩) 2 2) := (hb2.block _ (block_lt HV1.out)).trans HV1.out
    have HCA := Lib.hid (at_class hfa hla 2 (by decide) 2 rfl HPA.out HT.out hbw HAA.out)
    have HCB := Lib.hid (at_class hfb hlb 3 (by decide) 3 rfl HPB.out HT.out hbw HBB.out)
    have hall := op_cells HK2.out hgl hbw hv2
    have HBW := Lib.hid hbw
    have hsa : (bs (a.at_ 2)).size ≤ 202 := bs_at a hla 2
    have hsb : (bs (b.at_ 3)).size ≤ 202 := bs_at b hlb 3
    have HSS : Hid (bs (a.at_ 2) ++ ⟨#[43]⟩ ++ bs (b.at_ 3) = bs (Tr.bin 43 a b).raw) := HS.out
    generalize bs (a.at_ 2) = sa at HCA hsa HSS
    generalize bs (b.at_ 3) = sb at HCB hsb HSS
    have x0 := fun V => (hall V).1
    have x1 := fun V => (hall V).2.1
    have x2 := fun V => (hall V).2.2.1
    have x3 := fun V => (hall V).2.2.2.1
    have x4 := fun V => (hall V).2.2.2.2.1
    have x5 := fun V => (hall V).2.2.2.2.2.1
    have x6 := fun V => (hall V).2.2.2.2.2.2.1
    have x7 := fun V => (hall V).2.2.2.2.2.2.2
    have hne : Nonempty (GrownW w2) := ⟨⟨w2, Below.refl _ _⟩⟩
    clear hb2 hv2 hbw hall HB1 HV1 HAA HBB HT HPA HPB HK2 HS HO v0 v1 v2 vf
    go_upto_region 21 with (fail)
    refine region_class (C := fun W => ∃ V : GrownW w2, W = V.val) (by kernel_rfl) (by kernel_rfl) ⟨⟨w2.drew, (Below.refl _ _).drew⟩, rfl⟩ ?_
    repeat go_big_quiet_step (first | with_reducible exact HCA.out _ | with_reducible exact HCB.out _)
    refine wpQuiet_nil ?_
    intro _ hw'
    obtain ⟨V, rfl⟩ := hw'
    have HV := Lib.hid (HBW.out.trans (V.bel.mono HBW.out.size))
    generalize V.val = W2 at HV ⊢
    clear HCA HCB hne x0 x1 x2 x3 x4 x5 x6 x7 V
    go_wp2_with fail
    go_ret
    exact ⟨congrArg (fun x => Ending.returned (.string x)) HSS.out, HV.out⟩
  · obtain rfl : o = 45 := hoi
    have henc : Utf8.encode 45 = ⟨#[45]⟩ := by kernel_rfl
    obtain ⟨v0, v1, v2, vf⟩ := hv1.cells
    clear hv1
    go_enter Tryz.func47, Tryz.ntmps47
    go_upto_region 1 with (fail)
    rw [← hW1]
    clear hW1
    go_wp2_with fail
    refine (tight_o 45 0 _ 2 HO.out W1).mono ?_
    rintro e w2 ⟨rfl, hb2⟩
    rw [show tightI 45 = 2 from by decide]
    have hbw : Below w.heap.size w w2 := HB1.out.trans (hb2.mono HB1.out.size)
    have hv2 : TVar w2 w.heap.size (.int .u8 45) (.int .i64 0) (.slice (some ⟨g, 0, none⟩) 2 2) := (hb2.block _ (block_lt HV1.out)).trans HV1.out
    have HCA := Lib.hid (at_class hfa hla 2 (by decide) 2 rfl HPA.out HT.out hbw HAA.out)
    have HCB := Lib.hid (at_class hfb hlb 3 (by decide) 3 rfl HPB.out HT.out hbw HBB.out)
    have hall := op_cells HK2.out hgl hbw hv2
    have HBW := Lib.hid hbw
    have hsa : (bs (a.at_ 2)).size ≤ 202 := bs_at a hla 2
    have hsb : (bs (b.at_ 3)).size ≤ 202 := bs_at b hlb 3
    have HSS : Hid (bs (a.at_ 2) ++ ⟨#[45]⟩ ++ bs (b.at_ 3) = bs (Tr.bin 45 a b).raw) := HS.out
    generalize bs (a.at_ 2) = sa at HCA hsa HSS
    generalize bs (b.at_ 3) = sb at HCB hsb HSS
    have x0 := fun V => (hall V).1
    have x1 := fun V => (hall V).2.1
    have x2 := fun V => (hall V).2.2.1
    have x3 := fun V => (hall V).2.2.2.1
    have x4 := fun V => (hall V).2.2.2.2.1
    have x5 := fun V => (hall V).2.2.2.2.2.1
    have x6 := fun V => (hall V).2.2.2.2.2.2.1
    have x7 := fun V => (hall V).2.2.2.2.2.2.2
    have hne : Nonempty (GrownW w2) := ⟨⟨w2, Below.refl _ _⟩⟩
    clear hb2 hv2 hbw hall HB1 HV1 HAA HBB HT HPA HPB HK2 HS HO v0 v1 v2 vf
    go_upto_region 21 with (fail)
    refine region_class (C := fun W => ∃ V : GrownW w2, W = V.val) (by kernel_rfl) (by kernel_rfl) ⟨⟨w2.drew, (Below.refl _ _).drew⟩, rfl⟩ ?_
    repeat go_big_quiet_step (first | with_reducible exact HCA.out _ | with_reducible exact HCB.out _)
    refine wpQuiet_nil ?_
    intro _ hw'
    obtain ⟨V, rfl⟩ := hw'
    have HV := Lib.hid (HBW.out.trans (V.bel.mono HBW.out.size))
    generalize V.val = W2 at HV ⊢
    clear HCA HCB hne x0 x1 x2 x3 x4 x5 x6 x7 V
    go_wp2_with fail
    go_ret
    exact ⟨congrArg (fun x => Ending.returned (.string x)) HSS.out, HV.out⟩
  · obtain rfl : o = 42 := hoi
    have henc : Utf8.encode 42 = ⟨#[42]⟩ := by kernel_rfl
    obtain ⟨v0, v1, v2, vf⟩ := hv1.cells
    clear hv1
    go_enter Tryz.func47, Tryz.ntmps47
    go_upto_region 1 with (fail)
    rw [← hW1]
    clear hW1
    go_wp2_with fail
    refine (tight_o 42 0 _ 2 HO.out W1).mono ?_
    rintro e w2 ⟨rfl, hb2⟩
    rw [show tightI 42 = 3 from by decide]
    have hbw : Below w.heap.size w w2 := HB1.out.trans (hb2.mono HB1.out.size)
    have hv2 : TVar w2 w.heap.size (.int .u8 42) (.int .i64 0) (.slice (some ⟨g, 0, none⟩) 2 2) := (hb2.block _ (block_lt HV1.out)).trans HV1.out
    have HCA := Lib.hid (at_class hfa hla 3 (by decide) 3 rfl HPA.out HT.out hbw HAA.out)
    have HCB := Lib.hid (at_class hfb hlb 4 (by decide) 4 rfl HPB.out HT.out hbw HBB.out)
    have hall := op_cells HK2.out hgl hbw hv2
    have HBW := Lib.hid hbw
    have hsa : (bs (a.at_ 3)).size ≤ 202 := bs_at a hla 3
    have hsb : (bs (b.at_ 4)).size ≤ 202 := bs_at b hlb 4
    have HSS : Hid (bs (a.at_ 3) ++ ⟨#[42]⟩ ++ bs (b.at_ 4) = bs (Tr.bin 42 a b).raw) := HS.out
    generalize bs (a.at_ 3) = sa at HCA hsa HSS
    generalize bs (b.at_ 4) = sb at HCB hsb HSS
    have x0 := fun V => (hall V).1
    have x1 := fun V => (hall V).2.1
    have x2 := fun V => (hall V).2.2.1
    have x3 := fun V => (hall V).2.2.2.1
    have x4 := fun V => (hall V).2.2.2.2.1
    have x5 := fun V => (hall V).2.2.2.2.2.1
    have x6 := fun V => (hall V).2.2.2.2.2.2.1
    have x7 := fun V => (hall V).2.2.2.2.2.2.2
    have hne : Nonempty (GrownW w2) := ⟨⟨w2, Below.refl _ _⟩⟩
    clear hb2 hv2 hbw hall HB1 HV1 HAA HBB HT HPA HPB HK2 HS HO v0 v1 v2 vf
    go_upto_region 21 with (fail)
    refine region_class (C := fun W => ∃ V : GrownW w2, W = V.val) (by kernel_rfl) (by kernel_rfl) ⟨⟨w2.drew, (Below.refl _ _).drew⟩, rfl⟩ ?_
    repeat go_big_quiet_step (first | with_reducible exact HCA.out _ | with_reducible exact HCB.out _)
    refine wpQuiet_nil ?_
    intro _ hw'
    obtain ⟨V, rfl⟩ := hw'
    have HV := Lib.hid (HBW.out.trans (V.bel.mono HBW.out.size))
    generalize V.val = W2 at HV ⊢
    clear HCA HCB hne x0 x1 x2 x3 x4 x5 x6 x7 V
    go_wp2_with fail
    go_ret
    exact ⟨congrArg (fun x => Ending.returned (.string x)) HSS.out, HV.out⟩
  · obtain rfl : o = 47 := hoi
    have henc : Utf8.encode 47 = ⟨#[47]⟩ := by kernel_rfl
    obtain ⟨v0, v1, v2, vf⟩ := hv1.cells
    clear hv1
    go_enter Tryz.func47, Tryz.ntmps47
    go_upto_region 1 with (fail)
    rw [← hW1]
    clear hW1
    go_wp2_with fail
    refine (tight_o 47 0 _ 2 HO.out W1).mono ?_
    rintro e w2 ⟨rfl, hb2⟩
    rw [show tightI 47 = 3 from by decide]
    have hbw : Below w.heap.size w w2 := HB1.out.trans (hb2.mono HB1.out.size)
    have hv2 : TVar w2 w.heap.size (.int .u8 47) (.int .i64 0) (.slice (some ⟨g, 0, none⟩) 2 2) := (hb2.block _ (block_lt HV1.out)).trans HV1.out
    have HCA := Lib.hid (at_class hfa hla 3 (by decide) 3 rfl HPA.out HT.out hbw HAA.out)
    have HCB := Lib.hid (at_class hfb hlb 4 (by decide) 4 rfl HPB.out HT.out hbw HBB.out)
    have hall := op_cells HK2.out hgl hbw hv2
    have HBW := Lib.hid hbw
    have hsa : (bs (a.at_ 3)).size ≤ 202 := bs_at a hla 3
    have hsb : (bs (b.at_ 4)).size ≤ 202 := bs_at b hlb 4
    have HSS : Hid (bs (a.at_ 3) ++ ⟨#[47]⟩ ++ bs (b.at_ 4) = bs (Tr.bin 47 a b).raw) := HS.out
    generalize bs (a.at_ 3) = sa at HCA hsa HSS
    generalize bs (b.at_ 4) = sb at HCB hsb HSS
    have x0 := fun V => (hall V).1
    have x1 := fun V => (hall V).2.1
    have x2 := fun V => (hall V).2.2.1
    have x3 := fun V => (hall V).2.2.2.1
    have x4 := fun V => (hall V).2.2.2.2.1
    have x5 := fun V => (hall V).2.2.2.2.2.1
    have x6 := fun V => (hall V).2.2.2.2.2.2.1
    have x7 := fun V => (hall V).2.2.2.2.2.2.2
    have hne : Nonempty (GrownW w2) := ⟨⟨w2, Below.refl _ _⟩⟩
    clear hb2 hv2 hbw hall HB1 HV1 HAA HBB HT HPA HPB HK2 HS HO v0 v1 v2 vf
    go_upto_region 21 with (fail)
    refine region_class (C := fun W => ∃ V : GrownW w2, W = V.val) (by kernel_rfl) (by kernel_rfl) ⟨⟨w2.drew, (Below.refl _ _).drew⟩, rfl⟩ ?_
    repeat go_big_quiet_step (first | with_reducible exact HCA.out _ | with_reducible exact HCB.out _)
    refine wpQuiet_nil ?_
    intro _ hw'
    obtain ⟨V, rfl⟩ := hw'
    have HV := Lib.hid (HBW.out.trans (V.bel.mono HBW.out.size))
    generalize V.val = W2 at HV ⊢
    clear HCA HCB hne x0 x1 x2 x3 x4 x5 x6 x7 V
    go_wp2_with fail
    go_ret
    exact ⟨congrArg (fun x => Ending.returned (.string x)) HSS.out, HV.out⟩
  · obtain rfl : o = 37 := hoi
    have henc : Utf8.encode 37 = ⟨#[37]⟩ := by kernel_rfl
    obtain ⟨v0, v1, v2, vf⟩ := hv1.cells
    clear hv1
    go_enter Tryz.func47, Tryz.ntmps47
    go_upto_region 1 with (fail)
    rw [← hW1]
    clear hW1
    go_wp2_with fail
    refine (tight_o 37 0 _ 2 HO.out W1).mono ?_
    rintro e w2 ⟨rfl, hb2⟩
    rw [show tightI 37 = 3 from by decide]
    have hbw : Below w.heap.size w w2 := HB1.out.trans (hb2.mono HB1.out.size)
    have hv2 : TVar w2 w.heap.size (.int .u8 37) (.int .i64 0) (.slice (some ⟨g, 0, none⟩) 2 2) := (hb2.block _ (block_lt HV1.out)).trans HV1.out
    have HCA := Lib.hid (at_class hfa hla 3 (by decide) 3 rfl HPA.out HT.out hbw HAA.out)
    have HCB := Lib.hid (at_class hfb hlb 4 (by decide) 4 rfl HPB.out HT.out hbw HBB.out)
    have hall := op_cells HK2.out hgl hbw hv2
    have HBW := Lib.hid hbw
    have hsa : (bs (a.at_ 3)).size ≤ 202 := bs_at a hla 3
    have hsb : (bs (b.at_ 4)).size ≤ 202 := bs_at b hlb 4
    have HSS : Hid (bs (a.at_ 3) ++ ⟨#[37]⟩ ++ bs (b.at_ 4) = bs (Tr.bin 37 a b).raw) := HS.out
    generalize bs (a.at_ 3) = sa at HCA hsa HSS
    generalize bs (b.at_ 4) = sb at HCB hsb HSS
    have x0 := fun V => (hall V).1
    have x1 := fun V => (hall V).2.1
    have x2 := fun V => (hall V).2.2.1
    have x3 := fun V => (hall V).2.2.2.1
    have x4 := fun V => (hall V).2.2.2.2.1
    have x5 := fun V => (hall V).2.2.2.2.2.1
    have x6 := fun V => (hall V).2.2.2.2.2.2.1
    have x7 := fun V => (hall V).2.2.2.2.2.2.2
    have hne : Nonempty (GrownW w2) := ⟨⟨w2, Below.refl _ _⟩⟩
    clear hb2 hv2 hbw hall HB1 HV1 HAA HBB HT HPA HPB HK2 HS HO v0 v1 v2 vf
    go_upto_region 21 with (fail)
    refine region_class (C := fun W => ∃ V : GrownW w2, W = V.val) (by kernel_rfl) (by kernel_rfl) ⟨⟨w2.drew, (Below.refl _ _).drew⟩, rfl⟩ ?_
    repeat go_big_quiet_step (first | with_reducible exact HCA.out _ | with_reducible exact HCB.out _)
    refine wpQuiet_nil ?_
    intro _ hw'
    obtain ⟨V, rfl⟩ := hw'
    have HV := Lib.hid (HBW.out.trans (V.bel.mono HBW.out.size))
    generalize V.val = W2 at HV ⊢
    clear HCA HCB hne x0 x1 x2 x3 x4 x5 x6 x7 V
    go_wp2_with fail
    go_ret
    exact ⟨congrArg (fun x => Ending.returned (.string x)) HSS.out, HV.out⟩
theorem sel_cells {w W1 : World} {g : Nat} {o o1 k1 o2 k2 o3 k3 : Int} {A1 A2 A3 : Option Addr} {c1 c2 c3 : Nat} (hk2 : w.heap[g]? = some (.cells (trL o1 k1 A1 c1 ++ trL o2 k2 A2 c2 ++ trL o3 k3 A3 c3).toArray 86 (0, 0))) (hgl : g < w.heap.size) (hb1 : Below w.heap.size w W1)
    (hv1 : TVar W1 w.heap.size (.int .u8 o) (.int .i64 0) (.slice (some ⟨g, 0, none⟩) 3 3)) : ∀ V : GrownW W1, V.val.cell? ⟨g, 0, none⟩ = some (.int .u8 o1) ∧ V.val.cell? ⟨g, 1, none⟩ = some (.int .i64 k1) ∧ V.val.cell? ⟨g, 2, none⟩ = some (.slice A1 c1 c1) ∧ V.val.cell? ⟨g, 3, none⟩ = some (.int .u8 o2) ∧ V.val.cell? ⟨g, 4, none⟩ = some (.int .i64 k2) ∧ V.val.cell? ⟨g, 5, none⟩ = some (.slice A2 c2 c2) ∧
      V.val.cell? ⟨g, 6, none⟩ = some (.int .u8 o3) ∧ V.val.cell? ⟨g, 7, none⟩ = some (.int .i64 k3) ∧ V.val.cell? ⟨g, 8, none⟩ = some (.slice A3 c3 c3) ∧
      V.val.cell? ⟨w.heap.size, 0, none⟩ = some (.int .u8 o) ∧ V.val.cell? ⟨w.heap.size, 2, none⟩ = some (.slice (some ⟨g, 0, none⟩) 3 3) := fun V => by
  have h : V.val.heap[g]? = _ := (V.bel.block g (by have := hb1.size; omega)).trans ((hb1.block g hgl).trans hk2)
  have h2 : TVar V.val w.heap.size (.int .u8 o) (.int .i64 0) (.slice (some ⟨g, 0, none⟩) 3 3) := (V.bel.block _ (block_lt hv1)).trans hv1
  exact ⟨(cell_of_row V.val g 0 _ _ _ h).trans rfl, (cell_of_row V.val g 1 _ _ _ h).trans rfl, (cell_of_row V.val g 2 _ _ _ h).trans rfl, (cell_of_row V.val g 3 _ _ _ h).trans rfl, (cell_of_row V.val g 4 _ _ _ h).trans rfl, (cell_of_row V.val g 5 _ _ _ h).trans rfl, (cell_of_row V.val g 6 _ _ _ h).trans rfl, (cell_of_row V.val g 7 _ _ _ h).trans rfl, (cell_of_row V.val g 8 _ _ _ h).trans rfl, h2.cells.1, h2.cells.2.2.1⟩
theorem sel_bs (a b c : Tr) : bs (a.at_ 1) ++ ⟨#[63]⟩ ++ bs b.raw ++ ⟨#[58]⟩ ++ bs c.raw = bs (Tr.sel a b c).raw := by
  rw [show (⟨#[63]⟩ : ByteArray) = bs [63] from rfl, show (⟨#[58]⟩ : ByteArray) = bs [58] from rfl, bs_app, bs_app, bs_app, bs_app]
  congr 1
  simp [Tr.raw, Tr.at_]
set_option maxRecDepth 100000 in
set_option maxHeartbeats 4000000 in
theorem print_sel (a b d : Tr) (hfa : a.fine) (hla : a.raw.length ≤ 200) (hlb : b.raw.length ≤ 200) (hld : d.raw.length ≤ 200) (hpa : Prints a) (hpb : Prints b) (hpd : Prints d) : Prints (.sel a b d) := by
  intro o k A c w hT h
  obtain ⟨g, ca, cb, cd, he, hk, ha, hb, hd⟩ := h
  obtain ⟨rfl, rfl, rfl, rfl⟩ : o = 63 ∧ k = 0 ∧ A = some ⟨g, 0, none⟩ ∧ c = 3 := by simp [trL] at he; exact he
  obtain ⟨o1, k1, A1, c1, rfl⟩ := ha.three
  obtain ⟨o2, k2, A2, c2, rfl⟩ := hb.three
  obtain ⟨o3, k3, A3, c3, rfl⟩ := hd.three
  have hgl := block_lt hk.2
  have hk2 := hk.2
  obtain ⟨W1, hW1⟩ : ∃ W1, W1 = w.alloc (.cells #[.int .u8 63, .int .i64 0, .slice (some ⟨g, 0, none⟩) 3 3] 86) := ⟨_, rfl⟩
  have hb1 : Below w.heap.size w W1 := by rw [hW1]; exact (Below.refl _ _).alloc (Nat.le_refl _) _
  have hv1 : TVar W1 w.heap.size (.int .u8 63) (.int .i64 0) (.slice (some ⟨g, 0, none⟩) 3 3) := by rw [hW1]; exact TVar.new _ _ _ _
  have hall := sel_cells hk2 hgl hb1 hv1
  have HCA := Lib.hid (at_class hfa hla 1 (by decide) 1 rfl hpa hT hb1 ha)
  have HCB := Lib.hid (prints_class hpb hT hb1 hb)
  have HCD := Lib.hid (prints_class hpd hT hb1 hd)
  have hsa : (bs (a.at_ 1)).size ≤ 202 := bs_at a hla 1
  have hsb : (bs b.raw).size ≤ 200 := by rw [bs_size]; exact hlb
  have hsd : (bs d.raw).size ≤ 200 := by rw [bs_size]; exact hld
  have HSS := Lib.hid (sel_bs a b d)
  generalize bs (a.at_ 1) = sa at HCA hsa HSS
  generalize bs b.raw = sb at HCB hsb HSS
  generalize bs d.raw = sd at HCD hsd HSS
  have x0 := fun V => (hall V).1
  have x1 := fun V => (hall V).2.1
  have x2 := fun V => (hall V).2.2.1
  have x3 := fun V => (hall V).2.2.2.1
  have x4 := fun V => (hall V).2.2.2.2.1
  have x5 := fun V => (hall V).2.2.2.2.2.1
  have x6 := fun V => (hall V).2.2.2.2.2.2.1
  have x7 := fun V => (hall V).2.2.2.2.2.2.2.1
  have x8 := fun V => (hall V).2.2.2.2.2.2.2.2.1
  have y0 := fun V => (hall V).2.2.2.2.2.2.2.2.2.1
  have y1 := fun V => (hall V).2.2.2.2.2.2.2.2.2.2
  have m0 := y0 ⟨W1, Below.refl _ _⟩
  have HB1 := Lib.hid hb1
  have hne : Nonempty (GrownW W1) := ⟨⟨W1, Below.refl _ _⟩⟩
  clear ha hb hd he hk hall hb1 hv1 hk2 hpa hpb hpd hT hla hlb hld
  go_enter Tryz.func47, Tryz.ntmps47
  go_upto_region 1 with (fail)
  rw [← hW1]
  clear hW1
  go_upto_region 16 with (fail)
  refine region_class (C := fun W => ∃ V : GrownW W1, W = V.val) (by kernel_rfl) (by kernel_rfl) ⟨⟨W1.drew, (Below.refl _ _).drew⟩, rfl⟩ ?_
  repeat go_big_quiet_step (first | with_reducible exact HCA.out _ | with_reducible exact HCB.out _ | with_reducible exact HCD.out _)
  refine wpQuiet_nil ?_
  intro _ hw'
  obtain ⟨V, rfl⟩ := hw'
  have HV := Lib.hid (HB1.out.trans (V.bel.mono HB1.out.size))
  generalize V.val = W2 at HV ⊢
  clear HCA HCB HCD hne x0 x1 x2 x3 x4 x5 x6 x7 x8 y0 y1 m0 V
  go_wp2_with fail
  go_ret
  exact ⟨congrArg (fun x => Ending.returned (.string x)) HSS.out, HV.out⟩
set_option maxRecDepth 100000 in
set_option maxHeartbeats 1000000 in
theorem print_num (v : Int) (hf : (Tr.num v).fine) : Prints (.num v) := by
  intro o k A c w hT h
  obtain ⟨rfl, rfl, rfl, rfl⟩ : o = 48 ∧ k = v ∧ A = none ∧ c = 0 := by
    have h : trL o k A c = _ := h
    simp [trL] at h; exact h
  have HF : Hid (I64_ k) := by
    have h : 0 ≤ k ∧ k ≤ 9223372036854775807 := hf
    show I64_ k
    unfold I64_; omega
  have hb1 : Below w.heap.size w (w.alloc (.cells #[.int .u8 48, .int .i64 k, .slice none 0 0] 86)) := (Below.refl _ _).alloc (Nat.le_refl _) _
  have HIT := Lib.hid (itoa_ok k _ HF.out (hT.below hb1))
  have HB1 := Lib.hid hb1
  clear hf h hT hb1
  go_enter Tryz.func47, Tryz.ntmps47
  go_wp2_with fail
  refine HIT.out.mono ?_
  rintro e w2 ⟨rfl, hb2⟩
  have HB2 := Lib.hid (HB1.out.trans (hb2.mono HB1.out.size))
  clear hb2
  go_wp2_with fail
  go_ret
  exact ⟨rfl, HB2.out⟩
set_option maxRecDepth 100000 in
set_option maxHeartbeats 1000000 in
theorem print_nam (b : Bool) : Prints (.nam b) := by
  intro o k A c w hT h
  obtain ⟨rfl, rfl, rfl, rfl⟩ : o = (if b then 110 else 115) ∧ k = 0 ∧ A = none ∧ c = 0 := by
    have h : trL o k A c = _ := h
    simp [trL] at h; exact h
  have e1 : Utf8.encode 110 = ⟨#[110]⟩ := by kernel_rfl
  have e2 : Utf8.encode 115 = ⟨#[115]⟩ := by kernel_rfl
  clear h hT
  cases b
  · simp only [Bool.false_eq_true, if_false]
    go_enter Tryz.func47, Tryz.ntmps47
    go_wp2_with fail
    go_ret
    exact ⟨rfl, (Below.refl _ _).alloc (Nat.le_refl _) _⟩
  · simp only [if_true]
    go_enter Tryz.func47, Tryz.ntmps47
    go_wp2_with fail
    go_ret
    exact ⟨rfl, (Below.refl _ _).alloc (Nat.le_refl _) _⟩
theorem neg_bs (a : Tr) : (⟨#[45]⟩ : ByteArray) ++ bs (a.at_ 4) = bs (Tr.neg a).raw := by
  rw [show (⟨#[45]⟩ : ByteArray) = bs [45] from rfl, bs_app]; rfl
set_option maxRecDepth 100000 in
set_option maxHeartbeats 1000000 in
theorem print_neg (a : Tr) (hfa : a.fine) (hla : a.raw.length ≤ 200) (hpa : Prints a) : Prints (.neg a) := by
  intro o k A c w hT h
  obtain ⟨g, ca, he, hk, ha⟩ := h
  obtain ⟨rfl, rfl, rfl, rfl⟩ : o = 126 ∧ k = 0 ∧ A = some ⟨g, 0, none⟩ ∧ c = 1 := by simp [trL] at he; exact he
  obtain ⟨o1, k1, A1, c1, rfl⟩ := ha.three
  obtain ⟨x0, x1, x2, xf⟩ := (TVar.allocs (w := w) (k := g) hk.2)
  have hb1 : Below w.heap.size w (w.alloc (.cells #[.int .u8 126, .int .i64 0, .slice (some ⟨g, 0, none⟩) 1 1] 86)) := (Below.refl _ _).alloc (Nat.le_refl _) _
  have HAT := Lib.hid (at_class hfa hla 4 (by decide) 4 rfl hpa hT hb1 ha ⟨_, Below.refl _ _⟩)
  have hsa : (bs (a.at_ 4)).size ≤ 202 := bs_at a hla 4
  have HSS := Lib.hid (neg_bs a)
  generalize bs (a.at_ 4) = sa at HAT hsa HSS
  have HB1 := Lib.hid hb1
  clear ha hk he hT hb1 hpa hla
  go_enter Tryz.func47, Tryz.ntmps47
  go_wp2_with fail
  refine HAT.out.mono ?_
  rintro e w2 ⟨rfl, V, rfl⟩
  have HB := Lib.hid (HB1.out.trans (V.bel.mono HB1.out.size))
  generalize V.val = W2 at HB ⊢
  clear HAT HB1 x0 x1 x2 xf V
  go_wp2_with fail
  go_ret
  exact ⟨congrArg (fun x => Ending.returned (.string x)) HSS.out, HB.out⟩
/-- print returns a tree's text. -/
theorem prints (t : Tr) (hf : t.fine) (hl : t.raw.length ≤ 200) : Prints t := by
  induction t with
  | num v => exact print_num v hf
  | nam b => exact print_nam b
  | neg a ih =>
    have h : (Tr.neg a).raw.length = (brk (decide (a.tight < 4)) a.raw).length + 1 := by simp [Tr.raw]
    rw [brk_length] at h
    exact print_neg a hf (by omega) (ih hf (by omega))
  | bin op a b iha ihb =>
    have hab : a.raw.length ≤ 200 ∧ b.raw.length ≤ 200 := by
      unfold Tr.raw at hl
      split at hl
      · simp at hl; omega
      · split at hl
        · simp at hl; omega
        · rw [List.length_append, List.length_cons, brk_length, brk_length] at hl; omega
    rcases isOp_cases hf.1 with h | h | h | h | h | h | h | h | h | h
    · exact print_min op (.inl h) a b hab.1 hab.2 (iha hf.2.1 hab.1) (ihb hf.2.2 hab.2)
    · exact print_min op (.inr h) a b hab.1 hab.2 (iha hf.2.1 hab.1) (ihb hf.2.2 hab.2)
    all_goals exact print_op op (by simp [h]) a b hf.2.1 hf.2.2 hab.1 hab.2 (iha hf.2.1 hab.1) (ihb hf.2.2 hab.2)
  | sel a b c iha ihb ihc =>
    have h : (Tr.sel a b c).raw.length = (brk (decide (a.tight < 1)) a.raw).length + b.raw.length + c.raw.length + 2 := by simp [Tr.raw]; omega
    rw [brk_length] at h
    exact print_sel a b c hf.1 (by omega) (by omega) (by omega) (iha hf.1 (by omega)) (ihb hf.2.1 (by omega)) (ihc hf.2.2 (by omega))
end Go.Proofs.YtfndhfekbbbliaaGreatDoor

/-
  Package expr: the contract of Print. Conditions: the text's length; the two variables of Atoi's errors hold errors; the table of powers of ten reads as Go's text lays it.
-/
namespace Go.Proofs.YtfndhfekbbbliaaGreatDoor
open Go.RowKit Go.Shelf
set_option linter.unusedVariables false

set_option maxRecDepth 100000 in
theorem print_fault (s : ByteArray) (w : World) (hv : ErrVars w) (hsz : s.size ≤ maxLen) {k : Nat} {j : Int} (hp : parseT s.data.toList = .fault k j) :
    Calls Tryz.prog 14 #[.string s] w fun e w' => e = .returned (.tuple #[.string ⟨#[]⟩, errV j]) ∧ Below w.heap.size w w' := by
  have HPR := Lib.hid (parse_reads s w hv hsz)
  have HP := Lib.hid hp
  clear hp hv
  go_enter Tryz.func14, Tryz.ntmps14
  go_wp2_with fail
  refine HPR.out.mono ?_
  rintro e w1 ⟨h1, hb⟩
  have h2 := parse_fault h1 HP.out
  subst h2
  have HB := Lib.hid hb
  clear hb h1 HP HPR
  unfold errV trA
  go_wp2_with fail
  go_ret2
  exact ⟨rfl, (HB.out.alloc HB.out.size _)⟩
set_option maxRecDepth 100000 in
theorem print_tree (s : ByteArray) (w : World) (hv : ErrVars w) (hT : PowTab w) (hsz : s.size ≤ maxLen) {t : Tr} (hp : parseT s.data.toList = .tree t) :
    Calls Tryz.prog 14 #[.string s] w fun e w' => e = .returned (.tuple #[.string (bs t.raw), .nilIface]) ∧ Below w.heap.size w w' := by
  have HPR := Lib.hid (parse_reads s w hv hsz)
  have hl : t.raw.length ≤ 200 := by
    have h1 := (print_back hp).2.1
    have h2 := (parse_ok hp).1
    omega
  have HEV := Lib.hid (prints t (fine_of hp) hl)
  have HP := Lib.hid hp
  have HT := Lib.hid hT
  clear hp hv hT hl
  go_enter Tryz.func14, Tryz.ntmps14
  go_wp2_with fail
  refine HPR.out.mono ?_
  rintro e w1 ⟨h1, hb⟩
  obtain ⟨o, k, A, c, rfl, ht⟩ := parse_tree h1 HP.out
  have HB := Lib.hid hb
  have HTR := Lib.hid ht
  clear hb h1 HP HPR ht
  unfold trA
  go_wp2_with fail
  have hb1 : Below w.heap.size w (w1.alloc (.cells #[.int .u8 o, .int .i64 k, .slice A c c] 86)) := HB.out.alloc HB.out.size _
  refine (HEV.out o k A c _ (HT.out.below hb1) (((HTR.out.in_ (G := fun j => j < w1.heap.size) fun j _ h => h).keep fun j hj => heap_alloc_old _ _ hj).in_ fun j hj hj2 => hj2)).mono ?_
  rintro e w2 ⟨rfl, hb2⟩
  have HB2 := Lib.hid (hb1.trans (hb2.mono hb1.size))
  clear hb1 hb2 HEV HTR HB HT
  go_wp2_with fail
  go_ret2
  exact ⟨rfl, HB2.out⟩
theorem bs_list (l : List UInt8) : (bs l).data.toList = l := by show l.toArray.toList = l; simp
end Go.Proofs.YtfndhfekbbbliaaGreatDoor

/-
  Contracts of errors.As at a target '*api.Errno', of plain.Told and of weirsame.Error: nil and an Errno. Condition: the variable errors.errorType reads as the program's text lays it. (Turned from the guide's worked example of errors.As to this program's types.)
-/
namespace Go.Proofs.YtfndhfekbbbliaaGreatDoor
open Go.RowKit Go.Extern.Stop Go.Stop Go.Extern
set_option linter.unusedVariables false

/-- The variable errors.errorType, as it is laid. -/
def ErrVar (w : World) : Prop := w.cell? ⟨0, 0, none⟩ = some (.iface 215 (.agg #[.pointer (some ⟨9, 28, none⟩)]))

theorem as_nil (t : Value) (w : World) :
    Calls Tryz.prog 86 #[.nilIface, t] w fun e w' => e = .returned (.bool false) ∧ w' = w := by
  go_enter Tryz.func86, Tryz.ntmps86
  go_wp2
  go_ret
  exact ⟨rfl, rfl⟩

theorem ea_valueOfP (t : Addr) (w : World) : (ReflectliteValue.unpack (.iface 155 (.pointer (some t)))).run Tryz.prog w
    = .ok (.agg #[.pointer (some ⟨9, 155, none⟩), .pointer (some ⟨w.heap.size, 0, none⟩), .int .u64 150]) (w.alloc (.cells #[.pointer (some t)] 155)) := by kernel_rfl
theorem ea_typeP (a : Addr) (w : World) : (ReflectliteValue.methodAny (ReflectliteValue.valueError "reflectlite.Value.Type" 0) (fun t _ _ _ => ReflectliteType.toType t) #[.agg #[.pointer (some ⟨9, 155, none⟩), .pointer (some a), .int .u64 150]]).run Tryz.prog w
    = .ok (.iface 215 (.agg #[.pointer (some ⟨9, 155, none⟩)])) w := by kernel_rfl
theorem ea_methodKind (h : Value) (w : World) : (Go.method 427 215 (.agg #[h]) "Kind").run Tryz.prog w = .ok (238, h) w := by kernel_rfl
theorem ea_kindP (w : World) : ((ReflectliteType.abiMethod fun t => (fun a : Nat => Value.int IntKind.u8 (a : Int)) <$> Rtype.kind t) #[.pointer (some ⟨9, 155, none⟩)]).run Tryz.prog w = .ok (.int .u8 22) w := by kernel_rfl
theorem ea_kindE (w : World) : ((ReflectliteType.abiMethod fun t => (fun a : Nat => Value.int IntKind.u8 (a : Int)) <$> Rtype.kind t) #[.pointer (some ⟨9, 89, none⟩)]).run Tryz.prog w = .ok (.int .u8 2) w := by kernel_rfl

theorem ea_rlm (z : Sem Value) (f : TypeId → Addr → Nat → Nat → Sem Value) (v : Value) :
    ReflectliteValue.method z f #[v] = (do match ← ReflectliteValue.parts v with | none => z | some (t, a, fl) => f t a fl (fl % 32)) := rfl
theorem ea_partsP (a : Addr) (w : World) : (ReflectliteValue.parts (.agg #[.pointer (some ⟨9, 155, none⟩), .pointer (some a), .int .u64 150])).run Tryz.prog w = .ok (some (155, a, 150)) w := by kernel_rfl
theorem ea_isNilP (a p : Addr) (W : World) (ha : W.cell? a = some (.pointer (some p))) :
    (ReflectliteValue.method (ReflectliteValue.valueError "reflectlite.Value.IsNil" 0) ReflectliteValue.isNil #[.agg #[.pointer (some ⟨9, 155, none⟩), .pointer (some a), .int .u64 150]]).run Tryz.prog W = .ok (.bool false) W := by
  rw [ea_rlm]
  simp only [Sem.run_bind, ea_partsP, Result.andThen]
  simp [ReflectliteValue.isNil, loadVar, isAgg, underlying, Tryz.underlying155, ha, Result.andThen]

theorem ea_methodElem (h : Value) (w : World) : (Go.method 427 215 (.agg #[h]) "Elem").run Tryz.prog w = .ok (251, .agg #[h]) w := by kernel_rfl
theorem ea_methodImplements (h : Value) (w : World) : (Go.method 427 215 (.agg #[h]) "Implements").run Tryz.prog w = .ok (252, .agg #[h]) w := by kernel_rfl
theorem ea_methodAssignableTo (h : Value) (w : World) : (Go.method 427 215 (.agg #[h]) "AssignableTo").run Tryz.prog w = .ok (249, .agg #[h]) w := by kernel_rfl
theorem ea_elemP (w : World) : (ReflectliteType.method ReflectliteType.elem #[.agg #[.pointer (some ⟨9, 155, none⟩)]]).run Tryz.prog w = .ok (.iface 215 (.agg #[.pointer (some ⟨9, 89, none⟩)])) w := by kernel_rfl
theorem ea_implementsE (w : World) : (ReflectliteType.relation "Implements" ReflectliteType.implements_ #[.agg #[.pointer (some ⟨9, 89, none⟩)], .iface 215 (.agg #[.pointer (some ⟨9, 28, none⟩)])]).run Tryz.prog w = .ok (.bool true) w := by kernel_rfl
theorem ea_typeOfE (v : Value) (w : World) : (ReflectliteType.typeOf #[.iface 89 v]).run Tryz.prog w = .ok (.iface 215 (.agg #[.pointer (some ⟨9, 89, none⟩)])) w := by kernel_rfl
theorem ea_assignableE (w : World) : (ReflectliteType.relation "AssignableTo" ReflectliteType.assignableTo #[.agg #[.pointer (some ⟨9, 89, none⟩)], .iface 215 (.agg #[.pointer (some ⟨9, 89, none⟩)])]).run Tryz.prog w = .ok (.bool true) w := by kernel_rfl
theorem ea_valueOfE (k : Int) (w : World) : (ReflectliteValue.unpack (.iface 89 (.int .i64 k))).run Tryz.prog w
    = .ok (.agg #[.pointer (some ⟨9, 89, none⟩), .pointer (some ⟨w.heap.size, 0, none⟩), .int .u64 130]) (w.alloc (.cells #[.int .i64 k] 89)) := by kernel_rfl

theorem ea_elemOfP (w : World) : (Rtype.elem? 155).run Tryz.prog w = .ok (some 89) w := by kernel_rfl
theorem ea_mkE (p : Addr) (w : World) : (ReflectliteValue.mk 89 p ReflectliteValue.flagAddr).run Tryz.prog w = .ok (.agg #[.pointer (some ⟨9, 89, none⟩), .pointer (some p), .int .u64 386]) w := by kernel_rfl
theorem ea_elemVP (a p : Addr) (W : World) (ha : W.cell? a = some (.pointer (some p))) :
    (ReflectliteValue.method (ReflectliteValue.valueError "reflectlite.Value.Elem" 0) ReflectliteValue.elem #[.agg #[.pointer (some ⟨9, 155, none⟩), .pointer (some a), .int .u64 150]]).run Tryz.prog W
      = .ok (.agg #[.pointer (some ⟨9, 89, none⟩), .pointer (some p), .int .u64 386]) W := by
  rw [ea_rlm]
  simp only [Sem.run_bind, ea_partsP, Result.andThen]
  simp [ReflectliteValue.elem, loadVar, isAgg, underlying, Tryz.underlying155, ha, Result.andThen, ea_elemOfP, ea_mkE]
theorem ea_rls (v x : Value) : ReflectliteValue.set #[v, x] = (do
    let (some (dst, a, fl), some (src, b, _)) := (← ReflectliteValue.parts v, ← ReflectliteValue.parts x)
      | unsupported (.noEntry "extern/(internal/reflectlite.Value).Set.zeroValue")
    if fl / ReflectliteValue.flagAddr % 2 == 0 then unsupported (.noEntry "extern/(internal/reflectlite.Value).Set.unaddressable")
    let val ← loadVar src b
    if ← Rtype.directlyAssignable dst src then storeVar dst a val
    else if ← Rtype.implements dst src then
      if (← Rtype.kind src) == 20 then
        match val with
        | .nilIface => unsupported (.noEntry "extern/reflectlite: a nil value of one interface type handed on as a value of another")
        | _ => storeVar dst a val
      else storeVar dst a (.iface src val)
    else panicString ("reflectlite.Set: value of type " ++ (← Rtype.spelt src) ++ " is not assignable to type " ++ (← Rtype.spelt dst))
    pure (.tuple #[])) := rfl
theorem ea_partsEa (a : Addr) (w : World) : (ReflectliteValue.parts (.agg #[.pointer (some ⟨9, 89, none⟩), .pointer (some a), .int .u64 386])).run Tryz.prog w = .ok (some (89, a, 386)) w := by kernel_rfl
theorem ea_partsE (a : Addr) (w : World) : (ReflectliteValue.parts (.agg #[.pointer (some ⟨9, 89, none⟩), .pointer (some a), .int .u64 130])).run Tryz.prog w = .ok (some (89, a, 130)) w := by kernel_rfl
theorem ea_directE (w : World) : (Rtype.directlyAssignable 89 89).run Tryz.prog w = .ok true w := by kernel_rfl
theorem ea_sizeE (w : World) : (sizeOf 89).run Tryz.prog w = .ok 1 w := by kernel_rfl
theorem ea_setE (ta b : Addr) (k : Int) (old : Value) (W : World) (hb : W.cell? b = some (.int .i64 k)) (ht : W.cell? ta = some old) (hf : W.frozen? ta = false) :
    (ReflectliteValue.set #[.agg #[.pointer (some ⟨9, 89, none⟩), .pointer (some ta), .int .u64 386], .agg #[.pointer (some ⟨9, 89, none⟩), .pointer (some b), .int .u64 130]]).run Tryz.prog W
      = .ok (.tuple #[]) (W.setCell ta (.int .i64 k)) := by
  rw [ea_rls]
  simp only [Sem.run_bind, ea_partsEa, ea_partsE, Result.andThen]
  simp [ReflectliteValue.flagAddr, loadVar, isAgg, underlying, Tryz.underlying89, hb, Result.andThen, ea_directE, storeVar, Value.cells, storeCells, Addr.add]
  rw [run_store Tryz.prog W ta _ _ (by rfl)]
  simp [ht, hf]

set_option maxHeartbeats 4000000 in
theorem as_hit (k : Int) (t : Addr) (old : Value) (w : World) (hg : ErrVar w) (ht0 : w.cell? t = some old) (hf0 : w.frozen? t = false) :
    Calls Tryz.prog 86 #[.iface 89 (.int .i64 k), .iface 155 (.pointer (some t))] w fun ev w' => ev = .returned (.bool true) ∧ w' = ((((w.alloc (.cells #[.pointer (some t)] 155)).alloc (.cells #[.pointer (some ⟨9, 155, none⟩), .pointer (some ⟨w.heap.size, 0, none⟩), .int .u64 150] 189)).alloc (.cells #[.pointer (some ⟨9, 155, none⟩), .pointer (some ⟨w.heap.size, 0, none⟩), .int .u64 150] 189)).alloc (.cells #[.int .i64 k] 89)).setCell t (.int .i64 k) := by
  unfold ErrVar at hg
  have h6 := @run_callFunc_extern Tryz.prog 120 _ (fun args => ReflectliteValue.unpack (args.getD 0 (.tuple #[]))) Tryz.func120 (by kernel_rfl) (by kernel_rfl) (by kernel_rfl) (by kernel_rfl)
  have h7 := @run_callFunc_extern Tryz.prog 121 _ (ReflectliteValue.methodAny (ReflectliteValue.valueError "reflectlite.Value.Type" 0) (fun t _ _ _ => ReflectliteType.toType t)) Tryz.func121 (by kernel_rfl) (by kernel_rfl) (by kernel_rfl) (by kernel_rfl)
  have h8 := @run_callFunc_extern Tryz.prog 122 _ (ReflectliteValue.method (ReflectliteValue.valueError "reflectlite.Value.IsNil" 0) ReflectliteValue.isNil) Tryz.func122 (by kernel_rfl) (by kernel_rfl) (by kernel_rfl) (by kernel_rfl)
  have h27 := @run_callFunc_extern Tryz.prog 238 _ (ReflectliteType.abiMethod fun t => do pure (.int .u8 (← Rtype.kind t))) Tryz.func238 (by kernel_rfl) (by kernel_rfl) (by kernel_rfl) (by kernel_rfl)
  have h37 := @run_callFunc_extern Tryz.prog 251 _ (ReflectliteType.method ReflectliteType.elem) Tryz.func251 (by kernel_rfl) (by kernel_rfl) (by kernel_rfl) (by kernel_rfl)
  have h38 := @run_callFunc_extern Tryz.prog 252 _ (ReflectliteType.relation "Implements" ReflectliteType.implements_) Tryz.func252 (by kernel_rfl) (by kernel_rfl) (by kernel_rfl) (by kernel_rfl)
  have h10 := @run_callFunc_extern Tryz.prog 146 _ ReflectliteType.typeOf Tryz.func146 (by kernel_rfl) (by kernel_rfl) (by kernel_rfl) (by kernel_rfl)
  have h35 := @run_callFunc_extern Tryz.prog 249 _ (ReflectliteType.relation "AssignableTo" ReflectliteType.assignableTo) Tryz.func249 (by kernel_rfl) (by kernel_rfl) (by kernel_rfl) (by kernel_rfl)
  have h11 := @run_callFunc_extern Tryz.prog 147 _ (ReflectliteValue.method (ReflectliteValue.valueError "reflectlite.Value.Elem" 0) ReflectliteValue.elem) Tryz.func147 (by kernel_rfl) (by kernel_rfl) (by kernel_rfl) (by kernel_rfl)
  have h12 := @run_callFunc_extern Tryz.prog 148 _ ReflectliteValue.set Tryz.func148 (by kernel_rfl) (by kernel_rfl) (by kernel_rfl) (by kernel_rfl)
  have tO := ea_typeOfE
  have mA := ea_methodAssignableTo
  have a25 := ea_assignableE
  have v25 := ea_valueOfE
  have f6 := ea_valueOfP
  have f7 := ea_typeP
  have mK := ea_methodKind
  have mE := ea_methodElem
  have mI := ea_methodImplements
  have k27 := ea_kindP
  have k25 := ea_kindE
  have e27 := ea_elemP
  have i25 := ea_implementsE
  have n8 := ea_isNilP ⟨w.heap.size, 0, none⟩ t ((w.alloc (.cells #[.pointer (some t)] 155)).alloc (.cells #[.pointer (some ⟨9, 155, none⟩), .pointer (some ⟨w.heap.size, 0, none⟩), .int .u64 150] 189)) (by simp)
  have hlt : 0 < w.heap.size := by
    rcases Nat.eq_zero_or_pos w.heap.size with h0 | h
    · simp [World.cell?, h0] at hg
    · exact h
  have hg2 : ((w.alloc (.cells #[.pointer (some t)] 155)).alloc (.cells #[.pointer (some ⟨9, 155, none⟩), .pointer (some ⟨w.heap.size, 0, none⟩), .int .u64 150] 189)).cell? ⟨0, 0, none⟩ = some (.iface 215 (.agg #[.pointer (some ⟨9, 28, none⟩)])) := by
    rw [World.cell?_alloc_lt _ _ ⟨0, 0, none⟩ (by simp), World.cell?_alloc_lt _ _ ⟨0, 0, none⟩ hlt]; exact hg
  have htl : t.block < w.heap.size := by
    rcases Nat.lt_or_ge t.block w.heap.size with h | h
    · exact h
    · simp [World.cell?, Array.getElem?_eq_none h] at ht0
  have el := ea_elemVP ⟨w.heap.size, 0, none⟩ t (((w.alloc (.cells #[.pointer (some t)] 155)).alloc (.cells #[.pointer (some ⟨9, 155, none⟩), .pointer (some ⟨w.heap.size, 0, none⟩), .int .u64 150] 189)).alloc (.cells #[.pointer (some ⟨9, 155, none⟩), .pointer (some ⟨w.heap.size, 0, none⟩), .int .u64 150] 189)) (by rw [World.cell?_alloc_lt _ _ ⟨w.heap.size, 0, none⟩ (by simp; omega)]; simp)
  have st := ea_setE t ⟨w.heap.size + 1 + 1 + 1, 0, none⟩ k old ((((w.alloc (.cells #[.pointer (some t)] 155)).alloc (.cells #[.pointer (some ⟨9, 155, none⟩), .pointer (some ⟨w.heap.size, 0, none⟩), .int .u64 150] 189)).alloc (.cells #[.pointer (some ⟨9, 155, none⟩), .pointer (some ⟨w.heap.size, 0, none⟩), .int .u64 150] 189)).alloc (.cells #[.int .i64 k] 89))
    (by rw [World.cell?_alloc_at _ _ _ _ (by simp)]; rfl)
    (by rw [World.cell?_alloc_lt _ _ t (by simp; omega), World.cell?_alloc_lt _ _ t (by simp; omega), World.cell?_alloc_lt _ _ t (by simp; omega), World.cell?_alloc_lt _ _ t htl]; exact ht0)
    (by rw [World.frozen?_alloc_old _ _ t (by simp; omega), World.frozen?_alloc_old _ _ t (by simp; omega), World.frozen?_alloc_old _ _ t (by simp; omega), World.frozen?_alloc_old _ _ t (Nat.ne_of_lt htl)]; exact hf0)
  go_enter Tryz.func86, Tryz.ntmps86
  go_wp2
  refine wp_loop_rounds 1 ?_
  rw [rounds_succ]
  go_wp2
  go_ret
  exact ⟨rfl, rfl⟩

/-! ### weirsame.Error -/
theorem ErrVar.below {w w' : World} {B : Nat} (h : ErrVar w) (hb : Below B w w') (hB : 0 < B) : ErrVar w' := by
  unfold ErrVar at h ⊢
  rw [hb.cell (p := ⟨0, 0, none⟩) hB]; exact h
theorem ErrVar.pos {w : World} (h : ErrVar w) : 0 < w.heap.size := by
  unfold ErrVar at h
  rcases Nat.eq_zero_or_pos w.heap.size with h0 | h'
  · simp [World.cell?, h0] at h
  · exact h'
theorem ErrVar.drewN {w : World} (h : ErrVar w) (q : Nat) : ErrVar (w.drewN q) := h
theorem ErrVar.alloc {w : World} (h : ErrVar w) (o : Obj) : ErrVar (w.alloc o) := by
  have hp := h.pos
  unfold ErrVar at h ⊢
  rw [World.cell?_alloc_lt _ _ ⟨0, 0, none⟩ hp]; exact h

theorem told_nil (w : World) : Calls Tryz.prog 38 #[.nilIface] w fun e w' => e = .returned (.int .i64 0) ∧ w = w' := by
  go_enter Tryz.func38, Tryz.ntmps38
  go_wp2
  go_ret
  exact ⟨rfl, rfl⟩
set_option maxHeartbeats 1000000 in
theorem told_errno (k : Int) (w : World) (hg : ErrVar w) : Calls Tryz.prog 38 #[.iface 89 (.int .i64 k)] w fun e w' => e = .returned (.int .i64 k) ∧ Below w.heap.size w w' := by
  have hgA := hg.alloc (.cells #[.int .i64 0] 89)
  have htA : (w.alloc (.cells #[.int .i64 0] 89)).cell? ⟨w.heap.size, 0, none⟩ = some (.int .i64 0) := by simp
  have hfA : (w.alloc (.cells #[.int .i64 0] 89)).frozen? ⟨w.heap.size, 0, none⟩ = false := by simp
  have HA := Lib.hid hgA
  clear hgA
  go_enter Tryz.func38, Tryz.ntmps38
  go_wp2_with (go_at_call 86; refine (as_hit k _ (.int .i64 0) _ HA.out htA hfA).mono ?_; rintro e w' ⟨rfl, rfl⟩)
  go_ret
  refine ⟨rfl, ?_⟩
  exact (((((Below.refl _ _).alloc (Nat.le_refl _) _).alloc (by simp) _).alloc (by simp; omega) _).alloc (by simp; omega) _).alloc (by simp; omega) _
theorem error_nil (e0 : Int) (w : World) : Calls Tryz.prog 11 #[.nilIface, .int .i64 e0] w fun e w' => e = .returned (.bool (0 == e0)) ∧ w = w' := by
  go_enter Tryz.func11, Tryz.ntmps11
  go_wp2_with (go_at_call 38; refine (told_nil _).mono ?_; rintro e w' ⟨rfl, rfl⟩)
  go_ret
  exact ⟨rfl, rfl⟩
theorem error_errno (k e0 : Int) (w : World) (hg : ErrVar w) : Calls Tryz.prog 11 #[.iface 89 (.int .i64 k), .int .i64 e0] w fun e w' => e = .returned (.bool (k == e0)) ∧ Below w.heap.size w w' := by
  have HA := Lib.hid hg
  clear hg
  go_enter Tryz.func11, Tryz.ntmps11
  go_wp2_with (go_at_call 38; refine (told_errno k _ HA.out).mono ?_; rintro e w' ⟨rfl, hb⟩)
  go_ret
  exact ⟨rfl, hb⟩
end Go.Proofs.YtfndhfekbbbliaaGreatDoor

/-
  The statements' own whole numbers (weirgatebig), by words: trim, words, NewInt, small, Text, and the digits of an int. No condition.
-/
namespace Go.Proofs.YtfndhfekbbbliaaGreatDoor
open Go.RowKit Go.ChangeShapes Go.WideShapes
set_option linter.unusedVariables false

def u32E : Elt Nat where
  sz := 1
  bulk := fun _ => 1
  R := fun _ _ cs n => cs = [.int .u32 (n : Int)] ∧ n < 4294967296
  len := fun _ _ _ _ h => by rw [h.1]; rfl
  keep := fun _ _ _ _ _ h _ => h
  more := fun _ _ _ _ _ h _ => h
theorem SlA.u32_ {F : Nat → Prop} {w : World} {A : Option Addr} {c : Nat} {l : List Nat} (h : SlA u32E F w A c l) {k : Nat} (hk : k < l.length) :
    ∃ b off, A = some ⟨b, off, none⟩ ∧ F b ∧ w.cell? ⟨b, off + k, none⟩ = some (.int .u32 (l[k] : Int)) ∧ l[k] < 4294967296 := by
  obtain ⟨b, off, cs, rfl, hb, hc, he, hw⟩ := h.at_ hk
  refine ⟨b, off, rfl, hb, ?_, hw⟩
  have := hc 0 _ (by rw [he]; rfl)
  simpa [u32E] using this

/-! ### Words, plain -/
def wVal : List Nat → Nat
  | [] => 0
  | a :: l => a + 4294967296 * wVal l
theorem wVal_zero : ∀ {l : List Nat}, (∀ x ∈ l, x = 0) → wVal l = 0
  | [], _ => rfl
  | a :: l, h => by rw [wVal, h a List.mem_cons_self, wVal_zero fun x hx => h x (List.mem_cons_of_mem _ hx)]
theorem wVal_take : ∀ {l : List Nat} (n : Nat), (∀ x ∈ l.drop n, x = 0) → wVal (l.take n) = wVal l
  | [], n, _ => by simp
  | a :: l, 0, h => by rw [List.take_zero, wVal_zero (l := a :: l) (by simpa using h)]; rfl
  | a :: l, n + 1, h => by rw [List.take_succ_cons, wVal, wVal, wVal_take n (by simpa using h)]
theorem wVal_pos : ∀ {l : List Nat} {k x : Nat}, l[k]? = some x → x ≠ 0 → 0 < wVal l
  | [], k, x, h, _ => by simp at h
  | a :: l, 0, x, h, h0 => by simp at h; subst h; unfold wVal; omega
  | a :: l, k + 1, x, h, h0 => by have := wVal_pos (l := l) (k := k) (by simpa using h) h0; unfold wVal; omega
/-- Where trim cuts. -/
def TrimOf (l : List Nat) (n : Nat) : Prop := (∀ x ∈ l.drop n, x = 0) ∧ (n = 0 ∨ ∃ x, l[n - 1]? = some x ∧ x ≠ 0)
theorem TrimOf.val {l : List Nat} {n : Nat} (h : TrimOf l n) : wVal (l.take n) = wVal l := wVal_take n h.1
theorem TrimOf.zero {l : List Nat} {n : Nat} (h : TrimOf l n) (hn : n ≤ l.length) : wVal l = 0 ↔ n = 0 := by
  constructor
  · intro h0
    rcases h.2 with h1 | ⟨x, hx, hx0⟩
    · exact h1
    · have := wVal_pos hx hx0; omega
  · intro h0
    subst h0
    exact wVal_zero (by simpa using h.1)
theorem drop_drop_zero {l : List Nat} {n : Nat} (hn : n < l.length) (h : ∀ x ∈ l.drop (n + 1), x = 0) (h0 : l[n] = 0) : ∀ x ∈ l.drop n, x = 0 := fun x hx => by
  rw [List.drop_eq_getElem_cons hn] at hx
  rcases List.mem_cons.1 hx with rfl | hx
  · exact h0
  · exact h x hx

set_option maxRecDepth 100000 in
theorem trim_ok (F : Nat → Prop) (g c : Nat) (l : List Nat) (w : World) (h : SlA u32E F w (some ⟨g, 0, none⟩) c l) :
    Calls Tryz.prog 153 #[.slice (some ⟨g, 0, none⟩) l.length c] w fun e w' => ∃ n, e = .returned (.slice (some ⟨g, 0, none⟩) n c) ∧ n ≤ l.length ∧ TrimOf l n ∧ w = w' := by
  have H := Lib.hid h
  have hle := h.le
  have hc := h.1
  have hcm := h.2.1
  unfold maxLen at hcm
  clear h
  go_enter Tryz.func153, Tryz.ntmps153
  go_wp2_with fail
  go_loop [3] (fun nv => ∃ n : Nat, n ≤ l.length ∧ nv = .int .i64 n ∧ Hid (∀ x ∈ l.drop n, x = 0)) (fun nv => (intOf nv).toNat)
  case atStart => exact ⟨l.length, Nat.le_refl _, rfl, (fun x hx => by simp at hx)⟩
  case round =>
    obtain ⟨n, hn, rfl, HZ⟩ := hrel
    by_cases h0 : n = 0
    · subst h0
      have d0 : decide (0 < 0) = false := rfl
      have HT : Hid (TrimOf l 0) := ⟨HZ.out, .inl rfl⟩
      clear HZ
      go_wp2_with fail
      go_ret
      exact ⟨0, rfl, Nat.zero_le _, HT.out, rfl⟩
    · obtain ⟨m, rfl⟩ : ∃ m, n = m + 1 := ⟨n - 1, by omega⟩
      obtain ⟨b, off, e, _, c0, hw⟩ := H.out.u32_ (k := m) (by omega)
      injection e with e; injection e with e1 e2
      subst e1; subst e2
      rw [Nat.zero_add] at c0
      have e1 : ((m + 1 : Nat) : Int) - 1 = (m : Int) := by omega
      have d0 : decide (0 < m + 1) = true := decide_eq_true (by omega)
      by_cases hx : l[m] = 0
      · have HZ2 : Hid (∀ x ∈ l.drop m, x = 0) := drop_drop_zero (by omega) HZ.out hx
        rw [hx] at c0
        clear HZ hx
        go_wp2_with fail
        go_round
        case rel => exact ⟨m, by omega, by go_num, HZ2⟩
        case measure => simp [intOf]
      · have HT : Hid (TrimOf l (m + 1)) := ⟨HZ.out, .inr ⟨l[m], by rw [Nat.add_sub_cancel]; exact List.getElem?_eq_getElem (by omega), hx⟩⟩
        generalize l[m] = x at c0 hx hw
        have d2 : ((x : Int) == 0) = false := by rw [beq_eq_false_iff_ne]; omega
        clear HZ
        go_wp2_with fail
        go_ret
        exact ⟨m + 1, rfl, by omega, HT.out, rfl⟩

/-- A number's words. -/
def wsOf (x : Nat) : List Nat := [x % 4294967296, x / 4294967296]
theorem wsOf_val (x : Nat) : wVal (wsOf x) = x := by unfold wsOf; simp only [wVal]; omega
theorem ws_sl {W : World} {g : Nat} (l : List Nat) {t : TypeId} {F : Nat → Prop} {cs : Array Value} (hg : W.heap[g]? = some (.cells cs t (0, 0))) (hcs : cs.toList = l.map fun n => .int .u32 (n : Int)) (hF : F g) (hx : ∀ x ∈ l, x < 4294967296) (hl : l.length ≤ maxLen) : SlA u32E F W (some ⟨g, 0, none⟩) l.length l := by
  refine ⟨Nat.le_refl _, hl, fun i x hi => ⟨g, 0, [.int .u32 (x : Int)], rfl, hF, ?_, rfl, hx x (List.mem_of_getElem? hi)⟩⟩
  intro j u hj
  match j, hj with
  | 0, hj =>
    simp at hj; subst hj
    have h1 := cell_of_row W g (0 + (i * 1 + 0)) cs t (0, 0) hg
    rw [show u32E.sz = 1 from rfl, h1, ← Array.getElem?_toList, hcs]
    simp [hi]
set_option maxRecDepth 100000 in
theorem words_ok (x : Nat) (w : World) (hx : x < 18446744073709551616) :
    Calls Tryz.prog 127 #[.int .u64 (x : Int)] w fun e w' => ∃ n, e = .returned (.slice (some ⟨w.heap.size, 0, none⟩) n 2) ∧ n ≤ 2 ∧ TrimOf (wsOf x) n ∧
      SlA u32E (· = w.heap.size) w' (some ⟨w.heap.size, 0, none⟩) 2 (wsOf x) ∧ Below w.heap.size w w' ∧ w'.heap.size = w.heap.size + 1 := by
  obtain ⟨W, hW⟩ : ∃ W, W = w.alloc (.cells #[.int .u32 ((x : Int) % 4294967296), .int .u32 ((x : Int) / 4294967296)] 202) := ⟨_, rfl⟩
  have hg : W.heap[w.heap.size]? = some (.cells #[.int .u32 ((x : Int) % 4294967296), .int .u32 ((x : Int) / 4294967296)] 202 (0, 0)) := by rw [hW]; exact heap_alloc_new _ _
  have hs : SlA u32E (· = w.heap.size) W (some ⟨w.heap.size, 0, none⟩) 2 (wsOf x) := ws_sl (wsOf x) hg rfl rfl (fun y hy => by
    simp only [wsOf, List.mem_cons, List.not_mem_nil, or_false] at hy
    rcases hy with rfl | rfl <;> omega) (by unfold maxLen; show 2 ≤ _; omega)
  have HT := Lib.hid (trim_ok _ _ _ _ W hs)
  have HS := Lib.hid hs
  have HB : Hid (Below w.heap.size w W ∧ W.heap.size = w.heap.size + 1) := ⟨by rw [hW]; exact (Below.refl _ _).alloc (Nat.le_refl _) _, by rw [hW]; simp⟩
  clear hg hs
  go_enter Tryz.func127, Tryz.ntmps127
  go_wp2_with fail
  rw [← hW]
  clear hW
  refine HT.out.mono ?_
  rintro e w2 ⟨n, rfl, hn, ht, rfl⟩
  go_wp2_with fail
  go_ret
  exact ⟨n, rfl, hn, ht, HS.out, HB.out⟩
theorem give_ok (g : Nat) (b0 neg : Bool) (v0 : Value) (A : Option Addr) (n c : Nat) (t : TypeId) (w : World) (hg : w.heap[g]? = some (.cells #[.bool b0, v0] t (0, 0))) (hc : n ≤ 9223372036854775807) :
    Calls Tryz.prog 126 #[.pointer (some ⟨g, 0, none⟩), .bool neg, .slice A n c] w fun e w' => e = .returned (.pointer (some ⟨g, 0, none⟩)) ∧
      w'.heap[g]? = some (.cells #[.bool (neg && decide (0 < n)), .slice A n c] t (0, 0)) ∧ w'.heap.size = w.heap.size ∧ Frm (· = g) w w' := by
  have c0 := cell_of_row w g 0 _ _ _ hg
  have c1 := cell_of_row w g 1 _ _ _ hg
  simp at c0 c1
  have hlt := block_lt hg
  have HG := Lib.hid hg
  have hfz : ∀ j, w.frozen? ⟨g, j, none⟩ = false := fun j => by simp [World.frozen?, hg]
  have f0 := hfz 0
  have f1 := hfz 1
  clear hg hfz
  have hend : ∀ u0 u1 : Value, ((w.setCell ⟨g, 1, none⟩ u1).setCell ⟨g, 0, none⟩ u0).heap[g]? = some (.cells #[u0, u1] t (0, 0)) ∧ ((w.setCell ⟨g, 1, none⟩ u1).setCell ⟨g, 0, none⟩ u0).heap.size = w.heap.size ∧ Frm (· = g) w ((w.setCell ⟨g, 1, none⟩ u1).setCell ⟨g, 0, none⟩ u0) := fun u0 u1 =>
    ⟨by simp [World.setCell, Array.getElem?_modify, HG.out], by rw [size_setCell, size_setCell], ((Frm.refl (· = g) w).setCell (p := ⟨g, 1, none⟩) (.inl rfl) u1).setCell (p := ⟨g, 0, none⟩) (.inl rfl) u0⟩
  have HE := Lib.hid hend
  clear hend
  cases neg with
  | true =>
    go_enter Tryz.func126, Tryz.ntmps126
    go_wp2_with fail
    go_ret
    exact ⟨rfl, HE.out _ _⟩
  | false =>
    go_enter Tryz.func126, Tryz.ntmps126
    go_wp2_with fail
    go_ret
    exact ⟨rfl, HE.out _ _⟩
/-- A whole number in memory: its sign as it is stored, and its words, trimmed. -/
structure BigAt (w : World) (g : Nat) (f : Bool) (V : Nat) : Prop where
  ex : ∃ (A : Option Addr) (n c : Nat) (l : List Nat), w.heap[g]? = some (.cells #[.bool f, .slice A n c] 98 (0, 0)) ∧ n ≤ l.length ∧ TrimOf l n ∧ SlA u32E (· < w.heap.size) w A c l ∧ wVal l = V ∧ l.length ≤ 1000 ∧ (f = true → 0 < V)
theorem TrimOf.pos {l : List Nat} {n : Nat} (h : TrimOf l n) (hn : n ≤ l.length) : decide (0 < n) = decide (0 < wVal l) := by
  have := h.zero hn
  by_cases h0 : n = 0
  · rw [h0, this.2 h0]
  · rw [decide_eq_true (by omega), decide_eq_true (by have : wVal l ≠ 0 := fun e => h0 (this.1 e); omega)]
theorem setInt_ok (x : Int) (g : Nat) (b0 : Bool) (v0 : Value) (w : World) (hx : -9223372036854775808 ≤ x ∧ x ≤ 9223372036854775807) (hg : w.heap[g]? = some (.cells #[.bool b0, v0] 98 (0, 0))) :
    Calls Tryz.prog 89 #[.pointer (some ⟨g, 0, none⟩), .int .i64 x] w fun e w' => e = .returned (.pointer (some ⟨g, 0, none⟩)) ∧ BigAt w' g (decide (x < 0)) x.natAbs ∧ Frm (· = g) w w' := by
  have hend : ∀ (W2 w3 : World) (n : Nat), Below w.heap.size w W2 → W2.heap.size = w.heap.size + 1 → n ≤ 2 → TrimOf (wsOf x.natAbs) n → SlA u32E (· = w.heap.size) W2 (some ⟨w.heap.size, 0, none⟩) 2 (wsOf x.natAbs) →
      w3.heap[g]? = some (.cells #[.bool (decide (x < 0) && decide (0 < n)), .slice (some ⟨w.heap.size, 0, none⟩) n 2] 98 (0, 0)) → w3.heap.size = W2.heap.size → Frm (· = g) W2 w3 → BigAt w3 g (decide (x < 0)) x.natAbs ∧ Frm (· = g) w w3 := fun W2 w3 n h1 h2 h3 h4 h5 h6 h7 h8 => by
    have hlt := block_lt hg
    have hfl : (decide (x < 0) && decide (0 < n)) = decide (x < 0) := by
      rw [h4.pos h3, wsOf_val]
      by_cases h0 : x < 0
      · rw [decide_eq_true h0, decide_eq_true (by omega)]; rfl
      · rw [decide_eq_false h0]; rfl
    rw [hfl] at h6
    refine ⟨⟨some ⟨w.heap.size, 0, none⟩, n, 2, wsOf x.natAbs, h6, h3, h4, ?_, wsOf_val _, by show 2 ≤ 1000; omega, fun e => by have := of_decide_eq_true e; omega⟩, (Frm.ofBelow h1).trans h8 (fun _ h => h) (fun _ h => .inl h)⟩
    exact (h5.keep (h8.same (G := (· = w.heap.size)) (fun k hk => by omega) (fun k hk hk2 => by omega))).more fun k hk => by omega
  have hlt := block_lt hg
  have HE := Lib.hid hend
  have HW := Lib.hid (words_ok x.natAbs w (by omega))
  have HGV : Hid (∀ (W : World) (n : Nat), Below w.heap.size w W → n ≤ 2 → Calls Tryz.prog 126 #[.pointer (some ⟨g, 0, none⟩), .bool (decide (x < 0)), .slice (some ⟨w.heap.size, 0, none⟩) n 2] W fun e w' => e = .returned (.pointer (some ⟨g, 0, none⟩)) ∧
      w'.heap[g]? = some (.cells #[.bool (decide (x < 0) && decide (0 < n)), .slice (some ⟨w.heap.size, 0, none⟩) n 2] 98 (0, 0)) ∧ w'.heap.size = W.heap.size ∧ Frm (· = g) W w') := fun W n hb hn => give_ok g b0 _ v0 _ n 2 _ W ((hb.block g hlt).trans hg) (by omega)
  have hx1 := hx.1
  have hx2 := hx.2
  clear hend hg hx
  by_cases h0 : x < 0
  · have dx : decide (x < 0) = true := decide_eq_true h0
    have H0 := Lib.hid h0
    rw [dx] at HE HGV ⊢
    obtain ⟨k, hk⟩ : ∃ k : Nat, k = x.natAbs := ⟨_, rfl⟩
    rw [← hk] at HE HW ⊢
    have hx3 : x = -(k : Int) := by omega
    clear hk
    subst hx3
    go_enter Tryz.func89, Tryz.ntmps89
    have hwr : IntKind.u64.wrap (-IntKind.u64.wrap (-(k : Int))) = (k : Int) := by
      show (-((-(k : Int)) % 18446744073709551616)) % 18446744073709551616 = (k : Int)
      omega
    go_wp2_with fail
    clear hwr
    refine HW.out.mono ?_
    rintro e w2 ⟨n, rfl, hn, ht, hs, hb, hz⟩
    have HQ := Lib.hid (fun w3 h1 h2 h3 => HE.out w2 w3 n hb hz hn ht hs h1 h2 h3)
    have HGV2 := Lib.hid (HGV.out w2 n hb hn)
    clear hn ht hs hb hz HGV HE HW
    go_wp2_with fail
    refine HGV2.out.mono ?_
    rintro e w3 ⟨rfl, h1, h2, h3⟩
    have HR := Lib.hid (HQ.out w3 h1 h2 h3)
    clear h1 h2 h3 HQ HGV2
    go_wp2_with fail
    go_ret
    exact ⟨rfl, HR.out⟩
  · have dx : decide (x < 0) = false := decide_eq_false h0
    rw [dx] at HE HGV ⊢
    obtain ⟨k, rfl⟩ : ∃ k : Nat, x = (k : Int) := ⟨x.natAbs, by omega⟩
    rw [Int.natAbs_natCast] at HE HW ⊢
    go_enter Tryz.func89, Tryz.ntmps89
    go_wp2_with fail
    refine HW.out.mono ?_
    rintro e w2 ⟨n, rfl, hn, ht, hs, hb, hz⟩
    have HQ := Lib.hid (fun w3 h1 h2 h3 => HE.out w2 w3 n hb hz hn ht hs h1 h2 h3)
    have HGV2 := Lib.hid (HGV.out w2 n hb hn)
    clear hn ht hs hb hz HGV HE HW
    go_wp2_with fail
    refine HGV2.out.mono ?_
    rintro e w3 ⟨rfl, h1, h2, h3⟩
    have HR := Lib.hid (HQ.out w3 h1 h2 h3)
    clear h1 h2 h3 HQ HGV2
    go_wp2_with fail
    go_ret
    exact ⟨rfl, HR.out⟩
theorem newInt_ok (x : Int) (w : World) (hx : -9223372036854775808 ≤ x ∧ x ≤ 9223372036854775807) :
    Calls Tryz.prog 43 #[.int .i64 x] w fun e w' => ∃ g, e = .returned (.pointer (some ⟨g, 0, none⟩)) ∧ BigAt w' g (decide (x < 0)) x.natAbs ∧ Below w.heap.size w w' := by
  have HS := Lib.hid (fun W g v0 hg => setInt_ok x g false v0 W hx hg)
  go_enter Tryz.func43, Tryz.ntmps43
  go_wp2_with fail
  refine (HS.out _ w.heap.size _ (heap_alloc_new _ _)).mono ?_
  rintro e w2 ⟨rfl, h1, h2⟩
  have HR := Lib.hid (And.intro h1 (((Below.refl w.heap.size w).alloc (Nat.le_refl _) _).trans (h2.below (by simp) (fun k hk => by omega))))
  clear h1 h2
  go_wp2_with fail
  go_ret
  exact ⟨_, rfl, HR.out⟩

theorem or_add (r a : Nat) (h : a < 4294967296) (hr : r * 4294967296 + a < 18446744073709551616) : bits BinOp.or IntKind.u64 ((r : Int) * 4294967296) (a : Int) = ((r * 4294967296 + a : Nat) : Int) := by
  have h1 : r * 4294967296 ||| a = r * 4294967296 + a := by
    have := Nat.shiftLeft_add_eq_or_of_lt (i := 32) (b := a) (by simpa using h) r
    rw [Nat.shiftLeft_eq] at this
    exact this.symm
  have h2 : (((r : Int) * 4294967296 % 2 ^ IntKind.u64.bits).toNat ||| a % 2 ^ IntKind.u64.bits) = r * 4294967296 + a := by
    have e1 : ((r : Int) * 4294967296 % 2 ^ IntKind.u64.bits).toNat = r * 4294967296 := by
      show ((r : Int) * 4294967296 % 18446744073709551616).toNat = _
      omega
    have e2 : a % 2 ^ IntKind.u64.bits = a := by
      show a % 18446744073709551616 = a
      omega
    rw [e1, e2, h1]
  unfold bits
  simp only [BitVec.toNat_or, BitVec.toNat_ofInt]
  have h3 : (((a : Int) % ((2 ^ IntKind.u64.bits : Nat) : Int)).toNat) = a % 2 ^ IntKind.u64.bits := by
    show (((a : Int) % ((18446744073709551616 : Nat) : Int)).toNat) = a % 18446744073709551616
    omega
  have h4 : (((r : Int) * 4294967296 % ((2 ^ IntKind.u64.bits : Nat) : Int)).toNat) = ((r : Int) * 4294967296 % 2 ^ IntKind.u64.bits).toNat := by
    show (((r : Int) * 4294967296 % ((18446744073709551616 : Nat) : Int)).toNat) = ((r : Int) * 4294967296 % 18446744073709551616).toNat
    omega
  rw [h3, h4, h2]
  show (((r * 4294967296 + a : Nat) : Int)) % 18446744073709551616 = _
  omega
theorem u32_info : (Tryz.prog.info? 202).map (fun i => (i.zero, i.size, i.bytes)) = some (some (.int .u32 0), 1, 4) := by kernel_rfl
def u32v (n : Nat) : Value := .int .u32 (n : Int)
/-! ### Copies -/
theorem twin_ok (F : Nat → Prop) (A : Option Addr) (c : Nat) (l : List Nat) (w : World) (h : SlA u32E F w A c l) (hl : l.length ≤ 1000) :
    Calls Tryz.prog 149 #[.slice A l.length c] w fun e w' => ∃ A' c', e = .returned (.slice A' l.length c') ∧ SlA u32E (fun k => w.heap.size ≤ k ∧ k < w'.heap.size) w' A' c' l ∧ Below w.heap.size w w' := by
  have hs : Src Tryz.prog 1 96 (.slice A l.length c) l.length (l.flatMap fun x => [u32v x]) w := Src.of_sl (P := Tryz.prog) (tx := 96) h Tryz.underlying96 (fun x => [u32v x]) (fun cs x hx => hx.1) (fun _ => rfl) (fun x u hu => by simp at hu; subst hu; rfl)
  have HW : Hid (∀ x ∈ l, x < 4294967296) := fun x hx => by
    obtain ⟨i, hi⟩ := List.getElem?_of_mem hx
    obtain ⟨b, off, cs, _, _, _, hr⟩ := h.2.2 i x hi
    exact hr.2
  have HS := Lib.hid hs
  clear hs h
  go_enter Tryz.func149, Tryz.ntmps149
  go_wp2_with (at_builtin; refine wpList_append_src (w := w) rfl _ _ 96 96 rfl w.heap.size 202 _ 1 4 Tryz.underlying96 u32_info rfl (by decide) (.slice none 0 0) 0 [] rfl (World.ownsRow_nil _ _ _ _) (.slice A l.length c) rfl l.length _ HS.out ?_ ?_ (Nat.le_refl _) (Below.refl _ _) (Nat.le_refl _) ?_)
  · unfold maxLen; omega
  · omega
  · intro v1 w1 hown hg hb hat
    try rw [Nat.zero_add, List.nil_append] at hown
    obtain ⟨A', c', hv, _, hsl⟩ := own_sl (E := u32E) (l := l) (fun x => [u32v x]) (fun _ => rfl) (by decide) hown (fun x hx => ⟨rfl, HW.out x hx⟩)
    subst hv
    have HR : Hid (SlA u32E (fun k => w.heap.size ≤ k ∧ k < w1.heap.size) w1 A' c' l) := by
      refine ⟨hsl.1, hsl.2.1, fun i x hi => ?_⟩
      obtain ⟨b, off, cs, e, hb2, hc2, hr2⟩ := hsl.2.2 i x hi
      refine ⟨b, off, cs, e, ⟨?_, hb2⟩, hc2, hr2⟩
      have := hown.lt b (by rw [e]; rfl)
      omega
    have HB := Lib.hid hb
    clear hown hg hb hat hsl
    go_wp2_with fail
    go_ret
    exact ⟨A', c', rfl, HR.out, HB.out⟩
end Go.Proofs.YtfndhfekbbbliaaGreatDoor

/-
  The statements' own whole numbers, further: compare, divide (of at most two words), Set, QuoRem, Quo, Rem, DivMod, Mod. No condition but that the divisor is not 0.
-/
namespace Go.Proofs.YtfndhfekbbbliaaGreatDoor
open Go.RowKit Go.ChangeShapes Go.WideShapes
set_option linter.unusedVariables false

/-! ### Words, plain -/
theorem wVal_split : ∀ (l : List Nat) (m : Nat), m ≤ l.length → wVal l = wVal (l.take m) + 4294967296 ^ m * wVal (l.drop m)
  | l, 0, _ => by simp [wVal]
  | [], m + 1, h => by simp at h
  | a :: l, m + 1, h => by
    rw [List.take_succ_cons, List.drop_succ_cons, wVal, wVal, wVal_split l m (by simpa using h), Nat.pow_succ, Nat.mul_add, Nat.mul_comm (4294967296 ^ m) 4294967296, Nat.mul_assoc]
    omega
theorem wVal_lt : ∀ {l : List Nat}, (∀ x ∈ l, x < 4294967296) → wVal l < 4294967296 ^ l.length
  | [], _ => by simp [wVal]
  | a :: l, h => by
    have h1 := h a List.mem_cons_self
    have h2 := wVal_lt (l := l) fun x hx => h x (List.mem_cons_of_mem _ hx)
    rw [wVal, List.length_cons, Nat.pow_succ]
    omega
theorem wVal_ge {l : List Nat} {k x : Nat} (h : l[k]? = some x) (h0 : x ≠ 0) : 4294967296 ^ k ≤ wVal l := by
  have hk : k < l.length := (List.getElem?_eq_some_iff.1 h).1
  rw [wVal_split l k (by omega), List.drop_eq_getElem_cons hk, wVal]
  have e : l[k] = x := (List.getElem?_eq_some_iff.1 h).2
  have h1 : 4294967296 ^ k * 1 ≤ 4294967296 ^ k * (l[k] + 4294967296 * wVal (l.drop (k + 1))) := Nat.mul_le_mul_left _ (by omega)
  omega
theorem words_lt {F : Nat → Prop} {w : World} {A : Option Addr} {c : Nat} {l : List Nat} (h : SlA u32E F w A c l) : ∀ x ∈ l, x < 4294967296 := fun x hx => by
  obtain ⟨i, hi⟩ := List.getElem?_of_mem hx
  obtain ⟨b, off, cs, _, _, _, hr⟩ := h.2.2 i x hi
  exact hr.2
def wCmp (a b : Nat) : Int := if a < b then -1 else if a = b then 0 else 1
theorem cmp_len {a b : List Nat} (hb : TrimOf b b.length) (ha : ∀ x ∈ a, x < 4294967296) (h : a.length < b.length) : wVal a < wVal b := by
  have h1 := wVal_lt ha
  rcases hb.2 with h2 | ⟨x, hx, h0⟩
  · omega
  · exact Nat.lt_of_lt_of_le h1 (Nat.le_trans (Nat.pow_le_pow_right (by decide) (by omega)) (wVal_ge hx h0))
theorem cmp_at {a b : List Nat} {m : Nat} (ha : ∀ x ∈ a, x < 4294967296) (h1 : m < a.length) (h2 : m < b.length) (hd : a.drop (m + 1) = b.drop (m + 1)) (h : a[m] < b[m]) : wVal a < wVal b := by
  rw [wVal_split a m (by omega), wVal_split b m (by omega), List.drop_eq_getElem_cons h1, List.drop_eq_getElem_cons h2, wVal, wVal, hd]
  have h3 := wVal_lt (l := a.take m) fun x hx => ha x (List.mem_of_mem_take hx)
  rw [List.length_take, Nat.min_eq_left (by omega)] at h3
  have h4 : 4294967296 ^ m * (a[m] + 4294967296 * wVal (b.drop (m + 1)) + 1) ≤ 4294967296 ^ m * (b[m] + 4294967296 * wVal (b.drop (m + 1))) := Nat.mul_le_mul_left _ (by omega)
  rw [Nat.mul_add, Nat.mul_one] at h4
  omega

/-- Words, trimmed, in memory. -/
def WordsAt (w : World) (F : Nat → Prop) (A : Option Addr) (n c V : Nat) : Prop := ∃ l : List Nat, l.length = n ∧ TrimOf l l.length ∧ SlA u32E F w A c l ∧ wVal l = V ∧ n ≤ 1000
theorem WordsAt.of_trim {w : World} {F : Nat → Prop} {A : Option Addr} {c n : Nat} {l : List Nat} (hn : n ≤ l.length) (ht : TrimOf l n) (hs : SlA u32E F w A c l) (hl : l.length ≤ 1000) : WordsAt w F A n c (wVal l) := by
  have e : (l.take n).length = n := by rw [List.length_take]; omega
  refine ⟨l.take n, e, ⟨by rw [List.drop_eq_nil_of_le (Nat.le_refl _)]; nofun, ?_⟩, hs.head hn, ht.val, by omega⟩
  rw [e]
  rcases ht.2 with h | ⟨x, hx, h0⟩
  · exact .inl h
  · by_cases h1 : n = 0
    · exact .inl h1
    · exact .inr ⟨x, by rw [List.getElem?_take, if_pos (by omega)]; exact hx, h0⟩
theorem WordsAt.keep {w w' : World} {F : Nat → Prop} {A : Option Addr} {c n V : Nat} (h : WordsAt w F A n c V) (hs : Same F w w') : WordsAt w' F A n c V := by
  obtain ⟨l, h1, h2, h3, h4, h5⟩ := h; exact ⟨l, h1, h2, h3.keep hs, h4, h5⟩
theorem WordsAt.more {w : World} {F F' : Nat → Prop} {A : Option Addr} {c n V : Nat} (h : WordsAt w F A n c V) (hF : ∀ k, F k → F' k) : WordsAt w F' A n c V := by
  obtain ⟨l, h1, h2, h3, h4, h5⟩ := h; exact ⟨l, h1, h2, h3.more hF, h4, h5⟩
theorem WordsAt.nil (w : World) (F : Nat → Prop) : WordsAt w F none 0 0 0 := ⟨[], rfl, ⟨nofun, .inl rfl⟩, SlA.nil _ _ _ _ _ (Nat.zero_le _), rfl, by omega⟩
theorem WordsAt.zero {w : World} {F : Nat → Prop} {A : Option Addr} {c n V : Nat} (h : WordsAt w F A n c V) : V = 0 ↔ n = 0 := by
  obtain ⟨l, h1, h2, h3, h4, h5⟩ := h
  rw [← h4, ← h1]; exact h2.zero (Nat.le_refl _)
theorem WordsAt.len {w : World} {F : Nat → Prop} {A : Option Addr} {c n V k : Nat} (h : WordsAt w F A n c V) (hV : V < 4294967296 ^ k) : n ≤ k := by
  obtain ⟨l, h1, h2, h3, h4, h5⟩ := h
  rcases h2.2 with h6 | ⟨x, hx, h0⟩
  · omega
  · have h7 := wVal_ge hx h0
    rw [h4] at h7
    rcases Nat.lt_or_ge k n with h8 | h8
    · have h9 : 4294967296 ^ k ≤ 4294967296 ^ (l.length - 1) := Nat.pow_le_pow_right (by decide) (by omega)
      omega
    · exact h8
theorem BigAt.words {w : World} {g : Nat} {f : Bool} {V : Nat} (h : BigAt w g f V) : ∃ A n c, w.heap[g]? = some (.cells #[.bool f, .slice A n c] 98 (0, 0)) ∧ WordsAt w (· < w.heap.size) A n c V ∧ (f = true → 0 < V) := by
  obtain ⟨A, n, c, l, hg, hn, ht, hs, hv, hl, hf⟩ := h.ex
  exact ⟨A, n, c, hg, by rw [← hv]; exact WordsAt.of_trim hn ht hs hl, hf⟩
theorem BigAt.of {w : World} {g : Nat} {f : Bool} {V n c : Nat} {A : Option Addr} (hg : w.heap[g]? = some (.cells #[.bool f, .slice A n c] 98 (0, 0))) (h : WordsAt w (· < w.heap.size) A n c V) (hf : f = true → 0 < V) : BigAt w g f V := by
  obtain ⟨l, h1, h2, h3, h4, h5⟩ := h
  exact ⟨A, n, c, l, hg, by omega, by rw [← h1]; exact h2, h3, h4, by omega, hf⟩
/-- A block that is a whole number's. -/
def IntObj (w : World) (k : Nat) : Prop := ∃ (f : Bool) (A : Option Addr) (n c : Nat), w.heap[k]? = some (.cells #[.bool f, .slice A n c] 98 (0, 0))
theorem BigAt.obj {w : World} {g : Nat} {f : Bool} {V : Nat} (h : BigAt w g f V) : IntObj w g := by
  obtain ⟨A, n, c, h1, _⟩ := h.words; exact ⟨f, A, n, c, h1⟩
/-- Words are kept where only numbers' own blocks turn. -/
theorem u32_keep {w w' : World} {A : Option Addr} {c : Nat} {l : List Nat} {F : Nat → Prop} (h4 : SlA u32E (· < w.heap.size) w A c l) (hb : Frm F w w') (hF : ∀ k, F k → IntObj w k) : SlA u32E (· < w'.heap.size) w' A c l := by
  refine ⟨h4.1, h4.2.1, fun i x hx => ?_⟩
  obtain ⟨b, off, cs, e, hb2, hc, hr⟩ := h4.2.2 i x hx
  refine ⟨b, off, cs, e, Nat.lt_of_lt_of_le hb2 hb.size, fun j u hj => ?_, hr⟩
  have h8 := hc j u hj
  by_cases hFb : F b
  · obtain ⟨f, A', n, c', ho⟩ := hF b hFb
    rw [hr.1] at hj
    match j, hj with
    | 0, hj =>
      simp at hj; subst hj
      rw [cell_of_row w b _ _ _ _ ho] at h8
      generalize off + (i * u32E.sz + 0) = p at h8
      match p, h8 with
      | 0, h8 => simp at h8
      | 1, h8 => simp at h8
  · exact (World.cell?_of_block (a := ⟨b, _, none⟩) (hb.block b hb2 hFb)).trans h8
theorem WordsAt.frm {w w' : World} {A : Option Addr} {n c V : Nat} {F : Nat → Prop} (h : WordsAt w (· < w.heap.size) A n c V) (hb : Frm F w w') (hF : ∀ k, F k → IntObj w k) : WordsAt w' (· < w'.heap.size) A n c V := by
  obtain ⟨l, h2, h3, h4, h5, h6⟩ := h; exact ⟨l, h2, h3, u32_keep h4 hb hF, h5, h6⟩
/-- Another number's block turns, and new blocks come. -/
theorem BigAt.frm {w w' : World} {g : Nat} {f : Bool} {V : Nat} {F : Nat → Prop} (h : BigAt w g f V) (hb : Frm F w w') (hg : ¬ F g) (hF : ∀ k, F k → IntObj w k) : BigAt w' g f V := by
  obtain ⟨A, n, c, h1, h2, h7⟩ := h.words
  exact BigAt.of (A := A) (n := n) (c := c) ((hb.block g (block_lt h1) hg).trans h1) (h2.frm hb hF) h7
theorem BigAt.below {w w' : World} {g : Nat} {f : Bool} {V : Nat} (h : BigAt w g f V) (hb : Below w.heap.size w w') : BigAt w' g f V := h.frm (F := fun _ => False) (Frm.ofBelow hb) id (fun _ h => h.elim)
theorem IntObj.frm {w w' : World} {g : Nat} {F : Nat → Prop} (h : IntObj w g) (hb : Frm F w w') (hg : ¬ F g) : IntObj w' g := by
  obtain ⟨f, A, n, c, h1⟩ := h; exact ⟨f, A, n, c, (hb.block g (block_lt h1) hg).trans h1⟩

/-! ### The words' functions -/
theorem words_at (x : Nat) (w : World) (hx : x < 18446744073709551616) :
    Calls Tryz.prog 127 #[.int .u64 (x : Int)] w fun e w' => ∃ A n c, e = .returned (.slice A n c) ∧ WordsAt w' (fun k => w.heap.size ≤ k ∧ k < w'.heap.size) A n c x ∧ Below w.heap.size w w' := by
  refine (words_ok x w hx).mono ?_
  rintro e w2 ⟨n, rfl, hn, ht, hs, hb, hz⟩
  refine ⟨_, n, 2, rfl, ?_, hb⟩
  have h := WordsAt.of_trim (l := wsOf x) hn ht (hs.more (F' := fun k => w.heap.size ≤ k ∧ k < w2.heap.size) fun k hk => by omega) (by show 2 ≤ 1000; omega)
  rw [wsOf_val] at h; exact h
theorem twin_at (F : Nat → Prop) (A : Option Addr) (n c V : Nat) (w : World) (h : WordsAt w F A n c V) :
    Calls Tryz.prog 149 #[.slice A n c] w fun e w' => ∃ A' c', e = .returned (.slice A' n c') ∧ WordsAt w' (fun k => w.heap.size ≤ k ∧ k < w'.heap.size) A' n c' V ∧ Below w.heap.size w w' := by
  obtain ⟨l, rfl, h2, h3, h4, h5⟩ := h
  refine (twin_ok F A c l w h3 h5).mono ?_
  rintro e w2 ⟨A', c', rfl, hs, hb⟩
  exact ⟨A', c', rfl, ⟨l, rfl, h2, hs, h4, h5⟩, hb⟩
set_option maxRecDepth 100000 in
theorem cmp_ok (F G : Nat → Prop) (A B : Option Addr) (n m c d U V : Nat) (w : World) (ha : WordsAt w F A n c U) (hb : WordsAt w G B m d V) :
    Calls Tryz.prog 151 #[.slice A n c, .slice B m d] w fun e w' => e = .returned (.int .i64 (wCmp U V)) ∧ ∃ q, w' = w.drewN q := by
  obtain ⟨la, rfl, ta, sa, va, na⟩ := ha
  obtain ⟨lb, rfl, tb, sb, vb, nb⟩ := hb
  have wa := words_lt sa
  have wb := words_lt sb
  have HA := Lib.hid sa
  have HB := Lib.hid sb
  have hca := sa.1
  have hcb := sb.1
  clear sa sb
  by_cases hl : la.length = lb.length
  · have HT : Hid (∀ k, (h1 : k < la.length) → (h2 : k < lb.length) → la.drop (k + 1) = lb.drop (k + 1) → (la[k] < lb[k] → wCmp U V = -1) ∧ (lb[k] < la[k] → wCmp U V = 1)) := fun k h1 h2 hd => by
      refine ⟨fun h => ?_, fun h => ?_⟩
      · have := cmp_at wa h1 h2 hd h
        rw [va, vb] at this
        unfold wCmp; rw [if_pos this]
      · have := cmp_at wb h2 h1 hd.symm h
        rw [va, vb] at this
        unfold wCmp; rw [if_neg (by omega), if_neg (by omega)]
    have HE : Hid (la = lb → wCmp U V = 0) := fun e => by
      subst e
      have : U = V := va.symm.trans vb
      unfold wCmp; rw [if_neg (by omega), if_pos this]
    clear ta tb va vb wa wb
    obtain ⟨N, hN⟩ : ∃ N, N = la.length := ⟨_, rfl⟩
    have HNB : Hid (lb.length = N) := hl.symm.trans hN.symm
    rw [← hl]
    rw [← hl] at nb hcb
    rw [← hN] at hca hcb na nb ⊢
    have HNA : Hid (la.length = N) := hN.symm
    clear hl hN
    go_enter Tryz.func151, Tryz.ntmps151
    go_wp2_with fail
    go_loopw [5] (fun iv wx => ∃ k q : Nat, k ≤ N ∧ iv = .int .i64 ((k : Int) - 1) ∧ Hid (la.drop k = lb.drop k) ∧ wx = w.drewN q) (fun iv _ => (intOf iv + 1).toNat)
    case atStart => exact ⟨N, 0, Nat.le_refl _, rfl, (by have h1 := HNA.out; have h2 := HNB.out; show _ = _; rw [List.drop_eq_nil_of_le (by omega), List.drop_eq_nil_of_le (by omega)]), rfl⟩
    case round =>
      obtain ⟨k, q, hk, rfl, HD, rfl⟩ := hrel
      by_cases h0 : k = 0
      · subst h0
        have HR : Hid (wCmp U V = 0) := HE.out (by simpa using HD.out)
        clear HE HT HD
        go_wp2_with fail
        go_ret
        exact ⟨by rw [HR.out]; rfl, q, rfl⟩
      · obtain ⟨m, rfl⟩ : ∃ m, k = m + 1 := ⟨k - 1, by omega⟩
        have hma : m < la.length := by have := HNA.out; omega
        have hmb : m < lb.length := by have := HNB.out; omega
        obtain ⟨b, off, rfl, _, c0, hw0⟩ := HA.out.u32_ hma
        obtain ⟨b', off', rfl, _, d0, hw1⟩ := HB.out.u32_ hmb
        have e1 : ((m + 1 : Nat) : Int) - 1 = (m : Int) := by omega
        have HTM := Lib.hid (HT.out m hma hmb HD.out)
        have HDE : Hid (la[m] = lb[m] → la.drop m = lb.drop m) := fun e => by rw [List.drop_eq_getElem_cons hma, List.drop_eq_getElem_cons hmb, e, HD.out]
        generalize la[m] = x at c0 hw0 HTM HDE
        generalize lb[m] = y at d0 hw1 HTM HDE
        clear HT HE HD hma hmb
        by_cases hxy : x = y
        · subst hxy
          have HD2 : Hid (la.drop m = lb.drop m) := HDE.out rfl
          clear HDE HTM
          go_upto_region 8 with (fail)
          go_quiet (fail)
          go_wp2_with fail
          go_roundw
          case rel => exact ⟨m, q + nq, by omega, by go_num, HD2, by simp⟩
          case measure => simp [intOf]
        · have dxy : ((x : Int) == (y : Int)) = false := by rw [beq_eq_false_iff_ne]; omega
          by_cases hlt : x < y
          · have dl : decide (x < y) = true := decide_eq_true hlt
            have HR : Hid (wCmp U V = -1) := HTM.out.1 hlt
            clear HDE HTM
            go_upto_region 8 with (fail)
            go_quiet (fail)
            go_upto_region 9 with (fail)
            go_quiet (fail)
            go_wp2_with fail
            go_ret
            exact ⟨by rw [HR.out]; rfl, _, by first | rfl | (simp; rfl)⟩
          · have dl : decide (x < y) = false := decide_eq_false hlt
            have HR : Hid (wCmp U V = 1) := HTM.out.2 (by omega)
            clear HDE HTM
            go_upto_region 8 with (fail)
            go_quiet (fail)
            go_upto_region 9 with (fail)
            go_quiet (fail)
            go_wp2_with fail
            go_ret
            exact ⟨by rw [HR.out]; rfl, _, by first | rfl | (simp; rfl)⟩
  · have dne : ((la.length : Int) == (lb.length : Int)) = false := by rw [beq_eq_false_iff_ne]; omega
    by_cases hlt : la.length < lb.length
    · have dl : decide (la.length < lb.length) = true := decide_eq_true hlt
      have h1 := cmp_len tb wa hlt
      rw [va, vb] at h1
      rw [show wCmp U V = -1 by unfold wCmp; rw [if_pos h1]]
      clear ta tb wa wb va vb HA HB h1
      go_enter Tryz.func151, Tryz.ntmps151
      go_wp2_with fail
      go_ret
      exact ⟨rfl, 0, rfl⟩
    · have dl : decide (la.length < lb.length) = false := decide_eq_false hlt
      have h1 := cmp_len ta wb (by omega)
      rw [va, vb] at h1
      rw [show wCmp U V = 1 by unfold wCmp; rw [if_neg (by omega), if_neg (by omega)]]
      clear ta tb wa wb va vb HA HB h1
      go_enter Tryz.func151, Tryz.ntmps151
      go_wp2_with fail
      go_ret
      exact ⟨rfl, 0, rfl⟩
theorem or_add2 (a r : Nat) (h : a < 4294967296) (hr : r * 4294967296 + a < 18446744073709551616) : bits BinOp.or IntKind.u64 (a : Int) ((r : Int) * 4294967296) = ((r * 4294967296 + a : Nat) : Int) := by
  have h1 := or_add r a h hr
  unfold bits at h1 ⊢
  rw [← h1]
  simp only [BitVec.or_comm]
set_option maxRecDepth 100000 in
theorem plain_ok (F : Nat → Prop) (A : Option Addr) (n c V : Nat) (w : World) (h : WordsAt w F A n c V) (hn : n ≤ 2) :
    Calls Tryz.prog 152 #[.slice A n c] w fun e w' => e = .returned (.int .u64 (V : Int)) ∧ V < 18446744073709551616 ∧ w = w' := by
  obtain ⟨l, rfl, _, hs, hv, _⟩ := h
  have wl := words_lt hs
  have hc := hs.1
  match l, hn, hs, hv, wl, hc with
  | [], _, hs, hv, wl, hc =>
    subst hv
    rw [show wVal [] = 0 from rfl, show List.length ([] : List Nat) = 0 from rfl]
    clear hs wl
    go_enter Tryz.func152, Tryz.ntmps152
    go_wp2_with fail
    go_ret
    first | exact ⟨rfl, by decide, rfl⟩ | exact ⟨rfl, rfl⟩ | rfl
  | [x], _, hs, hv, wl, hc =>
    subst hv
    obtain ⟨b, off, rfl, _, c0, hw0⟩ := hs.u32_ (k := 0) (by simp)
    simp only [List.getElem_cons_zero, Nat.add_zero] at c0 hw0
    rw [show wVal [x] = x by simp [wVal]]
    rw [show List.length [x] = 1 from rfl] at hc ⊢
    clear hs wl
    go_enter Tryz.func152, Tryz.ntmps152
    go_wp2_with fail
    go_ret
    exact ⟨rfl, by omega, rfl⟩
  | [x, y], _, hs, hv, wl, hc =>
    subst hv
    obtain ⟨b, off, rfl, _, c0, hw0⟩ := hs.u32_ (k := 0) (by simp)
    obtain ⟨b', off', e, _, c1, hw1⟩ := hs.u32_ (k := 1) (by simp)
    injection e with e; injection e with e1 e2; subst e1; subst e2
    simp only [List.getElem_cons_zero, List.getElem_cons_succ, Nat.add_zero] at c0 hw0 c1 hw1
    have hV : wVal [x, y] = y * 4294967296 + x := by simp [wVal]; omega
    rw [hV]
    have hor := or_add2 x y hw0 (by omega)
    have hb : y * 4294967296 + x < 18446744073709551616 := by omega
    obtain ⟨T, hT⟩ : ∃ T, T = y * 4294967296 + x := ⟨_, rfl⟩
    rw [← hT] at hor hb ⊢
    rw [show List.length [x, y] = 2 from rfl] at hc ⊢
    clear hs wl hT hV
    go_enter Tryz.func152, Tryz.ntmps152
    go_wp2_with fail
    go_ret
    first | exact ⟨rfl, hb, rfl⟩ | exact ⟨rfl, rfl⟩ | rfl
set_option maxRecDepth 100000 in
set_option maxHeartbeats 2000000 in
theorem div_ok (F G : Nat → Prop) (A B : Option Addr) (n m c d U V : Nat) (w : World) (ha : WordsAt w F A n c U) (hb : WordsAt w G B m d V) (hF : ∀ k, F k → k < w.heap.size) (hG : ∀ k, G k → k < w.heap.size) (hU : U < 18446744073709551616) (hV : V ≠ 0) :
    Calls Tryz.prog 125 #[.slice A n c, .slice B m d] w fun e w' => ∃ A1 n1 c1 A2 n2 c2, e = .returned (.tuple #[.slice A1 n1 c1, .slice A2 n2 c2]) ∧ WordsAt w' (fun k => w.heap.size ≤ k ∧ k < w'.heap.size) A1 n1 c1 (U / V) ∧ WordsAt w' (fun k => w.heap.size ≤ k ∧ k < w'.heap.size) A2 n2 c2 (U % V) ∧ Below w.heap.size w w' := by
  have hm : m ≠ 0 := fun e => hV (hb.zero.2 e)
  have hn2 := ha.len (k := 2) hU
  have hncap : n ≤ c := by obtain ⟨l, h1, _, h3, _⟩ := ha; have := h3.1; omega
  have hmcap : m ≤ d := by obtain ⟨l, h1, _, h3, _⟩ := hb; have := h3.1; omega
  have hm1 : m ≤ 1000 := by obtain ⟨l, h1, _, _, _, h5⟩ := hb; exact h5
  have HC := Lib.hid (cmp_ok F G A B n m c d U V w ha hb)
  have HA := Lib.hid ha
  have HB := Lib.hid hb
  clear ha hb
  by_cases hlt : U < V
  · rw [show wCmp U V = -1 by unfold wCmp; rw [if_pos hlt]] at HC
    rw [Nat.div_eq_of_lt hlt, Nat.mod_eq_of_lt hlt]
    go_enter Tryz.func125, Tryz.ntmps125
    go_wp2_with fail
    refine HC.out.mono ?_
    rintro e w2 ⟨rfl, q, rfl⟩
    go_wp2_with fail
    refine (twin_at F A n c U (w.drewN q) (HA.out.keep fun k _ => rfl)).mono ?_
    rintro e w2 ⟨A', c', rfl, hw, hb⟩
    have HR : Hid (WordsAt w2 (fun k => w.heap.size ≤ k ∧ k < w2.heap.size) A' n c' U ∧ Below w.heap.size w w2) := And.intro hw ((bdrewN (Below.refl _ _) q).trans hb)
    clear hw hb
    go_wp2_with fail
    go_ret2
    exact ⟨none, 0, 0, A', n, c', rfl, WordsAt.nil _ _, HR.out⟩
  · obtain ⟨cv, hcv⟩ : ∃ cv, cv = wCmp U V := ⟨_, rfl⟩
    have hcv0 : 0 ≤ cv ∧ cv ≤ 1 := by rw [hcv]; unfold wCmp; rw [if_neg hlt]; split <;> omega
    rw [← hcv] at HC
    clear hcv
    have hVm : V < 18446744073709551616 := by omega
    have HPA := Lib.hid (plain_ok F A n c U w HA.out hn2)
    have HPB := Lib.hid (plain_ok G B m d V w HB.out (HB.out.len (k := 2) hVm))
    have hq1 : ((U : Int) / (V : Int)) = ((U / V : Nat) : Int) := rfl
    have hr1 : ((U : Int).tmod (V : Int)) = ((U % V : Nat) : Int) := rfl
    have hr2 : ((U : Int) % (V : Int)) = ((U % V : Nat) : Int) := rfl
    have hqb : U / V < 18446744073709551616 := Nat.lt_of_le_of_lt (Nat.div_le_self _ _) hU
    have hrb : U % V < 18446744073709551616 := Nat.lt_of_le_of_lt (Nat.mod_le _ _) hU
    obtain ⟨Q, hQ⟩ : ∃ Q, Q = U / V := ⟨_, rfl⟩
    obtain ⟨R, hR⟩ : ∃ R, R = U % V := ⟨_, rfl⟩
    rw [← hQ] at hq1 hqb ⊢
    rw [← hR] at hr1 hr2 hrb ⊢
    clear hQ hR
    go_enter Tryz.func125, Tryz.ntmps125
    go_wp2_with fail
    refine HC.out.mono ?_
    rintro e w2 ⟨rfl, q, rfl⟩
    have dcv : decide (cv < 0) = false := decide_eq_false (by omega)
    have dn2 : decide (n ≤ 2) = true := decide_eq_true hn2
    have HPA := Lib.hid (plain_ok F A n c U (w.drewN q) (HA.out.keep fun k _ => rfl) hn2)
    have HPB := Lib.hid (plain_ok G B m d V (w.drewN q) (HB.out.keep fun k _ => rfl) (HB.out.len (k := 2) hVm))
    have hqw : IntKind.u64.wrap (Q : Int) = (Q : Int) := by show (Q : Int) % 18446744073709551616 = _; omega
    have hrw : IntKind.u64.wrap (R : Int) = (R : Int) := by show (R : Int) % 18446744073709551616 = _; omega
    have HWQ := Lib.hid (fun W => words_at Q W hqb)
    have HWR := Lib.hid (fun W => words_at R W hrb)
    have hV0 : ((V : Int) == 0) = false := by rw [beq_eq_false_iff_ne]; omega
    clear HA HB HC
    go_wp2_with fail
    refine HPA.out.mono ?_
    rintro e w2 ⟨rfl, _, rfl⟩
    go_wp2_with fail
    refine HPB.out.mono ?_
    rintro e w2 ⟨rfl, _, rfl⟩
    clear HPA HPB
    go_upto_region 7 with (fail)
    go_region_held3 (fun W => True) (trivial) (first | (with_reducible refine (HWQ.out _).mono ?_; rintro e W1 ⟨A1, n1, c1, rfl, hw1, hb1⟩) | (with_reducible refine (HWR.out _).mono ?_; rintro e W2 ⟨A2, n2, c2, rfl, hw2, hb2⟩))
    have hbb : Below w.heap.size w W1 := (bdrewN (Below.refl _ _) _).trans hb1
    have HR : Hid (WordsAt W2 (fun k => w.heap.size ≤ k ∧ k < W2.heap.size) A1 n1 c1 Q ∧ WordsAt W2 (fun k => w.heap.size ≤ k ∧ k < W2.heap.size) A2 n2 c2 R ∧ Below w.heap.size w W2) :=
      ⟨(hw1.keep fun k hk => hb2.block k hk.2).more fun k hk => ⟨hk.1, Nat.lt_of_lt_of_le hk.2 hb2.size⟩, hw2.more fun k hk => ⟨Nat.le_trans hbb.size hk.1, hk.2⟩, hbb.trans (hb2.mono hbb.size)⟩
    clear hw1 hw2 hb1 hb2 hbb
    go_wp2_with fail
    go_ret2
    exact ⟨A1, n1, c1, A2, n2, c2, rfl, HR.out⟩

/-! ### Numbers -/
theorem give_at (g : Nat) (neg : Bool) (A : Option Addr) (n c V : Nat) (w : World) (hg : IntObj w g) (hw : WordsAt w (· < w.heap.size) A n c V) :
    Calls Tryz.prog 126 #[.pointer (some ⟨g, 0, none⟩), .bool neg, .slice A n c] w fun e w' => e = .returned (.pointer (some ⟨g, 0, none⟩)) ∧ BigAt w' g (neg && decide (0 < V)) V ∧ w'.heap.size = w.heap.size ∧ Frm (· = g) w w' := by
  obtain ⟨f, A0, n0, c0, h1⟩ := hg
  have hn : n ≤ 1000 := by obtain ⟨l, _, _, _, _, h5⟩ := hw; exact h5
  refine (give_ok g f neg _ A n c 98 w h1 (by omega)).mono ?_
  rintro e w2 ⟨rfl, h2, h3, h4⟩
  have hz : decide (0 < n) = decide (0 < V) := by
    have := hw.zero
    by_cases h0 : n = 0
    · rw [h0, this.2 h0]
    · rw [decide_eq_true (by omega), decide_eq_true (by have : V ≠ 0 := fun e => h0 (this.1 e); omega)]
  rw [hz] at h2
  refine ⟨rfl, BigAt.of h2 (hw.frm h4 (fun k hk => by rw [hk]; exact ⟨f, A0, n0, c0, h1⟩)) (fun e => ?_), h3, h4⟩
  rw [Bool.and_eq_true] at e
  exact of_decide_eq_true e.2
set_option maxRecDepth 100000 in
theorem quoRem_ok (gz gx gy gr : Nat) (fx fy : Bool) (U V : Nat) (w : World) (hz : IntObj w gz) (hr : IntObj w gr) (hne : gz ≠ gr) (hx : BigAt w gx fx U) (hy : BigAt w gy fy V) (hU : U < 18446744073709551616) (hV : V ≠ 0) :
    Calls Tryz.prog 88 #[.pointer (some ⟨gz, 0, none⟩), .pointer (some ⟨gx, 0, none⟩), .pointer (some ⟨gy, 0, none⟩), .pointer (some ⟨gr, 0, none⟩)] w fun e w' =>
      e = .returned (.tuple #[.pointer (some ⟨gz, 0, none⟩), .pointer (some ⟨gr, 0, none⟩)]) ∧ BigAt w' gz ((fx != fy) && decide (0 < U / V)) (U / V) ∧ BigAt w' gr (fx && decide (0 < U % V)) (U % V) ∧ Frm (fun k => k = gz ∨ k = gr) w w' := by
  obtain ⟨Ax, nx, cx, bx, wx, _⟩ := hx.words
  obtain ⟨Ay, ny, cy, by_, wy, _⟩ := hy.words
  have x0 := cell_of_row w gx 0 _ _ _ bx
  have x1 := cell_of_row w gx 1 _ _ _ bx
  have y0 := cell_of_row w gy 0 _ _ _ by_
  have y1 := cell_of_row w gy 1 _ _ _ by_
  simp at x0 x1 y0 y1
  have hdiv : ∀ q, Calls Tryz.prog 125 #[.slice Ax nx cx, .slice Ay ny cy] (w.drewN q) fun e w' => ∃ A1 n1 c1 A2 n2 c2, e = .returned (.tuple #[.slice A1 n1 c1, .slice A2 n2 c2]) ∧ WordsAt w' (fun k => w.heap.size ≤ k ∧ k < w'.heap.size) A1 n1 c1 (U / V) ∧ WordsAt w' (fun k => w.heap.size ≤ k ∧ k < w'.heap.size) A2 n2 c2 (U % V) ∧ Below w.heap.size w w' := fun q =>
    (div_ok (· < w.heap.size) (· < w.heap.size) Ax Ay nx ny cx cy U V (w.drewN q) (wx.keep fun k _ => rfl) (wy.keep fun k _ => rfl) (fun _ h => h) (fun _ h => h) hU hV).mono (by
      rintro e w1 ⟨A1, n1, c1, A2, n2, c2, rfl, h1, h2, hb⟩
      exact ⟨A1, n1, c1, A2, n2, c2, rfl, h1, h2, (bdrewN (Below.refl _ _) q).trans hb⟩)
  have HD := Lib.hid hdiv
  have HZ := Lib.hid hz
  have HR := Lib.hid hr
  have hzl : gz < w.heap.size := by obtain ⟨_, _, _, _, h⟩ := hz; exact block_lt h
  have hrl : gr < w.heap.size := by obtain ⟨_, _, _, _, h⟩ := hr; exact block_lt h
  have hxl := block_lt bx
  have hyl := block_lt by_
  clear hx hy bx by_ wx wy hz hr hdiv
  generalize U / V = Q at HD ⊢
  generalize U % V = R at HD ⊢
  go_enter Tryz.func88, Tryz.ntmps88
  go_upto_region 1 with (fail)
  go_quiet (fail)
  go_upto_region 2 with (fail)
  go_region_held3 (fun W => W.cell? ⟨gx, 1, none⟩ = some (.slice Ax nx cx) ∧ W.cell? ⟨gy, 1, none⟩ = some (.slice Ay ny cy)) (first | exact ⟨x1, y1⟩ | exact ⟨k1, k2⟩) (first | (with_reducible refine (HD.out _).mono ?_; rintro e w1 ⟨A1, n1, c1, A2, n2, c2, rfl, h1, h2, hb⟩; have k1 := (hb.cell (p := ⟨gx, 1, none⟩) hxl).trans x1; have k2 := (hb.cell (p := ⟨gy, 1, none⟩) hyl).trans y1))
  have hb0 := Frm.ofBelow (F := fun _ => False) hb
  have HG1 := Lib.hid (give_at gz (fx != fy) A1 n1 c1 Q w1 (HZ.out.frm hb0 id) (h1.more fun k hk => hk.2))
  have H2 := Lib.hid (h2.more (F' := (· < w1.heap.size)) fun k hk => hk.2)
  have HB := Lib.hid hb0
  have HZ1 := Lib.hid (HZ.out.frm hb0 id)
  have HR1 := Lib.hid (HR.out.frm hb0 id)
  clear h1 h2 hb hb0 HD x0 x1 y0 y1 k1 k2 HZ HR
  go_wp2_with fail
  refine HG1.out.mono ?_
  rintro e w2 ⟨rfl, hz2, hs2, hf2⟩
  have HF1 : Hid (∀ k, k = gz → IntObj w1 k) := fun k hk => by rw [hk]; exact HZ1.out
  have HG2 := Lib.hid (give_at gr fx A2 n2 c2 R w2 (HR1.out.frm hf2 (fun e => hne e.symm)) (H2.out.frm hf2 HF1.out))
  have HZ2 := Lib.hid hz2
  have HR2 : Hid (∀ k, k = gr → IntObj w2 k) := fun k hk => by rw [hk]; exact HR1.out.frm hf2 (fun e => hne e.symm)
  have HF2 : Hid (Frm (fun k => k = gz ∨ k = gr) w w2) := HB.out.trans hf2 (fun _ h => h.elim) (fun k h => .inl (.inl h))
  clear hz2 hs2 hf2 HG1 H2 HZ1 HR1 HB HF1
  go_wp2_with fail
  refine HG2.out.mono ?_
  rintro e w3 ⟨rfl, hr3, hs3, hf3⟩
  have HE : Hid (BigAt w3 gz ((fx != fy) && decide (0 < Q)) Q ∧ BigAt w3 gr (fx && decide (0 < R)) R ∧ Frm (fun k => k = gz ∨ k = gr) w w3) :=
    ⟨HZ2.out.frm hf3 hne HR2.out, hr3, HF2.out.trans hf3 (fun _ h => h) (fun k h => .inl (.inr h))⟩
  clear hr3 hs3 hf3 HG2 HZ2 HR2 HF2
  go_wp2_with fail
  go_ret2
  exact ⟨rfl, HE.out⟩
end Go.Proofs.YtfndhfekbbbliaaGreatDoor
