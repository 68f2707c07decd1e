/-
  Several texts of this claim in one, in build order; each begins with its own remark, which says what it proves and under which conditions.
-/
import Derived.Test.YtfndhfekbbbliaaGreatDoorPackB
import Derived.Shelf.Strconv.AtoiAll
import Derived.Deep.Cut
import Derived.Deep.RegionWith
import Derived.RegionDies
import Derived.Deep.RegionHeld2

/-
  Package expr: the contract of one. Conditions: the text takes at most 120 bytes, the depth is at most 20.
-/
namespace Go.Proofs.YtfndhfekbbbliaaGreatDoor
open Go.RowKit Go.Shelf
set_option linter.unusedVariables false

def minS : ByteArray := ⟨#[109, 105, 110, 40]⟩
def maxS : ByteArray := ⟨#[109, 97, 120, 40]⟩
/-- What one goes on with: the reader's variable, the result's, the two names. -/
structure OneInv (R : Nat) (s : ByteArray) (l : List UInt8) (d : Nat) (w wx : World) : Prop where
  rd : RdL wx R s l d
  box : PBox wx w.heap.size R
  res : TVar wx (w.heap.size + 1) (.int .u8 0) (.int .i64 0) (.slice none 0 0)
  row : wx.heap[w.heap.size + 2]? = some (.cells #[.string minS, .string maxS] 9 (0, 0))
  frm : Frm (· = R) w wx
theorem OneInv.on {R d : Nat} {s : ByteArray} {l : List UInt8} {w wx w' : World} (h : OneInv R s l d w wx) (hR : R < w.heap.size) (hl : RdL w' R s l d) (hf : Frm (· = R) wx w') : OneInv R s l d w w' :=
  ⟨hl, h.box.frm hf (by omega), h.res.frm hf (by omega), (hf.block _ (block_lt h.row) (by omega)).trans h.row, frm_trans h.frm hf⟩
def decSet : ByteArray := ⟨#[48, 49, 50, 51, 52, 53, 54, 55, 56, 57]⟩
theorem dec_all : ∀ n : Fin 256, decSet.data.toList.contains (UInt8.ofNat n.1) = isDig (UInt8.ofNat n.1) := by decide +kernel
theorem dec_contains (c : UInt8) : decSet.data.toList.contains c = isDig c := by
  have h := dec_all ⟨c.toNat, c.toNat_lt⟩
  have e : UInt8.ofNat c.toNat = c := by simp
  simp only [e] at h
  exact h
theorem trim_split (l : List UInt8) : l = digsOf l ++ Lib.trimLeftS l decSet.data.toList := by
  unfold Lib.trimLeftS digsOf
  rw [show (fun c => decSet.data.toList.contains c) = isDig from funext dec_contains]
  exact List.takeWhile_append_dropWhile.symm
theorem triml_ok (t : ByteArray) (w : World) : Calls Tryz.prog 200 #[.string t, .string decSet] w fun e w' => e = .returned (.string ⟨(Lib.trimLeftS t.data.toList decSet.data.toList).toArray⟩) ∧ Below w.heap.size w w' :=
  Any.strings_TrimLeft_laid Tryz.triml (by kernel_rfl) t decSet w (by decide) (fun j b h => by
    have hm := List.mem_of_getElem? h
    have hd := dec_contains b
    rw [List.contains_iff_mem.2 hm] at hd
    unfold isDig at hd
    have := hd.symm
    rw [Bool.and_eq_true, decide_eq_true_iff, decide_eq_true_iff] at this
    omega)
/-! ### Atoi of digits -/
def foldDig (a : Nat) (ds : List UInt8) : Nat := ds.foldl (fun a c => a * 10 + (c.toNat - 48)) a
theorem fold_ge (ds : List UInt8) : ∀ a, a ≤ foldDig a ds := by
  induction ds with
  | nil => intro a; exact Nat.le_refl _
  | cons c r ih => intro a; exact Nat.le_trans (by omega) (ih (a * 10 + (c.toNat - 48)))
theorem parse_dig (ds : List UInt8) : ∀ a, (∀ c ∈ ds, isDig c = true) → Lib.parseUint10 a ds = .ok (foldDig a ds) ∨ (Lib.parseUint10 a ds = .range ∧ 18446744073709551616 ≤ foldDig a ds) := by
  induction ds with
  | nil => intro a _; exact .inl rfl
  | cons c r ih =>
    intro a h
    have hc := h c List.mem_cons_self
    unfold isDig at hc
    rw [Bool.and_eq_true, decide_eq_true_iff, decide_eq_true_iff] at hc
    have hf := fold_ge r (a * 10 + (c.toNat - 48))
    have e : foldDig a (c :: r) = foldDig (a * 10 + (c.toNat - 48)) r := rfl
    rw [e]
    simp only [Lib.parseUint10, if_pos hc]
    split
    · exact .inr ⟨rfl, by omega⟩
    · split
      · exact .inr ⟨rfl, by omega⟩
      · exact ih _ fun c hc => h c (List.mem_cons_of_mem _ hc)
theorem atoi_digits (D : List UInt8) (h : ∀ c ∈ D, isDig c = true) : (D = [] → Lib.atoiAll D = Lib.NumEnd.syntax) ∧ (D ≠ [] → digVal D ≤ 9223372036854775807 → Lib.atoiAll D = .ok (digVal D)) ∧ (D ≠ [] → 9223372036854775807 < digVal D → Lib.atoiAll D = .range) := by
  cases D with
  | nil => exact ⟨fun _ => rfl, fun h => absurd rfl h, fun h => absurd rfl h⟩
  | cons c r =>
    have hc := h c List.mem_cons_self
    unfold isDig at hc
    rw [Bool.and_eq_true, decide_eq_true_iff, decide_eq_true_iff] at hc
    have n1 : ¬ (c.toNat = 43 ∨ c.toNat = 45) := by omega
    have n2 : ¬ c.toNat = 45 := by omega
    have e : foldDig 0 (c :: r) = digVal (c :: r) := rfl
    have hp := parse_dig (c :: r) 0 h
    rw [e] at hp
    have hm : Lib.parseMag (c :: r) = Lib.parseUint10 0 (c :: r) := by simp [Lib.parseMag]
    refine ⟨nofun, fun _ h1 => ?_, fun _ h1 => ?_⟩
    · rcases hp with hp | ⟨_, hp⟩
      · simp only [Lib.atoiAll, if_neg n1, hm, hp]
        rw [if_neg (by omega), if_neg (by omega), if_neg n2]
      · omega
    · rcases hp with hp | ⟨hp, _⟩
      · simp only [Lib.atoiAll, if_neg n1, hm, hp]
        rw [if_pos ⟨n2, by omega⟩]
      · simp only [Lib.atoiAll, if_neg n1, hm, hp]
theorem atoi_num (R : Nat) (v : ByteArray) (D : List UInt8) (hD : v.data.toList = D) (w : World) (hd : ∀ c ∈ D, isDig c = true) (hs : v.size ≤ 1000) (hnv : NumVars w R) : Calls Tryz.prog 135 #[.string v] w fun e w' => Below w.heap.size w w' ∧ ((D ≠ [] ∧ digVal D ≤ 9223372036854775807 ∧ e = .returned (.tuple #[.int .i64 (digVal D : Int), .nilIface])) ∨
    ((D = [] ∨ 9223372036854775807 < digVal D) ∧ ∃ n N, e = .returned (.tuple #[.int .i64 n, .iface 258 (.pointer (some ⟨N, 0, none⟩))]))) := by
  obtain ⟨a1, a2, a3⟩ := atoi_digits D hd
  obtain ⟨⟨_, ev1, hv1, hw1⟩, ⟨_, ev2, hv2, hw2⟩⟩ := hnv
  by_cases h0 : D = []
  · refine (Any.strconv_Atoi_syntax Tryz.atoi v (by omega) (hD ▸ a1 h0) ev1 w hv1 hw1).mono ?_
    rintro e w' ⟨N, he, _, _, hb⟩
    exact ⟨hb, .inr ⟨.inl h0, _, N, he⟩⟩
  · rcases Nat.lt_or_ge 9223372036854775807 (digVal D) with h1 | h1
    · refine (Any.strconv_Atoi_range Tryz.atoi v (by omega) (hD ▸ a3 h0 h1) ev2 w hv2 hw2).mono ?_
      rintro e w' ⟨N, he, _, _, hb⟩
      exact ⟨hb, .inr ⟨.inr h1, _, N, he⟩⟩
    · refine (Any.strconv_Atoi_ok Tryz.atoi v (by omega) (digVal D : Int) (by rw [hD]; exact a2 h0 h1) w).mono ?_
      rintro e w' ⟨he, hw⟩
      refine ⟨?_, .inl ⟨h0, h1, he⟩⟩
      rcases hw with rfl | ⟨t, rfl⟩
      · exact Below.refl _ _
      · exact Lib.bytesWorld_below _ _ _
set_option maxRecDepth 100000 in
set_option maxHeartbeats 8000000 in
theorem one_reads {W : Reads} {m : Nat} (hS : ∀ d, Short (W d)) (hW : ReadsLt_ W m) : ReadsAs 177 (oneRd W) m := by
  intro R s l d w h hs hd hm hnv
  obtain ⟨r0, hr0⟩ : ∃ r0, r0 = oneRd W d l := ⟨_, rfl⟩
  rw [← hr0]
  have hmf : ∀ (fn : Fn) (first cap : Array Value) (w : World), (Instr.makeFunc fn first cap).run Tryz.prog w = .ok (.func fn first cap) w := fun _ _ _ _ => rfl
  have hK1 : ∀ args w, (callFunc 198 args).run Tryz.prog w = .ok (.enter 198 args) w := fun _ _ => rfl
  have hK2 : ∀ args w, (callFunc 199 args).run Tryz.prog w = .ok (.enter 199 args) w := fun _ _ => rfl
  have HR0 := Lib.hid hr0
  have HH := Lib.hid h
  have hlt := h.lt
  have HLT := Lib.hid hlt
  have hc1 : ∀ ob ob2, ((w.alloc ob).alloc ob2).cell? ⟨R, 1, none⟩ = some (.int .i64 ((s.size - l.length : Nat) : Int)) := fun ob ob2 => RdL.allocs (HH.out.keep (w' := w.alloc ob) (heap_alloc_old _ _ hlt)) ob2
  clear hr0 h
  go_enter Tryz.func177, Tryz.ntmps177
  go_wp2_with fail
  obtain ⟨W1, hW1⟩ : ∃ W1, W1 = ((w.alloc (.cells #[.pointer (some ⟨R, 0, none⟩)] 149)).alloc (.cells #[.int .u8 0, .int .i64 0, .slice none 0 0] 86)).alloc (.cells #[.string ⟨#[109, 105, 110, 40]⟩, .string ⟨#[109, 97, 120, 40]⟩] 9) := ⟨_, rfl⟩
  have HI1 : Hid (OneInv R s l d w W1) := by
    show OneInv _ _ _ _ _ _
    rw [hW1]
    obtain ⟨wa, hwa⟩ : ∃ wa, wa = w.alloc (.cells #[.pointer (some ⟨R, 0, none⟩)] 149) := ⟨_, rfl⟩
    have sa : wa.heap.size = w.heap.size + 1 := by rw [hwa]; simp
    have la : RdL wa R s l d := by rw [hwa]; exact HH.out.keep (heap_alloc_old _ _ hlt)
    have ba : PBox wa w.heap.size R := by rw [hwa]; exact heap_alloc_new _ _
    have fa : Frm (· = R) w wa := by rw [hwa]; exact (Frm.refl _ _).alloc _
    rw [← hwa]
    obtain ⟨wb, hwb⟩ : ∃ wb, wb = wa.alloc (.cells #[.int .u8 0, .int .i64 0, .slice none 0 0] 86) := ⟨_, rfl⟩
    have sb : wb.heap.size = w.heap.size + 2 := by rw [hwb]; simp [sa]
    have lb : RdL wb R s l d := by rw [hwb]; exact la.keep (heap_alloc_old _ _ la.lt)
    have bb : PBox wb w.heap.size R := by rw [hwb]; exact ba.alloc _
    have zb : TVar wb (w.heap.size + 1) (.int .u8 0) (.int .i64 0) (.slice none 0 0) := by rw [hwb, ← sa]; exact TVar.new _ _ _ _
    have fb : Frm (· = R) w wb := by rw [hwb]; exact fa.alloc _
    rw [← hwb]
    exact ⟨lb.keep (heap_alloc_old _ _ lb.lt), bb.alloc _, (heap_alloc_old _ _ (block_lt zb)).trans zb, by rw [← sb]; exact heap_alloc_new _ _, fb.alloc _⟩
  rw [← hW1]
  clear hW1 HH hc1 hlt
  go_loopw [5, 17] (fun fv iv wx => ∃ i : Nat, i ≤ 2 ∧ iv = .int .i64 i ∧ Hid (OneInv R s l d w wx) ∧ Hid (1 ≤ i → ∀ r, l ≠ 109 :: 105 :: 110 :: 40 :: r) ∧ Hid (2 ≤ i → ∀ r, l ≠ 109 :: 97 :: 120 :: 40 :: r)) (fun _ iv _ => 2 - (intOf iv).toNat)
  case atStart => exact ⟨0, by omega, rfl, HI1.out, fun h => by omega, fun h => by omega⟩
  case round =>
    obtain ⟨i, hi, rfl, HJ, HN1, HN2⟩ := hrel
    have hg0 : wr.cell? ⟨w.heap.size + 2, 0, none⟩ = some (.string ⟨#[109, 105, 110, 40]⟩) := (cell_of_row wr _ 0 _ _ _ HJ.out.row).trans rfl
    have hg1 : wr.cell? ⟨w.heap.size + 2, 1, none⟩ = some (.string ⟨#[109, 97, 120, 40]⟩) := (cell_of_row wr _ 1 _ _ _ HJ.out.row).trans rfl
    have hb := HJ.out.box.cell
    have hRw := HLT.out
    match i, hi with
    | 0, _ =>
      go_wp2_with fail
      by_cases hq : ∃ l2, l = 109 :: 105 :: 110 :: 40 :: l2
      · obtain ⟨l2, rfl⟩ := hq
        refine (hasL_yes R s ⟨#[109, 105, 110, 40]⟩ (109 :: 105 :: 110 :: 40 :: l2) l2 d _ HJ.out.rd hs rfl).mono ?_
        rintro e w2 ⟨rfl, h2, f2⟩
        have hl2 : l2.length + 4 ≤ m := by simpa using hm
        have e0 : r0 = deepRd d (l2.length + 4) (twoRd W 109 (d + 1) l2) := HR0.out
        have HE0 := Lib.hid e0
        have HL2 := Lib.hid h2
        have HB2 := Lib.hid (HJ.out.box.frm f2 (by omega))
        have HZ2 := Lib.hid (HJ.out.res.frm f2 (by omega))
        have HF2 := Lib.hid (frm_trans HJ.out.frm f2)
        have hz2 := block_lt HZ2.out
        have hb2 := fun ob => (HB2.out.alloc ob).cell
        clear h2 f2 HJ HN1 HN2 hg0 hg1 hb e0 HR0
        go_wp2_with fail
        obtain ⟨w3, hw3⟩ : ∃ w3, w3 = w2.alloc (.cells #[.int .u8 109] 5) := ⟨_, rfl⟩
        have HL3 : Hid (RdL w3 R s l2 d) := by rw [hw3]; exact HL2.out.keep (heap_alloc_old _ _ HL2.out.lt)
        have HB3 : Hid (PBox w3 w.heap.size R) := by rw [hw3]; exact HB2.out.alloc _
        have HZ3 : Hid (TVar w3 (w.heap.size + 1) (.int .u8 0) (.int .i64 0) (.slice none 0 0)) := by rw [hw3]; exact (heap_alloc_old _ _ hz2).trans HZ2.out
        have HF3 : Hid (Frm (· = R) w w3) := by rw [hw3]; exact HF2.out.alloc _
        have HO3 : Hid (BVar w3 w2.heap.size 109) := by rw [hw3]; exact heap_alloc_new _ _
        have hs23 : w3.heap.size = w2.heap.size + 1 := by rw [hw3]; simp
        rw [← hw3]
        obtain ⟨gp, hgp⟩ : ∃ gp, gp = w2.heap.size := ⟨_, rfl⟩
        rw [← hgp] at HO3 hs23 hz2 ⊢
        clear hw3 hgp HL2 HB2 HZ2 HF2 hb2
        have hcall := withinL R (l2.length + 4) d 198 s l2 #[] #[.pointer (some ⟨w.heap.size, 0, none⟩), .pointer (some ⟨gp, 0, none⟩)] w3 (twoRd W 109 (d + 1) l2) HL3.out hd hK1 (fun hne W2 hW2 hF => one1_reads hS hW R w.heap.size gp 109 s l2 (d + 1) W2 (HB3.out.frm hF (by omega)) (by omega) (HO3.out.frm hF (by omega)) (by omega) hW2 hs (by omega) (by omega) (hnv.frm (frm_trans HF3.out hF)))
        rw [← HE0.out] at hcall
        clear HE0
        refine hcall.mono ?_
        clear hcall
        intro e w4 hr
        cases r0 with
        | bad k j =>
          obtain ⟨rfl, hp, hf⟩ := hr
          exact ⟨rfl, rfl, hp, frm_trans HF3.out hf⟩
        | ok a l1 =>
          obtain ⟨o, n, A, ca, rfl, ht, hl, hf⟩ := hr
          have hzz := HZ3.out.frm hf (by omega)
          obtain ⟨z0, z1, z2, zf⟩ := hzz.cells
          obtain ⟨q0, q1, q2, qf⟩ := (pass_var (x := .int .u8 o) (y := .int .i64 n) (z := .slice A ca ca) hzz).cells
          have hrr := pass_ok (w0 := w) (k := w.heap.size + 1) (x := .int .u8 o) (y := .int .i64 n) (z := .slice A ca ca) ht (fun j hj => by have h9 : w3.heap.size ≤ j := hj; omega) hl (frm_trans HF3.out hf) (by omega) (by omega)
          have HRR := Lib.hid hrr
          simp only [tset] at q0 q1 q2
          clear ht hl hf hzz hrr HL3 HB3 HZ3 HF3 HO3
          simp only [trA]
          go_wp2_with fail
          refine ⟨rfl, .agg (trA o n A ca), ?_, HRR.out⟩
          simp only [results, Tryz.results177]
          simp [go_sem, q0, q1, q2, trA]
      · have hbn : Lib.hasPrefix l [109, 105, 110, 40] = false := by
          cases hb : Lib.hasPrefix l [109, 105, 110, 40] with
          | false => rfl
          | true =>
            obtain ⟨r, e⟩ := List.isPrefixOf_iff_prefix.1 hb
            exact absurd ⟨r, e.symm⟩ hq
        refine (hasL_no R s ⟨#[109, 105, 110, 40]⟩ l d _ HJ.out.rd hs hbn).mono ?_
        rintro e w2 ⟨rfl, h2, f2⟩
        have HJ2 := Lib.hid (HJ.out.on hRw h2 f2)
        clear h2 f2 HJ
        go_wp2_with fail
        refine ⟨⟨1, by omega, by congr 1, HJ2.out, fun _ r e => hq ⟨r, e⟩, fun h => by omega⟩, ?_⟩
        simp [intOf]
    | 1, _ =>
      go_wp2_with fail
      by_cases hq : ∃ l2, l = 109 :: 97 :: 120 :: 40 :: l2
      · obtain ⟨l2, rfl⟩ := hq
        refine (hasL_yes R s ⟨#[109, 97, 120, 40]⟩ (109 :: 97 :: 120 :: 40 :: l2) l2 d _ HJ.out.rd hs rfl).mono ?_
        rintro e w2 ⟨rfl, h2, f2⟩
        have hl2 : l2.length + 4 ≤ m := by simpa using hm
        have e0 : r0 = deepRd d (l2.length + 4) (twoRd W 77 (d + 1) l2) := HR0.out
        have HE0 := Lib.hid e0
        have HL2 := Lib.hid h2
        have HB2 := Lib.hid (HJ.out.box.frm f2 (by omega))
        have HZ2 := Lib.hid (HJ.out.res.frm f2 (by omega))
        have HF2 := Lib.hid (frm_trans HJ.out.frm f2)
        have hz2 := block_lt HZ2.out
        have hb2 := fun ob => (HB2.out.alloc ob).cell
        clear h2 f2 HJ HN1 HN2 hg0 hg1 hb e0 HR0
        go_wp2_with fail
        obtain ⟨w3, hw3⟩ : ∃ w3, w3 = w2.alloc (.cells #[.int .u8 77] 5) := ⟨_, rfl⟩
        have HL3 : Hid (RdL w3 R s l2 d) := by rw [hw3]; exact HL2.out.keep (heap_alloc_old _ _ HL2.out.lt)
        have HB3 : Hid (PBox w3 w.heap.size R) := by rw [hw3]; exact HB2.out.alloc _
        have HZ3 : Hid (TVar w3 (w.heap.size + 1) (.int .u8 0) (.int .i64 0) (.slice none 0 0)) := by rw [hw3]; exact (heap_alloc_old _ _ hz2).trans HZ2.out
        have HF3 : Hid (Frm (· = R) w w3) := by rw [hw3]; exact HF2.out.alloc _
        have HO3 : Hid (BVar w3 w2.heap.size 77) := by rw [hw3]; exact heap_alloc_new _ _
        have hs23 : w3.heap.size = w2.heap.size + 1 := by rw [hw3]; simp
        rw [← hw3]
        obtain ⟨gp, hgp⟩ : ∃ gp, gp = w2.heap.size := ⟨_, rfl⟩
        rw [← hgp] at HO3 hs23 hz2 ⊢
        clear hw3 hgp HL2 HB2 HZ2 HF2 hb2
        have hcall := withinL R (l2.length + 4) d 198 s l2 #[] #[.pointer (some ⟨w.heap.size, 0, none⟩), .pointer (some ⟨gp, 0, none⟩)] w3 (twoRd W 77 (d + 1) l2) HL3.out hd hK1 (fun hne W2 hW2 hF => one1_reads hS hW R w.heap.size gp 77 s l2 (d + 1) W2 (HB3.out.frm hF (by omega)) (by omega) (HO3.out.frm hF (by omega)) (by omega) hW2 hs (by omega) (by omega) (hnv.frm (frm_trans HF3.out hF)))
        rw [← HE0.out] at hcall
        clear HE0
        refine hcall.mono ?_
        clear hcall
        intro e w4 hr
        cases r0 with
        | bad k j =>
          obtain ⟨rfl, hp, hf⟩ := hr
          exact ⟨rfl, rfl, hp, frm_trans HF3.out hf⟩
        | ok a l1 =>
          obtain ⟨o, n, A, ca, rfl, ht, hl, hf⟩ := hr
          have hzz := HZ3.out.frm hf (by omega)
          obtain ⟨z0, z1, z2, zf⟩ := hzz.cells
          obtain ⟨q0, q1, q2, qf⟩ := (pass_var (x := .int .u8 o) (y := .int .i64 n) (z := .slice A ca ca) hzz).cells
          have hrr := pass_ok (w0 := w) (k := w.heap.size + 1) (x := .int .u8 o) (y := .int .i64 n) (z := .slice A ca ca) ht (fun j hj => by have h9 : w3.heap.size ≤ j := hj; omega) hl (frm_trans HF3.out hf) (by omega) (by omega)
          have HRR := Lib.hid hrr
          simp only [tset] at q0 q1 q2
          clear ht hl hf hzz hrr HL3 HB3 HZ3 HF3 HO3
          simp only [trA]
          go_wp2_with fail
          refine ⟨rfl, .agg (trA o n A ca), ?_, HRR.out⟩
          simp only [results, Tryz.results177]
          simp [go_sem, q0, q1, q2, trA]
      · have hbn : Lib.hasPrefix l [109, 97, 120, 40] = false := by
          cases hb : Lib.hasPrefix l [109, 97, 120, 40] with
          | false => rfl
          | true =>
            obtain ⟨r, e⟩ := List.isPrefixOf_iff_prefix.1 hb
            exact absurd ⟨r, e.symm⟩ hq
        refine (hasL_no R s ⟨#[109, 97, 120, 40]⟩ l d _ HJ.out.rd hs hbn).mono ?_
        rintro e w2 ⟨rfl, h2, f2⟩
        have HJ2 := Lib.hid (HJ.out.on hRw h2 f2)
        clear h2 f2 HJ
        go_wp2_with fail
        refine ⟨⟨2, by omega, by congr 1, HJ2.out, fun _ => HN1.out (Nat.le_refl _), fun _ r e => hq ⟨r, e⟩⟩, ?_⟩
        simp [intOf]
    | 2, _ =>
      go_wp2_with fail
      refine (peekL R s l d _ HJ.out.rd).mono ?_
      rintro e w2 ⟨rfl, q, rfl⟩
      have HJ2 : Hid (OneInv R s l d w (wr.drewN q)) := HJ.out.on hRw (HJ.out.rd.keep rfl) ((Frm.refl _ _).drewN q)
      generalize wr.drewN q = w2 at HJ2 ⊢
      have hN1 : Hid (∀ r, l ≠ 109 :: 105 :: 110 :: 40 :: r) := HN1.out (by omega)
      have hN2 : Hid (∀ r, l ≠ 109 :: 97 :: 120 :: 40 :: r) := HN2.out (by omega)
      clear HJ HN1 HN2 hg0 hg1 hb
      obtain ⟨c0, c1, c2, cf⟩ := HJ2.out.rd.2.2.cells
      have hb := HJ2.out.box.cell
      obtain ⟨z0, z1, z2, zf⟩ := HJ2.out.res.cells
      by_cases hn : ∃ c r, l = c :: r ∧ (c = 110 ∨ c = 115)
      · obtain ⟨c, r, rfl, hc⟩ := hn
        have e0 : r0 = .ok (.nam (c == 110)) r := by
          rw [HR0.out]
          rcases hc with rfl | rfl <;> rfl
        clear HR0
        subst e0
        have eh : headB (c :: r) = (c.toNat : Int) := rfl
        rw [eh]
        have HRR : Hid (Reads_ R s d w (.ok (.nam (c == 110)) r) (.returned (.agg (trA (c.toNat : Int) 0 none 0))) (tset (w2.setCell ⟨R, 1, none⟩ (.int .i64 (((s.size - (r.length + 1) : Nat) : Int) + 1))) (w.heap.size + 1) (.int .u8 (c.toNat : Int)) (.int .i64 0) (.slice none 0 0))) := by
          have h1 := HJ2.out.rd.2.2.moved (s.size - (r.length + 1) + 1)
          have e2 : (((s.size - (r.length + 1) : Nat) : Int) + 1) = ((s.size - (r.length + 1) + 1 : Nat) : Int) := by omega
          have h2 : RdL (w2.setCell ⟨R, 1, none⟩ (.int .i64 (((s.size - (r.length + 1) : Nat) : Int) + 1))) R s r d := by
            rw [e2]; exact HJ2.out.rd.on (n := 1) (by simp only [List.length_cons]; omega) rfl h1
          have h3 := HJ2.out.frm.setCell (p := ⟨R, 1, none⟩) (.inl rfl) (.int .i64 (((s.size - (r.length + 1) : Nat) : Int) + 1))
          refine pass_ok (F := fun _ => False) ?_ (fun j hj => hj.elim) h2 h3 (by omega) (by omega)
          rcases hc with rfl | rfl <;> rfl
        have hz3 : TVar (w2.setCell ⟨R, 1, none⟩ (.int .i64 (((s.size - (r.length + 1) : Nat) : Int) + 1))) (w.heap.size + 1) (.int .u8 0) (.int .i64 0) (.slice none 0 0) := (Below.heap_setCell _ _ _ _ (by simp; omega)).trans HJ2.out.res
        obtain ⟨q0, q1, q2, qf⟩ := (pass_var (x := .int .u8 (c.toNat : Int)) (y := .int .i64 0) (z := .slice none 0 0) hz3).cells
        simp only [tset] at q0 q1 q2
        clear hz3 HJ2
        have key : ((c.toNat : Int) == 110) = true ∨ (((c.toNat : Int) == 110) = false ∧ ((c.toNat : Int) == 115) = true) := by
          rcases hc with e | e
          · exact .inl (by rw [e]; rfl)
          · exact .inr ⟨by rw [e]; rfl, by rw [e]; rfl⟩
        clear hc
        rcases key with m1 | ⟨m1, m2⟩
        all_goals
          go_wp2_with fail
          refine ⟨rfl, .agg (trA (c.toNat : Int) 0 none 0), ?_, HRR.out⟩
          simp only [results, Tryz.results177]
          simp [go_sem, q0, q1, q2, trA]
      · by_cases hp : ∃ r, l = 40 :: r
        · obtain ⟨r, rfl⟩ := hp
          have e0 : r0 = deepRd d (r.length + 1) ((W (d + 1) r).bind fun a l1 => wantRd 41 l1 fun l2 => .ok a l2) := HR0.out
          have HE0 := Lib.hid e0
          clear HR0 e0
          have eh : headB (40 :: r) = 40 := rfl
          rw [eh]
          go_wp2_with fail
          obtain ⟨w3, hw3⟩ : ∃ w3, w3 = w2.setCell ⟨R, 1, none⟩ (.int .i64 (((s.size - (r.length + 1) : Nat) : Int) + 1)) := ⟨_, rfl⟩
          have HL3 : Hid (RdL w3 R s r d) := by
            have h1 := HJ2.out.rd.2.2.moved (s.size - (r.length + 1) + 1)
            have e2 : (((s.size - (r.length + 1) : Nat) : Int) + 1) = ((s.size - (r.length + 1) + 1 : Nat) : Int) := by omega
            rw [hw3, e2]; exact HJ2.out.rd.on (n := 1) (by simp only [List.length_cons]; omega) rfl h1
          have h3o : ∀ j, j ≠ R → w3.heap[j]? = w2.heap[j]? := fun j hj => by rw [hw3]; exact Below.heap_setCell _ _ _ _ (by simpa using hj)
          have HB3 : Hid (PBox w3 w.heap.size R) := (h3o _ (by omega)).trans HJ2.out.box
          have HZ3 : Hid (TVar w3 (w.heap.size + 1) (.int .u8 0) (.int .i64 0) (.slice none 0 0)) := (h3o _ (by omega)).trans HJ2.out.res
          have HF3 : Hid (Frm (· = R) w w3) := by rw [hw3]; exact HJ2.out.frm.setCell (p := ⟨R, 1, none⟩) (.inl rfl) _
          rw [← hw3]
          have hzw := block_lt HZ3.out
          clear hw3 h3o HJ2 c0 c1 c2 cf hb z0 z1 z2 zf
          have hcall := withinL R (r.length + 1) d 199 s r #[] #[.pointer (some ⟨w.heap.size, 0, none⟩)] w3 ((W (d + 1) r).bind fun a l1 => wantRd 41 l1 fun l2 => .ok a l2) HL3.out hd hK2 (fun hne W2 hW2 hF => one2_reads hW R w.heap.size s r (d + 1) W2 (HB3.out.frm hF (by omega)) (by omega) hW2 hs (by omega) (by simp only [List.length_cons] at hm; omega) (hnv.frm (frm_trans HF3.out hF)))
          rw [← HE0.out] at hcall
          clear HE0
          refine hcall.mono ?_
          clear hcall
          intro e w4 hr
          cases r0 with
          | bad k j =>
            obtain ⟨rfl, hp, hf⟩ := hr
            exact ⟨rfl, rfl, hp, frm_trans HF3.out hf⟩
          | ok a l1 =>
            obtain ⟨o, n, A, ca, rfl, ht, hl, hf⟩ := hr
            have hzz := HZ3.out.frm hf (by omega)
            obtain ⟨z0, z1, z2, zf⟩ := hzz.cells
            obtain ⟨q0, q1, q2, qf⟩ := (pass_var (x := .int .u8 o) (y := .int .i64 n) (z := .slice A ca ca) hzz).cells
            have hrr := pass_ok (w0 := w) (k := w.heap.size + 1) (x := .int .u8 o) (y := .int .i64 n) (z := .slice A ca ca) ht (fun j hj => by have h9 : w3.heap.size ≤ j := hj; omega) hl (frm_trans HF3.out hf) (by omega) (by omega)
            have HRR := Lib.hid hrr
            simp only [tset] at q0 q1 q2
            clear ht hl hf hzz hrr HL3 HB3 HZ3 HF3
            simp only [trA]
            go_wp2_with fail
            refine ⟨rfl, .agg (trA o n A ca), ?_, HRR.out⟩
            simp only [results, Tryz.results177]
            simp [go_sem, q0, q1, q2, trA]
        · have e0 : r0 = numRd l := by
            rw [HR0.out]
            unfold oneRd
            split
            · exact absurd rfl (hN1.out _)
            · exact absurd rfl (hN2.out _)
            · exact absurd ⟨110, _, rfl, .inl rfl⟩ hn
            · exact absurd ⟨115, _, rfl, .inr rfl⟩ hn
            · exact absurd ⟨_, rfl⟩ hp
            · rfl
          have HE0 := Lib.hid e0
          have hh : ¬ headB l = 110 ∧ ¬ headB l = 115 ∧ ¬ headB l = 40 := by
            cases l with
            | nil => refine ⟨?_, ?_, ?_⟩ <;> (show ¬ (0 : Int) = _; omega)
            | cons c r =>
              refine ⟨fun e => hn ⟨c, r, rfl, .inl (UInt8.toNat_inj.1 ?_)⟩, fun e => hn ⟨c, r, rfl, .inr (UInt8.toNat_inj.1 ?_)⟩, fun e => hp ⟨r, ?_⟩⟩
              · have e : (c.toNat : Int) = 110 := e
                show c.toNat = 110; omega
              · have e : (c.toNat : Int) = 115 := e
                show c.toNat = 115; omega
              · have e : (c.toNat : Int) = 40 := e
                rw [show c = 40 from UInt8.toNat_inj.1 (by show c.toNat = 40; omega)]
          obtain ⟨h1, h2, h3⟩ := hh
          have m1 : (headB l == 110) = false := beq_eq_false_iff_ne.2 h1
          have m2 : (headB l == 115) = false := beq_eq_false_iff_ne.2 h2
          have m3 : (headB l == 40) = false := beq_eq_false_iff_ne.2 h3
          have dp : ¬ s.size < s.size - l.length := by omega
          clear HR0 e0 h1 h2 hN1 hN2 hn hp
          go_wp2_with fail
          obtain ⟨t8, ht8⟩ : ∃ t8, t8 = s.extract (s.size - l.length) s.size := ⟨_, rfl⟩
          have ht8l : t8.data.toList = l := by rw [ht8, slice_drop]; exact HJ2.out.rd.2.1.symm
          obtain ⟨u8, hu8⟩ : ∃ u8 : ByteArray, u8 = ⟨(Lib.trimLeftS l decSet.data.toList).toArray⟩ := ⟨_, rfl⟩
          have hu8s : u8.size = (Lib.trimLeftS l decSet.data.toList).length := by rw [hu8]; show (Lib.trimLeftS l decSet.data.toList).toArray.size = _; simp
          have hspl := trim_split l
          have hll : l.length = (digsOf l).length + u8.size := by
            have h := congrArg List.length hspl
            rw [List.length_append] at h
            rw [hu8s]; exact h
          have ht8s : t8.size = l.length := by rw [← ht8l]; simp
          have HT8 := Lib.hid (triml_ok t8 w2)
          rw [ht8l, ← hu8] at HT8
          rw [← ht8]
          have HU8 := Lib.hid hu8
          have HL8 := Lib.hid ht8l
          have HSPL := Lib.hid hspl
          have hls : l.length ≤ s.size := HJ2.out.rd.1
          clear ht8 hu8 ht8l hspl hu8s
          refine HT8.out.mono ?_
          rintro e w3 ⟨rfl, hb3⟩
          have HJ3 : Hid (OneInv R s l d w w3) := HJ2.out.on hRw (HJ2.out.rd.keep (hb3.block _ HJ2.out.rd.lt)) (Frm.ofBelow hb3)
          clear HT8 hb3 HJ2 c0 c1 c2 cf hb z0 z1 z2 zf
          obtain ⟨k, hk⟩ : ∃ k, k = (digsOf l).length := ⟨_, rfl⟩
          rw [← hk] at hll
          have ht8k : t8.size = k + u8.size := by omega
          have HK := Lib.hid hk
          have hk120 : k + u8.size ≤ 120 := by omega
          clear hk ht8s
          go_upto_region 20 with (fail)
          obtain ⟨dd, hdd⟩ : ∃ dd, dd = t8.extract 0 (s.size - (s.size - (k + u8.size)) - u8.size) := ⟨_, rfl⟩
          have hX : s.size - (s.size - (k + u8.size)) - u8.size = k := by omega
          have hdl : dd.data.toList = digsOf l := by
            rw [hdd, hX]
            have e1 : (t8.extract 0 k).data.toList = t8.data.toList.take k := by simp [ByteArray.data_extract]
            rw [e1, HL8.out, HK.out]
            have h := congrArg (List.take (digsOf l).length) HSPL.out
            rw [List.take_left] at h
            exact h
          have hdk : dd.size = k := by rw [HK.out, ← hdl]; simp
          rw [← hdd]
          have HDL := Lib.hid hdl
          have hdig : ∀ c ∈ digsOf l, isDig c = true := fun c hc => List.all_eq_true.1 List.all_takeWhile c hc
          have HDIG := Lib.hid hdig
          clear hdd hX hdl hdig HU8 HL8 HSPL ht8k
          by_cases hk1 : 1 < k
          · obtain ⟨x, y, r, hxy⟩ : ∃ x y r, digsOf l = x :: y :: r := by
              have hkk := HK.out
              match hdd : digsOf l with
              | [] => rw [hdd] at hkk; simp at hkk; omega
              | [x] => rw [hdd] at hkk; simp at hkk; omega
              | x :: y :: r => exact ⟨x, y, r, rfl⟩
            have hd1 : decide ((1 : Int) < (k : Int)) = true := decide_eq_true (by omega)
            have hx : ∀ h : 0 < dd.size, dd[0]'h = x := fun h => by
              have h1 : dd.data.toList[0]? = some x := by rw [HDL.out, hxy]; rfl
              have h2 : dd.data[0]? = some x := by rw [← Array.getElem?_toList]; exact h1
              obtain ⟨h3, h4⟩ := Array.getElem?_eq_some_iff.1 h2
              exact h4
            by_cases h48 : x = 48
            · have hx48 : ((x.toNat : Int) == 48) = true := by rw [h48]; rfl
              have hnum : numOf l = [48] := by unfold numOf; rw [hxy]; simp [h48]
              have HNDIG : Hid (∀ c ∈ numOf l, isDig c = true) := by
                show ∀ c ∈ numOf l, _
                rw [hnum]; intro c hc; rw [List.mem_singleton.1 hc]; decide
              have hnl : (numOf l).length = 1 := by rw [hnum]; rfl
              have hvl : (⟨#[48]⟩ : ByteArray).data.toList = numOf l := by rw [hnum]
              clear hxy hnum h48
              have HRR : Hid (∀ w4, Below w3.heap.size w3 w4 → numRd l = .ok (.num (digVal (numOf l))) (l.drop (numOf l).length) → Reads_ R s d w r0 (.returned (.agg (trA 48 (digVal (numOf l) : Int) none 0))) (tset (w4.setCell ⟨R, 1, none⟩ (.int .i64 (((s.size - (k + u8.size) : Nat) : Int) + 1))) (w.heap.size + 1) (.int .u8 48) (.int .i64 (digVal (numOf l) : Int)) (.slice none 0 0)) ∧ TVar (w4.setCell ⟨R, 1, none⟩ (.int .i64 (((s.size - (k + u8.size) : Nat) : Int) + 1))) (w.heap.size + 1) (.int .u8 0) (.int .i64 0) (.slice none 0 0)) := fun w4 hb4 he => by
                have HJ4 : OneInv R s l d w w4 := HJ3.out.on hRw (HJ3.out.rd.keep (hb4.block _ HJ3.out.rd.lt)) (Frm.ofBelow hb4)
                have h1 := HJ4.rd.2.2.moved (s.size - l.length + 1)
                have e2 : (((s.size - (k + u8.size) : Nat) : Int) + 1) = ((s.size - l.length + 1 : Nat) : Int) := by rw [hll]; omega
                have h2 : RdL (w4.setCell ⟨R, 1, none⟩ (.int .i64 (((s.size - (k + u8.size) : Nat) : Int) + 1))) R s (l.drop 1) d := by
                  rw [e2]; exact HJ4.rd.on (n := 1) (by rw [List.length_drop]; omega) rfl h1
                refine ⟨?_, (Below.heap_setCell _ _ _ _ (by simp; omega)).trans HJ4.res⟩
                rw [HE0.out, he, hnl]
                refine pass_ok (F := fun _ => False) ?_ (fun j hj => hj.elim) h2 (HJ4.frm.setCell (p := ⟨R, 1, none⟩) (.inl rfl) _) (by omega) (by omega)
                exact rfl
              have HVL := Lib.hid hvl
              clear hvl hnl
              go_wp2_with fail
              refine (atoi_num R ⟨#[48]⟩ (numOf l) HVL.out w3 HNDIG.out (by decide) (hnv.frm HJ3.out.frm)).mono ?_
              rintro e w4 ⟨hb4, hor⟩
              have HJ4 : OneInv R s l d w w4 := HJ3.out.on hRw (HJ3.out.rd.keep (hb4.block _ HJ3.out.rd.lt)) (Frm.ofBelow hb4)
              obtain ⟨c0, c1, c2, cf⟩ := HJ4.rd.2.2.cells
              have hb := HJ4.box.cell
              obtain ⟨z0, z1, z2, zf⟩ := HJ4.res.cells
              have HJ4h := Lib.hid HJ4
              rcases hor with ⟨h1, h2, rfl⟩ | ⟨h1, n, N, rfl⟩
              · have he : numRd l = .ok (.num (digVal (numOf l))) (l.drop (numOf l).length) := by
                  unfold numRd
                  rw [if_neg (by rintro (h | h); exact h1 h; omega)]
                obtain ⟨hr, hz3⟩ := HRR.out w4 hb4 he
                have HRF := Lib.hid hr
                obtain ⟨q0, q1, q2, qf⟩ := (pass_var (x := .int .u8 48) (y := .int .i64 (digVal (numOf l) : Int)) (z := .slice none 0 0) hz3).cells
                simp only [tset] at q0 q1 q2
                rw [hll] at c1
                clear hr hz3 he h1 h2 HJ4 hb4 HRR
                go_wp2_with fail
                refine ⟨rfl, .agg (trA 48 (digVal (numOf l) : Int) none 0), ?_, HRF.out⟩
                simp only [results, Tryz.results177]
                simp [go_sem, q0, q1, q2, trA]
              · have he : r0 = .bad l.length 2 := by
                  rw [HE0.out]
                  unfold numRd
                  rw [if_pos h1]
                subst he
                rw [hll] at c1
                clear h1 HJ4 HRR
                go_wp2_with fail
                rw [← hll]
                refine (fail_ok R (s.size - l.length) 2 w4).mono ?_
                rintro e w5 ⟨rfl, rfl⟩
                exact ⟨rfl, rfl, ⟨_, HJ4h.out.rd.2.2⟩, HJ4h.out.frm⟩
            · have hx48 : ((x.toNat : Int) == 48) = false := beq_eq_false_iff_ne.2 fun e => h48 (UInt8.toNat_inj.1 (by show x.toNat = 48; omega))
              have hnum : numOf l = digsOf l := by unfold numOf; rw [hxy]; simp [h48]
              have HNDIG : Hid (∀ c ∈ numOf l, isDig c = true) := by
                show ∀ c ∈ numOf l, _
                rw [hnum]; exact HDIG.out
              have hnl : (numOf l).length = k := by rw [hnum]; exact HK.out.symm
              have hvl : dd.data.toList = numOf l := by rw [hnum]; exact HDL.out
              clear hxy hnum
              have HRR : Hid (∀ w4, Below w3.heap.size w3 w4 → numRd l = .ok (.num (digVal (numOf l))) (l.drop (numOf l).length) → Reads_ R s d w r0 (.returned (.agg (trA 48 (digVal (numOf l) : Int) none 0))) (tset (w4.setCell ⟨R, 1, none⟩ (.int .i64 (((s.size - (k + u8.size) : Nat) : Int) + (k : Int)))) (w.heap.size + 1) (.int .u8 48) (.int .i64 (digVal (numOf l) : Int)) (.slice none 0 0)) ∧ TVar (w4.setCell ⟨R, 1, none⟩ (.int .i64 (((s.size - (k + u8.size) : Nat) : Int) + (k : Int)))) (w.heap.size + 1) (.int .u8 0) (.int .i64 0) (.slice none 0 0)) := fun w4 hb4 he => by
                have HJ4 : OneInv R s l d w w4 := HJ3.out.on hRw (HJ3.out.rd.keep (hb4.block _ HJ3.out.rd.lt)) (Frm.ofBelow hb4)
                have h1 := HJ4.rd.2.2.moved (s.size - l.length + k)
                have e2 : (((s.size - (k + u8.size) : Nat) : Int) + (k : Int)) = ((s.size - l.length + k : Nat) : Int) := by rw [hll]; omega
                have h2 : RdL (w4.setCell ⟨R, 1, none⟩ (.int .i64 (((s.size - (k + u8.size) : Nat) : Int) + (k : Int)))) R s (l.drop k) d := by
                  rw [e2]; exact HJ4.rd.on (n := k) (by rw [List.length_drop]; omega) rfl h1
                refine ⟨?_, (Below.heap_setCell _ _ _ _ (by simp; omega)).trans HJ4.res⟩
                rw [HE0.out, he, hnl]
                refine pass_ok (F := fun _ => False) ?_ (fun j hj => hj.elim) h2 (HJ4.frm.setCell (p := ⟨R, 1, none⟩) (.inl rfl) _) (by omega) (by omega)
                exact rfl
              have HVL := Lib.hid hvl
              clear hvl hnl
              go_wp2_with fail
              refine (atoi_num R dd (numOf l) HVL.out w3 HNDIG.out (by omega) (hnv.frm HJ3.out.frm)).mono ?_
              rintro e w4 ⟨hb4, hor⟩
              have HJ4 : OneInv R s l d w w4 := HJ3.out.on hRw (HJ3.out.rd.keep (hb4.block _ HJ3.out.rd.lt)) (Frm.ofBelow hb4)
              obtain ⟨c0, c1, c2, cf⟩ := HJ4.rd.2.2.cells
              have hb := HJ4.box.cell
              obtain ⟨z0, z1, z2, zf⟩ := HJ4.res.cells
              have HJ4h := Lib.hid HJ4
              rcases hor with ⟨h1, h2, rfl⟩ | ⟨h1, n, N, rfl⟩
              · have he : numRd l = .ok (.num (digVal (numOf l))) (l.drop (numOf l).length) := by
                  unfold numRd
                  rw [if_neg (by rintro (h | h); exact h1 h; omega)]
                obtain ⟨hr, hz3⟩ := HRR.out w4 hb4 he
                have HRF := Lib.hid hr
                obtain ⟨q0, q1, q2, qf⟩ := (pass_var (x := .int .u8 48) (y := .int .i64 (digVal (numOf l) : Int)) (z := .slice none 0 0) hz3).cells
                simp only [tset] at q0 q1 q2
                rw [hll] at c1
                clear hr hz3 he h1 h2 HJ4 hb4 HRR
                go_wp2_with fail
                refine ⟨rfl, .agg (trA 48 (digVal (numOf l) : Int) none 0), ?_, HRF.out⟩
                simp only [results, Tryz.results177]
                simp [go_sem, q0, q1, q2, trA]
              · have he : r0 = .bad l.length 2 := by
                  rw [HE0.out]
                  unfold numRd
                  rw [if_pos h1]
                subst he
                rw [hll] at c1
                clear h1 HJ4 HRR
                go_wp2_with fail
                rw [← hll]
                refine (fail_ok R (s.size - l.length) 2 w4).mono ?_
                rintro e w5 ⟨rfl, rfl⟩
                exact ⟨rfl, rfl, ⟨_, HJ4h.out.rd.2.2⟩, HJ4h.out.frm⟩
          · have hd1 : decide ((1 : Int) < (k : Int)) = false := decide_eq_false (by omega)
            have hnum : numOf l = digsOf l := by
              unfold numOf
              split
              · rename_i c d r e
                have := HK.out
                rw [e] at this; simp at this; omega
              · rfl
            have HNDIG : Hid (∀ c ∈ numOf l, isDig c = true) := by
              show ∀ c ∈ numOf l, _
              rw [hnum]; exact HDIG.out
            have hnl : (numOf l).length = k := by rw [hnum]; exact HK.out.symm
            have hvl : dd.data.toList = numOf l := by rw [hnum]; exact HDL.out
            clear hnum
            have HRR : Hid (∀ w4, Below w3.heap.size w3 w4 → numRd l = .ok (.num (digVal (numOf l))) (l.drop (numOf l).length) → Reads_ R s d w r0 (.returned (.agg (trA 48 (digVal (numOf l) : Int) none 0))) (tset (w4.setCell ⟨R, 1, none⟩ (.int .i64 (((s.size - (k + u8.size) : Nat) : Int) + (k : Int)))) (w.heap.size + 1) (.int .u8 48) (.int .i64 (digVal (numOf l) : Int)) (.slice none 0 0)) ∧ TVar (w4.setCell ⟨R, 1, none⟩ (.int .i64 (((s.size - (k + u8.size) : Nat) : Int) + (k : Int)))) (w.heap.size + 1) (.int .u8 0) (.int .i64 0) (.slice none 0 0)) := fun w4 hb4 he => by
              have HJ4 : OneInv R s l d w w4 := HJ3.out.on hRw (HJ3.out.rd.keep (hb4.block _ HJ3.out.rd.lt)) (Frm.ofBelow hb4)
              have h1 := HJ4.rd.2.2.moved (s.size - l.length + k)
              have e2 : (((s.size - (k + u8.size) : Nat) : Int) + (k : Int)) = ((s.size - l.length + k : Nat) : Int) := by rw [hll]; omega
              have h2 : RdL (w4.setCell ⟨R, 1, none⟩ (.int .i64 (((s.size - (k + u8.size) : Nat) : Int) + (k : Int)))) R s (l.drop k) d := by
                rw [e2]; exact HJ4.rd.on (n := k) (by rw [List.length_drop]; omega) rfl h1
              refine ⟨?_, (Below.heap_setCell _ _ _ _ (by simp; omega)).trans HJ4.res⟩
              rw [HE0.out, he, hnl]
              refine pass_ok (F := fun _ => False) ?_ (fun j hj => hj.elim) h2 (HJ4.frm.setCell (p := ⟨R, 1, none⟩) (.inl rfl) _) (by omega) (by omega)
              exact rfl
            have HVL := Lib.hid hvl
            clear hvl hnl
            go_wp2_with fail
            refine (atoi_num R dd (numOf l) HVL.out w3 HNDIG.out (by omega) (hnv.frm HJ3.out.frm)).mono ?_
            rintro e w4 ⟨hb4, hor⟩
            have HJ4 : OneInv R s l d w w4 := HJ3.out.on hRw (HJ3.out.rd.keep (hb4.block _ HJ3.out.rd.lt)) (Frm.ofBelow hb4)
            obtain ⟨c0, c1, c2, cf⟩ := HJ4.rd.2.2.cells
            have hb := HJ4.box.cell
            obtain ⟨z0, z1, z2, zf⟩ := HJ4.res.cells
            have HJ4h := Lib.hid HJ4
            rcases hor with ⟨h1, h2, rfl⟩ | ⟨h1, n, N, rfl⟩
            · have he : numRd l = .ok (.num (digVal (numOf l))) (l.drop (numOf l).length) := by
                unfold numRd
                rw [if_neg (by rintro (h | h); exact h1 h; omega)]
              obtain ⟨hr, hz3⟩ := HRR.out w4 hb4 he
              have HRF := Lib.hid hr
              obtain ⟨q0, q1, q2, qf⟩ := (pass_var (x := .int .u8 48) (y := .int .i64 (digVal (numOf l) : Int)) (z := .slice none 0 0) hz3).cells
              simp only [tset] at q0 q1 q2
              rw [hll] at c1
              clear hr hz3 he h1 h2 HJ4 hb4 HRR
              go_wp2_with fail
              refine ⟨rfl, .agg (trA 48 (digVal (numOf l) : Int) none 0), ?_, HRF.out⟩
              simp only [results, Tryz.results177]
              simp [go_sem, q0, q1, q2, trA]
            · have he : r0 = .bad l.length 2 := by
                rw [HE0.out]
                unfold numRd
                rw [if_pos h1]
              subst he
              rw [hll] at c1
              clear h1 HJ4 HRR
              go_wp2_with fail
              rw [← hll]
              refine (fail_ok R (s.size - l.length) 2 w4).mono ?_
              rintro e w5 ⟨rfl, rfl⟩
              exact ⟨rfl, rfl, ⟨_, HJ4h.out.rd.2.2⟩, HJ4h.out.frm⟩
end Go.Proofs.YtfndhfekbbbliaaGreatDoor

/-
  Package expr: the contract of row, whatever reads its operands. Conditions: the text takes at most 120 bytes, the depth is at most 20.
-/
namespace Go.Proofs.YtfndhfekbbbliaaGreatDoor
open Go.RowKit Go.Shelf
set_option linter.unusedVariables false

/-- A function value that reads as X does, where R's own place is kept. -/
def Nexts (K : Nat) (args : Array Value) (X : List UInt8 → Rd) (R : Nat) (s : ByteArray) (d m : Nat) (w : World) : Prop := ∀ (l : List UInt8) (W : World), RdL W R s l d → Frm (· = R) w W → l.length ≤ m → Calls Tryz.prog K args W (Reads_ R s d W (X l))
theorem index_mem (ops : List UInt8) (c : UInt8) : (c ∈ ops → 0 ≤ Lib.indexByte ops c) ∧ (c ∉ ops → Lib.indexByte ops c = -1) := by
  induction ops with
  | nil => exact ⟨nofun, fun _ => rfl⟩
  | cons b l ih =>
    unfold Lib.indexByte
    by_cases e : b = c
    · subst e
      exact ⟨fun _ => by simp, fun h => absurd List.mem_cons_self h⟩
    · have e1 : (b == c) = false := beq_eq_false_iff_ne.2 e
      rw [e1]
      refine ⟨fun h => ?_, fun h => ?_⟩
      · have h2 : c ∈ l := by
          rcases List.mem_cons.1 h with h | h
          · exact absurd h.symm e
          · exact h
        have := ih.1 h2
        have e2 : (Lib.indexByte l c == -1) = false := beq_eq_false_iff_ne.2 (by omega)
        simp only [e2, Bool.false_eq_true, if_false]; omega
      · have := ih.2 fun hl => h (List.mem_cons_of_mem _ hl)
        rw [this]; rfl
theorem indexb_ok (ops : ByteArray) (c : UInt8) (w : World) : Calls Tryz.prog 105 #[.string ops, .int .u8 (c.toNat : Int)] w fun e w' => e = .returned (.int .i64 (Lib.indexByte ops.data.toList c)) ∧ w' = w := by
  have := Any.strings_IndexByte Tryz.indexb ops (c.toNat : Int) w
  rw [show (c.toNat : Int).toNat.toUInt8 = c from by simp] at this
  exact this
def posOf (R : Nat) (w : World) : Nat := match w.cell? ⟨R, 1, none⟩ with
  | some (.int _ n) => n.toNat
  | _ => 0
theorem posOf_rd {w : World} {R d : Nat} {s : ByteArray} {l : List UInt8} (h : RdL w R s l d) : posOf R w = s.size - l.length := by
  unfold posOf; rw [h.2.2.cells.2.1]; simp
/-- A row under way: what follows of it, and the tree so far, in a variable. -/
structure RowInv (R : Nat) (s : ByteArray) (d m : Nat) (w : World) (ga : Nat) (X : List UInt8 → Rd) (ops : List UInt8) (r0 : Rd) (a : Tr) (l : List UInt8) (o n : Int) (A : Option Addr) (c : Nat) (wx : World) : Prop where
  rd : RdL wx R s l d
  var : TVar wx ga (.int .u8 o) (.int .i64 n) (.slice A c c)
  res : TVar wx w.heap.size (.int .u8 0) (.int .i64 0) (.slice none 0 0)
  tree : TrC (fun j => w.heap.size < j ∧ j ≠ ga) wx a (trL o n A c)
  frm : Frm (· = R) w wx
  out : ∃ k, l.length ≤ k ∧ r0 = loopRd X ops k a l
  le : l.length ≤ m
set_option maxRecDepth 100000 in
set_option maxHeartbeats 8000000 in
theorem row_reads (R K : Nat) (s : ByteArray) (first cap : Array Value) (ops : ByteArray) (X : List UInt8 → Rd) (l : List UInt8) (d m : Nat) (w : World) (h : RdL w R s l d) (hs : s.size ≤ 120) (hd : d ≤ 20) (hm : l.length ≤ m)
    (hK : ∀ args w, (callFunc K args).run Tryz.prog w = .ok (.enter K args) w) (hS : Short X) (hX : Nexts K (first ++ cap) X R s d m w) (h0 : (0 : UInt8) ∉ ops.data.toList) :
    Calls Tryz.prog 139 #[.pointer (some ⟨R, 0, none⟩), .string ops, .func (.func K) first cap] w (Reads_ R s d w (rowRd X ops.data.toList l)) := by
  obtain ⟨r1, hr1⟩ : ∃ r1, r1 = X l := ⟨_, rfl⟩
  obtain ⟨r0, hr0⟩ : ∃ r0, r0 = rowRd X ops.data.toList l := ⟨_, rfl⟩
  have e0 : r0 = r1.bind fun a l1 => loopRd X ops.data.toList l1.length a l1 := by rw [hr0, hr1]; rfl
  rw [← hr0]
  have HR1 := Lib.hid hr1
  have HR0 := Lib.hid e0
  have HH := Lib.hid h
  have HX := Lib.hid hX
  have HS := Lib.hid hS
  have hlt := h.lt
  have HLT := Lib.hid hlt
  clear hr0 hr1 e0 hX hS
  go_enter Tryz.func139, Tryz.ntmps139
  go_wp2_with fail
  have HH1 : Hid (RdL (w.alloc (.cells #[.int .u8 0, .int .i64 0, .slice none 0 0] 86)) R s l d) := HH.out.keep (heap_alloc_old _ _ hlt)
  have HF1 : Hid (Frm (· = R) w (w.alloc (.cells #[.int .u8 0, .int .i64 0, .slice none 0 0] 86))) := (Frm.refl _ _).alloc _
  have HV1 : Hid (TVar (w.alloc (.cells #[.int .u8 0, .int .i64 0, .slice none 0 0] 86)) w.heap.size (.int .u8 0) (.int .i64 0) (.slice none 0 0)) := TVar.new _ _ _ _
  clear h hlt
  have hcall := HX.out l _ HH1.out HF1.out hm
  rw [← HR1.out] at hcall
  refine hcall.mono ?_
  clear hcall
  intro e w2 hr
  cases r1 with
  | bad k j =>
    obtain ⟨rfl, hp, hf⟩ := hr
    have e0 : r0 = .bad k j := HR0.out
    clear HR0
    subst e0
    exact ⟨rfl, rfl, hp, frm_trans HF1.out hf⟩
  | ok a0 l1 =>
    obtain ⟨o0, n0, A0, c0, rfl, ht, hl, hf⟩ := hr
    have HI : Hid (RowInv R s d m w w2.heap.size X ops.data.toList r0 a0 l1 o0 n0 A0 c0 (w2.alloc (.cells #[.int .u8 o0, .int .i64 n0, .slice A0 c0 c0] 86))) := by
      have hx := HLT.out
      have hv2 : w.heap.size < w2.heap.size := block_lt (HV1.out.frm hf (by omega))
      refine ⟨hl.keep (heap_alloc_old _ _ hl.lt), TVar.new _ _ _ _, (heap_alloc_old _ _ hv2).trans (HV1.out.frm hf (by omega)), ?_, (frm_trans HF1.out hf).alloc _, ⟨_, Nat.le_refl _, HR0.out⟩, ?_⟩
      · have h1 : TrC (fun j => w.heap.size < j ∧ j < w2.heap.size) w2 a0 (trL o0 n0 A0 c0) := ht.in_ fun j hj hj2 => ⟨by simp at hj; omega, hj2⟩
        exact (h1.keep fun j hj => heap_alloc_old _ _ hj.2).in_ fun j hj _ => ⟨hj.1, by omega⟩
      · have := HS.out l a0 l1 HR1.out.symm
        omega
    have HGA : Hid (w.heap.size < w2.heap.size) := block_lt (HV1.out.frm hf (by have := HLT.out; omega))
    clear ht hl hf HH1 HF1 HV1 HH HR0 HR1
    simp only [trA]
    go_wp2_with fail
    refine (peekL R s l1 d _ HI.out.rd).mono ?_
    rintro e w3 ⟨rfl, q, rfl⟩
    obtain ⟨wl, hwl⟩ : ∃ wl, wl = (w2.alloc (.cells #[.int .u8 o0, .int .i64 n0, .slice A0 c0 c0] 86)).drewN q := ⟨_, rfl⟩
    have HI3 : Hid (RowInv R s d m w w2.heap.size X ops.data.toList r0 a0 l1 o0 n0 A0 c0 wl) := by
      rw [hwl]
      exact ⟨HI.out.rd.keep rfl, HI.out.var, HI.out.res, HI.out.tree.keep fun _ _ => rfl, HI.out.frm.drewN q, HI.out.out, HI.out.le⟩
    obtain ⟨ga, hga⟩ : ∃ ga, ga = w2.heap.size := ⟨_, rfl⟩
    rw [← hga] at HI3 HGA ⊢
    rw [← hwl]
    clear hwl HI hga
    go_wp2_with fail
    go_loopw [8] (fun cv wx => ∃ a l2 o n A c, cv = .int .u8 (headB l2) ∧ Hid (RowInv R s d m w ga X ops.data.toList r0 a l2 o n A c wx)) (fun _ wx => s.size - posOf R wx)
    case atStart => exact ⟨a0, l1, o0, n0, A0, c0, rfl, HI3.out⟩
    case round =>
      obtain ⟨a, l2, o, n, A, c, rfl, HJ⟩ := hrel
      obtain ⟨v0, v1, v2, vf⟩ := HJ.out.var.cells
      obtain ⟨z0, z1, z2, zf⟩ := HJ.out.res.cells
      obtain ⟨c0, c1, c2, cf⟩ := HJ.out.rd.2.2.cells
      obtain ⟨q0, q1, q2, qf⟩ := (pass_var (x := .int .u8 o) (y := .int .i64 n) (z := .slice A c c) HJ.out.res).cells
      simp only [tset] at q0 q1 q2
      have HEX : Hid (r0 = .ok a l2 → Reads_ R s d w r0 (.returned (.agg (trA o n A c))) (tset wr w.heap.size (.int .u8 o) (.int .i64 n) (.slice A c c))) := fun e => by
        subst e
        exact pass_ok HJ.out.tree (fun j hj => by omega) HJ.out.rd HJ.out.frm (by have := HLT.out; omega) (Nat.le_refl _)
      have HST : Hid ((∀ x r, l2 = x :: r → x ∉ ops.data.toList) → r0 = .ok a l2) := fun hx => by
        obtain ⟨k, hk, e⟩ := HJ.out.out
        rw [e]; exact loop_stop hx _ _
      cases l2 with
      | nil =>
        have hr := HEX.out (HST.out nofun)
        have eh : headB [] = 0 := rfl
        rw [eh]
        go_wp2_with fail
        refine ⟨rfl, .agg (trA o n A c), ?_, hr⟩
        simp only [results, Tryz.results139]
        simp [go_sem, q0, q1, q2, trA]
      | cons x r =>
        have eh : headB (x :: r) = (x.toNat : Int) := rfl
        rw [eh]
        by_cases hx0 : x = 0
        · subst hx0
          have hr := HEX.out (HST.out fun x r e => by injection e with e _; subst e; exact h0)
          rw [show ((0 : UInt8).toNat : Int) = 0 from rfl]
          go_wp2_with fail
          refine ⟨rfl, .agg (trA o n A c), ?_, hr⟩
          simp only [results, Tryz.results139]
          simp [go_sem, q0, q1, q2, trA]
        · have hne : ¬ x.toNat = 0 := fun e => hx0 (UInt8.toNat_inj.1 e)
          by_cases hxm : x ∈ ops.data.toList
          · have hi := (index_mem ops.data.toList x).1 hxm
            have hd0 : decide (0 ≤ Lib.indexByte ops.data.toList x) = true := decide_eq_true hi
            go_wp2_with fail
            refine (indexb_ok ops x wr).mono ?_
            rintro e w4 ⟨rfl, rfl⟩
            go_wp2_with fail
            obtain ⟨w5, hw5⟩ : ∃ w5, w5 = w4.setCell ⟨R, 1, none⟩ (.int .i64 (((s.size - (r.length + 1) : Nat) : Int) + 1)) := ⟨_, rfl⟩
            have HL5 : Hid (RdL w5 R s r d) := by
              have h1 := HJ.out.rd.2.2.moved (s.size - (r.length + 1) + 1)
              have e2 : (((s.size - (r.length + 1) : Nat) : Int) + 1) = ((s.size - (r.length + 1) + 1 : Nat) : Int) := by omega
              rw [hw5, e2]
              exact HJ.out.rd.on (n := 1) (by simp only [List.length_cons]; omega) rfl h1
            have hpos : posOf R w4 = s.size - (r.length + 1) := by have := posOf_rd HJ.out.rd; simpa using this
            have hrs : r.length + 1 ≤ s.size := by have := HJ.out.rd.1; simpa using this
            have hgR : ga ≠ R := by have := HLT.out; have := HGA.out; omega
            have h5o : ∀ j, j ≠ R → w5.heap[j]? = w4.heap[j]? := fun j hj => by rw [hw5]; exact Below.heap_setCell _ _ _ _ (by simpa using hj)
            have HV5 : Hid (TVar w5 ga (.int .u8 o) (.int .i64 n) (.slice A c c)) := (h5o ga hgR).trans HJ.out.var
            have HZ5 : Hid (TVar w5 w.heap.size (.int .u8 0) (.int .i64 0) (.slice none 0 0)) := (h5o _ (by have := HLT.out; omega)).trans HJ.out.res
            have HT5 : Hid (TrC (fun j => w.heap.size < j ∧ j ≠ ga) w5 a (trL o n A c)) := HJ.out.tree.keep fun j hj => h5o j (by have := HLT.out; have := hj.1; omega)
            have HF5 : Hid (Frm (· = R) w w5) := by rw [hw5]; exact HJ.out.frm.setCell (p := ⟨R, 1, none⟩) (.inl rfl) _
            obtain ⟨rn, hrn⟩ : ∃ rn, rn = X r := ⟨_, rfl⟩
            have HO5 : Hid (∃ k, r.length ≤ k ∧ r0 = rn.bind fun b l1 => loopRd X ops.data.toList k (.bin x a b) l1) := by
              obtain ⟨k, hk, e⟩ := HJ.out.out
              obtain ⟨k2, rfl⟩ : ∃ k2, k = k2 + 1 := ⟨k - 1, by simp only [List.length_cons] at hk; omega⟩
              refine ⟨k2, by simp only [List.length_cons] at hk; omega, ?_⟩
              rw [e, hrn]; simp only [loopRd, if_pos hxm]
            have HNX : Hid (∀ W, RdL W R s r d → Frm (· = R) w W → Calls Tryz.prog K (first ++ cap) W (Reads_ R s d W rn)) := fun W h1 h2 => by
              rw [hrn]; exact HX.out r W h1 h2 (by have := HJ.out.le; simp only [List.length_cons] at this; omega)
            have HRN := Lib.hid hrn
            have HM5 : Hid (r.length < m) := by have := HJ.out.le; simp only [List.length_cons] at this; exact this
            obtain ⟨v0, v1, v2, vf⟩ := HV5.out.cells
            rw [← hw5]
            clear hw5 h5o hrn HJ HEX HST z0 z1 z2 zf c0 c1 c2 cf q0 q1 q2 qf hi hxm hx0
            cases rn with
            | bad k j =>
              have e0 : r0 = .bad k j := by obtain ⟨_, _, e⟩ := HO5.out; exact e
              subst e0
              have HC5 : Hid (Calls Tryz.prog K (first ++ cap) w5.drew fun e w7 => e = faultE (s.size - k) j ∧ (∃ p, RdAt w7 R s p d) ∧ Frm (· = R) w w7) := by
                refine (HNX.out w5.drew (HL5.out.keep rfl) HF5.out.drew).mono ?_
                rintro e w7 ⟨h1, h2, h3⟩
                exact ⟨h1, h2, frm_trans HF5.out.drew h3⟩
              clear HNX HX
              go_region_dies
              all_goals
                refine HC5.out.mono ?_
                rintro e w7 ⟨rfl, hp, hf⟩
                exact ⟨rfl, rfl, hp, hf⟩
            | ok b l3 =>
              have HC5 : Hid (Calls Tryz.prog K (first ++ cap) w5.drew fun e w7 => ∃ o7 n7 A7 c7, e = .returned (.agg #[.int .u8 o7, .int .i64 n7, .slice A7 c7 c7]) ∧ Hid (TrC (w5.heap.size ≤ ·) w7 b (trL o7 n7 A7 c7)) ∧ Hid (RdL w7 R s l3 d) ∧ Hid (Frm (· = R) w5 w7) ∧ Hid (TVar w7 ga (.int .u8 o) (.int .i64 n) (.slice A c c)) ∧
                  w7.cell? ⟨ga, 0, none⟩ = some (.int .u8 o) ∧ w7.cell? ⟨ga, 1, none⟩ = some (.int .i64 n) ∧ w7.cell? ⟨ga, 2, none⟩ = some (.slice A c c) ∧ (∀ ob, (w7.alloc ob).cell? ⟨ga, 0, none⟩ = some (.int .u8 o)) ∧ (∀ ob, (w7.alloc ob).cell? ⟨ga, 1, none⟩ = some (.int .i64 n)) ∧ (∀ ob, (w7.alloc ob).cell? ⟨ga, 2, none⟩ = some (.slice A c c)) ∧ (∀ ob i, (w7.alloc ob).frozen? ⟨ga, i, none⟩ = false)) := by
                refine (HNX.out w5.drew (HL5.out.keep rfl) HF5.out.drew).mono ?_
                intro e w7 hr
                obtain ⟨o7, n7, A7, c7, rfl, ht, hl, hf⟩ := hr
                have hf2 : Frm (· = R) w5 w7 := frm_trans ((Frm.refl _ _).drew) hf
                have hv := HV5.out.frm hf2 (by have := HLT.out; have := HGA.out; omega)
                exact ⟨o7, n7, A7, c7, rfl, ht, hl, hf2, hv, hv.cells.1, hv.cells.2.1, hv.cells.2.2.1, hv.allocs.1, hv.allocs.2.1, hv.allocs.2.2.1, hv.allocs.2.2.2⟩
              clear HNX HX
              go_region_with (refine HC5.out.mono ?_; rintro e w7 ⟨o7, n7, A7, c7, rfl, HT7, HL7, HF7, HV7, y0, y1, y2, a0, a1, a2, af⟩)
              all_goals
                obtain ⟨W8, hW8⟩ : ∃ W8, W8 = tset (w7.alloc (.cells #[.int .u8 o, .int .i64 n, .slice A c c, .int .u8 o7, .int .i64 n7, .slice A7 c7 c7] 86)) ga (.int .u8 (x.toNat : Int)) (.int .i64 0) (.slice (some ⟨w7.heap.size, 0, none⟩) 2 2) := ⟨_, rfl⟩
                have hg7 : ga < w7.heap.size := block_lt HV7.out
                have h57 : w5.heap.size ≤ w7.heap.size := HF7.out.size
                have h5g : ga < w5.heap.size := block_lt HV5.out
                have h5z : w.heap.size < w5.heap.size := block_lt HZ5.out
                have hRg : R < ga := by have := HLT.out; have := HGA.out; omega
                have hRw := HLT.out
                have hwg := HGA.out
                have HI8 : Hid (RowInv R s d m w ga X ops.data.toList r0 (.bin x a b) l3 (x.toNat : Int) 0 (some ⟨w7.heap.size, 0, none⟩) 2 W8) := by
                  have hz7 : TVar w7 w.heap.size (.int .u8 0) (.int .i64 0) (.slice none 0 0) := HZ5.out.frm HF7.out (by omega)
                  obtain ⟨k, hk, e⟩ := HO5.out
                  have hl3 := HS.out r b l3 HRN.out.symm
                  have hm5 := HM5.out
                  rw [hW8]
                  refine ⟨four_rd HL7.out (by omega), four_var HV7.out, (four_far (block_lt hz7) (by omega)).trans hz7, ?_, four_frm (frm_trans HF5.out HF7.out) (by omega), ⟨k, by omega, e⟩, by omega⟩
                  refine ⟨w7.heap.size, trL o n A c, trL o7 n7 A7 c7, rfl, ⟨⟨by omega, by omega⟩, four_new hg7⟩, ?_, ?_⟩
                  · have h1 : TrC (fun j => (w.heap.size < j ∧ j ≠ ga) ∧ j < w5.heap.size) w5 a (trL o n A c) := HT5.out.in_ fun j h1 h2 => ⟨h1, h2⟩
                    have h2 : TrC (fun j => (w.heap.size < j ∧ j ≠ ga) ∧ j < w5.heap.size) w7 a (trL o n A c) := h1.keep fun j hj => HF7.out.block j hj.2 (by omega)
                    exact (h2.keep fun j hj => four_far (by omega) hj.1.2).in_ fun j hj _ => hj.1
                  · have h1 : TrC (fun j => w5.heap.size ≤ j ∧ j < w7.heap.size) w7 b (trL o7 n7 A7 c7) := HT7.out.in_ fun j h1 h2 => ⟨h1, h2⟩
                    exact (h1.keep fun j hj => four_far hj.2 (by omega)).in_ fun j hj _ => ⟨by omega, by omega⟩
                simp only [tset] at hW8
                rw [← hW8]
                clear hW8 HT7 HL7 HF7 HV7 y0 y1 y2 a0 a1 a2 af HT5 HL5 HF5 HV5 HZ5 v0 v1 v2 vf HC5 HO5
                go_wp2_with fail
                refine (peekL R s l3 d _ HI8.out.rd).mono ?_
                rintro e w9 ⟨rfl, q, rfl⟩
                go_wp2_with fail
                have hp8 : posOf R (W8.drewN q) = s.size - l3.length := posOf_rd (HI8.out.rd.keep rfl)
                have hl3 := HS.out r b l3 HRN.out.symm
                have hll := HI8.out.rd.1
                rw [hpos, hp8]
                refine ⟨⟨_, l3, _, _, _, _, rfl, ⟨HI8.out.rd.keep rfl, HI8.out.var, HI8.out.res, HI8.out.tree.keep fun _ _ => rfl, HI8.out.frm.drewN q, HI8.out.out, HI8.out.le⟩⟩, ?_⟩
                omega
          · have hi := (index_mem ops.data.toList x).2 hxm
            have hr := HEX.out (HST.out fun x' r' e => by injection e with e _; subst e; exact hxm)
            go_wp2_with fail
            refine (indexb_ok ops x wr).mono ?_
            rintro e w4 ⟨rfl, rfl⟩
            rw [hi]
            go_wp2_with fail
            refine ⟨rfl, .agg (trA o n A c), ?_, hr⟩
            simp only [results, Tryz.results139]
            simp [go_sem, q0, q1, q2, trA]
end Go.Proofs.YtfndhfekbbbliaaGreatDoor

/-
  Package expr: the contracts of compared and of its closures. Conditions: the text takes at most 120 bytes, the depth is at most 20.
-/
namespace Go.Proofs.YtfndhfekbbbliaaGreatDoor
open Go.RowKit Go.Shelf
set_option linter.unusedVariables false

/-- The variable of a reader, in block B. -/
def RBox (w : World) (B R : Nat) : Prop := w.heap[B]? = some (.cells #[.pointer (some ⟨R, 0, none⟩)] 149 (0, 0))
theorem RBox.cell {w : World} {B R : Nat} (h : RBox w B R) : w.cell? ⟨B, 0, none⟩ = some (.pointer (some ⟨R, 0, none⟩)) := (cell_of_row w B 0 _ _ _ h).trans rfl
theorem RBox.frm {w w' : World} {B R : Nat} (h : RBox w B R) (hF : Frm (· = R) w w') (hB : B ≠ R) : RBox w' B R := (hF.block B (block_lt h) hB).trans h
set_option maxRecDepth 100000 in
set_option maxHeartbeats 4000000 in
theorem cmp1_reads {W : Reads} {m : Nat} (hW : ∀ d, Short (W d)) (hless : ReadsAs 141 (lessRd W) m) (R B : Nat) (s : ByteArray) (l : List UInt8) (d : Nat) (w : World) (hB : RBox w B R) (hBR : B ≠ R) (h : RdL w R s l d) (hs : s.size ≤ 120) (hd : d ≤ 20) (hm : l.length ≤ m) (hnv : NumVars w R) :
    Calls Tryz.prog 140 #[.pointer (some ⟨B, 0, none⟩)] w (Reads_ R s d w (mulRd W d l)) := by
  obtain ⟨r0, hr0⟩ : ∃ r0, r0 = mulRd W d l := ⟨_, rfl⟩
  have HR0 := Lib.hid hr0
  rw [← hr0]
  have hmf : ∀ (fn : Fn) (first cap : Array Value) (w : World), (Instr.makeFunc fn first cap).run Tryz.prog w = .ok (.func fn first cap) w := fun _ _ _ _ => rfl
  have HH := Lib.hid h
  have HB := Lib.hid hB
  have hb0 : ∀ ob, (w.alloc ob).cell? ⟨B, 0, none⟩ = some (.pointer (some ⟨R, 0, none⟩)) := fun ob => RBox.cell ((heap_alloc_old _ _ (block_lt hB)).trans hB)
  have hlt := h.lt
  have HLT := Lib.hid hlt
  have HBL : Hid (B < w.heap.size) := block_lt hB
  clear hr0 h hB
  go_enter Tryz.func140, Tryz.ntmps140
  go_wp2_with fail
  have HH1 : Hid (RdL (w.alloc (.cells #[.int .u8 0, .int .i64 0, .slice none 0 0] 86)) R s l d) := HH.out.keep (heap_alloc_old _ _ hlt)
  have HF1 : Hid (Frm (· = R) w (w.alloc (.cells #[.int .u8 0, .int .i64 0, .slice none 0 0] 86))) := (Frm.refl _ _).alloc _
  have HV1 : Hid (TVar (w.alloc (.cells #[.int .u8 0, .int .i64 0, .slice none 0 0] 86)) w.heap.size (.int .u8 0) (.int .i64 0) (.slice none 0 0)) := TVar.new _ _ _ _
  have hcall := row_reads R 141 s #[.pointer (some ⟨R, 0, none⟩)] #[] ⟨#[42, 47, 37]⟩ (lessRd W d) l d m _ HH1.out hs hd hm (fun _ _ => rfl) (less_short hW d) (fun l W2 h1 h2 h3 => hless R s l d W2 h1 hs hd h3 (hnv.frm (frm_trans HF1.out h2))) (by decide)
  have HC : Hid (Calls Tryz.prog 139 #[.pointer (some ⟨R, 0, none⟩), .string ⟨#[42, 47, 37]⟩, .func (.func 141) #[.pointer (some ⟨R, 0, none⟩)] #[]] (w.alloc (.cells #[.int .u8 0, .int .i64 0, .slice none 0 0] 86)) (Reads_ R s d (w.alloc (.cells #[.int .u8 0, .int .i64 0, .slice none 0 0] 86)) r0)) := by
    rw [HR0.out]; exact hcall
  clear hcall
  refine HC.out.mono ?_
  intro e w3 hr
  clear HR0
  cases r0 with
  | bad k j =>
    obtain ⟨rfl, hp, hf⟩ := hr
    exact ⟨rfl, rfl, hp, frm_trans HF1.out hf⟩
  | ok a l1 =>
    obtain ⟨o, n, A, ca, rfl, ht, hl, hf⟩ := hr
    have HT := Lib.hid ht
    have HL := Lib.hid hl
    have HF3 := Lib.hid (frm_trans HF1.out hf)
    have hV := HV1.out.frm hf (by have := HLT.out; omega)
    have HV3 := Lib.hid hV
    obtain ⟨v0, v1, v2, vf⟩ := hV.cells
    clear ht hl hf hV HV1 HH1 HF1
    simp only [trA]
    go_wp2_with fail
    obtain ⟨q0, q1, q2, qf⟩ := (pass_var (x := .int .u8 o) (y := .int .i64 n) (z := .slice A ca ca) HV3.out).cells
    simp only [tset] at q0 q1 q2
    refine ⟨rfl, .agg (trA o n A ca), ?_, pass_ok HT.out (fun j hj => by simp at hj; omega) HL.out HF3.out (by have := HLT.out; omega) (Nat.le_refl _)⟩
    simp only [results, Tryz.results140]
    simp [go_sem, q0, q1, q2, trA]
set_option maxRecDepth 100000 in
set_option maxHeartbeats 4000000 in
theorem cmp2_reads {W : Reads} {m : Nat} (hW : ∀ d, Short (W d)) (hless : ReadsAs 141 (lessRd W) m) (R B : Nat) (s : ByteArray) (l : List UInt8) (d : Nat) (w : World) (hB : RBox w B R) (hBR : B ≠ R) (h : RdL w R s l d) (hs : s.size ≤ 120) (hd : d ≤ 20) (hm : l.length ≤ m) (hnv : NumVars w R) :
    Calls Tryz.prog 143 #[.pointer (some ⟨B, 0, none⟩)] w (Reads_ R s d w (mulRd W d l)) := by
  obtain ⟨r0, hr0⟩ : ∃ r0, r0 = mulRd W d l := ⟨_, rfl⟩
  have HR0 := Lib.hid hr0
  rw [← hr0]
  have hmf : ∀ (fn : Fn) (first cap : Array Value) (w : World), (Instr.makeFunc fn first cap).run Tryz.prog w = .ok (.func fn first cap) w := fun _ _ _ _ => rfl
  have HH := Lib.hid h
  have HB := Lib.hid hB
  have hb0 : ∀ ob, (w.alloc ob).cell? ⟨B, 0, none⟩ = some (.pointer (some ⟨R, 0, none⟩)) := fun ob => RBox.cell ((heap_alloc_old _ _ (block_lt hB)).trans hB)
  have hlt := h.lt
  have HLT := Lib.hid hlt
  have HBL : Hid (B < w.heap.size) := block_lt hB
  clear hr0 h hB
  go_enter Tryz.func143, Tryz.ntmps143
  go_wp2_with fail
  have HH1 : Hid (RdL (w.alloc (.cells #[.int .u8 0, .int .i64 0, .slice none 0 0] 86)) R s l d) := HH.out.keep (heap_alloc_old _ _ hlt)
  have HF1 : Hid (Frm (· = R) w (w.alloc (.cells #[.int .u8 0, .int .i64 0, .slice none 0 0] 86))) := (Frm.refl _ _).alloc _
  have HV1 : Hid (TVar (w.alloc (.cells #[.int .u8 0, .int .i64 0, .slice none 0 0] 86)) w.heap.size (.int .u8 0) (.int .i64 0) (.slice none 0 0)) := TVar.new _ _ _ _
  have hcall := row_reads R 141 s #[.pointer (some ⟨R, 0, none⟩)] #[] ⟨#[42, 47, 37]⟩ (lessRd W d) l d m _ HH1.out hs hd hm (fun _ _ => rfl) (less_short hW d) (fun l W2 h1 h2 h3 => hless R s l d W2 h1 hs hd h3 (hnv.frm (frm_trans HF1.out h2))) (by decide)
  have HC : Hid (Calls Tryz.prog 139 #[.pointer (some ⟨R, 0, none⟩), .string ⟨#[42, 47, 37]⟩, .func (.func 141) #[.pointer (some ⟨R, 0, none⟩)] #[]] (w.alloc (.cells #[.int .u8 0, .int .i64 0, .slice none 0 0] 86)) (Reads_ R s d (w.alloc (.cells #[.int .u8 0, .int .i64 0, .slice none 0 0] 86)) r0)) := by
    rw [HR0.out]; exact hcall
  clear hcall
  refine HC.out.mono ?_
  intro e w3 hr
  clear HR0
  cases r0 with
  | bad k j =>
    obtain ⟨rfl, hp, hf⟩ := hr
    exact ⟨rfl, rfl, hp, frm_trans HF1.out hf⟩
  | ok a l1 =>
    obtain ⟨o, n, A, ca, rfl, ht, hl, hf⟩ := hr
    have HT := Lib.hid ht
    have HL := Lib.hid hl
    have HF3 := Lib.hid (frm_trans HF1.out hf)
    have hV := HV1.out.frm hf (by have := HLT.out; omega)
    have HV3 := Lib.hid hV
    obtain ⟨v0, v1, v2, vf⟩ := hV.cells
    clear ht hl hf hV HV1 HH1 HF1
    simp only [trA]
    go_wp2_with fail
    obtain ⟨q0, q1, q2, qf⟩ := (pass_var (x := .int .u8 o) (y := .int .i64 n) (z := .slice A ca ca) HV3.out).cells
    simp only [tset] at q0 q1 q2
    refine ⟨rfl, .agg (trA o n A ca), ?_, pass_ok HT.out (fun j hj => by simp at hj; omega) HL.out HF3.out (by have := HLT.out; omega) (Nat.le_refl _)⟩
    simp only [results, Tryz.results143]
    simp [go_sem, q0, q1, q2, trA]
set_option maxRecDepth 100000 in
set_option maxHeartbeats 8000000 in
theorem cmp_reads {W : Reads} {m : Nat} (hW : ∀ d, Short (W d)) (hless : ReadsAs 141 (lessRd W) m) : ReadsAs 116 (cmpRd W) m := by
  intro R s l d w h hs hd hm hnv
  obtain ⟨r1, hr1⟩ : ∃ r1, r1 = addRd W d l := ⟨_, rfl⟩
  obtain ⟨r0, hr0⟩ : ∃ r0, r0 = cmpRd W d l := ⟨_, rfl⟩
  have e0 : r0 = r1.bind (cmpTl W d) := by rw [hr0, hr1]; rfl
  rw [← hr0]
  have hmf : ∀ (fn : Fn) (first cap : Array Value) (w : World), (Instr.makeFunc fn first cap).run Tryz.prog w = .ok (.func fn first cap) w := fun _ _ _ _ => rfl
  have HR1 := Lib.hid hr1
  have HR0 := Lib.hid e0
  have HH := Lib.hid h
  have hlt := h.lt
  have HLT := Lib.hid hlt
  have HLESS := Lib.hid hless
  clear hr0 hr1 e0 h
  go_enter Tryz.func116, Tryz.ntmps116
  go_wp2_with fail
  obtain ⟨W1, hW1⟩ : ∃ W1, W1 = (w.alloc (.cells #[.pointer (some ⟨R, 0, none⟩)] 149)).alloc (.cells #[.int .u8 0, .int .i64 0, .slice none 0 0] 86) := ⟨_, rfl⟩
  have hs1 : W1.heap.size = w.heap.size + 2 := by rw [hW1]; simp
  have HH1 : Hid (RdL W1 R s l d) := by rw [hW1]; exact HH.out.keep ((heap_alloc_old _ _ (by simp; omega)).trans (heap_alloc_old _ _ hlt))
  have HF1 : Hid (Frm (· = R) w W1) := by rw [hW1]; exact ((Frm.refl _ _).alloc _).alloc _
  have HB1 : Hid (RBox W1 w.heap.size R) := by rw [hW1]; exact (heap_alloc_old _ _ (by simp)).trans (heap_alloc_new _ _)
  have HZ1 : Hid (TVar W1 (w.heap.size + 1) (.int .u8 0) (.int .i64 0) (.slice none 0 0)) := by
    show TVar _ _ _ _ _
    rw [hW1]
    have := heap_alloc_new (w.alloc (.cells #[.pointer (some ⟨R, 0, none⟩)] 149)) (.cells #[.int .u8 0, .int .i64 0, .slice none 0 0] 86)
    simpa [TVar] using this
  rw [← hW1]
  have HS1 := Lib.hid hs1
  clear hW1 HH hlt hs1
  have hcall := row_reads R 140 s #[] #[.pointer (some ⟨w.heap.size, 0, none⟩)] ⟨#[43, 45]⟩ (mulRd W d) l d m W1 HH1.out hs hd hm (fun _ _ => rfl) (row_short (less_short hW d) _) (fun l W2 h1 h2 h3 => cmp1_reads hW HLESS.out R w.heap.size s l d W2 (HB1.out.frm h2 (by have := HLT.out; omega)) (by have := HLT.out; omega) h1 hs hd h3 (hnv.frm (frm_trans HF1.out h2))) (by decide)
  have HC : Hid (Calls Tryz.prog 139 #[.pointer (some ⟨R, 0, none⟩), .string ⟨#[43, 45]⟩, .func (.func 140) #[] #[.pointer (some ⟨w.heap.size, 0, none⟩)]] W1 (Reads_ R s d W1 r1)) := by
    rw [HR1.out]; exact hcall
  clear hcall
  refine HC.out.mono ?_
  clear HC
  intro e w2 hr
  cases r1 with
  | bad k j =>
    obtain ⟨rfl, hp, hf⟩ := hr
    have e0 : r0 = .bad k j := HR0.out
    clear HR0
    subst e0
    exact ⟨rfl, rfl, hp, frm_trans HF1.out hf⟩
  | ok a l1 =>
    obtain ⟨o, n, A, c, rfl, ht, hl, hf⟩ := hr
    have e0 : r0 = cmpTl W d a l1 := HR0.out
    have HE0 := Lib.hid e0
    have hRw := HLT.out
    have hs2 := HS1.out
    have hs3 := hf.size
    have HL := Lib.hid hl
    have HB2 := Lib.hid (HB1.out.frm hf (by omega))
    have HZ2 := Lib.hid (HZ1.out.frm hf (by omega))
    have HF2 := Lib.hid (frm_trans HF1.out hf)
    have HT := Lib.hid ht
    have HM : Hid (l1.length < m) := by have := add_short hW d l a l1 HR1.out.symm; show _ < _; omega
    have hb0 : ∀ ob, (w2.alloc ob).cell? ⟨w.heap.size, 0, none⟩ = some (.pointer (some ⟨R, 0, none⟩)) := fun ob => RBox.cell ((heap_alloc_old _ _ (block_lt HB2.out)).trans HB2.out)
    clear ht hl hf HH1 HF1 HB1 HZ1 HS1 HR0 HR1 e0
    simp only [trA]
    go_wp2_with fail
    obtain ⟨ga, hga⟩ : ∃ ga, ga = w2.heap.size := ⟨_, rfl⟩
    obtain ⟨w3, hw3⟩ : ∃ w3, w3 = w2.alloc (.cells #[.int .u8 o, .int .i64 n, .slice A c c] 86) := ⟨_, rfl⟩
    have HL3 : Hid (RdL w3 R s l1 d) := by rw [hw3]; exact HL.out.keep (heap_alloc_old _ _ HL.out.lt)
    have HB3 : Hid (RBox w3 w.heap.size R) := by rw [hw3]; exact (heap_alloc_old _ _ (block_lt HB2.out)).trans HB2.out
    have HZ3 : Hid (TVar w3 (w.heap.size + 1) (.int .u8 0) (.int .i64 0) (.slice none 0 0)) := by rw [hw3]; exact (heap_alloc_old _ _ (block_lt HZ2.out)).trans HZ2.out
    have HV3 : Hid (TVar w3 ga (.int .u8 o) (.int .i64 n) (.slice A c c)) := by rw [hw3, hga]; exact TVar.new _ _ _ _
    have HF3 : Hid (Frm (· = R) w w3) := by rw [hw3]; exact HF2.out.alloc _
    have HT3 : Hid (TrC (fun j => w.heap.size + 2 ≤ j ∧ j < ga) w3 a (trL o n A c)) := by
      have h1 : TrC (fun j => w.heap.size + 2 ≤ j ∧ j < ga) w2 a (trL o n A c) := HT.out.in_ fun j h1 h2 => ⟨by omega, by omega⟩
      rw [hw3]; exact h1.keep fun j hj => heap_alloc_old _ _ (by omega)
    have HG3 : Hid (w.heap.size + 2 ≤ ga) := by rw [hga]; show _ ≤ _; omega
    rw [← hga, ← hw3]
    clear HL HB2 HZ2 HF2 HT hb0 hs2 hs3 hRw hw3 hga
    have hb3 := HB3.out.cell
    go_wp2_with fail
    refine (peekL R s l1 d _ HL3.out).mono ?_
    rintro e w4 ⟨rfl, q, rfl⟩
    have HL4 : Hid (RdL (w3.drewN q) R s l1 d) := HL3.out.keep rfl
    have HB4 : Hid (RBox (w3.drewN q) w.heap.size R) := HB3.out
    have HZ4 : Hid (TVar (w3.drewN q) (w.heap.size + 1) (.int .u8 0) (.int .i64 0) (.slice none 0 0)) := HZ3.out
    have HV4 : Hid (TVar (w3.drewN q) ga (.int .u8 o) (.int .i64 n) (.slice A c c)) := HV3.out
    have HF4 : Hid (Frm (· = R) w (w3.drewN q)) := HF3.out.drewN q
    have HT4 : Hid (TrC (fun j => w.heap.size + 2 ≤ j ∧ j < ga) (w3.drewN q) a (trL o n A c)) := HT3.out.keep fun _ _ => rfl
    generalize w3.drewN q = w4 at *
    clear HL3 HB3 HZ3 HV3 HF3 HT3 hb3
    obtain ⟨v0, v1, v2, vf⟩ := HV4.out.cells
    obtain ⟨z0, z1, z2, zf⟩ := HZ4.out.cells
    obtain ⟨c0, c1, c2, cf⟩ := HL4.out.2.2.cells
    have hb4 := HB4.out.cell
    have HEX : Hid (r0 = .ok a l1 → Reads_ R s d w r0 (.returned (.agg (trA o n A c))) (tset w4 (w.heap.size + 1) (.int .u8 o) (.int .i64 n) (.slice A c c))) := fun e => by
      subst e
      exact pass_ok HT4.out (fun j hj => by omega) HL4.out HF4.out (by have := HLT.out; omega) (by omega)
    obtain ⟨q0, q1, q2, qf⟩ := (pass_var (x := .int .u8 o) (y := .int .i64 n) (z := .slice A c c) HZ4.out).cells
    simp only [tset] at q0 q1 q2
    cases l1 with
    | nil =>
      have hr := HEX.out HE0.out
      have eh : headB [] = 0 := rfl
      rw [eh]
      go_wp2_with fail
      refine ⟨rfl, .agg (trA o n A c), ?_, hr⟩
      simp only [results, Tryz.results116]
      simp [go_sem, q0, q1, q2, trA]
    | cons x r =>
      have eh : headB (x :: r) = (x.toNat : Int) := rfl
      rw [eh]
      by_cases hx : x ∈ ([61, 60, 62] : List UInt8)
      · have hcase : x = 61 ∨ x = 60 ∨ x = 62 := by simpa using hx
        have hE : r0 = (addRd W d r).bind fun b l2 => .ok (.bin x a b) l2 := by
          rw [HE0.out]; simp only [cmpTl, if_pos hx]
        have HE := Lib.hid hE
        have key : ((x.toNat : Int) == 61) = true ∨ (((x.toNat : Int) == 61) = false ∧ ((x.toNat : Int) == 60) = true) ∨ (((x.toNat : Int) == 61) = false ∧ ((x.toNat : Int) == 60) = false ∧ ((x.toNat : Int) == 62) = true) := by
          rcases hcase with e | e | e
          · exact .inl (by rw [e]; rfl)
          · exact .inr (.inl ⟨by rw [e]; rfl, by rw [e]; rfl⟩)
          · exact .inr (.inr ⟨by rw [e]; rfl, by rw [e]; rfl, by rw [e]; rfl⟩)
        clear hE HE0 HEX q0 q1 q2 qf hx hcase
        rcases key with m1 | ⟨m1, m2⟩ | ⟨m1, m2, m3⟩
        all_goals
          go_wp2_with fail
          obtain ⟨w5, hw5⟩ : ∃ w5, w5 = w4.setCell ⟨R, 1, none⟩ (.int .i64 (((s.size - (r.length + 1) : Nat) : Int) + 1)) := ⟨_, rfl⟩
          have hRw := HLT.out
          have hg3 := HG3.out
          have HL5 : Hid (RdL w5 R s r d) := by
            have h1 := HL4.out.2.2.moved (s.size - (r.length + 1) + 1)
            have e2 : (((s.size - (r.length + 1) : Nat) : Int) + 1) = ((s.size - (r.length + 1) + 1 : Nat) : Int) := by omega
            rw [hw5, e2]
            exact HL4.out.on (n := 1) (by simp only [List.length_cons]; omega) rfl h1
          have h5o : ∀ j, j ≠ R → w5.heap[j]? = w4.heap[j]? := fun j hj => by rw [hw5]; exact Below.heap_setCell _ _ _ _ (by simpa using hj)
          have HV5 : Hid (TVar w5 ga (.int .u8 o) (.int .i64 n) (.slice A c c)) := (h5o ga (by omega)).trans HV4.out
          have HZ5 : Hid (TVar w5 (w.heap.size + 1) (.int .u8 0) (.int .i64 0) (.slice none 0 0)) := (h5o _ (by omega)).trans HZ4.out
          have HB5 : Hid (RBox w5 w.heap.size R) := (h5o _ (by omega)).trans HB4.out
          have HT5 : Hid (TrC (fun j => w.heap.size + 2 ≤ j ∧ j < ga) w5 a (trL o n A c)) := HT4.out.keep fun j hj => h5o j (by omega)
          have HF5 : Hid (Frm (· = R) w w5) := by rw [hw5]; exact HF4.out.setCell (p := ⟨R, 1, none⟩) (.inl rfl) _
          obtain ⟨rn, hrn⟩ : ∃ rn, rn = addRd W d r := ⟨_, rfl⟩
          have HE5 : Hid (r0 = rn.bind fun b l2 => .ok (.bin x a b) l2) := by rw [hrn]; exact HE.out
          have HC5 : Hid (Calls Tryz.prog 139 #[.pointer (some ⟨R, 0, none⟩), .string ⟨#[43, 45]⟩, .func (.func 143) #[] #[.pointer (some ⟨w.heap.size, 0, none⟩)]] w5.drew (Reads_ R s d w5.drew rn)) := by
            have hm2 := HM.out
            rw [hrn]
            exact row_reads R 143 s #[] #[.pointer (some ⟨w.heap.size, 0, none⟩)] ⟨#[43, 45]⟩ (mulRd W d) r d m w5.drew (HL5.out.keep rfl) hs hd (by simp only [List.length_cons] at hm2; omega) (fun _ _ => rfl) (row_short (less_short hW d) _) (fun l W2 h1 h2 h3 => cmp2_reads hW HLESS.out R w.heap.size s l d W2 (RBox.frm (show RBox w5.drew w.heap.size R from HB5.out) h2 (by omega)) (by omega) h1 hs hd h3 (hnv.frm (frm_trans HF5.out.drew h2))) (by decide)
          have hcells : ∀ W8 : World, TVar W8 ga (.int .u8 o) (.int .i64 n) (.slice A c c) → RBox W8 w.heap.size R → (W8.cell? ⟨ga, 0, none⟩ = some (.int .u8 o) ∧ W8.cell? ⟨ga, 1, none⟩ = some (.int .i64 n) ∧ W8.cell? ⟨ga, 2, none⟩ = some (.slice A c c) ∧ W8.cell? ⟨w.heap.size, 0, none⟩ = some (.pointer (some ⟨R, 0, none⟩))) := fun W8 h1 h2 => ⟨h1.cells.1, h1.cells.2.1, h1.cells.2.2.1, h2.cell⟩
          have hS0 : (w5.drew.cell? ⟨ga, 0, none⟩ = some (.int .u8 o) ∧ w5.drew.cell? ⟨ga, 1, none⟩ = some (.int .i64 n) ∧ w5.drew.cell? ⟨ga, 2, none⟩ = some (.slice A c c) ∧ w5.drew.cell? ⟨w.heap.size, 0, none⟩ = some (.pointer (some ⟨R, 0, none⟩))) := hcells w5.drew HV5.out HB5.out
          have HC6 : Hid (Calls Tryz.prog 139 #[.pointer (some ⟨R, 0, none⟩), .string ⟨#[43, 45]⟩, .func (.func 143) #[] #[.pointer (some ⟨w.heap.size, 0, none⟩)]] w5.drew fun e w7 => (∃ k j, rn = .bad k j ∧ e = faultE (s.size - k) j ∧ (∃ p, RdAt w7 R s p d) ∧ Frm (· = R) w5 w7) ∨
              ∃ b l3 o7 n7 A7 c7, Hid (rn = .ok b l3) ∧ e = .returned (.agg #[.int .u8 o7, .int .i64 n7, .slice A7 c7 c7]) ∧ Hid (TrC (w5.heap.size ≤ ·) w7 b (trL o7 n7 A7 c7)) ∧ Hid (RdL w7 R s l3 d) ∧ Hid (Frm (· = R) w5 w7) ∧ Hid (TVar w7 (w.heap.size + 1) (.int .u8 0) (.int .i64 0) (.slice none 0 0)) ∧
              (w7.cell? ⟨ga, 0, none⟩ = some (.int .u8 o) ∧ w7.cell? ⟨ga, 1, none⟩ = some (.int .i64 n) ∧ w7.cell? ⟨ga, 2, none⟩ = some (.slice A c c) ∧ w7.cell? ⟨w.heap.size, 0, none⟩ = some (.pointer (some ⟨R, 0, none⟩))) ∧ (∀ ob, ((w7.alloc ob).cell? ⟨ga, 0, none⟩ = some (.int .u8 o) ∧ (w7.alloc ob).cell? ⟨ga, 1, none⟩ = some (.int .i64 n) ∧ (w7.alloc ob).cell? ⟨ga, 2, none⟩ = some (.slice A c c) ∧ (w7.alloc ob).cell? ⟨w.heap.size, 0, none⟩ = some (.pointer (some ⟨R, 0, none⟩)))) ∧ (∀ ob x1 x2 x3, (((((w7.alloc ob).setCell ⟨w.heap.size + 1, 0, none⟩ x1).setCell ⟨w.heap.size + 1, 1, none⟩ x2).setCell ⟨w.heap.size + 1, 2, none⟩ x3).cell? ⟨ga, 0, none⟩ = some (.int .u8 o) ∧ ((((w7.alloc ob).setCell ⟨w.heap.size + 1, 0, none⟩ x1).setCell ⟨w.heap.size + 1, 1, none⟩ x2).setCell ⟨w.heap.size + 1, 2, none⟩ x3).cell? ⟨ga, 1, none⟩ = some (.int .i64 n) ∧ ((((w7.alloc ob).setCell ⟨w.heap.size + 1, 0, none⟩ x1).setCell ⟨w.heap.size + 1, 1, none⟩ x2).setCell ⟨w.heap.size + 1, 2, none⟩ x3).cell? ⟨ga, 2, none⟩ = some (.slice A c c) ∧ ((((w7.alloc ob).setCell ⟨w.heap.size + 1, 0, none⟩ x1).setCell ⟨w.heap.size + 1, 1, none⟩ x2).setCell ⟨w.heap.size + 1, 2, none⟩ x3).cell? ⟨w.heap.size, 0, none⟩ = some (.pointer (some ⟨R, 0, none⟩)))) ∧ (∀ ob, (w7.alloc ob).cell? ⟨w.heap.size + 1, 0, none⟩ = some (.int .u8 0)) ∧ (∀ ob, (w7.alloc ob).cell? ⟨w.heap.size + 1, 1, none⟩ = some (.int .i64 0)) ∧ (∀ ob, (w7.alloc ob).cell? ⟨w.heap.size + 1, 2, none⟩ = some (.slice none 0 0)) ∧ (∀ ob i, (w7.alloc ob).frozen? ⟨w.heap.size + 1, i, none⟩ = false)) := by
            refine HC5.out.mono ?_
            intro e w7 hr
            cases hcr : rn with
            | bad k j =>
              rw [hcr] at hr
              obtain ⟨h1, h2, h3⟩ := hr
              exact .inl ⟨k, j, rfl, h1, h2, frm_trans ((Frm.refl _ _).drew) h3⟩
            | ok b l3 =>
              rw [hcr] at hr
              obtain ⟨o7, n7, A7, c7, rfl, ht, hl, hf⟩ := hr
              have hf2 : Frm (· = R) w5 w7 := frm_trans ((Frm.refl _ _).drew) hf
              have hv := HV5.out.frm hf2 (by omega)
              have hb := HB5.out.frm hf2 (by omega)
              have hz := HZ5.out.frm hf2 (by omega)
              have far : ∀ ob (x y z : Value) (j : Nat), j < w7.heap.size → j ≠ w.heap.size + 1 → (tset (w7.alloc ob) (w.heap.size + 1) x y z).heap[j]? = w7.heap[j]? := fun ob x y z j h1 h2 => four_far (k := w.heap.size + 1) h1 h2
              exact .inr ⟨b, l3, o7, n7, A7, c7, rfl, rfl, ht, hl, hf2, hz, hcells w7 hv hb, fun ob => hcells (w7.alloc ob) ((heap_alloc_old _ _ (block_lt hv)).trans hv) ((heap_alloc_old _ _ (block_lt hb)).trans hb), fun ob x y z => hcells _ ((far ob x y z ga (block_lt hv) (by omega)).trans hv) ((far ob x y z w.heap.size (block_lt hb) (by omega)).trans hb), hz.allocs.1, hz.allocs.2.1, hz.allocs.2.2.1, hz.allocs.2.2.2⟩
          have HBAD : Hid (∀ k j w8, rn = .bad k j → (∃ p, RdAt w8 R s p d) → Frm (· = R) w5 w8 → Reads_ R s d w r0 (faultE (s.size - k) j) w8) := fun k j w8 h1 h2 h3 => by
            have e0 : r0 = .bad k j := by rw [HE5.out, h1]; rfl
            rw [e0]; exact ⟨rfl, h2, frm_trans HF5.out h3⟩
          rw [← hw5]
          clear hw5 h5o hrn HL4 HV4 HZ4 HB4 HT4 HF4 HE v0 v1 v2 vf z0 z1 z2 zf c0 c1 c2 cf hb4 HC5 hcells HB5
          go_region_held2 (fun W => W.cell? ⟨ga, 0, none⟩ = some (.int .u8 o) ∧ W.cell? ⟨ga, 1, none⟩ = some (.int .i64 n) ∧ W.cell? ⟨ga, 2, none⟩ = some (.slice A c c) ∧ W.cell? ⟨w.heap.size, 0, none⟩ = some (.pointer (some ⟨R, 0, none⟩))) (first | with_reducible exact hS0 | with_reducible exact hS7 | with_reducible exact hS7a _ | with_reducible exact hS7b _ _ _ _) (first
            | (go_at_call 139; refine HC6.out.mono ?_; rintro e w7 (⟨k, j, h1, rfl, h2, h3⟩ | ⟨b, l3, o7, n7, A7, c7, HRN, rfl, HT7, HL7, HF7, HZ7, hS7, hS7a, hS7b, a0, a1, a2, af⟩); exact ⟨rfl, HBAD.out k j w7 h1 h2 h3⟩))
          all_goals
            have hg5 : ga < w5.heap.size := block_lt HV5.out
            have h57 : w5.heap.size ≤ w7.heap.size := HF7.out.size
            have e0 : r0 = .ok (.bin x a b) l3 := by rw [HE5.out, HRN.out]; rfl
            obtain ⟨q0, q1, q2, qf⟩ := (four_var (x := .int .u8 (x.toNat : Int)) (y := .int .i64 0) (z := .slice (some ⟨w7.heap.size, 0, none⟩) 2 2) (ob := (.cells #[.int .u8 o, .int .i64 n, .slice A c c, .int .u8 o7, .int .i64 n7, .slice A7 c7 c7] 86)) HZ7.out).cells
            have hfin : Reads_ R s d w r0 (.returned (.agg (trA (x.toNat : Int) 0 (some ⟨w7.heap.size, 0, none⟩) 2))) (tset (w7.alloc (.cells #[.int .u8 o, .int .i64 n, .slice A c c, .int .u8 o7, .int .i64 n7, .slice A7 c7 c7] 86)) (w.heap.size + 1) (.int .u8 (x.toNat : Int)) (.int .i64 0) (.slice (some ⟨w7.heap.size, 0, none⟩) 2 2)) := by
              rw [e0]
              refine ⟨(x.toNat : Int), 0, some ⟨w7.heap.size, 0, none⟩, 2, rfl, ⟨w7.heap.size, trL o n A c, trL o7 n7 A7 c7, rfl, ⟨by omega, four_new (block_lt HZ7.out)⟩, ?_, ?_⟩, four_rd HL7.out (by omega), four_frm (frm_trans HF5.out HF7.out) (by omega)⟩
              · have h2 : TrC (fun j => w.heap.size + 2 ≤ j ∧ j < ga) w7 a (trL o n A c) := HT5.out.keep fun j hj => HF7.out.block j (by omega) (by omega)
                exact four_tree h2 fun j hj => by omega
              · exact four_tree HT7.out fun j hj => by omega
            have HFIN := Lib.hid hfin
            clear hfin e0 HT7 HL7 HF7 HZ7 HRN hS7 hS7a hS7b hS0 a0 a1 a2 af HC6 HBAD HE5 HT5 HF5 HL5 HV5 HZ5
            simp only [tset] at q0 q1 q2
            go_wp2_with fail
            refine ⟨rfl, .agg (trA (x.toNat : Int) 0 (some ⟨w7.heap.size, 0, none⟩) 2), ?_, HFIN.out⟩
            simp only [results, Tryz.results116]
            simp [go_sem, q0, q1, q2, trA]
      · have n1 : ((x.toNat : Int) == 61) = false := beq_eq_false_iff_ne.2 fun e => hx (by rw [show x = 61 from UInt8.toNat_inj.1 (by show x.toNat = 61; omega)]; decide)
        have n2 : ((x.toNat : Int) == 60) = false := beq_eq_false_iff_ne.2 fun e => hx (by rw [show x = 60 from UInt8.toNat_inj.1 (by show x.toNat = 60; omega)]; decide)
        have n3 : ((x.toNat : Int) == 62) = false := beq_eq_false_iff_ne.2 fun e => hx (by rw [show x = 62 from UInt8.toNat_inj.1 (by show x.toNat = 62; omega)]; decide)
        have hr := HEX.out (by rw [HE0.out]; simp only [cmpTl, if_neg hx])
        go_wp2_with fail
        refine ⟨rfl, .agg (trA o n A c), ?_, hr⟩
        simp only [results, Tryz.results116]
        simp [go_sem, q0, q1, q2, trA]
end Go.Proofs.YtfndhfekbbbliaaGreatDoor

/-
  Package expr: the contract of whole. Conditions: the text takes at most 120 bytes, the depth is at most 20.
-/
namespace Go.Proofs.YtfndhfekbbbliaaGreatDoor
open Go.RowKit Go.Shelf
set_option linter.unusedVariables false

/-- A reader's method f reads as X does, texts shorter than m. -/
def ReadsLt (f : Nat) (X : Reads) (m : Nat) : Prop := ∀ (R : Nat) (s : ByteArray) (l : List UInt8) (d : Nat) (w : World), RdL w R s l d → s.size ≤ 120 → d ≤ 20 → l.length < m → NumVars w R → Calls Tryz.prog f #[.pointer (some ⟨R, 0, none⟩)] w (Reads_ R s d w (X d l))
/-- A variable of a tree's type is new. -/
theorem new_tree {F : Nat → Prop} {w w2 : World} {R d : Nat} {s : ByteArray} {l : List UInt8} {t : Tr} {o n : Int} {A : Option Addr} {c : Nat} (ht : TrC F w2 t (trL o n A c)) (hl : RdL w2 R s l d) (hf : Frm (· = R) w w2) :
    ∃ w3, w3 = w2.alloc (.cells #[.int .u8 o, .int .i64 n, .slice A c c] 86) ∧ Hid (RdL w3 R s l d) ∧ Hid (TVar w3 w2.heap.size (.int .u8 o) (.int .i64 n) (.slice A c c)) ∧ Hid (TrC (fun j => F j ∧ j < w2.heap.size) w3 t (trL o n A c)) ∧ Hid (Frm (· = R) w2 w3) ∧ w3.heap.size = w2.heap.size + 1 := by
  refine ⟨_, rfl, hl.keep (heap_alloc_old _ _ hl.lt), TVar.new _ _ _ _, ?_, (Frm.refl _ _).alloc _, by simp⟩
  have h1 : TrC (fun j => F j ∧ j < w2.heap.size) w2 t (trL o n A c) := ht.in_ fun j h1 h2 => ⟨h1, h2⟩
  exact h1.keep fun j hj => heap_alloc_old _ _ hj.2
theorem TrC.frm {F : Nat → Prop} {w w' : World} {R : Nat} {t : Tr} {cs : List Value} (h : TrC F w t cs) (hF : Frm (· = R) w w') (hR : ∀ j, F j → j ≠ R) : TrC F w' t cs := by
  have h1 : TrC (fun j => F j ∧ j < w.heap.size) w t cs := h.in_ fun j h1 h2 => ⟨h1, h2⟩
  exact (h1.keep fun j hj => hF.block j hj.2 (hR j hj.1)).in_ fun j h _ => h.1
theorem want_fails {c : UInt8} {l : List UInt8} (f : List UInt8 → Rd) (h : ∀ r, l ≠ c :: r) : wantRd c l f = .bad l.length 2 := by
  cases l with
  | nil => rfl
  | cons x r => simp only [wantRd, if_neg (fun e : x = c => h r (e ▸ rfl))]
set_option maxRecDepth 100000 in
set_option maxHeartbeats 8000000 in
theorem whole_reads {W : Reads} {m : Nat} (hS : ∀ d, Short (W d)) (hcmp : ReadsAs 116 (cmpRd W) m) (hW : ReadsLt 84 W m) : ReadsAs 84 (wholeStep W) m := by
  intro R s l d w h hs hd hm hnv
  obtain ⟨r1, hr1⟩ : ∃ r1, r1 = cmpRd W d l := ⟨_, rfl⟩
  obtain ⟨r0, hr0⟩ : ∃ r0, r0 = wholeStep W d l := ⟨_, rfl⟩
  have e0 : r0 = r1.bind (selRd W d) := by rw [hr0, hr1]; rfl
  rw [← hr0]
  have hmf : ∀ (fn : Fn) (first cap : Array Value) (w : World), (Instr.makeFunc fn first cap).run Tryz.prog w = .ok (.func fn first cap) w := fun _ _ _ _ => rfl
  have hK : ∀ args w, (callFunc 84 args).run Tryz.prog w = .ok (.enter 84 args) w := fun _ _ => rfl
  have HR1 := Lib.hid hr1
  have HR0 := Lib.hid e0
  have HH := Lib.hid h
  have hlt := h.lt
  have HLT := Lib.hid hlt
  have HW := Lib.hid hW
  have HS := Lib.hid hS
  clear hr0 hr1 e0 h hW hS
  go_enter Tryz.func84, Tryz.ntmps84
  go_wp2_with fail
  have HH1 : Hid (RdL (w.alloc (.cells #[.int .u8 0, .int .i64 0, .slice none 0 0] 86)) R s l d) := HH.out.keep (heap_alloc_old _ _ hlt)
  have HF1 : Hid (Frm (· = R) w (w.alloc (.cells #[.int .u8 0, .int .i64 0, .slice none 0 0] 86))) := (Frm.refl _ _).alloc _
  have HV1 : Hid (TVar (w.alloc (.cells #[.int .u8 0, .int .i64 0, .slice none 0 0] 86)) w.heap.size (.int .u8 0) (.int .i64 0) (.slice none 0 0)) := TVar.new _ _ _ _
  have HC : Hid (Calls Tryz.prog 116 #[.pointer (some ⟨R, 0, none⟩)] (w.alloc (.cells #[.int .u8 0, .int .i64 0, .slice none 0 0] 86)) (Reads_ R s d (w.alloc (.cells #[.int .u8 0, .int .i64 0, .slice none 0 0] 86)) r1)) := by
    rw [HR1.out]; exact hcmp R s l d _ HH1.out hs hd hm (hnv.frm HF1.out)
  refine HC.out.mono ?_
  clear HC hlt
  intro e w2 hr
  cases r1 with
  | bad k j =>
    obtain ⟨rfl, hp, hf⟩ := hr
    have e0 : r0 = .bad k j := HR0.out
    clear HR0
    subst e0
    exact ⟨rfl, rfl, hp, frm_trans HF1.out hf⟩
  | ok a l1 =>
    obtain ⟨o, n, A, c, rfl, ht, hl, hf⟩ := hr
    have HE0 : Hid (r0 = selRd W d a l1) := HR0.out
    have hRw := HLT.out
    have HM : Hid (l1.length < m) := by have := cmp_short HS.out d l a l1 HR1.out.symm; show _ < _; omega
    obtain ⟨w3, hw3, HL3, HV3, HT3, HF3, hs3⟩ := new_tree ht hl hf
    have hf2 := hf.size
    have hz2 := HV1.out.frm hf (by omega)
    have HZ3 := Lib.hid (hz2.frm HF3.out (by omega))
    have HFW := Lib.hid (frm_trans (frm_trans HF1.out hf) HF3.out)
    have HG : Hid (w.heap.size < w2.heap.size) := block_lt hz2
    obtain ⟨ga, hga⟩ : ∃ ga, ga = w2.heap.size := ⟨_, rfl⟩
    have HT3b : Hid (TrC (fun j => w.heap.size < j ∧ j < ga) w3 a (trL o n A c)) := HT3.out.in_ fun j h1 _ => by have := h1.1; simp at this; omega
    have hc1 := hl.allocs
    clear ht hl hf HH1 HF1 HV1 HR0 HR1 hf2 hz2 HH HT3 HF3
    simp only [trA]
    go_wp2_with fail
    rw [← hw3]
    rw [← hga] at HV3 HG ⊢
    clear hw3 hga hs3 hc1
    by_cases hq : ∃ l2, l1 = 63 :: l2
    · obtain ⟨l2, rfl⟩ := hq
      refine (hasL_yes R s ⟨#[63]⟩ (63 :: l2) l2 d _ HL3.out hs rfl).mono ?_
      rintro e w4 ⟨rfl, h4, f4⟩
      have HL4 := Lib.hid h4
      have HV4 := Lib.hid (HV3.out.frm f4 (by have := HLT.out; have := HG.out; omega))
      have HZ4 := Lib.hid (HZ3.out.frm f4 (by have := HLT.out; omega))
      have HT4 : Hid (TrC (fun j => w.heap.size < j ∧ j < ga) w4 a (trL o n A c)) := HT3b.out.frm f4 fun j hj => by have := HLT.out; omega
      have HF4 := Lib.hid (frm_trans HFW.out f4)
      clear h4 f4 HL3 HV3 HZ3 HT3b HFW
      go_wp2_with fail
      obtain ⟨r2, hr2⟩ : ∃ r2, r2 = deepRd d (l2.length + 1) (W (d + 1) l2) := ⟨_, rfl⟩
      have HE1 : Hid (r0 = r2.bind fun b l3 => wantRd 58 l3 fun l4 => (W (d + 1) l4).bind fun c l5 => .ok (.sel a b c) l5) := by
        show _ = _
        rw [HE0.out, hr2, deep_bind]; simp only [selRd, if_true]
      have HC : Hid (Calls Tryz.prog 118 #[.pointer (some ⟨R, 0, none⟩), .int .i64 ((s.size - (l2.length + 1) : Nat) : Int), .func (.func 84) #[.pointer (some ⟨R, 0, none⟩)] #[]] w4 (Reads_ R s d w4 r2)) := by
        have hm2 := HM.out
        rw [hr2]
        exact withinL R (l2.length + 1) d 84 s l2 #[.pointer (some ⟨R, 0, none⟩)] #[] w4 (W (d + 1) l2) HL4.out hd hK (fun hne W2 hW2 hF => HW.out R s l2 (d + 1) W2 hW2 hs (by omega) (by simp only [List.length_cons] at hm2; omega) (hnv.frm (frm_trans HF4.out hF)))
      have HD : Hid (∀ t l, r2 = .ok t l → d ≠ 20 ∧ W (d + 1) l2 = .ok t l) := fun t l e => by rw [hr2] at e; exact deep_ok e
      clear hr2 HE0
      refine HC.out.mono ?_
      clear HC
      intro e w5 hr
      cases r2 with
      | bad k j =>
        obtain ⟨rfl, hp, hf⟩ := hr
        have e0 : r0 = .bad k j := HE1.out
        clear HE1
        subst e0
        exact ⟨rfl, rfl, hp, frm_trans HF4.out hf⟩
      | ok b l3 =>
        obtain ⟨o2, n2, A2, d2, rfl, ht, hl, hf⟩ := hr
        have HE2 : Hid (r0 = wantRd 58 l3 fun l4 => (W (d + 1) l4).bind fun c l5 => .ok (.sel a b c) l5) := HE1.out
        have hRw := HLT.out
        have hgw := HG.out
        obtain ⟨hd20, hWb⟩ := HD.out b l3 rfl
        have HM3 : Hid (l3.length < m) := by
          have := HS.out (d + 1) l2 b l3 hWb
          have hm2 := HM.out
          simp only [List.length_cons] at hm2
          show _ < _; omega
        obtain ⟨w6, hw6, HL6, HB6, HTB6, HF6, hs6⟩ := new_tree ht hl hf
        have hfs := hf.size
        have hva := HV4.out.frm hf (by omega)
        have hvz := HZ4.out.frm hf (by omega)
        have hta : TrC (fun j => w.heap.size < j ∧ j < ga) w5 a (trL o n A c) := HT4.out.frm hf fun j hj => by omega
        have hg4 : ga < w4.heap.size := block_lt HV4.out
        have HV6 := Lib.hid (hva.frm HF6.out (by omega))
        have HZ6 := Lib.hid (hvz.frm HF6.out (by omega))
        have HT6 := Lib.hid (hta.frm HF6.out fun j hj => by omega)
        have HFW6 := Lib.hid (frm_trans (frm_trans HF4.out hf) HF6.out)
        obtain ⟨gb, hgb⟩ : ∃ gb, gb = w5.heap.size := ⟨_, rfl⟩
        have HTB : Hid (TrC (fun j => ga < j ∧ j < gb) w6 b (trL o2 n2 A2 d2)) := HTB6.out.in_ fun j h1 _ => by have := h1.1; have := h1.2; omega
        have HG6 : Hid (ga < gb) := by show _ < _; omega
        have hc1 := hl.allocs
        clear ht hl hf HE1 hWb HD hva hvz hta HV4 HZ4 HT4 HF4 HL4 HTB6 HF6 hfs hg4
        simp only [trA]
        go_wp2_with fail
        rw [← hw6]
        rw [← hgb] at HB6 ⊢
        clear hw6 hgb hs6 hc1
        by_cases hq : ∃ l4, l3 = 58 :: l4
        · obtain ⟨l4, rfl⟩ := hq
          refine (wantL_yes R s 58 l4 d _ HL6.out hs).mono ?_
          rintro e w7 ⟨rfl, h7, f7⟩
          have HL7 := Lib.hid h7
          have HV7 := Lib.hid (HV6.out.frm f7 (by omega))
          have HB7 := Lib.hid (HB6.out.frm f7 (by have := HG6.out; omega))
          have HZ7 := Lib.hid (HZ6.out.frm f7 (by omega))
          have HT7 := Lib.hid (HT6.out.frm f7 fun j hj => by omega)
          have HTB7 := Lib.hid (HTB.out.frm f7 fun j hj => by omega)
          have HF7 := Lib.hid (frm_trans HFW6.out f7)
          clear h7 f7 HL6 HV6 HB6 HZ6 HT6 HTB HFW6
          go_wp2_with fail
          obtain ⟨rn, hrn⟩ : ∃ rn, rn = W (d + 1) l4 := ⟨_, rfl⟩
          have HE5 : Hid (r0 = rn.bind fun c l5 => .ok (.sel a b c) l5) := by
            show _ = _
            rw [hrn, HE2.out]; simp only [wantRd, if_true]
          have HC5 : Hid (Calls Tryz.prog 118 #[.pointer (some ⟨R, 0, none⟩), .int .i64 ((s.size - (l4.length + 1) : Nat) : Int), .func (.func 84) #[.pointer (some ⟨R, 0, none⟩)] #[]] w7.drew (Reads_ R s d w7.drew rn)) := by
            have hm3 := HM3.out
            have e : rn = deepRd d (l4.length + 1) (W (d + 1) l4) := by unfold deepRd; rw [if_neg hd20]; exact hrn
            rw [e]
            exact withinL R (l4.length + 1) d 84 s l4 #[.pointer (some ⟨R, 0, none⟩)] #[] w7.drew (W (d + 1) l4) (HL7.out.keep rfl) hd hK (fun hne W2 hW2 hF => HW.out R s l4 (d + 1) W2 hW2 hs (by omega) (by simp only [List.length_cons] at hm3; omega) (hnv.frm (frm_trans HF7.out.drew hF)))
          have hcells : ∀ W8 : World, TVar W8 ga (.int .u8 o) (.int .i64 n) (.slice A c c) → TVar W8 gb (.int .u8 o2) (.int .i64 n2) (.slice A2 d2 d2) → (W8.cell? ⟨ga, 0, none⟩ = some (.int .u8 o) ∧ W8.cell? ⟨ga, 1, none⟩ = some (.int .i64 n) ∧ W8.cell? ⟨ga, 2, none⟩ = some (.slice A c c) ∧ W8.cell? ⟨gb, 0, none⟩ = some (.int .u8 o2) ∧ W8.cell? ⟨gb, 1, none⟩ = some (.int .i64 n2) ∧ W8.cell? ⟨gb, 2, none⟩ = some (.slice A2 d2 d2)) := fun W8 h1 h2 => ⟨h1.cells.1, h1.cells.2.1, h1.cells.2.2.1, h2.cells.1, h2.cells.2.1, h2.cells.2.2.1⟩
          have hS0 : (w7.drew.cell? ⟨ga, 0, none⟩ = some (.int .u8 o) ∧ w7.drew.cell? ⟨ga, 1, none⟩ = some (.int .i64 n) ∧ w7.drew.cell? ⟨ga, 2, none⟩ = some (.slice A c c) ∧ w7.drew.cell? ⟨gb, 0, none⟩ = some (.int .u8 o2) ∧ w7.drew.cell? ⟨gb, 1, none⟩ = some (.int .i64 n2) ∧ w7.drew.cell? ⟨gb, 2, none⟩ = some (.slice A2 d2 d2)) := hcells w7.drew HV7.out HB7.out
          have HC6 : Hid (Calls Tryz.prog 118 #[.pointer (some ⟨R, 0, none⟩), .int .i64 ((s.size - (l4.length + 1) : Nat) : Int), .func (.func 84) #[.pointer (some ⟨R, 0, none⟩)] #[]] w7.drew fun e w8 => (∃ k j, rn = .bad k j ∧ e = faultE (s.size - k) j ∧ (∃ p, RdAt w8 R s p d) ∧ Frm (· = R) w7 w8) ∨
              ∃ e5 l5 o8 n8 A8 d8, Hid (rn = .ok e5 l5) ∧ e = .returned (.agg #[.int .u8 o8, .int .i64 n8, .slice A8 d8 d8]) ∧ Hid (TrC (w7.heap.size ≤ ·) w8 e5 (trL o8 n8 A8 d8)) ∧ Hid (RdL w8 R s l5 d) ∧ Hid (Frm (· = R) w7 w8) ∧ Hid (TVar w8 w.heap.size (.int .u8 0) (.int .i64 0) (.slice none 0 0)) ∧
              (w8.cell? ⟨ga, 0, none⟩ = some (.int .u8 o) ∧ w8.cell? ⟨ga, 1, none⟩ = some (.int .i64 n) ∧ w8.cell? ⟨ga, 2, none⟩ = some (.slice A c c) ∧ w8.cell? ⟨gb, 0, none⟩ = some (.int .u8 o2) ∧ w8.cell? ⟨gb, 1, none⟩ = some (.int .i64 n2) ∧ w8.cell? ⟨gb, 2, none⟩ = some (.slice A2 d2 d2)) ∧ (∀ ob, ((w8.alloc ob).cell? ⟨ga, 0, none⟩ = some (.int .u8 o) ∧ (w8.alloc ob).cell? ⟨ga, 1, none⟩ = some (.int .i64 n) ∧ (w8.alloc ob).cell? ⟨ga, 2, none⟩ = some (.slice A c c) ∧ (w8.alloc ob).cell? ⟨gb, 0, none⟩ = some (.int .u8 o2) ∧ (w8.alloc ob).cell? ⟨gb, 1, none⟩ = some (.int .i64 n2) ∧ (w8.alloc ob).cell? ⟨gb, 2, none⟩ = some (.slice A2 d2 d2))) ∧ (∀ ob x y z, (((((w8.alloc ob).setCell ⟨w.heap.size, 0, none⟩ x).setCell ⟨w.heap.size, 1, none⟩ y).setCell ⟨w.heap.size, 2, none⟩ z).cell? ⟨ga, 0, none⟩ = some (.int .u8 o) ∧ ((((w8.alloc ob).setCell ⟨w.heap.size, 0, none⟩ x).setCell ⟨w.heap.size, 1, none⟩ y).setCell ⟨w.heap.size, 2, none⟩ z).cell? ⟨ga, 1, none⟩ = some (.int .i64 n) ∧ ((((w8.alloc ob).setCell ⟨w.heap.size, 0, none⟩ x).setCell ⟨w.heap.size, 1, none⟩ y).setCell ⟨w.heap.size, 2, none⟩ z).cell? ⟨ga, 2, none⟩ = some (.slice A c c) ∧ ((((w8.alloc ob).setCell ⟨w.heap.size, 0, none⟩ x).setCell ⟨w.heap.size, 1, none⟩ y).setCell ⟨w.heap.size, 2, none⟩ z).cell? ⟨gb, 0, none⟩ = some (.int .u8 o2) ∧ ((((w8.alloc ob).setCell ⟨w.heap.size, 0, none⟩ x).setCell ⟨w.heap.size, 1, none⟩ y).setCell ⟨w.heap.size, 2, none⟩ z).cell? ⟨gb, 1, none⟩ = some (.int .i64 n2) ∧ ((((w8.alloc ob).setCell ⟨w.heap.size, 0, none⟩ x).setCell ⟨w.heap.size, 1, none⟩ y).setCell ⟨w.heap.size, 2, none⟩ z).cell? ⟨gb, 2, none⟩ = some (.slice A2 d2 d2))) ∧
              (∀ ob, (w8.alloc ob).cell? ⟨w.heap.size, 0, none⟩ = some (.int .u8 0)) ∧ (∀ ob, (w8.alloc ob).cell? ⟨w.heap.size, 1, none⟩ = some (.int .i64 0)) ∧ (∀ ob, (w8.alloc ob).cell? ⟨w.heap.size, 2, none⟩ = some (.slice none 0 0)) ∧ (∀ ob i, (w8.alloc ob).frozen? ⟨w.heap.size, i, none⟩ = false)) := by
            refine HC5.out.mono ?_
            intro e w8 hr
            cases hcr : rn with
            | bad k j =>
              rw [hcr] at hr
              obtain ⟨h1, h2, h3⟩ := hr
              exact .inl ⟨k, j, rfl, h1, h2, frm_trans ((Frm.refl _ _).drew) h3⟩
            | ok e5 l5 =>
              rw [hcr] at hr
              obtain ⟨o8, n8, A8, d8, rfl, ht, hl, hf⟩ := hr
              have hf2 : Frm (· = R) w7 w8 := frm_trans ((Frm.refl _ _).drew) hf
              have hg6 := HG6.out
              have hv := HV7.out.frm hf2 (by omega)
              have hb := HB7.out.frm hf2 (by omega)
              have hz := HZ7.out.frm hf2 (by omega)
              have far : ∀ ob (x y z : Value) (j : Nat), j < w8.heap.size → j ≠ w.heap.size → ((((w8.alloc ob).setCell ⟨w.heap.size, 0, none⟩ x).setCell ⟨w.heap.size, 1, none⟩ y).setCell ⟨w.heap.size, 2, none⟩ z).heap[j]? = w8.heap[j]? := fun ob x y z j h1 h2 => four_far (k := w.heap.size) h1 h2
              exact .inr ⟨e5, l5, o8, n8, A8, d8, rfl, rfl, ht, hl, hf2, hz, hcells w8 hv hb, fun ob => hcells (w8.alloc ob) ((heap_alloc_old _ _ (block_lt hv)).trans hv) ((heap_alloc_old _ _ (block_lt hb)).trans hb), fun ob x y z => hcells _ ((far ob x y z ga (block_lt hv) (by omega)).trans hv) ((far ob x y z gb (block_lt hb) (by omega)).trans hb), hz.allocs.1, hz.allocs.2.1, hz.allocs.2.2.1, hz.allocs.2.2.2⟩
          have HFIN : Hid (∀ (e5 : Tr) (l5 : List UInt8) (o8 n8 : Int) (A8 : Option Addr) (d8 : Nat) (w8 : World), Hid (rn = .ok e5 l5) → Hid (TrC (w7.heap.size ≤ ·) w8 e5 (trL o8 n8 A8 d8)) → Hid (RdL w8 R s l5 d) → Hid (Frm (· = R) w7 w8) → Hid (TVar w8 w.heap.size (.int .u8 0) (.int .i64 0) (.slice none 0 0)) →
              ((tset (w8.alloc (.cells #[.int .u8 o, .int .i64 n, .slice A c c, .int .u8 o2, .int .i64 n2, .slice A2 d2 d2, .int .u8 o8, .int .i64 n8, .slice A8 d8 d8] 86)) w.heap.size (.int .u8 63) (.int .i64 0) (.slice (some ⟨w8.heap.size, 0, none⟩) 3 3)).cell? ⟨w.heap.size, 0, none⟩ = some (.int .u8 63) ∧ (tset (w8.alloc (.cells #[.int .u8 o, .int .i64 n, .slice A c c, .int .u8 o2, .int .i64 n2, .slice A2 d2 d2, .int .u8 o8, .int .i64 n8, .slice A8 d8 d8] 86)) w.heap.size (.int .u8 63) (.int .i64 0) (.slice (some ⟨w8.heap.size, 0, none⟩) 3 3)).cell? ⟨w.heap.size, 1, none⟩ = some (.int .i64 0) ∧ (tset (w8.alloc (.cells #[.int .u8 o, .int .i64 n, .slice A c c, .int .u8 o2, .int .i64 n2, .slice A2 d2 d2, .int .u8 o8, .int .i64 n8, .slice A8 d8 d8] 86)) w.heap.size (.int .u8 63) (.int .i64 0) (.slice (some ⟨w8.heap.size, 0, none⟩) 3 3)).cell? ⟨w.heap.size, 2, none⟩ = some (.slice (some ⟨w8.heap.size, 0, none⟩) 3 3)) ∧ Reads_ R s d w r0 (.returned (.agg (trA 63 0 (some ⟨w8.heap.size, 0, none⟩) 3))) (tset (w8.alloc (.cells #[.int .u8 o, .int .i64 n, .slice A c c, .int .u8 o2, .int .i64 n2, .slice A2 d2 d2, .int .u8 o8, .int .i64 n8, .slice A8 d8 d8] 86)) w.heap.size (.int .u8 63) (.int .i64 0) (.slice (some ⟨w8.heap.size, 0, none⟩) 3 3))) := by
            intro e5 l5 o8 n8 A8 d8 w8 HRN HT8 HL8 HF8 HZ8
            have e0 : r0 = .ok (.sel a b e5) l5 := by rw [HE5.out, HRN.out]; rfl
            have hg6 := HG6.out
            have h78 := HF8.out.size
            have hb7 : gb < w7.heap.size := block_lt HB7.out
            obtain ⟨q0, q1, q2, qf⟩ := (four_var (x := .int .u8 63) (y := .int .i64 0) (z := .slice (some ⟨w8.heap.size, 0, none⟩) 3 3) (ob := .cells #[.int .u8 o, .int .i64 n, .slice A c c, .int .u8 o2, .int .i64 n2, .slice A2 d2 d2, .int .u8 o8, .int .i64 n8, .slice A8 d8 d8] 86) HZ8.out).cells
            rw [e0]
            refine ⟨⟨q0, q1, q2⟩, 63, 0, some ⟨w8.heap.size, 0, none⟩, 3, rfl, ⟨w8.heap.size, trL o n A c, trL o2 n2 A2 d2, trL o8 n8 A8 d8, rfl, ⟨by have := block_lt HZ8.out; omega, four_new (block_lt HZ8.out)⟩, ?_, ?_, ?_⟩, four_rd HL8.out (by omega), four_frm (frm_trans HF7.out HF8.out) (Nat.le_refl _)⟩
            · exact four_tree (HT7.out.frm HF8.out fun j hj => by omega) fun j hj => by omega
            · exact four_tree (HTB7.out.frm HF8.out fun j hj => by omega) fun j hj => by omega
            · exact four_tree HT8.out fun j hj => by have h9 : w7.heap.size ≤ j := hj; omega
          have HBAD : Hid (∀ k j w8, rn = .bad k j → (∃ p, RdAt w8 R s p d) → Frm (· = R) w7 w8 → Reads_ R s d w r0 (faultE (s.size - k) j) w8) := fun k j w8 h1 h2 h3 => by
            have e0 : r0 = .bad k j := by rw [HE5.out, h1]; rfl
            rw [e0]; exact ⟨rfl, h2, frm_trans HF7.out h3⟩
          clear HC5 HE5 HE2 hrn hcells HT7 HTB7 HF7 HL7 HV7 HB7 HZ7
          go_region_held2 (fun W => W.cell? ⟨ga, 0, none⟩ = some (.int .u8 o) ∧ W.cell? ⟨ga, 1, none⟩ = some (.int .i64 n) ∧ W.cell? ⟨ga, 2, none⟩ = some (.slice A c c) ∧ W.cell? ⟨gb, 0, none⟩ = some (.int .u8 o2) ∧ W.cell? ⟨gb, 1, none⟩ = some (.int .i64 n2) ∧ W.cell? ⟨gb, 2, none⟩ = some (.slice A2 d2 d2)) (first | with_reducible exact hS0 | with_reducible exact hS8 | with_reducible exact hS8a _ | with_reducible exact hS8b _ _ _ _) (first | (go_at_call 118; refine HC6.out.mono ?_; rintro e w8 (⟨k, j, h1, rfl, h2, h3⟩ | ⟨e5, l5, o8, n8, A8, d8, HRN, rfl, HT8, HL8, HF8, HZ8, hS8, hS8a, hS8b, a0, a1, a2, af⟩); exact ⟨rfl, HBAD.out k j w8 h1 h2 h3⟩))
          all_goals
            obtain ⟨⟨q0, q1, q2⟩, hr⟩ := HFIN.out e5 l5 o8 n8 A8 d8 w8 HRN HT8 HL8 HF8 HZ8
            have HRR := Lib.hid hr
            clear hr HT8 HL8 HF8 HZ8 HRN a0 a1 a2 af hS8 hS8a hS8b hS0 HC6 HFIN HBAD
            simp only [tset] at q0 q1 q2
            go_wp2_with fail
            refine ⟨rfl, .agg (trA 63 0 (some ⟨w8.heap.size, 0, none⟩) 3), ?_, HRR.out⟩
            simp only [results, Tryz.results84]
            simp [go_sem, q0, q1, q2, trA]
        · have e0 : r0 = .bad l3.length 2 := HE2.out.trans (want_fails _ fun r e => hq ⟨r, e⟩)
          clear HE2
          subst e0
          refine (wantL_no R s 58 l3 d _ HL6.out hs fun r e => hq ⟨r, e⟩).mono ?_
          rintro e w7 ⟨rfl, h7, f7⟩
          exact ⟨rfl, rfl, ⟨_, h7.2.2⟩, frm_trans HFW6.out f7⟩
    · have HEQ : Hid (r0 = .ok a l1) := by
        show _ = _
        rw [HE0.out]
        cases l1 with
        | nil => rfl
        | cons x r => simp only [selRd, if_neg (fun e : x = 63 => hq ⟨r, e ▸ rfl⟩)]
      have hb : Lib.hasPrefix l1 [63] = false := by
        cases l1 with
        | nil => rfl
        | cons x r =>
          have : ¬ 63 = x := fun e => hq ⟨r, e ▸ rfl⟩
          simp [Lib.hasPrefix, List.isPrefixOf, this]
      refine (hasL_no R s ⟨#[63]⟩ l1 d _ HL3.out hs hb).mono ?_
      rintro e w4 ⟨rfl, h4, f4⟩
      have hz4 := HZ3.out.frm f4 (by have := HLT.out; omega)
      obtain ⟨z0, z1, z2, zf⟩ := hz4.cells
      obtain ⟨y0, y1, y2, yf⟩ := (HV3.out.frm f4 (by have := HLT.out; have := HG.out; omega)).cells
      obtain ⟨q0, q1, q2, qf⟩ := (pass_var (x := .int .u8 o) (y := .int .i64 n) (z := .slice A c c) hz4).cells
      have hr : Reads_ R s d w r0 (.returned (.agg (trA o n A c))) (tset w4 w.heap.size (.int .u8 o) (.int .i64 n) (.slice A c c)) := by
        rw [HEQ.out]
        exact pass_ok (HT3b.out.frm f4 fun j hj => by have := HLT.out; omega) (fun j hj => by omega) h4 (frm_trans HFW.out f4) (by have := HLT.out; omega) (Nat.le_refl _)
      have HRR := Lib.hid hr
      simp only [tset] at q0 q1 q2
      clear h4 f4 hz4 hr
      go_wp2_with fail
      refine ⟨rfl, .agg (trA o n A c), ?_, HRR.out⟩
      simp only [results, Tryz.results84]
      simp [go_sem, q0, q1, q2, trA]
end Go.Proofs.YtfndhfekbbbliaaGreatDoor
