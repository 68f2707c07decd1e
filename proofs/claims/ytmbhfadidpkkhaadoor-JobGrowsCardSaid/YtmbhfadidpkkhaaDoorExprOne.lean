/-
  Package expr: the contract of one. Conditions: the text takes at most 120 bytes, the depth is at most 20.
-/
import Derived.Test.YtmbhfadidpkkhaaDoorExprOneB
import Derived.Shelf.Strconv.AtoiAll
import Derived.Deep.Cut
namespace Go.Proofs.YtmbhfadidpkkhaaDoor
open Go.RowKit Go.Shelf
set_option linter.unusedVariables false

def minS : ByteArray := ⟨#[109, 105, 110, 40]⟩
def maxS : ByteArray := ⟨#[109, 97, 120, 40]⟩
/-- What one goes on with: the reader's variable, the result's, the two names. -/
structure OneInv (R : Nat) (s : ByteArray) (l : List UInt8) (d : Nat) (w wx : World) : Prop where
  rd : RdL wx R s l d
  box : PBox wx w.heap.size R
  res : TVar wx (w.heap.size + 1) (.int .u8 0) (.int .i64 0) (.slice none 0 0)
  row : wx.heap[w.heap.size + 2]? = some (.cells #[.string minS, .string maxS] 9 (0, 0))
  frm : Frm (· = R) w wx
theorem OneInv.on {R d : Nat} {s : ByteArray} {l : List UInt8} {w wx w' : World} (h : OneInv R s l d w wx) (hR : R < w.heap.size) (hl : RdL w' R s l d) (hf : Frm (· = R) wx w') : OneInv R s l d w w' :=
  ⟨hl, h.box.frm hf (by omega), h.res.frm hf (by omega), (hf.block _ (block_lt h.row) (by omega)).trans h.row, frm_trans h.frm hf⟩
def decSet : ByteArray := ⟨#[48, 49, 50, 51, 52, 53, 54, 55, 56, 57]⟩
theorem dec_all : ∀ n : Fin 256, decSet.data.toList.contains (UInt8.ofNat n.1) = isDig (UInt8.ofNat n.1) := by decide +kernel
theorem dec_contains (c : UInt8) : decSet.data.toList.contains c = isDig c := by
  have h := dec_all ⟨c.toNat, c.toNat_lt⟩
  have e : UInt8.ofNat c.toNat = c := by simp
  simp only [e] at h
  exact h
theorem trim_split (l : List UInt8) : l = digsOf l ++ Lib.trimLeftS l decSet.data.toList := by
  unfold Lib.trimLeftS digsOf
  rw [show (fun c => decSet.data.toList.contains c) = isDig from funext dec_contains]
  exact List.takeWhile_append_dropWhile.symm
theorem triml_ok (t : ByteArray) (w : World) : Calls Tryd.prog 43 #[.string t, .string decSet] w fun e w' => e = .returned (.string ⟨(Lib.trimLeftS t.data.toList decSet.data.toList).toArray⟩) ∧ Below w.heap.size w w' :=
  Any.strings_TrimLeft_laid Tryd.triml (by kernel_rfl) t decSet w (by decide) (fun j b h => by
    have hm := List.mem_of_getElem? h
    have hd := dec_contains b
    rw [List.contains_iff_mem.2 hm] at hd
    unfold isDig at hd
    have := hd.symm
    rw [Bool.and_eq_true, decide_eq_true_iff, decide_eq_true_iff] at this
    omega)
/-! ### Atoi of digits -/
def foldDig (a : Nat) (ds : List UInt8) : Nat := ds.foldl (fun a c => a * 10 + (c.toNat - 48)) a
theorem fold_ge (ds : List UInt8) : ∀ a, a ≤ foldDig a ds := by
  induction ds with
  | nil => intro a; exact Nat.le_refl _
  | cons c r ih => intro a; exact Nat.le_trans (by omega) (ih (a * 10 + (c.toNat - 48)))
theorem parse_dig (ds : List UInt8) : ∀ a, (∀ c ∈ ds, isDig c = true) → Lib.parseUint10 a ds = .ok (foldDig a ds) ∨ (Lib.parseUint10 a ds = .range ∧ 18446744073709551616 ≤ foldDig a ds) := by
  induction ds with
  | nil => intro a _; exact .inl rfl
  | cons c r ih =>
    intro a h
    have hc := h c List.mem_cons_self
    unfold isDig at hc
    rw [Bool.and_eq_true, decide_eq_true_iff, decide_eq_true_iff] at hc
    have hf := fold_ge r (a * 10 + (c.toNat - 48))
    have e : foldDig a (c :: r) = foldDig (a * 10 + (c.toNat - 48)) r := rfl
    rw [e]
    simp only [Lib.parseUint10, if_pos hc]
    split
    · exact .inr ⟨rfl, by omega⟩
    · split
      · exact .inr ⟨rfl, by omega⟩
      · exact ih _ fun c hc => h c (List.mem_cons_of_mem _ hc)
theorem atoi_digits (D : List UInt8) (h : ∀ c ∈ D, isDig c = true) : (D = [] → Lib.atoiAll D = Lib.NumEnd.syntax) ∧ (D ≠ [] → digVal D ≤ 9223372036854775807 → Lib.atoiAll D = .ok (digVal D)) ∧ (D ≠ [] → 9223372036854775807 < digVal D → Lib.atoiAll D = .range) := by
  cases D with
  | nil => exact ⟨fun _ => rfl, fun h => absurd rfl h, fun h => absurd rfl h⟩
  | cons c r =>
    have hc := h c List.mem_cons_self
    unfold isDig at hc
    rw [Bool.and_eq_true, decide_eq_true_iff, decide_eq_true_iff] at hc
    have n1 : ¬ (c.toNat = 43 ∨ c.toNat = 45) := by omega
    have n2 : ¬ c.toNat = 45 := by omega
    have e : foldDig 0 (c :: r) = digVal (c :: r) := rfl
    have hp := parse_dig (c :: r) 0 h
    rw [e] at hp
    have hm : Lib.parseMag (c :: r) = Lib.parseUint10 0 (c :: r) := by simp [Lib.parseMag]
    refine ⟨nofun, fun _ h1 => ?_, fun _ h1 => ?_⟩
    · rcases hp with hp | ⟨_, hp⟩
      · simp only [Lib.atoiAll, if_neg n1, hm, hp]
        rw [if_neg (by omega), if_neg (by omega), if_neg n2]
      · omega
    · rcases hp with hp | ⟨hp, _⟩
      · simp only [Lib.atoiAll, if_neg n1, hm, hp]
        rw [if_pos ⟨n2, by omega⟩]
      · simp only [Lib.atoiAll, if_neg n1, hm, hp]
theorem atoi_num (R : Nat) (v : ByteArray) (D : List UInt8) (hD : v.data.toList = D) (w : World) (hd : ∀ c ∈ D, isDig c = true) (hs : v.size ≤ 1000) (hnv : NumVars w R) : Calls Tryd.prog 44 #[.string v] w fun e w' => Below w.heap.size w w' ∧ ((D ≠ [] ∧ digVal D ≤ 9223372036854775807 ∧ e = .returned (.tuple #[.int .i64 (digVal D : Int), .nilIface])) ∨
    ((D = [] ∨ 9223372036854775807 < digVal D) ∧ ∃ n N, e = .returned (.tuple #[.int .i64 n, .iface 87 (.pointer (some ⟨N, 0, none⟩))]))) := by
  obtain ⟨a1, a2, a3⟩ := atoi_digits D hd
  obtain ⟨⟨_, ev1, hv1, hw1⟩, ⟨_, ev2, hv2, hw2⟩⟩ := hnv
  by_cases h0 : D = []
  · refine (Any.strconv_Atoi_syntax Tryd.atoi v (by omega) (hD ▸ a1 h0) ev1 w hv1 hw1).mono ?_
    rintro e w' ⟨N, he, _, _, hb⟩
    exact ⟨hb, .inr ⟨.inl h0, _, N, he⟩⟩
  · rcases Nat.lt_or_ge 9223372036854775807 (digVal D) with h1 | h1
    · refine (Any.strconv_Atoi_range Tryd.atoi v (by omega) (hD ▸ a3 h0 h1) ev2 w hv2 hw2).mono ?_
      rintro e w' ⟨N, he, _, _, hb⟩
      exact ⟨hb, .inr ⟨.inr h1, _, N, he⟩⟩
    · refine (Any.strconv_Atoi_ok Tryd.atoi v (by omega) (digVal D : Int) (by rw [hD]; exact a2 h0 h1) w).mono ?_
      rintro e w' ⟨he, hw⟩
      refine ⟨?_, .inl ⟨h0, h1, he⟩⟩
      rcases hw with rfl | ⟨t, rfl⟩
      · exact Below.refl _ _
      · exact Lib.bytesWorld_below _ _ _
set_option maxRecDepth 100000 in
set_option maxHeartbeats 8000000 in
theorem one_reads {W : Reads} {m : Nat} (hS : ∀ d, Short (W d)) (hW : ReadsLt_ W m) : ReadsAs 38 (oneRd W) m := by
  intro R s l d w h hs hd hm hnv
  obtain ⟨r0, hr0⟩ : ∃ r0, r0 = oneRd W d l := ⟨_, rfl⟩
  rw [← hr0]
  have hmf : ∀ (fn : Fn) (first cap : Array Value) (w : World), (Instr.makeFunc fn first cap).run Tryd.prog w = .ok (.func fn first cap) w := fun _ _ _ _ => rfl
  have hK1 : ∀ args w, (callFunc 41 args).run Tryd.prog w = .ok (.enter 41 args) w := fun _ _ => rfl
  have hK2 : ∀ args w, (callFunc 42 args).run Tryd.prog w = .ok (.enter 42 args) w := fun _ _ => rfl
  have HR0 := Lib.hid hr0
  have HH := Lib.hid h
  have hlt := h.lt
  have HLT := Lib.hid hlt
  have hc1 : ∀ ob ob2, ((w.alloc ob).alloc ob2).cell? ⟨R, 1, none⟩ = some (.int .i64 ((s.size - l.length : Nat) : Int)) := fun ob ob2 => RdL.allocs (HH.out.keep (w' := w.alloc ob) (heap_alloc_old _ _ hlt)) ob2
  clear hr0 h
  go_enter Tryd.func38, Tryd.ntmps38
  go_wp2_with fail
  obtain ⟨W1, hW1⟩ : ∃ W1, W1 = ((w.alloc (.cells #[.pointer (some ⟨R, 0, none⟩)] 57)).alloc (.cells #[.int .u8 0, .int .i64 0, .slice none 0 0] 50)).alloc (.cells #[.string ⟨#[109, 105, 110, 40]⟩, .string ⟨#[109, 97, 120, 40]⟩] 9) := ⟨_, rfl⟩
  have HI1 : Hid (OneInv R s l d w W1) := by
    show OneInv _ _ _ _ _ _
    rw [hW1]
    obtain ⟨wa, hwa⟩ : ∃ wa, wa = w.alloc (.cells #[.pointer (some ⟨R, 0, none⟩)] 57) := ⟨_, rfl⟩
    have sa : wa.heap.size = w.heap.size + 1 := by rw [hwa]; simp
    have la : RdL wa R s l d := by rw [hwa]; exact HH.out.keep (heap_alloc_old _ _ hlt)
    have ba : PBox wa w.heap.size R := by rw [hwa]; exact heap_alloc_new _ _
    have fa : Frm (· = R) w wa := by rw [hwa]; exact (Frm.refl _ _).alloc _
    rw [← hwa]
    obtain ⟨wb, hwb⟩ : ∃ wb, wb = wa.alloc (.cells #[.int .u8 0, .int .i64 0, .slice none 0 0] 50) := ⟨_, rfl⟩
    have sb : wb.heap.size = w.heap.size + 2 := by rw [hwb]; simp [sa]
    have lb : RdL wb R s l d := by rw [hwb]; exact la.keep (heap_alloc_old _ _ la.lt)
    have bb : PBox wb w.heap.size R := by rw [hwb]; exact ba.alloc _
    have zb : TVar wb (w.heap.size + 1) (.int .u8 0) (.int .i64 0) (.slice none 0 0) := by rw [hwb, ← sa]; exact TVar.new _ _ _ _
    have fb : Frm (· = R) w wb := by rw [hwb]; exact fa.alloc _
    rw [← hwb]
    exact ⟨lb.keep (heap_alloc_old _ _ lb.lt), bb.alloc _, (heap_alloc_old _ _ (block_lt zb)).trans zb, by rw [← sb]; exact heap_alloc_new _ _, fb.alloc _⟩
  rw [← hW1]
  clear hW1 HH hc1 hlt
  go_loopw [5, 17] (fun fv iv wx => ∃ i : Nat, i ≤ 2 ∧ iv = .int .i64 i ∧ Hid (OneInv R s l d w wx) ∧ Hid (1 ≤ i → ∀ r, l ≠ 109 :: 105 :: 110 :: 40 :: r) ∧ Hid (2 ≤ i → ∀ r, l ≠ 109 :: 97 :: 120 :: 40 :: r)) (fun _ iv _ => 2 - (intOf iv).toNat)
  case atStart => exact ⟨0, by omega, rfl, HI1.out, fun h => by omega, fun h => by omega⟩
  case round =>
    obtain ⟨i, hi, rfl, HJ, HN1, HN2⟩ := hrel
    have hg0 : wr.cell? ⟨w.heap.size + 2, 0, none⟩ = some (.string ⟨#[109, 105, 110, 40]⟩) := (cell_of_row wr _ 0 _ _ _ HJ.out.row).trans rfl
    have hg1 : wr.cell? ⟨w.heap.size + 2, 1, none⟩ = some (.string ⟨#[109, 97, 120, 40]⟩) := (cell_of_row wr _ 1 _ _ _ HJ.out.row).trans rfl
    have hb := HJ.out.box.cell
    have hRw := HLT.out
    match i, hi with
    | 0, _ =>
      go_wp2_with fail
      by_cases hq : ∃ l2, l = 109 :: 105 :: 110 :: 40 :: l2
      · obtain ⟨l2, rfl⟩ := hq
        refine (hasL_yes R s ⟨#[109, 105, 110, 40]⟩ (109 :: 105 :: 110 :: 40 :: l2) l2 d _ HJ.out.rd hs rfl).mono ?_
        rintro e w2 ⟨rfl, h2, f2⟩
        have hl2 : l2.length + 4 ≤ m := by simpa using hm
        have e0 : r0 = deepRd d (l2.length + 4) (twoRd W 109 (d + 1) l2) := HR0.out
        have HE0 := Lib.hid e0
        have HL2 := Lib.hid h2
        have HB2 := Lib.hid (HJ.out.box.frm f2 (by omega))
        have HZ2 := Lib.hid (HJ.out.res.frm f2 (by omega))
        have HF2 := Lib.hid (frm_trans HJ.out.frm f2)
        have hz2 := block_lt HZ2.out
        have hb2 := fun ob => (HB2.out.alloc ob).cell
        clear h2 f2 HJ HN1 HN2 hg0 hg1 hb e0 HR0
        go_wp2_with fail
        obtain ⟨w3, hw3⟩ : ∃ w3, w3 = w2.alloc (.cells #[.int .u8 109] 5) := ⟨_, rfl⟩
        have HL3 : Hid (RdL w3 R s l2 d) := by rw [hw3]; exact HL2.out.keep (heap_alloc_old _ _ HL2.out.lt)
        have HB3 : Hid (PBox w3 w.heap.size R) := by rw [hw3]; exact HB2.out.alloc _
        have HZ3 : Hid (TVar w3 (w.heap.size + 1) (.int .u8 0) (.int .i64 0) (.slice none 0 0)) := by rw [hw3]; exact (heap_alloc_old _ _ hz2).trans HZ2.out
        have HF3 : Hid (Frm (· = R) w w3) := by rw [hw3]; exact HF2.out.alloc _
        have HO3 : Hid (BVar w3 w2.heap.size 109) := by rw [hw3]; exact heap_alloc_new _ _
        have hs23 : w3.heap.size = w2.heap.size + 1 := by rw [hw3]; simp
        rw [← hw3]
        obtain ⟨gp, hgp⟩ : ∃ gp, gp = w2.heap.size := ⟨_, rfl⟩
        rw [← hgp] at HO3 hs23 hz2 ⊢
        clear hw3 hgp HL2 HB2 HZ2 HF2 hb2
        have hcall := withinL R (l2.length + 4) d 41 s l2 #[] #[.pointer (some ⟨w.heap.size, 0, none⟩), .pointer (some ⟨gp, 0, none⟩)] w3 (twoRd W 109 (d + 1) l2) HL3.out hd hK1 (fun hne W2 hW2 hF => one1_reads hS hW R w.heap.size gp 109 s l2 (d + 1) W2 (HB3.out.frm hF (by omega)) (by omega) (HO3.out.frm hF (by omega)) (by omega) hW2 hs (by omega) (by omega) (hnv.frm (frm_trans HF3.out hF)))
        rw [← HE0.out] at hcall
        clear HE0
        refine hcall.mono ?_
        clear hcall
        intro e w4 hr
        cases r0 with
        | bad k j =>
          obtain ⟨rfl, hp, hf⟩ := hr
          exact ⟨rfl, rfl, hp, frm_trans HF3.out hf⟩
        | ok a l1 =>
          obtain ⟨o, n, A, ca, rfl, ht, hl, hf⟩ := hr
          have hzz := HZ3.out.frm hf (by omega)
          obtain ⟨z0, z1, z2, zf⟩ := hzz.cells
          obtain ⟨q0, q1, q2, qf⟩ := (pass_var (x := .int .u8 o) (y := .int .i64 n) (z := .slice A ca ca) hzz).cells
          have hrr := pass_ok (w0 := w) (k := w.heap.size + 1) (x := .int .u8 o) (y := .int .i64 n) (z := .slice A ca ca) ht (fun j hj => by have h9 : w3.heap.size ≤ j := hj; omega) hl (frm_trans HF3.out hf) (by omega) (by omega)
          have HRR := Lib.hid hrr
          simp only [tset] at q0 q1 q2
          clear ht hl hf hzz hrr HL3 HB3 HZ3 HF3 HO3
          simp only [trA]
          go_wp2_with fail
          refine ⟨rfl, .agg (trA o n A ca), ?_, HRR.out⟩
          simp only [results, Tryd.results38]
          simp [go_sem, q0, q1, q2, trA]
      · have hbn : Lib.hasPrefix l [109, 105, 110, 40] = false := by
          cases hb : Lib.hasPrefix l [109, 105, 110, 40] with
          | false => rfl
          | true =>
            obtain ⟨r, e⟩ := List.isPrefixOf_iff_prefix.1 hb
            exact absurd ⟨r, e.symm⟩ hq
        refine (hasL_no R s ⟨#[109, 105, 110, 40]⟩ l d _ HJ.out.rd hs hbn).mono ?_
        rintro e w2 ⟨rfl, h2, f2⟩
        have HJ2 := Lib.hid (HJ.out.on hRw h2 f2)
        clear h2 f2 HJ
        go_wp2_with fail
        refine ⟨⟨1, by omega, by congr 1, HJ2.out, fun _ r e => hq ⟨r, e⟩, fun h => by omega⟩, ?_⟩
        simp [intOf]
    | 1, _ =>
      go_wp2_with fail
      by_cases hq : ∃ l2, l = 109 :: 97 :: 120 :: 40 :: l2
      · obtain ⟨l2, rfl⟩ := hq
        refine (hasL_yes R s ⟨#[109, 97, 120, 40]⟩ (109 :: 97 :: 120 :: 40 :: l2) l2 d _ HJ.out.rd hs rfl).mono ?_
        rintro e w2 ⟨rfl, h2, f2⟩
        have hl2 : l2.length + 4 ≤ m := by simpa using hm
        have e0 : r0 = deepRd d (l2.length + 4) (twoRd W 77 (d + 1) l2) := HR0.out
        have HE0 := Lib.hid e0
        have HL2 := Lib.hid h2
        have HB2 := Lib.hid (HJ.out.box.frm f2 (by omega))
        have HZ2 := Lib.hid (HJ.out.res.frm f2 (by omega))
        have HF2 := Lib.hid (frm_trans HJ.out.frm f2)
        have hz2 := block_lt HZ2.out
        have hb2 := fun ob => (HB2.out.alloc ob).cell
        clear h2 f2 HJ HN1 HN2 hg0 hg1 hb e0 HR0
        go_wp2_with fail
        obtain ⟨w3, hw3⟩ : ∃ w3, w3 = w2.alloc (.cells #[.int .u8 77] 5) := ⟨_, rfl⟩
        have HL3 : Hid (RdL w3 R s l2 d) := by rw [hw3]; exact HL2.out.keep (heap_alloc_old _ _ HL2.out.lt)
        have HB3 : Hid (PBox w3 w.heap.size R) := by rw [hw3]; exact HB2.out.alloc _
        have HZ3 : Hid (TVar w3 (w.heap.size + 1) (.int .u8 0) (.int .i64 0) (.slice none 0 0)) := by rw [hw3]; exact (heap_alloc_old _ _ hz2).trans HZ2.out
        have HF3 : Hid (Frm (· = R) w w3) := by rw [hw3]; exact HF2.out.alloc _
        have HO3 : Hid (BVar w3 w2.heap.size 77) := by rw [hw3]; exact heap_alloc_new _ _
        have hs23 : w3.heap.size = w2.heap.size + 1 := by rw [hw3]; simp
        rw [← hw3]
        obtain ⟨gp, hgp⟩ : ∃ gp, gp = w2.heap.size := ⟨_, rfl⟩
        rw [← hgp] at HO3 hs23 hz2 ⊢
        clear hw3 hgp HL2 HB2 HZ2 HF2 hb2
        have hcall := withinL R (l2.length + 4) d 41 s l2 #[] #[.pointer (some ⟨w.heap.size, 0, none⟩), .pointer (some ⟨gp, 0, none⟩)] w3 (twoRd W 77 (d + 1) l2) HL3.out hd hK1 (fun hne W2 hW2 hF => one1_reads hS hW R w.heap.size gp 77 s l2 (d + 1) W2 (HB3.out.frm hF (by omega)) (by omega) (HO3.out.frm hF (by omega)) (by omega) hW2 hs (by omega) (by omega) (hnv.frm (frm_trans HF3.out hF)))
        rw [← HE0.out] at hcall
        clear HE0
        refine hcall.mono ?_
        clear hcall
        intro e w4 hr
        cases r0 with
        | bad k j =>
          obtain ⟨rfl, hp, hf⟩ := hr
          exact ⟨rfl, rfl, hp, frm_trans HF3.out hf⟩
        | ok a l1 =>
          obtain ⟨o, n, A, ca, rfl, ht, hl, hf⟩ := hr
          have hzz := HZ3.out.frm hf (by omega)
          obtain ⟨z0, z1, z2, zf⟩ := hzz.cells
          obtain ⟨q0, q1, q2, qf⟩ := (pass_var (x := .int .u8 o) (y := .int .i64 n) (z := .slice A ca ca) hzz).cells
          have hrr := pass_ok (w0 := w) (k := w.heap.size + 1) (x := .int .u8 o) (y := .int .i64 n) (z := .slice A ca ca) ht (fun j hj => by have h9 : w3.heap.size ≤ j := hj; omega) hl (frm_trans HF3.out hf) (by omega) (by omega)
          have HRR := Lib.hid hrr
          simp only [tset] at q0 q1 q2
          clear ht hl hf hzz hrr HL3 HB3 HZ3 HF3 HO3
          simp only [trA]
          go_wp2_with fail
          refine ⟨rfl, .agg (trA o n A ca), ?_, HRR.out⟩
          simp only [results, Tryd.results38]
          simp [go_sem, q0, q1, q2, trA]
      · have hbn : Lib.hasPrefix l [109, 97, 120, 40] = false := by
          cases hb : Lib.hasPrefix l [109, 97, 120, 40] with
          | false => rfl
          | true =>
            obtain ⟨r, e⟩ := List.isPrefixOf_iff_prefix.1 hb
            exact absurd ⟨r, e.symm⟩ hq
        refine (hasL_no R s ⟨#[109, 97, 120, 40]⟩ l d _ HJ.out.rd hs hbn).mono ?_
        rintro e w2 ⟨rfl, h2, f2⟩
        have HJ2 := Lib.hid (HJ.out.on hRw h2 f2)
        clear h2 f2 HJ
        go_wp2_with fail
        refine ⟨⟨2, by omega, by congr 1, HJ2.out, fun _ => HN1.out (Nat.le_refl _), fun _ r e => hq ⟨r, e⟩⟩, ?_⟩
        simp [intOf]
    | 2, _ =>
      go_wp2_with fail
      refine (peekL R s l d _ HJ.out.rd).mono ?_
      rintro e w2 ⟨rfl, q, rfl⟩
      have HJ2 : Hid (OneInv R s l d w (wr.drewN q)) := HJ.out.on hRw (HJ.out.rd.keep rfl) ((Frm.refl _ _).drewN q)
      generalize wr.drewN q = w2 at HJ2 ⊢
      have hN1 : Hid (∀ r, l ≠ 109 :: 105 :: 110 :: 40 :: r) := HN1.out (by omega)
      have hN2 : Hid (∀ r, l ≠ 109 :: 97 :: 120 :: 40 :: r) := HN2.out (by omega)
      clear HJ HN1 HN2 hg0 hg1 hb
      obtain ⟨c0, c1, c2, cf⟩ := HJ2.out.rd.2.2.cells
      have hb := HJ2.out.box.cell
      obtain ⟨z0, z1, z2, zf⟩ := HJ2.out.res.cells
      by_cases hn : ∃ c r, l = c :: r ∧ (c = 110 ∨ c = 115)
      · obtain ⟨c, r, rfl, hc⟩ := hn
        have e0 : r0 = .ok (.nam (c == 110)) r := by
          rw [HR0.out]
          rcases hc with rfl | rfl <;> rfl
        clear HR0
        subst e0
        have eh : headB (c :: r) = (c.toNat : Int) := rfl
        rw [eh]
        have HRR : Hid (Reads_ R s d w (.ok (.nam (c == 110)) r) (.returned (.agg (trA (c.toNat : Int) 0 none 0))) (tset (w2.setCell ⟨R, 1, none⟩ (.int .i64 (((s.size - (r.length + 1) : Nat) : Int) + 1))) (w.heap.size + 1) (.int .u8 (c.toNat : Int)) (.int .i64 0) (.slice none 0 0))) := by
          have h1 := HJ2.out.rd.2.2.moved (s.size - (r.length + 1) + 1)
          have e2 : (((s.size - (r.length + 1) : Nat) : Int) + 1) = ((s.size - (r.length + 1) + 1 : Nat) : Int) := by omega
          have h2 : RdL (w2.setCell ⟨R, 1, none⟩ (.int .i64 (((s.size - (r.length + 1) : Nat) : Int) + 1))) R s r d := by
            rw [e2]; exact HJ2.out.rd.on (n := 1) (by simp only [List.length_cons]; omega) rfl h1
          have h3 := HJ2.out.frm.setCell (p := ⟨R, 1, none⟩) (.inl rfl) (.int .i64 (((s.size - (r.length + 1) : Nat) : Int) + 1))
          refine pass_ok (F := fun _ => False) ?_ (fun j hj => hj.elim) h2 h3 (by omega) (by omega)
          rcases hc with rfl | rfl <;> rfl
        have hz3 : TVar (w2.setCell ⟨R, 1, none⟩ (.int .i64 (((s.size - (r.length + 1) : Nat) : Int) + 1))) (w.heap.size + 1) (.int .u8 0) (.int .i64 0) (.slice none 0 0) := (Below.heap_setCell _ _ _ _ (by simp; omega)).trans HJ2.out.res
        obtain ⟨q0, q1, q2, qf⟩ := (pass_var (x := .int .u8 (c.toNat : Int)) (y := .int .i64 0) (z := .slice none 0 0) hz3).cells
        simp only [tset] at q0 q1 q2
        clear hz3 HJ2
        have key : ((c.toNat : Int) == 110) = true ∨ (((c.toNat : Int) == 110) = false ∧ ((c.toNat : Int) == 115) = true) := by
          rcases hc with e | e
          · exact .inl (by rw [e]; rfl)
          · exact .inr ⟨by rw [e]; rfl, by rw [e]; rfl⟩
        clear hc
        rcases key with m1 | ⟨m1, m2⟩
        all_goals
          go_wp2_with fail
          refine ⟨rfl, .agg (trA (c.toNat : Int) 0 none 0), ?_, HRR.out⟩
          simp only [results, Tryd.results38]
          simp [go_sem, q0, q1, q2, trA]
      · by_cases hp : ∃ r, l = 40 :: r
        · obtain ⟨r, rfl⟩ := hp
          have e0 : r0 = deepRd d (r.length + 1) ((W (d + 1) r).bind fun a l1 => wantRd 41 l1 fun l2 => .ok a l2) := HR0.out
          have HE0 := Lib.hid e0
          clear HR0 e0
          have eh : headB (40 :: r) = 40 := rfl
          rw [eh]
          go_wp2_with fail
          obtain ⟨w3, hw3⟩ : ∃ w3, w3 = w2.setCell ⟨R, 1, none⟩ (.int .i64 (((s.size - (r.length + 1) : Nat) : Int) + 1)) := ⟨_, rfl⟩
          have HL3 : Hid (RdL w3 R s r d) := by
            have h1 := HJ2.out.rd.2.2.moved (s.size - (r.length + 1) + 1)
            have e2 : (((s.size - (r.length + 1) : Nat) : Int) + 1) = ((s.size - (r.length + 1) + 1 : Nat) : Int) := by omega
            rw [hw3, e2]; exact HJ2.out.rd.on (n := 1) (by simp only [List.length_cons]; omega) rfl h1
          have h3o : ∀ j, j ≠ R → w3.heap[j]? = w2.heap[j]? := fun j hj => by rw [hw3]; exact Below.heap_setCell _ _ _ _ (by simpa using hj)
          have HB3 : Hid (PBox w3 w.heap.size R) := (h3o _ (by omega)).trans HJ2.out.box
          have HZ3 : Hid (TVar w3 (w.heap.size + 1) (.int .u8 0) (.int .i64 0) (.slice none 0 0)) := (h3o _ (by omega)).trans HJ2.out.res
          have HF3 : Hid (Frm (· = R) w w3) := by rw [hw3]; exact HJ2.out.frm.setCell (p := ⟨R, 1, none⟩) (.inl rfl) _
          rw [← hw3]
          have hzw := block_lt HZ3.out
          clear hw3 h3o HJ2 c0 c1 c2 cf hb z0 z1 z2 zf
          have hcall := withinL R (r.length + 1) d 42 s r #[] #[.pointer (some ⟨w.heap.size, 0, none⟩)] w3 ((W (d + 1) r).bind fun a l1 => wantRd 41 l1 fun l2 => .ok a l2) HL3.out hd hK2 (fun hne W2 hW2 hF => one2_reads hW R w.heap.size s r (d + 1) W2 (HB3.out.frm hF (by omega)) (by omega) hW2 hs (by omega) (by simp only [List.length_cons] at hm; omega) (hnv.frm (frm_trans HF3.out hF)))
          rw [← HE0.out] at hcall
          clear HE0
          refine hcall.mono ?_
          clear hcall
          intro e w4 hr
          cases r0 with
          | bad k j =>
            obtain ⟨rfl, hp, hf⟩ := hr
            exact ⟨rfl, rfl, hp, frm_trans HF3.out hf⟩
          | ok a l1 =>
            obtain ⟨o, n, A, ca, rfl, ht, hl, hf⟩ := hr
            have hzz := HZ3.out.frm hf (by omega)
            obtain ⟨z0, z1, z2, zf⟩ := hzz.cells
            obtain ⟨q0, q1, q2, qf⟩ := (pass_var (x := .int .u8 o) (y := .int .i64 n) (z := .slice A ca ca) hzz).cells
            have hrr := pass_ok (w0 := w) (k := w.heap.size + 1) (x := .int .u8 o) (y := .int .i64 n) (z := .slice A ca ca) ht (fun j hj => by have h9 : w3.heap.size ≤ j := hj; omega) hl (frm_trans HF3.out hf) (by omega) (by omega)
            have HRR := Lib.hid hrr
            simp only [tset] at q0 q1 q2
            clear ht hl hf hzz hrr HL3 HB3 HZ3 HF3
            simp only [trA]
            go_wp2_with fail
            refine ⟨rfl, .agg (trA o n A ca), ?_, HRR.out⟩
            simp only [results, Tryd.results38]
            simp [go_sem, q0, q1, q2, trA]
        · have e0 : r0 = numRd l := by
            rw [HR0.out]
            unfold oneRd
            split
            · exact absurd rfl (hN1.out _)
            · exact absurd rfl (hN2.out _)
            · exact absurd ⟨110, _, rfl, .inl rfl⟩ hn
            · exact absurd ⟨115, _, rfl, .inr rfl⟩ hn
            · exact absurd ⟨_, rfl⟩ hp
            · rfl
          have HE0 := Lib.hid e0
          have hh : ¬ headB l = 110 ∧ ¬ headB l = 115 ∧ ¬ headB l = 40 := by
            cases l with
            | nil => refine ⟨?_, ?_, ?_⟩ <;> (show ¬ (0 : Int) = _; omega)
            | cons c r =>
              refine ⟨fun e => hn ⟨c, r, rfl, .inl (UInt8.toNat_inj.1 ?_)⟩, fun e => hn ⟨c, r, rfl, .inr (UInt8.toNat_inj.1 ?_)⟩, fun e => hp ⟨r, ?_⟩⟩
              · have e : (c.toNat : Int) = 110 := e
                show c.toNat = 110; omega
              · have e : (c.toNat : Int) = 115 := e
                show c.toNat = 115; omega
              · have e : (c.toNat : Int) = 40 := e
                rw [show c = 40 from UInt8.toNat_inj.1 (by show c.toNat = 40; omega)]
          obtain ⟨h1, h2, h3⟩ := hh
          have m1 : (headB l == 110) = false := beq_eq_false_iff_ne.2 h1
          have m2 : (headB l == 115) = false := beq_eq_false_iff_ne.2 h2
          have m3 : (headB l == 40) = false := beq_eq_false_iff_ne.2 h3
          have dp : ¬ s.size < s.size - l.length := by omega
          clear HR0 e0 h1 h2 hN1 hN2 hn hp
          go_wp2_with fail
          obtain ⟨t8, ht8⟩ : ∃ t8, t8 = s.extract (s.size - l.length) s.size := ⟨_, rfl⟩
          have ht8l : t8.data.toList = l := by rw [ht8, slice_drop]; exact HJ2.out.rd.2.1.symm
          obtain ⟨u8, hu8⟩ : ∃ u8 : ByteArray, u8 = ⟨(Lib.trimLeftS l decSet.data.toList).toArray⟩ := ⟨_, rfl⟩
          have hu8s : u8.size = (Lib.trimLeftS l decSet.data.toList).length := by rw [hu8]; show (Lib.trimLeftS l decSet.data.toList).toArray.size = _; simp
          have hspl := trim_split l
          have hll : l.length = (digsOf l).length + u8.size := by
            have h := congrArg List.length hspl
            rw [List.length_append] at h
            rw [hu8s]; exact h
          have ht8s : t8.size = l.length := by rw [← ht8l]; simp
          have HT8 := Lib.hid (triml_ok t8 w2)
          rw [ht8l, ← hu8] at HT8
          rw [← ht8]
          have HU8 := Lib.hid hu8
          have HL8 := Lib.hid ht8l
          have HSPL := Lib.hid hspl
          have hls : l.length ≤ s.size := HJ2.out.rd.1
          clear ht8 hu8 ht8l hspl hu8s
          refine HT8.out.mono ?_
          rintro e w3 ⟨rfl, hb3⟩
          have HJ3 : Hid (OneInv R s l d w w3) := HJ2.out.on hRw (HJ2.out.rd.keep (hb3.block _ HJ2.out.rd.lt)) (Frm.ofBelow hb3)
          clear HT8 hb3 HJ2 c0 c1 c2 cf hb z0 z1 z2 zf
          obtain ⟨k, hk⟩ : ∃ k, k = (digsOf l).length := ⟨_, rfl⟩
          rw [← hk] at hll
          have ht8k : t8.size = k + u8.size := by omega
          have HK := Lib.hid hk
          have hk120 : k + u8.size ≤ 120 := by omega
          clear hk ht8s
          go_upto_region 20 with (fail)
          obtain ⟨dd, hdd⟩ : ∃ dd, dd = t8.extract 0 (s.size - (s.size - (k + u8.size)) - u8.size) := ⟨_, rfl⟩
          have hX : s.size - (s.size - (k + u8.size)) - u8.size = k := by omega
          have hdl : dd.data.toList = digsOf l := by
            rw [hdd, hX]
            have e1 : (t8.extract 0 k).data.toList = t8.data.toList.take k := by simp [ByteArray.data_extract]
            rw [e1, HL8.out, HK.out]
            have h := congrArg (List.take (digsOf l).length) HSPL.out
            rw [List.take_left] at h
            exact h
          have hdk : dd.size = k := by rw [HK.out, ← hdl]; simp
          rw [← hdd]
          have HDL := Lib.hid hdl
          have hdig : ∀ c ∈ digsOf l, isDig c = true := fun c hc => List.all_eq_true.1 List.all_takeWhile c hc
          have HDIG := Lib.hid hdig
          clear hdd hX hdl hdig HU8 HL8 HSPL ht8k
          by_cases hk1 : 1 < k
          · obtain ⟨x, y, r, hxy⟩ : ∃ x y r, digsOf l = x :: y :: r := by
              have hkk := HK.out
              match hdd : digsOf l with
              | [] => rw [hdd] at hkk; simp at hkk; omega
              | [x] => rw [hdd] at hkk; simp at hkk; omega
              | x :: y :: r => exact ⟨x, y, r, rfl⟩
            have hd1 : decide ((1 : Int) < (k : Int)) = true := decide_eq_true (by omega)
            have hx : ∀ h : 0 < dd.size, dd[0]'h = x := fun h => by
              have h1 : dd.data.toList[0]? = some x := by rw [HDL.out, hxy]; rfl
              have h2 : dd.data[0]? = some x := by rw [← Array.getElem?_toList]; exact h1
              obtain ⟨h3, h4⟩ := Array.getElem?_eq_some_iff.1 h2
              exact h4
            by_cases h48 : x = 48
            · have hx48 : ((x.toNat : Int) == 48) = true := by rw [h48]; rfl
              have hnum : numOf l = [48] := by unfold numOf; rw [hxy]; simp [h48]
              have HNDIG : Hid (∀ c ∈ numOf l, isDig c = true) := by
                show ∀ c ∈ numOf l, _
                rw [hnum]; intro c hc; rw [List.mem_singleton.1 hc]; decide
              have hnl : (numOf l).length = 1 := by rw [hnum]; rfl
              have hvl : (⟨#[48]⟩ : ByteArray).data.toList = numOf l := by rw [hnum]
              clear hxy hnum h48
              have HRR : Hid (∀ w4, Below w3.heap.size w3 w4 → numRd l = .ok (.num (digVal (numOf l))) (l.drop (numOf l).length) → Reads_ R s d w r0 (.returned (.agg (trA 48 (digVal (numOf l) : Int) none 0))) (tset (w4.setCell ⟨R, 1, none⟩ (.int .i64 (((s.size - (k + u8.size) : Nat) : Int) + 1))) (w.heap.size + 1) (.int .u8 48) (.int .i64 (digVal (numOf l) : Int)) (.slice none 0 0)) ∧ TVar (w4.setCell ⟨R, 1, none⟩ (.int .i64 (((s.size - (k + u8.size) : Nat) : Int) + 1))) (w.heap.size + 1) (.int .u8 0) (.int .i64 0) (.slice none 0 0)) := fun w4 hb4 he => by
                have HJ4 : OneInv R s l d w w4 := HJ3.out.on hRw (HJ3.out.rd.keep (hb4.block _ HJ3.out.rd.lt)) (Frm.ofBelow hb4)
                have h1 := HJ4.rd.2.2.moved (s.size - l.length + 1)
                have e2 : (((s.size - (k + u8.size) : Nat) : Int) + 1) = ((s.size - l.length + 1 : Nat) : Int) := by rw [hll]; omega
                have h2 : RdL (w4.setCell ⟨R, 1, none⟩ (.int .i64 (((s.size - (k + u8.size) : Nat) : Int) + 1))) R s (l.drop 1) d := by
                  rw [e2]; exact HJ4.rd.on (n := 1) (by rw [List.length_drop]; omega) rfl h1
                refine ⟨?_, (Below.heap_setCell _ _ _ _ (by simp; omega)).trans HJ4.res⟩
                rw [HE0.out, he, hnl]
                refine pass_ok (F := fun _ => False) ?_ (fun j hj => hj.elim) h2 (HJ4.frm.setCell (p := ⟨R, 1, none⟩) (.inl rfl) _) (by omega) (by omega)
                exact rfl
              have HVL := Lib.hid hvl
              clear hvl hnl
              go_wp2_with fail
              refine (atoi_num R ⟨#[48]⟩ (numOf l) HVL.out w3 HNDIG.out (by decide) (hnv.frm HJ3.out.frm)).mono ?_
              rintro e w4 ⟨hb4, hor⟩
              have HJ4 : OneInv R s l d w w4 := HJ3.out.on hRw (HJ3.out.rd.keep (hb4.block _ HJ3.out.rd.lt)) (Frm.ofBelow hb4)
              obtain ⟨c0, c1, c2, cf⟩ := HJ4.rd.2.2.cells
              have hb := HJ4.box.cell
              obtain ⟨z0, z1, z2, zf⟩ := HJ4.res.cells
              have HJ4h := Lib.hid HJ4
              rcases hor with ⟨h1, h2, rfl⟩ | ⟨h1, n, N, rfl⟩
              · have he : numRd l = .ok (.num (digVal (numOf l))) (l.drop (numOf l).length) := by
                  unfold numRd
                  rw [if_neg (by rintro (h | h); exact h1 h; omega)]
                obtain ⟨hr, hz3⟩ := HRR.out w4 hb4 he
                have HRF := Lib.hid hr
                obtain ⟨q0, q1, q2, qf⟩ := (pass_var (x := .int .u8 48) (y := .int .i64 (digVal (numOf l) : Int)) (z := .slice none 0 0) hz3).cells
                simp only [tset] at q0 q1 q2
                rw [hll] at c1
                clear hr hz3 he h1 h2 HJ4 hb4 HRR
                go_wp2_with fail
                refine ⟨rfl, .agg (trA 48 (digVal (numOf l) : Int) none 0), ?_, HRF.out⟩
                simp only [results, Tryd.results38]
                simp [go_sem, q0, q1, q2, trA]
              · have he : r0 = .bad l.length 2 := by
                  rw [HE0.out]
                  unfold numRd
                  rw [if_pos h1]
                subst he
                rw [hll] at c1
                clear h1 HJ4 HRR
                go_wp2_with fail
                rw [← hll]
                refine (fail_ok R (s.size - l.length) 2 w4).mono ?_
                rintro e w5 ⟨rfl, rfl⟩
                exact ⟨rfl, rfl, ⟨_, HJ4h.out.rd.2.2⟩, HJ4h.out.frm⟩
            · have hx48 : ((x.toNat : Int) == 48) = false := beq_eq_false_iff_ne.2 fun e => h48 (UInt8.toNat_inj.1 (by show x.toNat = 48; omega))
              have hnum : numOf l = digsOf l := by unfold numOf; rw [hxy]; simp [h48]
              have HNDIG : Hid (∀ c ∈ numOf l, isDig c = true) := by
                show ∀ c ∈ numOf l, _
                rw [hnum]; exact HDIG.out
              have hnl : (numOf l).length = k := by rw [hnum]; exact HK.out.symm
              have hvl : dd.data.toList = numOf l := by rw [hnum]; exact HDL.out
              clear hxy hnum
              have HRR : Hid (∀ w4, Below w3.heap.size w3 w4 → numRd l = .ok (.num (digVal (numOf l))) (l.drop (numOf l).length) → Reads_ R s d w r0 (.returned (.agg (trA 48 (digVal (numOf l) : Int) none 0))) (tset (w4.setCell ⟨R, 1, none⟩ (.int .i64 (((s.size - (k + u8.size) : Nat) : Int) + (k : Int)))) (w.heap.size + 1) (.int .u8 48) (.int .i64 (digVal (numOf l) : Int)) (.slice none 0 0)) ∧ TVar (w4.setCell ⟨R, 1, none⟩ (.int .i64 (((s.size - (k + u8.size) : Nat) : Int) + (k : Int)))) (w.heap.size + 1) (.int .u8 0) (.int .i64 0) (.slice none 0 0)) := fun w4 hb4 he => by
                have HJ4 : OneInv R s l d w w4 := HJ3.out.on hRw (HJ3.out.rd.keep (hb4.block _ HJ3.out.rd.lt)) (Frm.ofBelow hb4)
                have h1 := HJ4.rd.2.2.moved (s.size - l.length + k)
                have e2 : (((s.size - (k + u8.size) : Nat) : Int) + (k : Int)) = ((s.size - l.length + k : Nat) : Int) := by rw [hll]; omega
                have h2 : RdL (w4.setCell ⟨R, 1, none⟩ (.int .i64 (((s.size - (k + u8.size) : Nat) : Int) + (k : Int)))) R s (l.drop k) d := by
                  rw [e2]; exact HJ4.rd.on (n := k) (by rw [List.length_drop]; omega) rfl h1
                refine ⟨?_, (Below.heap_setCell _ _ _ _ (by simp; omega)).trans HJ4.res⟩
                rw [HE0.out, he, hnl]
                refine pass_ok (F := fun _ => False) ?_ (fun j hj => hj.elim) h2 (HJ4.frm.setCell (p := ⟨R, 1, none⟩) (.inl rfl) _) (by omega) (by omega)
                exact rfl
              have HVL := Lib.hid hvl
              clear hvl hnl
              go_wp2_with fail
              refine (atoi_num R dd (numOf l) HVL.out w3 HNDIG.out (by omega) (hnv.frm HJ3.out.frm)).mono ?_
              rintro e w4 ⟨hb4, hor⟩
              have HJ4 : OneInv R s l d w w4 := HJ3.out.on hRw (HJ3.out.rd.keep (hb4.block _ HJ3.out.rd.lt)) (Frm.ofBelow hb4)
              obtain ⟨c0, c1, c2, cf⟩ := HJ4.rd.2.2.cells
              have hb := HJ4.box.cell
              obtain ⟨z0, z1, z2, zf⟩ := HJ4.res.cells
              have HJ4h := Lib.hid HJ4
              rcases hor with ⟨h1, h2, rfl⟩ | ⟨h1, n, N, rfl⟩
              · have he : numRd l = .ok (.num (digVal (numOf l))) (l.drop (numOf l).length) := by
                  unfold numRd
                  rw [if_neg (by rintro (h | h); exact h1 h; omega)]
                obtain ⟨hr, hz3⟩ := HRR.out w4 hb4 he
                have HRF := Lib.hid hr
                obtain ⟨q0, q1, q2, qf⟩ := (pass_var (x := .int .u8 48) (y := .int .i64 (digVal (numOf l) : Int)) (z := .slice none 0 0) hz3).cells
                simp only [tset] at q0 q1 q2
                rw [hll] at c1
                clear hr hz3 he h1 h2 HJ4 hb4 HRR
                go_wp2_with fail
                refine ⟨rfl, .agg (trA 48 (digVal (numOf l) : Int) none 0), ?_, HRF.out⟩
                simp only [results, Tryd.results38]
                simp [go_sem, q0, q1, q2, trA]
              · have he : r0 = .bad l.length 2 := by
                  rw [HE0.out]
                  unfold numRd
                  rw [if_pos h1]
                subst he
                rw [hll] at c1
                clear h1 HJ4 HRR
                go_wp2_with fail
                rw [← hll]
                refine (fail_ok R (s.size - l.length) 2 w4).mono ?_
                rintro e w5 ⟨rfl, rfl⟩
                exact ⟨rfl, rfl, ⟨_, HJ4h.out.rd.2.2⟩, HJ4h.out.frm⟩
          · have hd1 : decide ((1 : Int) < (k : Int)) = false := decide_eq_false (by omega)
            have hnum : numOf l = digsOf l := by
              unfold numOf
              split
              · rename_i c d r e
                have := HK.out
                rw [e] at this; simp at this; omega
              · rfl
            have HNDIG : Hid (∀ c ∈ numOf l, isDig c = true) := by
              show ∀ c ∈ numOf l, _
              rw [hnum]; exact HDIG.out
            have hnl : (numOf l).length = k := by rw [hnum]; exact HK.out.symm
            have hvl : dd.data.toList = numOf l := by rw [hnum]; exact HDL.out
            clear hnum
            have HRR : Hid (∀ w4, Below w3.heap.size w3 w4 → numRd l = .ok (.num (digVal (numOf l))) (l.drop (numOf l).length) → Reads_ R s d w r0 (.returned (.agg (trA 48 (digVal (numOf l) : Int) none 0))) (tset (w4.setCell ⟨R, 1, none⟩ (.int .i64 (((s.size - (k + u8.size) : Nat) : Int) + (k : Int)))) (w.heap.size + 1) (.int .u8 48) (.int .i64 (digVal (numOf l) : Int)) (.slice none 0 0)) ∧ TVar (w4.setCell ⟨R, 1, none⟩ (.int .i64 (((s.size - (k + u8.size) : Nat) : Int) + (k : Int)))) (w.heap.size + 1) (.int .u8 0) (.int .i64 0) (.slice none 0 0)) := fun w4 hb4 he => by
              have HJ4 : OneInv R s l d w w4 := HJ3.out.on hRw (HJ3.out.rd.keep (hb4.block _ HJ3.out.rd.lt)) (Frm.ofBelow hb4)
              have h1 := HJ4.rd.2.2.moved (s.size - l.length + k)
              have e2 : (((s.size - (k + u8.size) : Nat) : Int) + (k : Int)) = ((s.size - l.length + k : Nat) : Int) := by rw [hll]; omega
              have h2 : RdL (w4.setCell ⟨R, 1, none⟩ (.int .i64 (((s.size - (k + u8.size) : Nat) : Int) + (k : Int)))) R s (l.drop k) d := by
                rw [e2]; exact HJ4.rd.on (n := k) (by rw [List.length_drop]; omega) rfl h1
              refine ⟨?_, (Below.heap_setCell _ _ _ _ (by simp; omega)).trans HJ4.res⟩
              rw [HE0.out, he, hnl]
              refine pass_ok (F := fun _ => False) ?_ (fun j hj => hj.elim) h2 (HJ4.frm.setCell (p := ⟨R, 1, none⟩) (.inl rfl) _) (by omega) (by omega)
              exact rfl
            have HVL := Lib.hid hvl
            clear hvl hnl
            go_wp2_with fail
            refine (atoi_num R dd (numOf l) HVL.out w3 HNDIG.out (by omega) (hnv.frm HJ3.out.frm)).mono ?_
            rintro e w4 ⟨hb4, hor⟩
            have HJ4 : OneInv R s l d w w4 := HJ3.out.on hRw (HJ3.out.rd.keep (hb4.block _ HJ3.out.rd.lt)) (Frm.ofBelow hb4)
            obtain ⟨c0, c1, c2, cf⟩ := HJ4.rd.2.2.cells
            have hb := HJ4.box.cell
            obtain ⟨z0, z1, z2, zf⟩ := HJ4.res.cells
            have HJ4h := Lib.hid HJ4
            rcases hor with ⟨h1, h2, rfl⟩ | ⟨h1, n, N, rfl⟩
            · have he : numRd l = .ok (.num (digVal (numOf l))) (l.drop (numOf l).length) := by
                unfold numRd
                rw [if_neg (by rintro (h | h); exact h1 h; omega)]
              obtain ⟨hr, hz3⟩ := HRR.out w4 hb4 he
              have HRF := Lib.hid hr
              obtain ⟨q0, q1, q2, qf⟩ := (pass_var (x := .int .u8 48) (y := .int .i64 (digVal (numOf l) : Int)) (z := .slice none 0 0) hz3).cells
              simp only [tset] at q0 q1 q2
              rw [hll] at c1
              clear hr hz3 he h1 h2 HJ4 hb4 HRR
              go_wp2_with fail
              refine ⟨rfl, .agg (trA 48 (digVal (numOf l) : Int) none 0), ?_, HRF.out⟩
              simp only [results, Tryd.results38]
              simp [go_sem, q0, q1, q2, trA]
            · have he : r0 = .bad l.length 2 := by
                rw [HE0.out]
                unfold numRd
                rw [if_pos h1]
              subst he
              rw [hll] at c1
              clear h1 HJ4 HRR
              go_wp2_with fail
              rw [← hll]
              refine (fail_ok R (s.size - l.length) 2 w4).mono ?_
              rintro e w5 ⟨rfl, rfl⟩
              exact ⟨rfl, rfl, ⟨_, HJ4h.out.rd.2.2⟩, HJ4h.out.frm⟩
end Go.Proofs.YtmbhfadidpkkhaaDoor
