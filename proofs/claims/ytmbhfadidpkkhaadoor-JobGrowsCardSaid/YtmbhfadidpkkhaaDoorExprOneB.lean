/-
  Package expr: the contract of the closure that reads two between brackets. Conditions: the text takes at most 120 bytes, the depth is at most 20.
-/
import Derived.Test.YtmbhfadidpkkhaaDoorExprOneA
import Derived.Deep.RegionHeld2
namespace Go.Proofs.YtmbhfadidpkkhaaDoor
open Go.RowKit Go.Shelf
set_option linter.unusedVariables false

/-- A node is made, and laid into a variable tv; n0 is a variable that waits for it. -/
structure NodeOut (R : Nat) (s : ByteArray) (l : List UInt8) (d : Nat) (w : World) (B : Nat) (t : Tr) (tv g : Nat) (op : Int) (W9 : World) : Prop where
  rd : RdL W9 R s l d
  box : PBox W9 B R
  res : TVar W9 w.heap.size (.int .u8 0) (.int .i64 0) (.slice none 0 0)
  var : TVar W9 tv (.int .u8 op) (.int .i64 0) (.slice (some ⟨g, 0, none⟩) 2 2)
  tree : TrC (fun j => w.heap.size < j ∧ j ≠ tv) W9 t (trL op 0 (some ⟨g, 0, none⟩) 2)
  frm : Frm (· = R) w W9
  tv : w.heap.size < tv
theorem node_out {R d B k : Nat} {s : ByteArray} {l : List UInt8} {w w3 : World} {a b : Tr} {op : UInt8} {o n o2 n2 : Int} {A A2 : Option Addr} {c c2 : Nat} {x y z : Value} (hl : RdL w3 R s l d) (hB : PBox w3 B R) (hr : TVar w3 w.heap.size (.int .u8 0) (.int .i64 0) (.slice none 0 0)) (hv : TVar w3 k x y z)
    (ha : TrC (fun j => w.heap.size < j ∧ j ≠ k) w3 a (trL o n A c)) (hb : TrC (fun j => w.heap.size < j ∧ j ≠ k) w3 b (trL o2 n2 A2 c2)) (hF : Frm (· = R) w w3) (hk : w.heap.size < k) (hRk : R < w.heap.size) (hBk : B < w.heap.size) :
    NodeOut R s l d w B (.bin op a b) k w3.heap.size (op.toNat : Int) (tset (w3.alloc (.cells #[.int .u8 o, .int .i64 n, .slice A c c, .int .u8 o2, .int .i64 n2, .slice A2 c2 c2] 50)) k (.int .u8 (op.toNat : Int)) (.int .i64 0) (.slice (some ⟨w3.heap.size, 0, none⟩) 2 2)) := by
  have hk3 := block_lt hv
  have tr : ∀ {t : Tr} {cs : List Value}, TrC (fun j => w.heap.size < j ∧ j ≠ k) w3 t cs → TrC (fun j => w.heap.size < j ∧ j ≠ k) (tset (w3.alloc (.cells #[.int .u8 o, .int .i64 n, .slice A c c, .int .u8 o2, .int .i64 n2, .slice A2 c2 c2] 50)) k (.int .u8 (op.toNat : Int)) (.int .i64 0) (.slice (some ⟨w3.heap.size, 0, none⟩) 2 2)) t cs := fun h => by
    have h1 := h.in_ (G := fun j => (w.heap.size < j ∧ j ≠ k) ∧ j < w3.heap.size) fun j h1 h2 => ⟨h1, h2⟩
    exact (h1.keep fun j hj => four_far hj.2 hj.1.2).in_ fun j hj _ => hj.1
  exact ⟨four_rd hl (by omega), (four_far (block_lt hB) (by omega)).trans hB, (four_far (block_lt hr) (by omega)).trans hr, four_var hv,
    ⟨w3.heap.size, trL o n A c, trL o2 n2 A2 c2, rfl, ⟨⟨by omega, by omega⟩, four_new hk3⟩, tr ha, tr hb⟩, four_frm hF (by omega), hk⟩
theorem node_two {R d B g tv : Nat} {s : ByteArray} {l : List UInt8} {w w3 W9 : World} {a b : Tr} {op : UInt8} {o n o2 n2 : Int} {A A2 : Option Addr} {c c2 : Nat} (hl : RdL w3 R s l d) (hB : PBox w3 B R) (hr : TVar w3 w.heap.size (.int .u8 0) (.int .i64 0) (.slice none 0 0))
    (ha : TrC (fun j => w.heap.size < j) w3 a (trL o n A c)) (hb : TrC (fun j => w.heap.size < j) w3 b (trL o2 n2 A2 c2)) (hF : Frm (· = R) w W9) (hold : ∀ j, j < w3.heap.size → W9.heap[j]? = w3.heap[j]?) (htv : w3.heap.size ≤ tv) (hg : w3.heap.size ≤ g) (hne : g ≠ tv)
    (hk : W9.heap[g]? = some (.cells #[.int .u8 o, .int .i64 n, .slice A c c, .int .u8 o2, .int .i64 n2, .slice A2 c2 c2] 50 (0, 0))) (hv : TVar W9 tv (.int .u8 (op.toNat : Int)) (.int .i64 0) (.slice (some ⟨g, 0, none⟩) 2 2)) :
    NodeOut R s l d w B (.bin op a b) tv g (op.toNat : Int) W9 := by
  have hr3 := block_lt hr
  have tr : ∀ {t : Tr} {cs : List Value}, TrC (fun j => w.heap.size < j) w3 t cs → TrC (fun j => w.heap.size < j ∧ j ≠ tv) W9 t cs := fun h => by
    have h1 := h.in_ (G := fun j => w.heap.size < j ∧ j < w3.heap.size) fun j h1 h2 => ⟨h1, h2⟩
    exact (h1.keep fun j hj => hold j hj.2).in_ fun j hj _ => ⟨hj.1, by omega⟩
  exact ⟨hl.keep (hold _ hl.lt), (hold _ (block_lt hB)).trans hB, (hold _ hr3).trans hr, hv, ⟨g, trL o n A c, trL o2 n2 A2 c2, rfl, ⟨⟨by omega, hne⟩, hk⟩, tr ha, tr hb⟩, hF, by omega⟩
set_option maxRecDepth 100000 in
set_option maxHeartbeats 8000000 in
theorem one1_reads {W : Reads} {m : Nat} (hS : ∀ d, Short (W d)) (hW : ReadsLt_ W m) (R B G : Nat) (op : UInt8) (s : ByteArray) (l : List UInt8) (d : Nat) (w : World) (hB : PBox w B R) (hBR : B ≠ R) (hG : BVar w G (op.toNat : Int)) (hGR : G ≠ R) (h : RdL w R s l d) (hs : s.size ≤ 120) (hd : d ≤ 20) (hm : l.length < m) (hnv : NumVars w R) :
    Calls Tryd.prog 41 #[.pointer (some ⟨B, 0, none⟩), .pointer (some ⟨G, 0, none⟩)] w (Reads_ R s d w (twoRd W op d l)) := by
  obtain ⟨r1, hr1⟩ : ∃ r1, r1 = W d l := ⟨_, rfl⟩
  obtain ⟨r0, hr0⟩ : ∃ r0, r0 = twoRd W op d l := ⟨_, rfl⟩
  have e0 : r0 = r1.bind fun a l1 => wantRd 44 l1 fun l2 => (W d l2).bind fun b l3 => wantRd 41 l3 fun l4 => .ok (.bin op a b) l4 := by rw [hr0, hr1]; rfl
  rw [← hr0]
  have HR1 := Lib.hid hr1
  have HR0 := Lib.hid e0
  have HH := Lib.hid h
  have HB := Lib.hid hB
  have HGV := Lib.hid hG
  have hb0 := fun ob => (hB.alloc ob).cell
  have hlt := h.lt
  have HLT := Lib.hid hlt
  have HBL : Hid (B < w.heap.size) := block_lt hB
  have HGL : Hid (G < w.heap.size) := block_lt hG
  have HS := Lib.hid hS
  clear hr0 hr1 e0 h hB hG hS
  go_enter Tryd.func41, Tryd.ntmps41
  go_wp2_with fail
  have HH1 : Hid (RdL (w.alloc (.cells #[.int .u8 0, .int .i64 0, .slice none 0 0] 50)) R s l d) := HH.out.keep (heap_alloc_old _ _ hlt)
  have HF1 : Hid (Frm (· = R) w (w.alloc (.cells #[.int .u8 0, .int .i64 0, .slice none 0 0] 50))) := (Frm.refl _ _).alloc _
  have HV1 : Hid (TVar (w.alloc (.cells #[.int .u8 0, .int .i64 0, .slice none 0 0] 50)) w.heap.size (.int .u8 0) (.int .i64 0) (.slice none 0 0)) := TVar.new _ _ _ _
  have HB1 : Hid (PBox (w.alloc (.cells #[.int .u8 0, .int .i64 0, .slice none 0 0] 50)) B R) := HB.out.alloc _
  have HG1 : Hid (BVar (w.alloc (.cells #[.int .u8 0, .int .i64 0, .slice none 0 0] 50)) G (op.toNat : Int)) := HGV.out.alloc _
  have HC : Hid (Calls Tryd.prog 24 #[.pointer (some ⟨R, 0, none⟩)] (w.alloc (.cells #[.int .u8 0, .int .i64 0, .slice none 0 0] 50)) (Reads_ R s d (w.alloc (.cells #[.int .u8 0, .int .i64 0, .slice none 0 0] 50)) r1)) := by
    rw [HR1.out]; exact hW R s l d _ HH1.out hs hd hm (hnv.frm HF1.out)
  refine HC.out.mono ?_
  clear HC hlt hb0
  intro e w2 hr
  cases r1 with
  | bad k j =>
    obtain ⟨rfl, hp, hf⟩ := hr
    have e0 : r0 = .bad k j := HR0.out
    clear HR0
    subst e0
    exact ⟨rfl, rfl, hp, frm_trans HF1.out hf⟩
  | ok a l1 =>
    obtain ⟨o, n, A, c, rfl, ht, hl, hf⟩ := hr
    have HE0 : Hid (r0 = wantRd 44 l1 fun l2 => (W d l2).bind fun b l3 => wantRd 41 l3 fun l4 => .ok (.bin op a b) l4) := HR0.out
    have HM : Hid (l1.length < m) := by have := HS.out d l a l1 HR1.out.symm; show _ < _; omega
    have hRw := HLT.out
    have hBw := HBL.out
    have hGw := HGL.out
    obtain ⟨w3, hw3, HL3, HV3, HT3, HF3, hs3⟩ := new_tree_ ht hl
    have hz2 := HV1.out.frm hf (by omega)
    have hb2 := HB1.out.frm hf hBR
    have hg2 := HG1.out.frm hf hGR
    have HZ3 := Lib.hid (hz2.frm HF3.out (by omega))
    have HB3 := Lib.hid (hb2.frm HF3.out hBR)
    have HG3 := Lib.hid (hg2.frm HF3.out hGR)
    have HFW := Lib.hid (frm_trans (frm_trans HF1.out hf) HF3.out)
    have HG : Hid (w.heap.size < w2.heap.size) := block_lt hz2
    obtain ⟨ga, hga⟩ : ∃ ga, ga = w2.heap.size := ⟨_, rfl⟩
    have HT3b : Hid (TrC (fun j => w.heap.size < j ∧ j < ga) w3 a (trL o n A c)) := HT3.out.in_ fun j h1 _ => by have := h1.1; simp at this; omega
    have hb0 := fun ob => (hb2.alloc ob).cell
    clear ht hl hf HH1 HF1 HV1 HB1 HG1 HR0 HR1 hz2 HH HT3 HF3 HB HGV hb2 hg2
    simp only [trA]
    go_wp2_with fail
    rw [← hw3]
    rw [← hga] at HV3 HG ⊢
    clear hw3 hga hs3 hb0
    by_cases hq : ∃ l2, l1 = 44 :: l2
    · obtain ⟨l2, rfl⟩ := hq
      refine (wantL_yes R s 44 l2 d _ HL3.out hs).mono ?_
      rintro e w4 ⟨rfl, h4, f4⟩
      have hg := HG.out
      have HL4 := Lib.hid h4
      have HV4 := Lib.hid (HV3.out.frm f4 (by omega))
      have HZ4 := Lib.hid (HZ3.out.frm f4 (by omega))
      have HB4 := Lib.hid (HB3.out.frm f4 hBR)
      have HG4 := Lib.hid (HG3.out.frm f4 hGR)
      have HT4 := Lib.hid (HT3b.out.frm_ f4 fun j hj => by omega)
      have HF4 := Lib.hid (frm_trans HFW.out f4)
      clear h4 f4 HL3 HV3 HZ3 HB3 HG3 HT3b HFW
      go_wp2_with fail
      obtain ⟨rn, hrn⟩ : ∃ rn, rn = W d l2 := ⟨_, rfl⟩
      have HE5 : Hid (r0 = rn.bind fun b l3 => wantRd 41 l3 fun l4 => .ok (.bin op a b) l4) := by
        show _ = _
        rw [hrn, HE0.out]; simp only [wantRd, if_true]
      have HC5 : Hid (∀ W4, RdL W4 R s l2 d → Frm (· = R) w4 W4 → Calls Tryd.prog 24 #[.pointer (some ⟨R, 0, none⟩)] W4 (Reads_ R s d W4 rn)) := fun W4 h4 hf4 => by
        have hm2 := HM.out
        rw [hrn]; exact hW R s l2 d W4 h4 hs hd (by simp only [List.length_cons] at hm2; omega) (hnv.frm (frm_trans HF4.out hf4))
      have hg4 := block_lt HV4.out
      have hcells : ∀ W8 : World, W8.heap[G]? = w4.heap[G]? → W8.heap[ga]? = w4.heap[ga]? → W8.heap[B]? = w4.heap[B]? → (W8.cell? ⟨G, 0, none⟩ = some (.int .u8 (op.toNat : Int)) ∧ W8.cell? ⟨ga, 0, none⟩ = some (.int .u8 o) ∧ W8.cell? ⟨ga, 1, none⟩ = some (.int .i64 n) ∧ W8.cell? ⟨ga, 2, none⟩ = some (.slice A c c) ∧ W8.cell? ⟨B, 0, none⟩ = some (.pointer (some ⟨R, 0, none⟩))) := fun W8 h1 h2 h3 =>
        ⟨BVar.cell (h1.trans HG4.out), (TVar.cells (h2.trans HV4.out : TVar W8 ga (.int .u8 o) (.int .i64 n) (.slice A c c))).1, (TVar.cells (h2.trans HV4.out : TVar W8 ga (.int .u8 o) (.int .i64 n) (.slice A c c))).2.1, (TVar.cells (h2.trans HV4.out : TVar W8 ga (.int .u8 o) (.int .i64 n) (.slice A c c))).2.2.1, PBox.cell (h3.trans HB4.out)⟩
      have hGw4 : G < w4.heap.size := block_lt HG4.out
      have hBw4 : B < w4.heap.size := block_lt HB4.out
      have hS0 : (w4.drew.cell? ⟨G, 0, none⟩ = some (.int .u8 (op.toNat : Int)) ∧ w4.drew.cell? ⟨ga, 0, none⟩ = some (.int .u8 o) ∧ w4.drew.cell? ⟨ga, 1, none⟩ = some (.int .i64 n) ∧ w4.drew.cell? ⟨ga, 2, none⟩ = some (.slice A c c) ∧ w4.drew.cell? ⟨B, 0, none⟩ = some (.pointer (some ⟨R, 0, none⟩))) := hcells w4.drew rfl rfl rfl
      have hS0a : ∀ ob, ((w4.alloc ob).drew.cell? ⟨G, 0, none⟩ = some (.int .u8 (op.toNat : Int)) ∧ (w4.alloc ob).drew.cell? ⟨ga, 0, none⟩ = some (.int .u8 o) ∧ (w4.alloc ob).drew.cell? ⟨ga, 1, none⟩ = some (.int .i64 n) ∧ (w4.alloc ob).drew.cell? ⟨ga, 2, none⟩ = some (.slice A c c) ∧ (w4.alloc ob).drew.cell? ⟨B, 0, none⟩ = some (.pointer (some ⟨R, 0, none⟩))) := fun ob => hcells (w4.alloc ob).drew (heap_alloc_old _ _ hGw4) (heap_alloc_old _ _ hg4) (heap_alloc_old _ _ hBw4)
      have hpost : ∀ W4 : World, RdL W4 R s l2 d → Frm (· = R) w4 W4 → Calls Tryd.prog 24 #[.pointer (some ⟨R, 0, none⟩)] W4 fun e w8 => (∃ k j, rn = .bad k j ∧ e = faultE (s.size - k) j ∧ (∃ p, RdAt w8 R s p d) ∧ Frm (· = R) w4 w8) ∨
              ∃ b l3 o8 n8 A8 d8, Hid (rn = .ok b l3) ∧ e = .returned (.agg #[.int .u8 o8, .int .i64 n8, .slice A8 d8 d8]) ∧ Hid (TrC (fun j => W4.heap.size ≤ j ∧ j < w8.heap.size) w8 b (trL o8 n8 A8 d8)) ∧ Hid (RdL w8 R s l3 d) ∧ Hid (Frm (· = R) W4 w8) ∧
              (w8.cell? ⟨G, 0, none⟩ = some (.int .u8 (op.toNat : Int)) ∧ w8.cell? ⟨ga, 0, none⟩ = some (.int .u8 o) ∧ w8.cell? ⟨ga, 1, none⟩ = some (.int .i64 n) ∧ w8.cell? ⟨ga, 2, none⟩ = some (.slice A c c) ∧ w8.cell? ⟨B, 0, none⟩ = some (.pointer (some ⟨R, 0, none⟩))) ∧ (∀ ob, ((w8.alloc ob).cell? ⟨G, 0, none⟩ = some (.int .u8 (op.toNat : Int)) ∧ (w8.alloc ob).cell? ⟨ga, 0, none⟩ = some (.int .u8 o) ∧ (w8.alloc ob).cell? ⟨ga, 1, none⟩ = some (.int .i64 n) ∧ (w8.alloc ob).cell? ⟨ga, 2, none⟩ = some (.slice A c c) ∧ (w8.alloc ob).cell? ⟨B, 0, none⟩ = some (.pointer (some ⟨R, 0, none⟩)))) ∧ (∀ ob ob2, (((w8.alloc ob).alloc ob2).cell? ⟨G, 0, none⟩ = some (.int .u8 (op.toNat : Int)) ∧ ((w8.alloc ob).alloc ob2).cell? ⟨ga, 0, none⟩ = some (.int .u8 o) ∧ ((w8.alloc ob).alloc ob2).cell? ⟨ga, 1, none⟩ = some (.int .i64 n) ∧ ((w8.alloc ob).alloc ob2).cell? ⟨ga, 2, none⟩ = some (.slice A c c) ∧ ((w8.alloc ob).alloc ob2).cell? ⟨B, 0, none⟩ = some (.pointer (some ⟨R, 0, none⟩)))) ∧ (∀ ob x y z, (((((w8.alloc ob).setCell ⟨w4.heap.size, 0, none⟩ x).setCell ⟨w4.heap.size, 1, none⟩ y).setCell ⟨w4.heap.size, 2, none⟩ z).cell? ⟨G, 0, none⟩ = some (.int .u8 (op.toNat : Int)) ∧ ((((w8.alloc ob).setCell ⟨w4.heap.size, 0, none⟩ x).setCell ⟨w4.heap.size, 1, none⟩ y).setCell ⟨w4.heap.size, 2, none⟩ z).cell? ⟨ga, 0, none⟩ = some (.int .u8 o) ∧ ((((w8.alloc ob).setCell ⟨w4.heap.size, 0, none⟩ x).setCell ⟨w4.heap.size, 1, none⟩ y).setCell ⟨w4.heap.size, 2, none⟩ z).cell? ⟨ga, 1, none⟩ = some (.int .i64 n) ∧ ((((w8.alloc ob).setCell ⟨w4.heap.size, 0, none⟩ x).setCell ⟨w4.heap.size, 1, none⟩ y).setCell ⟨w4.heap.size, 2, none⟩ z).cell? ⟨ga, 2, none⟩ = some (.slice A c c) ∧ ((((w8.alloc ob).setCell ⟨w4.heap.size, 0, none⟩ x).setCell ⟨w4.heap.size, 1, none⟩ y).setCell ⟨w4.heap.size, 2, none⟩ z).cell? ⟨B, 0, none⟩ = some (.pointer (some ⟨R, 0, none⟩)))) ∧ (∀ ob ob2 x y z, ((((((w8.alloc ob).alloc ob2).setCell ⟨w8.heap.size, 0, none⟩ x).setCell ⟨w8.heap.size, 1, none⟩ y).setCell ⟨w8.heap.size, 2, none⟩ z).cell? ⟨G, 0, none⟩ = some (.int .u8 (op.toNat : Int)) ∧ (((((w8.alloc ob).alloc ob2).setCell ⟨w8.heap.size, 0, none⟩ x).setCell ⟨w8.heap.size, 1, none⟩ y).setCell ⟨w8.heap.size, 2, none⟩ z).cell? ⟨ga, 0, none⟩ = some (.int .u8 o) ∧ (((((w8.alloc ob).alloc ob2).setCell ⟨w8.heap.size, 0, none⟩ x).setCell ⟨w8.heap.size, 1, none⟩ y).setCell ⟨w8.heap.size, 2, none⟩ z).cell? ⟨ga, 1, none⟩ = some (.int .i64 n) ∧ (((((w8.alloc ob).alloc ob2).setCell ⟨w8.heap.size, 0, none⟩ x).setCell ⟨w8.heap.size, 1, none⟩ y).setCell ⟨w8.heap.size, 2, none⟩ z).cell? ⟨ga, 2, none⟩ = some (.slice A c c) ∧ (((((w8.alloc ob).alloc ob2).setCell ⟨w8.heap.size, 0, none⟩ x).setCell ⟨w8.heap.size, 1, none⟩ y).setCell ⟨w8.heap.size, 2, none⟩ z).cell? ⟨B, 0, none⟩ = some (.pointer (some ⟨R, 0, none⟩)))) ∧ (∀ ob ob2 x y z, ((((((w8.alloc ob).alloc ob2).setCell ⟨w8.heap.size + 1, 0, none⟩ x).setCell ⟨w8.heap.size + 1, 1, none⟩ y).setCell ⟨w8.heap.size + 1, 2, none⟩ z).cell? ⟨G, 0, none⟩ = some (.int .u8 (op.toNat : Int)) ∧ (((((w8.alloc ob).alloc ob2).setCell ⟨w8.heap.size + 1, 0, none⟩ x).setCell ⟨w8.heap.size + 1, 1, none⟩ y).setCell ⟨w8.heap.size + 1, 2, none⟩ z).cell? ⟨ga, 0, none⟩ = some (.int .u8 o) ∧ (((((w8.alloc ob).alloc ob2).setCell ⟨w8.heap.size + 1, 0, none⟩ x).setCell ⟨w8.heap.size + 1, 1, none⟩ y).setCell ⟨w8.heap.size + 1, 2, none⟩ z).cell? ⟨ga, 1, none⟩ = some (.int .i64 n) ∧ (((((w8.alloc ob).alloc ob2).setCell ⟨w8.heap.size + 1, 0, none⟩ x).setCell ⟨w8.heap.size + 1, 1, none⟩ y).setCell ⟨w8.heap.size + 1, 2, none⟩ z).cell? ⟨ga, 2, none⟩ = some (.slice A c c) ∧ (((((w8.alloc ob).alloc ob2).setCell ⟨w8.heap.size + 1, 0, none⟩ x).setCell ⟨w8.heap.size + 1, 1, none⟩ y).setCell ⟨w8.heap.size + 1, 2, none⟩ z).cell? ⟨B, 0, none⟩ = some (.pointer (some ⟨R, 0, none⟩)))) := by
        intro W4 h4 hf4
        refine (HC5.out W4 h4 hf4).mono ?_
        intro e w8 hr
        cases hcr : rn with
        | bad k j =>
          rw [hcr] at hr
          obtain ⟨h1, h2, h3⟩ := hr
          exact .inl ⟨k, j, rfl, h1, h2, frm_trans hf4 h3⟩
        | ok b l3 =>
          rw [hcr] at hr
          obtain ⟨o8, n8, A8, d8, rfl, ht, hl, hf⟩ := hr
          have hf2 : Frm (· = R) w4 w8 := frm_trans hf4 hf
          have hs8 := hf2.size
          have k1 : ∀ j, j < w4.heap.size → j ≠ R → w8.heap[j]? = w4.heap[j]? := fun j h1 h2 => hf2.block j h1 h2
          have far1 : ∀ ob j, j < w4.heap.size → j ≠ R → (w8.alloc ob).heap[j]? = w4.heap[j]? := fun ob j h1 h2 => (heap_alloc_old _ _ (by omega)).trans (k1 j h1 h2)
          have far2 : ∀ ob ob2 j, j < w4.heap.size → j ≠ R → ((w8.alloc ob).alloc ob2).heap[j]? = w4.heap[j]? := fun ob ob2 j h1 h2 => (heap_alloc_old _ _ (by simp; omega)).trans (far1 ob j h1 h2)
          exact .inr ⟨b, l3, o8, n8, A8, d8, rfl, rfl, ht.in_ fun j h1 h2 => ⟨h1, h2⟩, hl, hf, hcells w8 (k1 G hGw4 hGR) (k1 ga hg4 (by omega)) (k1 B hBw4 hBR), fun ob => hcells _ (far1 ob G hGw4 hGR) (far1 ob ga hg4 (by omega)) (far1 ob B hBw4 hBR), fun ob ob2 => hcells _ (far2 ob ob2 G hGw4 hGR) (far2 ob ob2 ga hg4 (by omega)) (far2 ob ob2 B hBw4 hBR),
            fun ob x y z => hcells _ ((tset_far _ (by omega) x y z).trans (far1 ob G hGw4 hGR)) ((tset_far _ (by omega) x y z).trans (far1 ob ga hg4 (by omega))) ((tset_far _ (by omega) x y z).trans (far1 ob B hBw4 hBR)),
            fun ob ob2 x y z => hcells _ ((tset_far _ (by omega) x y z).trans (far2 ob ob2 G hGw4 hGR)) ((tset_far _ (by omega) x y z).trans (far2 ob ob2 ga hg4 (by omega))) ((tset_far _ (by omega) x y z).trans (far2 ob ob2 B hBw4 hBR)),
            fun ob ob2 x y z => hcells _ ((tset_far _ (by omega) x y z).trans (far2 ob ob2 G hGw4 hGR)) ((tset_far _ (by omega) x y z).trans (far2 ob ob2 ga hg4 (by omega))) ((tset_far _ (by omega) x y z).trans (far2 ob ob2 B hBw4 hBR))⟩
      have HCA := Lib.hid (hpost w4.drew (HL4.out.keep rfl) (Frm.refl _ _).drew)
      have HCB := Lib.hid (hpost (w4.alloc (.cells #[.int .u8 0, .int .i64 0, .slice none 0 0] 50)).drew (HL4.out.keep (heap_alloc_old _ _ HL4.out.lt)) ((Frm.refl _ _).alloc _).drew)
      have HBAD : Hid (∀ k j w8, rn = .bad k j → (∃ p, RdAt w8 R s p d) → Frm (· = R) w4 w8 → Reads_ R s d w r0 (faultE (s.size - k) j) w8) := fun k j w8 h1 h2 h3 => by
        have e0 : r0 = .bad k j := by rw [HE5.out, h1]; rfl
        rw [e0]; exact ⟨rfl, h2, frm_trans HF4.out h3⟩
      have HTV : Hid (∀ w8, Hid (Frm (· = R) (w4.alloc (.cells #[.int .u8 0, .int .i64 0, .slice none 0 0] 50)).drew w8) → TVar w8 w4.heap.size (.int .u8 0) (.int .i64 0) (.slice none 0 0)) := fun w8 h8 =>
        TVar.frm (w := (w4.alloc (.cells #[.int .u8 0, .int .i64 0, .slice none 0 0] 50)).drew) (TVar.new w4 _ _ _) h8.out (by have := HL4.out.lt; omega)
      clear hpost HE0 hrn hcells
      go_region_held2 (fun W => W.cell? ⟨G, 0, none⟩ = some (.int .u8 (op.toNat : Int)) ∧ W.cell? ⟨ga, 0, none⟩ = some (.int .u8 o) ∧ W.cell? ⟨ga, 1, none⟩ = some (.int .i64 n) ∧ W.cell? ⟨ga, 2, none⟩ = some (.slice A c c) ∧ W.cell? ⟨B, 0, none⟩ = some (.pointer (some ⟨R, 0, none⟩))) (first | with_reducible exact hS0 | with_reducible exact hS0a _ | with_reducible exact hS8 | with_reducible exact hS8a _ | with_reducible exact hS8b _ _ | with_reducible exact hS8c _ _ _ _ | with_reducible exact hS8d _ _ _ _ _ | with_reducible exact hS8e _ _ _ _ _) (first
        | (go_at_call 24; refine HCA.out.mono ?_; rintro e w8 (⟨k, j, h1, rfl, h2, h3⟩ | ⟨b, l3, o8, n8, A8, d8, HRN, rfl, HT8, HL8, HF8, hS8, hS8a, hS8b, hS8c, hS8d, hS8e⟩); exact ⟨rfl, HBAD.out k j w8 h1 h2 h3⟩)
        | (go_at_call 24; refine HCB.out.mono ?_; rintro e w8 (⟨k, j, h1, rfl, h2, h3⟩ | ⟨b, l3, o8, n8, A8, d8, HRN, rfl, HT8, HL8, HF8, hS8, hS8a, hS8b, hS8c, hS8d, hS8e⟩); exact ⟨rfl, HBAD.out k j w8 h1 h2 h3⟩; obtain ⟨t0, t1, t2, tf⟩ := (HTV.out w8 HF8).allocs))
      · skip
        have hw84 : Frm (· = R) w4 w8 := frm_trans (Frm.refl _ _).drew HF8.out
        have hs8 := hw84.size
        have e0 : r0 = wantRd 41 l3 fun l4 => .ok (.bin op a b) l4 := by rw [HE5.out, HRN.out]; rfl
        have HEF := Lib.hid e0
        have ha8 : TrC (fun j => w.heap.size < j ∧ j < ga) w8 a (trL o n A c) := HT4.out.frm_ hw84 fun j hj => by omega
        have hb8 := HB4.out.frm hw84 hBR
        have hz8 := HZ4.out.frm hw84 (by omega)
        have hf8 := frm_trans HF4.out hw84
        have hb9 : TrC (fun j => w4.heap.size ≤ j ∧ j < w8.heap.size) w8 b (trL o8 n8 A8 d8) := HT8.out.in_ fun j hj _ => by have h1 := hj.1; have h2 := hj.2; exact ⟨h1, h2⟩
        obtain ⟨W9, hW9⟩ : ∃ W9, W9 = (w8.alloc (.cells #[.int .u8 o, .int .i64 n, .slice A c c, .int .u8 o8, .int .i64 n8, .slice A8 d8 d8] 50)).alloc (.cells #[.int .u8 (op.toNat : Int), .int .i64 0, .slice (some ⟨w8.heap.size, 0, none⟩) 2 2] 50) := ⟨_, rfl⟩
        have HN : Hid (NodeOut R s l3 d w B (.bin op a b) (w8.heap.size + 1) (w8.heap.size) (op.toNat : Int) W9) := by
          rw [hW9]
          refine node_two HL8.out hb8 hz8 (ha8.in_ fun j hj _ => hj.1) (hb9.in_ fun j hj _ => by omega) ((hf8.alloc _).alloc _) (fun j hj => (heap_alloc_old _ _ (by simp; omega)).trans (heap_alloc_old _ _ hj)) (by omega) (Nat.le_refl _) (by omega) ((heap_alloc_old _ _ (by simp)).trans (heap_alloc_new _ _)) ?_
          have h := heap_alloc_new (w8.alloc (.cells #[.int .u8 o, .int .i64 n, .slice A c c, .int .u8 o8, .int .i64 n8, .slice A8 d8 d8] 50)) (.cells #[.int .u8 (op.toNat : Int), .int .i64 0, .slice (some ⟨w8.heap.size, 0, none⟩) 2 2] 50)
          rw [show (w8.alloc (.cells #[.int .u8 o, .int .i64 n, .slice A c c, .int .u8 o8, .int .i64 n8, .slice A8 d8 d8] 50)).heap.size = w8.heap.size + 1 from by simp] at h
          exact h
        skip
        rw [← hW9]
        clear hW9 HT8 HL8 HF8 HRN hS8 hS8a hS8b hS8c hS8d hS8e hS0 hS0a HCA HCB HTV HBAD HC5 HE5 e0 ha8 hb8 hz8 hf8 hb9 HT4 HV4 HZ4 HB4 HG4 HF4 HL4
        obtain ⟨m0, m1, m2, mf⟩ := HN.out.var.cells
        have hbx := HN.out.box.cell
        go_wp2_with fail
        by_cases hq2 : ∃ l4, l3 = 41 :: l4
        · obtain ⟨l4, rfl⟩ := hq2
          have e1 : r0 = .ok (.bin op a b) l4 := HEF.out
          clear HEF
          subst e1
          refine (wantL_yes R s 41 l4 d _ HN.out.rd hs).mono ?_
          rintro e w10 ⟨rfl, h10, f10⟩
          have htv := HN.out.tv
          have hzz := HN.out.res.frm f10 (by omega)
          obtain ⟨z0, z1, z2, zf⟩ := hzz.cells
          obtain ⟨y0, y1, y2, yf⟩ := (HN.out.var.frm f10 (by omega)).cells
          obtain ⟨q0, q1, q2, qf⟩ := (pass_var (x := .int .u8 (op.toNat : Int)) (y := .int .i64 0) (z := .slice (some ⟨w8.heap.size, 0, none⟩) 2 2) hzz).cells
          have hr : Reads_ R s d w (.ok (.bin op a b) l4) (.returned (.agg (trA (op.toNat : Int) 0 (some ⟨w8.heap.size, 0, none⟩) 2))) (tset w10 w.heap.size (.int .u8 (op.toNat : Int)) (.int .i64 0) (.slice (some ⟨w8.heap.size, 0, none⟩) 2 2)) :=
            pass_ok (HN.out.tree.frm_ f10 fun j hj => by omega) (fun j hj => by omega) h10 (frm_trans HN.out.frm f10) (by omega) (Nat.le_refl _)
          have HRR := Lib.hid hr
          simp only [tset] at q0 q1 q2
          clear h10 f10 hzz hr
          go_wp2_with fail
          refine ⟨rfl, .agg (trA (op.toNat : Int) 0 (some ⟨w8.heap.size, 0, none⟩) 2), ?_, HRR.out⟩
          simp only [results, Tryd.results41]
          simp [go_sem, q0, q1, q2, trA]
        · have e1 : r0 = .bad l3.length 2 := HEF.out.trans (want_fails_ _ fun r e => hq2 ⟨r, e⟩)
          clear HEF
          subst e1
          refine (wantL_no R s 41 l3 d _ HN.out.rd hs fun r e => hq2 ⟨r, e⟩).mono ?_
          rintro e w10 ⟨rfl, h10, f10⟩
          exact ⟨rfl, rfl, ⟨_, h10.2.2⟩, frm_trans HN.out.frm f10⟩
      · skip
        have hw84 : Frm (· = R) w4 w8 := frm_trans (Frm.refl _ _).drew HF8.out
        have hs8 := hw84.size
        have e0 : r0 = wantRd 41 l3 fun l4 => .ok (.bin op a b) l4 := by rw [HE5.out, HRN.out]; rfl
        have HEF := Lib.hid e0
        have ha8 : TrC (fun j => w.heap.size < j ∧ j < ga) w8 a (trL o n A c) := HT4.out.frm_ hw84 fun j hj => by omega
        have hb8 := HB4.out.frm hw84 hBR
        have hz8 := HZ4.out.frm hw84 (by omega)
        have hf8 := frm_trans HF4.out hw84
        have hb9 : TrC (fun j => w4.heap.size ≤ j ∧ j < w8.heap.size) w8 b (trL o8 n8 A8 d8) := HT8.out.in_ fun j hj _ => by have h1 := hj.1; have h2 := hj.2; exact ⟨h1, h2⟩
        obtain ⟨W9, hW9⟩ : ∃ W9, W9 = (w8.alloc (.cells #[.int .u8 (op.toNat : Int), .int .i64 0, .slice (some ⟨w8.heap.size + 1, 0, none⟩) 2 2] 50)).alloc (.cells #[.int .u8 o, .int .i64 n, .slice A c c, .int .u8 o8, .int .i64 n8, .slice A8 d8 d8] 50) := ⟨_, rfl⟩
        have HN : Hid (NodeOut R s l3 d w B (.bin op a b) (w8.heap.size) ((w8.heap.size + 1)) (op.toNat : Int) W9) := by
          rw [hW9]
          refine node_two HL8.out hb8 hz8 (ha8.in_ fun j hj _ => hj.1) (hb9.in_ fun j hj _ => by omega) ((hf8.alloc _).alloc _) (fun j hj => (heap_alloc_old _ _ (by simp; omega)).trans (heap_alloc_old _ _ hj)) (Nat.le_refl _) (by omega) (by omega) ?_ ((heap_alloc_old _ _ (by simp)).trans (heap_alloc_new _ _))
          have h := heap_alloc_new (w8.alloc (.cells #[.int .u8 (op.toNat : Int), .int .i64 0, .slice (some ⟨w8.heap.size + 1, 0, none⟩) 2 2] 50)) (.cells #[.int .u8 o, .int .i64 n, .slice A c c, .int .u8 o8, .int .i64 n8, .slice A8 d8 d8] 50)
          rw [show (w8.alloc (.cells #[.int .u8 (op.toNat : Int), .int .i64 0, .slice (some ⟨w8.heap.size + 1, 0, none⟩) 2 2] 50)).heap.size = w8.heap.size + 1 from by simp] at h
          exact h
        skip
        rw [← hW9]
        clear hW9 HT8 HL8 HF8 HRN hS8 hS8a hS8b hS8c hS8d hS8e hS0 hS0a HCA HCB HTV HBAD HC5 HE5 e0 ha8 hb8 hz8 hf8 hb9 HT4 HV4 HZ4 HB4 HG4 HF4 HL4
        obtain ⟨m0, m1, m2, mf⟩ := HN.out.var.cells
        have hbx := HN.out.box.cell
        go_wp2_with fail
        by_cases hq2 : ∃ l4, l3 = 41 :: l4
        · obtain ⟨l4, rfl⟩ := hq2
          have e1 : r0 = .ok (.bin op a b) l4 := HEF.out
          clear HEF
          subst e1
          refine (wantL_yes R s 41 l4 d _ HN.out.rd hs).mono ?_
          rintro e w10 ⟨rfl, h10, f10⟩
          have htv := HN.out.tv
          have hzz := HN.out.res.frm f10 (by omega)
          obtain ⟨z0, z1, z2, zf⟩ := hzz.cells
          obtain ⟨y0, y1, y2, yf⟩ := (HN.out.var.frm f10 (by omega)).cells
          obtain ⟨q0, q1, q2, qf⟩ := (pass_var (x := .int .u8 (op.toNat : Int)) (y := .int .i64 0) (z := .slice (some ⟨(w8.heap.size + 1), 0, none⟩) 2 2) hzz).cells
          have hr : Reads_ R s d w (.ok (.bin op a b) l4) (.returned (.agg (trA (op.toNat : Int) 0 (some ⟨(w8.heap.size + 1), 0, none⟩) 2))) (tset w10 w.heap.size (.int .u8 (op.toNat : Int)) (.int .i64 0) (.slice (some ⟨(w8.heap.size + 1), 0, none⟩) 2 2)) :=
            pass_ok (HN.out.tree.frm_ f10 fun j hj => by omega) (fun j hj => by omega) h10 (frm_trans HN.out.frm f10) (by omega) (Nat.le_refl _)
          have HRR := Lib.hid hr
          simp only [tset] at q0 q1 q2
          clear h10 f10 hzz hr
          go_wp2_with fail
          refine ⟨rfl, .agg (trA (op.toNat : Int) 0 (some ⟨(w8.heap.size + 1), 0, none⟩) 2), ?_, HRR.out⟩
          simp only [results, Tryd.results41]
          simp [go_sem, q0, q1, q2, trA]
        · have e1 : r0 = .bad l3.length 2 := HEF.out.trans (want_fails_ _ fun r e => hq2 ⟨r, e⟩)
          clear HEF
          subst e1
          refine (wantL_no R s 41 l3 d _ HN.out.rd hs fun r e => hq2 ⟨r, e⟩).mono ?_
          rintro e w10 ⟨rfl, h10, f10⟩
          exact ⟨rfl, rfl, ⟨_, h10.2.2⟩, frm_trans HN.out.frm f10⟩
      · skip
        have hw84 : Frm (· = R) w4 w8 := frm_trans ((Frm.refl _ _).alloc _).drew HF8.out
        have hs8 := hw84.size
        have e0 : r0 = wantRd 41 l3 fun l4 => .ok (.bin op a b) l4 := by rw [HE5.out, HRN.out]; rfl
        have HEF := Lib.hid e0
        have ha8 : TrC (fun j => w.heap.size < j ∧ j < ga) w8 a (trL o n A c) := HT4.out.frm_ hw84 fun j hj => by omega
        have hb8 := HB4.out.frm hw84 hBR
        have hz8 := HZ4.out.frm hw84 (by omega)
        have hf8 := frm_trans HF4.out hw84
        have hb9 : TrC (fun j => w4.heap.size + 1 ≤ j ∧ j < w8.heap.size) w8 b (trL o8 n8 A8 d8) := HT8.out.in_ fun j hj _ => by have h1 := hj.1; have h2 := hj.2; exact ⟨by simpa using h1, h2⟩
        obtain ⟨W9, hW9⟩ : ∃ W9, W9 = tset (w8.alloc (.cells #[.int .u8 o, .int .i64 n, .slice A c c, .int .u8 o8, .int .i64 n8, .slice A8 d8 d8] 50)) w4.heap.size (.int .u8 (op.toNat : Int)) (.int .i64 0) (.slice (some ⟨w8.heap.size, 0, none⟩) 2 2) := ⟨_, rfl⟩
        have HN : Hid (NodeOut R s l3 d w B (.bin op a b) (w4.heap.size) (w8.heap.size) (op.toNat : Int) W9) := by
          rw [hW9]
          exact node_out HL8.out hb8 hz8 (HTV.out w8 HF8) (ha8.in_ fun j hj _ => ⟨hj.1, by omega⟩) (hb9.in_ fun j hj _ => ⟨by omega, by omega⟩) hf8 (by omega) hRw hBw
        simp only [tset] at hW9
        rw [← hW9]
        clear hW9 HT8 HL8 HF8 HRN hS8 hS8a hS8b hS8c hS8d hS8e hS0 hS0a HCA HCB HTV HBAD HC5 HE5 e0 ha8 hb8 hz8 hf8 hb9 HT4 HV4 HZ4 HB4 HG4 HF4 HL4
        obtain ⟨m0, m1, m2, mf⟩ := HN.out.var.cells
        have hbx := HN.out.box.cell
        go_wp2_with fail
        by_cases hq2 : ∃ l4, l3 = 41 :: l4
        · obtain ⟨l4, rfl⟩ := hq2
          have e1 : r0 = .ok (.bin op a b) l4 := HEF.out
          clear HEF
          subst e1
          refine (wantL_yes R s 41 l4 d _ HN.out.rd hs).mono ?_
          rintro e w10 ⟨rfl, h10, f10⟩
          have htv := HN.out.tv
          have hzz := HN.out.res.frm f10 (by omega)
          obtain ⟨z0, z1, z2, zf⟩ := hzz.cells
          obtain ⟨y0, y1, y2, yf⟩ := (HN.out.var.frm f10 (by omega)).cells
          obtain ⟨q0, q1, q2, qf⟩ := (pass_var (x := .int .u8 (op.toNat : Int)) (y := .int .i64 0) (z := .slice (some ⟨w8.heap.size, 0, none⟩) 2 2) hzz).cells
          have hr : Reads_ R s d w (.ok (.bin op a b) l4) (.returned (.agg (trA (op.toNat : Int) 0 (some ⟨w8.heap.size, 0, none⟩) 2))) (tset w10 w.heap.size (.int .u8 (op.toNat : Int)) (.int .i64 0) (.slice (some ⟨w8.heap.size, 0, none⟩) 2 2)) :=
            pass_ok (HN.out.tree.frm_ f10 fun j hj => by omega) (fun j hj => by omega) h10 (frm_trans HN.out.frm f10) (by omega) (Nat.le_refl _)
          have HRR := Lib.hid hr
          simp only [tset] at q0 q1 q2
          clear h10 f10 hzz hr
          go_wp2_with fail
          refine ⟨rfl, .agg (trA (op.toNat : Int) 0 (some ⟨w8.heap.size, 0, none⟩) 2), ?_, HRR.out⟩
          simp only [results, Tryd.results41]
          simp [go_sem, q0, q1, q2, trA]
        · have e1 : r0 = .bad l3.length 2 := HEF.out.trans (want_fails_ _ fun r e => hq2 ⟨r, e⟩)
          clear HEF
          subst e1
          refine (wantL_no R s 41 l3 d _ HN.out.rd hs fun r e => hq2 ⟨r, e⟩).mono ?_
          rintro e w10 ⟨rfl, h10, f10⟩
          exact ⟨rfl, rfl, ⟨_, h10.2.2⟩, frm_trans HN.out.frm f10⟩
    · have e0 : r0 = .bad l1.length 2 := HE0.out.trans (want_fails_ _ fun r e => hq ⟨r, e⟩)
      clear HE0
      subst e0
      refine (wantL_no R s 44 l1 d _ HL3.out hs fun r e => hq ⟨r, e⟩).mono ?_
      rintro e w7 ⟨rfl, h7, f7⟩
      exact ⟨rfl, rfl, ⟨_, h7.2.2⟩, frm_trans HFW.out f7⟩
end Go.Proofs.YtmbhfadidpkkhaaDoor
