/-
  Package expr: the contract of whole. Conditions: the text takes at most 120 bytes, the depth is at most 20.
-/
import Derived.Test.YtmbhfadidpkkhaaDoorExprLess
import Derived.Deep.RegionHeld2
namespace Go.Proofs.YtmbhfadidpkkhaaDoor
open Go.RowKit Go.Shelf
set_option linter.unusedVariables false

/-- A reader's method f reads as X does, texts shorter than m. -/
def ReadsLt (f : Nat) (X : Reads) (m : Nat) : Prop := ∀ (R : Nat) (s : ByteArray) (l : List UInt8) (d : Nat) (w : World), RdL w R s l d → s.size ≤ 120 → d ≤ 20 → l.length < m → NumVars w R → Calls Tryd.prog f #[.pointer (some ⟨R, 0, none⟩)] w (Reads_ R s d w (X d l))
/-- A variable of a tree's type is new. -/
theorem new_tree {F : Nat → Prop} {w w2 : World} {R d : Nat} {s : ByteArray} {l : List UInt8} {t : Tr} {o n : Int} {A : Option Addr} {c : Nat} (ht : TrC F w2 t (trL o n A c)) (hl : RdL w2 R s l d) (hf : Frm (· = R) w w2) :
    ∃ w3, w3 = w2.alloc (.cells #[.int .u8 o, .int .i64 n, .slice A c c] 50) ∧ Hid (RdL w3 R s l d) ∧ Hid (TVar w3 w2.heap.size (.int .u8 o) (.int .i64 n) (.slice A c c)) ∧ Hid (TrC (fun j => F j ∧ j < w2.heap.size) w3 t (trL o n A c)) ∧ Hid (Frm (· = R) w2 w3) ∧ w3.heap.size = w2.heap.size + 1 := by
  refine ⟨_, rfl, hl.keep (heap_alloc_old _ _ hl.lt), TVar.new _ _ _ _, ?_, (Frm.refl _ _).alloc _, by simp⟩
  have h1 : TrC (fun j => F j ∧ j < w2.heap.size) w2 t (trL o n A c) := ht.in_ fun j h1 h2 => ⟨h1, h2⟩
  exact h1.keep fun j hj => heap_alloc_old _ _ hj.2
theorem TrC.frm {F : Nat → Prop} {w w' : World} {R : Nat} {t : Tr} {cs : List Value} (h : TrC F w t cs) (hF : Frm (· = R) w w') (hR : ∀ j, F j → j ≠ R) : TrC F w' t cs := by
  have h1 : TrC (fun j => F j ∧ j < w.heap.size) w t cs := h.in_ fun j h1 h2 => ⟨h1, h2⟩
  exact (h1.keep fun j hj => hF.block j hj.2 (hR j hj.1)).in_ fun j h _ => h.1
theorem want_fails {c : UInt8} {l : List UInt8} (f : List UInt8 → Rd) (h : ∀ r, l ≠ c :: r) : wantRd c l f = .bad l.length 2 := by
  cases l with
  | nil => rfl
  | cons x r => simp only [wantRd, if_neg (fun e : x = c => h r (e ▸ rfl))]
set_option maxRecDepth 100000 in
set_option maxHeartbeats 8000000 in
theorem whole_reads {W : Reads} {m : Nat} (hS : ∀ d, Short (W d)) (hcmp : ReadsAs 26 (cmpRd W) m) (hW : ReadsLt 24 W m) : ReadsAs 24 (wholeStep W) m := by
  intro R s l d w h hs hd hm hnv
  obtain ⟨r1, hr1⟩ : ∃ r1, r1 = cmpRd W d l := ⟨_, rfl⟩
  obtain ⟨r0, hr0⟩ : ∃ r0, r0 = wholeStep W d l := ⟨_, rfl⟩
  have e0 : r0 = r1.bind (selRd W d) := by rw [hr0, hr1]; rfl
  rw [← hr0]
  have hmf : ∀ (fn : Fn) (first cap : Array Value) (w : World), (Instr.makeFunc fn first cap).run Tryd.prog w = .ok (.func fn first cap) w := fun _ _ _ _ => rfl
  have hK : ∀ args w, (callFunc 24 args).run Tryd.prog w = .ok (.enter 24 args) w := fun _ _ => rfl
  have HR1 := Lib.hid hr1
  have HR0 := Lib.hid e0
  have HH := Lib.hid h
  have hlt := h.lt
  have HLT := Lib.hid hlt
  have HW := Lib.hid hW
  have HS := Lib.hid hS
  clear hr0 hr1 e0 h hW hS
  go_enter Tryd.func24, Tryd.ntmps24
  go_wp2_with fail
  have HH1 : Hid (RdL (w.alloc (.cells #[.int .u8 0, .int .i64 0, .slice none 0 0] 50)) R s l d) := HH.out.keep (heap_alloc_old _ _ hlt)
  have HF1 : Hid (Frm (· = R) w (w.alloc (.cells #[.int .u8 0, .int .i64 0, .slice none 0 0] 50))) := (Frm.refl _ _).alloc _
  have HV1 : Hid (TVar (w.alloc (.cells #[.int .u8 0, .int .i64 0, .slice none 0 0] 50)) w.heap.size (.int .u8 0) (.int .i64 0) (.slice none 0 0)) := TVar.new _ _ _ _
  have HC : Hid (Calls Tryd.prog 26 #[.pointer (some ⟨R, 0, none⟩)] (w.alloc (.cells #[.int .u8 0, .int .i64 0, .slice none 0 0] 50)) (Reads_ R s d (w.alloc (.cells #[.int .u8 0, .int .i64 0, .slice none 0 0] 50)) r1)) := by
    rw [HR1.out]; exact hcmp R s l d _ HH1.out hs hd hm (hnv.frm HF1.out)
  refine HC.out.mono ?_
  clear HC hlt
  intro e w2 hr
  cases r1 with
  | bad k j =>
    obtain ⟨rfl, hp, hf⟩ := hr
    have e0 : r0 = .bad k j := HR0.out
    clear HR0
    subst e0
    exact ⟨rfl, rfl, hp, frm_trans HF1.out hf⟩
  | ok a l1 =>
    obtain ⟨o, n, A, c, rfl, ht, hl, hf⟩ := hr
    have HE0 : Hid (r0 = selRd W d a l1) := HR0.out
    have hRw := HLT.out
    have HM : Hid (l1.length < m) := by have := cmp_short HS.out d l a l1 HR1.out.symm; show _ < _; omega
    obtain ⟨w3, hw3, HL3, HV3, HT3, HF3, hs3⟩ := new_tree ht hl hf
    have hf2 := hf.size
    have hz2 := HV1.out.frm hf (by omega)
    have HZ3 := Lib.hid (hz2.frm HF3.out (by omega))
    have HFW := Lib.hid (frm_trans (frm_trans HF1.out hf) HF3.out)
    have HG : Hid (w.heap.size < w2.heap.size) := block_lt hz2
    obtain ⟨ga, hga⟩ : ∃ ga, ga = w2.heap.size := ⟨_, rfl⟩
    have HT3b : Hid (TrC (fun j => w.heap.size < j ∧ j < ga) w3 a (trL o n A c)) := HT3.out.in_ fun j h1 _ => by have := h1.1; simp at this; omega
    have hc1 := hl.allocs
    clear ht hl hf HH1 HF1 HV1 HR0 HR1 hf2 hz2 HH HT3 HF3
    simp only [trA]
    go_wp2_with fail
    rw [← hw3]
    rw [← hga] at HV3 HG ⊢
    clear hw3 hga hs3 hc1
    by_cases hq : ∃ l2, l1 = 63 :: l2
    · obtain ⟨l2, rfl⟩ := hq
      refine (hasL_yes R s ⟨#[63]⟩ (63 :: l2) l2 d _ HL3.out hs rfl).mono ?_
      rintro e w4 ⟨rfl, h4, f4⟩
      have HL4 := Lib.hid h4
      have HV4 := Lib.hid (HV3.out.frm f4 (by have := HLT.out; have := HG.out; omega))
      have HZ4 := Lib.hid (HZ3.out.frm f4 (by have := HLT.out; omega))
      have HT4 : Hid (TrC (fun j => w.heap.size < j ∧ j < ga) w4 a (trL o n A c)) := HT3b.out.frm f4 fun j hj => by have := HLT.out; omega
      have HF4 := Lib.hid (frm_trans HFW.out f4)
      clear h4 f4 HL3 HV3 HZ3 HT3b HFW
      go_wp2_with fail
      obtain ⟨r2, hr2⟩ : ∃ r2, r2 = deepRd d (l2.length + 1) (W (d + 1) l2) := ⟨_, rfl⟩
      have HE1 : Hid (r0 = r2.bind fun b l3 => wantRd 58 l3 fun l4 => (W (d + 1) l4).bind fun c l5 => .ok (.sel a b c) l5) := by
        show _ = _
        rw [HE0.out, hr2, deep_bind]; simp only [selRd, if_true]
      have HC : Hid (Calls Tryd.prog 28 #[.pointer (some ⟨R, 0, none⟩), .int .i64 ((s.size - (l2.length + 1) : Nat) : Int), .func (.func 24) #[.pointer (some ⟨R, 0, none⟩)] #[]] w4 (Reads_ R s d w4 r2)) := by
        have hm2 := HM.out
        rw [hr2]
        exact withinL R (l2.length + 1) d 24 s l2 #[.pointer (some ⟨R, 0, none⟩)] #[] w4 (W (d + 1) l2) HL4.out hd hK (fun hne W2 hW2 hF => HW.out R s l2 (d + 1) W2 hW2 hs (by omega) (by simp only [List.length_cons] at hm2; omega) (hnv.frm (frm_trans HF4.out hF)))
      have HD : Hid (∀ t l, r2 = .ok t l → d ≠ 20 ∧ W (d + 1) l2 = .ok t l) := fun t l e => by rw [hr2] at e; exact deep_ok e
      clear hr2 HE0
      refine HC.out.mono ?_
      clear HC
      intro e w5 hr
      cases r2 with
      | bad k j =>
        obtain ⟨rfl, hp, hf⟩ := hr
        have e0 : r0 = .bad k j := HE1.out
        clear HE1
        subst e0
        exact ⟨rfl, rfl, hp, frm_trans HF4.out hf⟩
      | ok b l3 =>
        obtain ⟨o2, n2, A2, d2, rfl, ht, hl, hf⟩ := hr
        have HE2 : Hid (r0 = wantRd 58 l3 fun l4 => (W (d + 1) l4).bind fun c l5 => .ok (.sel a b c) l5) := HE1.out
        have hRw := HLT.out
        have hgw := HG.out
        obtain ⟨hd20, hWb⟩ := HD.out b l3 rfl
        have HM3 : Hid (l3.length < m) := by
          have := HS.out (d + 1) l2 b l3 hWb
          have hm2 := HM.out
          simp only [List.length_cons] at hm2
          show _ < _; omega
        obtain ⟨w6, hw6, HL6, HB6, HTB6, HF6, hs6⟩ := new_tree ht hl hf
        have hfs := hf.size
        have hva := HV4.out.frm hf (by omega)
        have hvz := HZ4.out.frm hf (by omega)
        have hta : TrC (fun j => w.heap.size < j ∧ j < ga) w5 a (trL o n A c) := HT4.out.frm hf fun j hj => by omega
        have hg4 : ga < w4.heap.size := block_lt HV4.out
        have HV6 := Lib.hid (hva.frm HF6.out (by omega))
        have HZ6 := Lib.hid (hvz.frm HF6.out (by omega))
        have HT6 := Lib.hid (hta.frm HF6.out fun j hj => by omega)
        have HFW6 := Lib.hid (frm_trans (frm_trans HF4.out hf) HF6.out)
        obtain ⟨gb, hgb⟩ : ∃ gb, gb = w5.heap.size := ⟨_, rfl⟩
        have HTB : Hid (TrC (fun j => ga < j ∧ j < gb) w6 b (trL o2 n2 A2 d2)) := HTB6.out.in_ fun j h1 _ => by have := h1.1; have := h1.2; omega
        have HG6 : Hid (ga < gb) := by show _ < _; omega
        have hc1 := hl.allocs
        clear ht hl hf HE1 hWb HD hva hvz hta HV4 HZ4 HT4 HF4 HL4 HTB6 HF6 hfs hg4
        simp only [trA]
        go_wp2_with fail
        rw [← hw6]
        rw [← hgb] at HB6 ⊢
        clear hw6 hgb hs6 hc1
        by_cases hq : ∃ l4, l3 = 58 :: l4
        · obtain ⟨l4, rfl⟩ := hq
          refine (wantL_yes R s 58 l4 d _ HL6.out hs).mono ?_
          rintro e w7 ⟨rfl, h7, f7⟩
          have HL7 := Lib.hid h7
          have HV7 := Lib.hid (HV6.out.frm f7 (by omega))
          have HB7 := Lib.hid (HB6.out.frm f7 (by have := HG6.out; omega))
          have HZ7 := Lib.hid (HZ6.out.frm f7 (by omega))
          have HT7 := Lib.hid (HT6.out.frm f7 fun j hj => by omega)
          have HTB7 := Lib.hid (HTB.out.frm f7 fun j hj => by omega)
          have HF7 := Lib.hid (frm_trans HFW6.out f7)
          clear h7 f7 HL6 HV6 HB6 HZ6 HT6 HTB HFW6
          go_wp2_with fail
          obtain ⟨rn, hrn⟩ : ∃ rn, rn = W (d + 1) l4 := ⟨_, rfl⟩
          have HE5 : Hid (r0 = rn.bind fun c l5 => .ok (.sel a b c) l5) := by
            show _ = _
            rw [hrn, HE2.out]; simp only [wantRd, if_true]
          have HC5 : Hid (Calls Tryd.prog 28 #[.pointer (some ⟨R, 0, none⟩), .int .i64 ((s.size - (l4.length + 1) : Nat) : Int), .func (.func 24) #[.pointer (some ⟨R, 0, none⟩)] #[]] w7.drew (Reads_ R s d w7.drew rn)) := by
            have hm3 := HM3.out
            have e : rn = deepRd d (l4.length + 1) (W (d + 1) l4) := by unfold deepRd; rw [if_neg hd20]; exact hrn
            rw [e]
            exact withinL R (l4.length + 1) d 24 s l4 #[.pointer (some ⟨R, 0, none⟩)] #[] w7.drew (W (d + 1) l4) (HL7.out.keep rfl) hd hK (fun hne W2 hW2 hF => HW.out R s l4 (d + 1) W2 hW2 hs (by omega) (by simp only [List.length_cons] at hm3; omega) (hnv.frm (frm_trans HF7.out.drew hF)))
          have hcells : ∀ W8 : World, TVar W8 ga (.int .u8 o) (.int .i64 n) (.slice A c c) → TVar W8 gb (.int .u8 o2) (.int .i64 n2) (.slice A2 d2 d2) → (W8.cell? ⟨ga, 0, none⟩ = some (.int .u8 o) ∧ W8.cell? ⟨ga, 1, none⟩ = some (.int .i64 n) ∧ W8.cell? ⟨ga, 2, none⟩ = some (.slice A c c) ∧ W8.cell? ⟨gb, 0, none⟩ = some (.int .u8 o2) ∧ W8.cell? ⟨gb, 1, none⟩ = some (.int .i64 n2) ∧ W8.cell? ⟨gb, 2, none⟩ = some (.slice A2 d2 d2)) := fun W8 h1 h2 => ⟨h1.cells.1, h1.cells.2.1, h1.cells.2.2.1, h2.cells.1, h2.cells.2.1, h2.cells.2.2.1⟩
          have hS0 : (w7.drew.cell? ⟨ga, 0, none⟩ = some (.int .u8 o) ∧ w7.drew.cell? ⟨ga, 1, none⟩ = some (.int .i64 n) ∧ w7.drew.cell? ⟨ga, 2, none⟩ = some (.slice A c c) ∧ w7.drew.cell? ⟨gb, 0, none⟩ = some (.int .u8 o2) ∧ w7.drew.cell? ⟨gb, 1, none⟩ = some (.int .i64 n2) ∧ w7.drew.cell? ⟨gb, 2, none⟩ = some (.slice A2 d2 d2)) := hcells w7.drew HV7.out HB7.out
          have HC6 : Hid (Calls Tryd.prog 28 #[.pointer (some ⟨R, 0, none⟩), .int .i64 ((s.size - (l4.length + 1) : Nat) : Int), .func (.func 24) #[.pointer (some ⟨R, 0, none⟩)] #[]] w7.drew fun e w8 => (∃ k j, rn = .bad k j ∧ e = faultE (s.size - k) j ∧ (∃ p, RdAt w8 R s p d) ∧ Frm (· = R) w7 w8) ∨
              ∃ e5 l5 o8 n8 A8 d8, Hid (rn = .ok e5 l5) ∧ e = .returned (.agg #[.int .u8 o8, .int .i64 n8, .slice A8 d8 d8]) ∧ Hid (TrC (w7.heap.size ≤ ·) w8 e5 (trL o8 n8 A8 d8)) ∧ Hid (RdL w8 R s l5 d) ∧ Hid (Frm (· = R) w7 w8) ∧ Hid (TVar w8 w.heap.size (.int .u8 0) (.int .i64 0) (.slice none 0 0)) ∧
              (w8.cell? ⟨ga, 0, none⟩ = some (.int .u8 o) ∧ w8.cell? ⟨ga, 1, none⟩ = some (.int .i64 n) ∧ w8.cell? ⟨ga, 2, none⟩ = some (.slice A c c) ∧ w8.cell? ⟨gb, 0, none⟩ = some (.int .u8 o2) ∧ w8.cell? ⟨gb, 1, none⟩ = some (.int .i64 n2) ∧ w8.cell? ⟨gb, 2, none⟩ = some (.slice A2 d2 d2)) ∧ (∀ ob, ((w8.alloc ob).cell? ⟨ga, 0, none⟩ = some (.int .u8 o) ∧ (w8.alloc ob).cell? ⟨ga, 1, none⟩ = some (.int .i64 n) ∧ (w8.alloc ob).cell? ⟨ga, 2, none⟩ = some (.slice A c c) ∧ (w8.alloc ob).cell? ⟨gb, 0, none⟩ = some (.int .u8 o2) ∧ (w8.alloc ob).cell? ⟨gb, 1, none⟩ = some (.int .i64 n2) ∧ (w8.alloc ob).cell? ⟨gb, 2, none⟩ = some (.slice A2 d2 d2))) ∧ (∀ ob x y z, (((((w8.alloc ob).setCell ⟨w.heap.size, 0, none⟩ x).setCell ⟨w.heap.size, 1, none⟩ y).setCell ⟨w.heap.size, 2, none⟩ z).cell? ⟨ga, 0, none⟩ = some (.int .u8 o) ∧ ((((w8.alloc ob).setCell ⟨w.heap.size, 0, none⟩ x).setCell ⟨w.heap.size, 1, none⟩ y).setCell ⟨w.heap.size, 2, none⟩ z).cell? ⟨ga, 1, none⟩ = some (.int .i64 n) ∧ ((((w8.alloc ob).setCell ⟨w.heap.size, 0, none⟩ x).setCell ⟨w.heap.size, 1, none⟩ y).setCell ⟨w.heap.size, 2, none⟩ z).cell? ⟨ga, 2, none⟩ = some (.slice A c c) ∧ ((((w8.alloc ob).setCell ⟨w.heap.size, 0, none⟩ x).setCell ⟨w.heap.size, 1, none⟩ y).setCell ⟨w.heap.size, 2, none⟩ z).cell? ⟨gb, 0, none⟩ = some (.int .u8 o2) ∧ ((((w8.alloc ob).setCell ⟨w.heap.size, 0, none⟩ x).setCell ⟨w.heap.size, 1, none⟩ y).setCell ⟨w.heap.size, 2, none⟩ z).cell? ⟨gb, 1, none⟩ = some (.int .i64 n2) ∧ ((((w8.alloc ob).setCell ⟨w.heap.size, 0, none⟩ x).setCell ⟨w.heap.size, 1, none⟩ y).setCell ⟨w.heap.size, 2, none⟩ z).cell? ⟨gb, 2, none⟩ = some (.slice A2 d2 d2))) ∧
              (∀ ob, (w8.alloc ob).cell? ⟨w.heap.size, 0, none⟩ = some (.int .u8 0)) ∧ (∀ ob, (w8.alloc ob).cell? ⟨w.heap.size, 1, none⟩ = some (.int .i64 0)) ∧ (∀ ob, (w8.alloc ob).cell? ⟨w.heap.size, 2, none⟩ = some (.slice none 0 0)) ∧ (∀ ob i, (w8.alloc ob).frozen? ⟨w.heap.size, i, none⟩ = false)) := by
            refine HC5.out.mono ?_
            intro e w8 hr
            cases hcr : rn with
            | bad k j =>
              rw [hcr] at hr
              obtain ⟨h1, h2, h3⟩ := hr
              exact .inl ⟨k, j, rfl, h1, h2, frm_trans ((Frm.refl _ _).drew) h3⟩
            | ok e5 l5 =>
              rw [hcr] at hr
              obtain ⟨o8, n8, A8, d8, rfl, ht, hl, hf⟩ := hr
              have hf2 : Frm (· = R) w7 w8 := frm_trans ((Frm.refl _ _).drew) hf
              have hg6 := HG6.out
              have hv := HV7.out.frm hf2 (by omega)
              have hb := HB7.out.frm hf2 (by omega)
              have hz := HZ7.out.frm hf2 (by omega)
              have far : ∀ ob (x y z : Value) (j : Nat), j < w8.heap.size → j ≠ w.heap.size → ((((w8.alloc ob).setCell ⟨w.heap.size, 0, none⟩ x).setCell ⟨w.heap.size, 1, none⟩ y).setCell ⟨w.heap.size, 2, none⟩ z).heap[j]? = w8.heap[j]? := fun ob x y z j h1 h2 => four_far (k := w.heap.size) h1 h2
              exact .inr ⟨e5, l5, o8, n8, A8, d8, rfl, rfl, ht, hl, hf2, hz, hcells w8 hv hb, fun ob => hcells (w8.alloc ob) ((heap_alloc_old _ _ (block_lt hv)).trans hv) ((heap_alloc_old _ _ (block_lt hb)).trans hb), fun ob x y z => hcells _ ((far ob x y z ga (block_lt hv) (by omega)).trans hv) ((far ob x y z gb (block_lt hb) (by omega)).trans hb), hz.allocs.1, hz.allocs.2.1, hz.allocs.2.2.1, hz.allocs.2.2.2⟩
          have HFIN : Hid (∀ (e5 : Tr) (l5 : List UInt8) (o8 n8 : Int) (A8 : Option Addr) (d8 : Nat) (w8 : World), Hid (rn = .ok e5 l5) → Hid (TrC (w7.heap.size ≤ ·) w8 e5 (trL o8 n8 A8 d8)) → Hid (RdL w8 R s l5 d) → Hid (Frm (· = R) w7 w8) → Hid (TVar w8 w.heap.size (.int .u8 0) (.int .i64 0) (.slice none 0 0)) →
              ((tset (w8.alloc (.cells #[.int .u8 o, .int .i64 n, .slice A c c, .int .u8 o2, .int .i64 n2, .slice A2 d2 d2, .int .u8 o8, .int .i64 n8, .slice A8 d8 d8] 50)) w.heap.size (.int .u8 63) (.int .i64 0) (.slice (some ⟨w8.heap.size, 0, none⟩) 3 3)).cell? ⟨w.heap.size, 0, none⟩ = some (.int .u8 63) ∧ (tset (w8.alloc (.cells #[.int .u8 o, .int .i64 n, .slice A c c, .int .u8 o2, .int .i64 n2, .slice A2 d2 d2, .int .u8 o8, .int .i64 n8, .slice A8 d8 d8] 50)) w.heap.size (.int .u8 63) (.int .i64 0) (.slice (some ⟨w8.heap.size, 0, none⟩) 3 3)).cell? ⟨w.heap.size, 1, none⟩ = some (.int .i64 0) ∧ (tset (w8.alloc (.cells #[.int .u8 o, .int .i64 n, .slice A c c, .int .u8 o2, .int .i64 n2, .slice A2 d2 d2, .int .u8 o8, .int .i64 n8, .slice A8 d8 d8] 50)) w.heap.size (.int .u8 63) (.int .i64 0) (.slice (some ⟨w8.heap.size, 0, none⟩) 3 3)).cell? ⟨w.heap.size, 2, none⟩ = some (.slice (some ⟨w8.heap.size, 0, none⟩) 3 3)) ∧ Reads_ R s d w r0 (.returned (.agg (trA 63 0 (some ⟨w8.heap.size, 0, none⟩) 3))) (tset (w8.alloc (.cells #[.int .u8 o, .int .i64 n, .slice A c c, .int .u8 o2, .int .i64 n2, .slice A2 d2 d2, .int .u8 o8, .int .i64 n8, .slice A8 d8 d8] 50)) w.heap.size (.int .u8 63) (.int .i64 0) (.slice (some ⟨w8.heap.size, 0, none⟩) 3 3))) := by
            intro e5 l5 o8 n8 A8 d8 w8 HRN HT8 HL8 HF8 HZ8
            have e0 : r0 = .ok (.sel a b e5) l5 := by rw [HE5.out, HRN.out]; rfl
            have hg6 := HG6.out
            have h78 := HF8.out.size
            have hb7 : gb < w7.heap.size := block_lt HB7.out
            obtain ⟨q0, q1, q2, qf⟩ := (four_var (x := .int .u8 63) (y := .int .i64 0) (z := .slice (some ⟨w8.heap.size, 0, none⟩) 3 3) (ob := .cells #[.int .u8 o, .int .i64 n, .slice A c c, .int .u8 o2, .int .i64 n2, .slice A2 d2 d2, .int .u8 o8, .int .i64 n8, .slice A8 d8 d8] 50) HZ8.out).cells
            rw [e0]
            refine ⟨⟨q0, q1, q2⟩, 63, 0, some ⟨w8.heap.size, 0, none⟩, 3, rfl, ⟨w8.heap.size, trL o n A c, trL o2 n2 A2 d2, trL o8 n8 A8 d8, rfl, ⟨by have := block_lt HZ8.out; omega, four_new (block_lt HZ8.out)⟩, ?_, ?_, ?_⟩, four_rd HL8.out (by omega), four_frm (frm_trans HF7.out HF8.out) (Nat.le_refl _)⟩
            · exact four_tree (HT7.out.frm HF8.out fun j hj => by omega) fun j hj => by omega
            · exact four_tree (HTB7.out.frm HF8.out fun j hj => by omega) fun j hj => by omega
            · exact four_tree HT8.out fun j hj => by have h9 : w7.heap.size ≤ j := hj; omega
          have HBAD : Hid (∀ k j w8, rn = .bad k j → (∃ p, RdAt w8 R s p d) → Frm (· = R) w7 w8 → Reads_ R s d w r0 (faultE (s.size - k) j) w8) := fun k j w8 h1 h2 h3 => by
            have e0 : r0 = .bad k j := by rw [HE5.out, h1]; rfl
            rw [e0]; exact ⟨rfl, h2, frm_trans HF7.out h3⟩
          clear HC5 HE5 HE2 hrn hcells HT7 HTB7 HF7 HL7 HV7 HB7 HZ7
          go_region_held2 (fun W => W.cell? ⟨ga, 0, none⟩ = some (.int .u8 o) ∧ W.cell? ⟨ga, 1, none⟩ = some (.int .i64 n) ∧ W.cell? ⟨ga, 2, none⟩ = some (.slice A c c) ∧ W.cell? ⟨gb, 0, none⟩ = some (.int .u8 o2) ∧ W.cell? ⟨gb, 1, none⟩ = some (.int .i64 n2) ∧ W.cell? ⟨gb, 2, none⟩ = some (.slice A2 d2 d2)) (first | with_reducible exact hS0 | with_reducible exact hS8 | with_reducible exact hS8a _ | with_reducible exact hS8b _ _ _ _) (first | (go_at_call 28; refine HC6.out.mono ?_; rintro e w8 (⟨k, j, h1, rfl, h2, h3⟩ | ⟨e5, l5, o8, n8, A8, d8, HRN, rfl, HT8, HL8, HF8, HZ8, hS8, hS8a, hS8b, a0, a1, a2, af⟩); exact ⟨rfl, HBAD.out k j w8 h1 h2 h3⟩))
          all_goals
            obtain ⟨⟨q0, q1, q2⟩, hr⟩ := HFIN.out e5 l5 o8 n8 A8 d8 w8 HRN HT8 HL8 HF8 HZ8
            have HRR := Lib.hid hr
            clear hr HT8 HL8 HF8 HZ8 HRN a0 a1 a2 af hS8 hS8a hS8b hS0 HC6 HFIN HBAD
            simp only [tset] at q0 q1 q2
            go_wp2_with fail
            refine ⟨rfl, .agg (trA 63 0 (some ⟨w8.heap.size, 0, none⟩) 3), ?_, HRR.out⟩
            simp only [results, Tryd.results24]
            simp [go_sem, q0, q1, q2, trA]
        · have e0 : r0 = .bad l3.length 2 := HE2.out.trans (want_fails _ fun r e => hq ⟨r, e⟩)
          clear HE2
          subst e0
          refine (wantL_no R s 58 l3 d _ HL6.out hs fun r e => hq ⟨r, e⟩).mono ?_
          rintro e w7 ⟨rfl, h7, f7⟩
          exact ⟨rfl, rfl, ⟨_, h7.2.2⟩, frm_trans HFW6.out f7⟩
    · have HEQ : Hid (r0 = .ok a l1) := by
        show _ = _
        rw [HE0.out]
        cases l1 with
        | nil => rfl
        | cons x r => simp only [selRd, if_neg (fun e : x = 63 => hq ⟨r, e ▸ rfl⟩)]
      have hb : Lib.hasPrefix l1 [63] = false := by
        cases l1 with
        | nil => rfl
        | cons x r =>
          have : ¬ 63 = x := fun e => hq ⟨r, e ▸ rfl⟩
          simp [Lib.hasPrefix, List.isPrefixOf, this]
      refine (hasL_no R s ⟨#[63]⟩ l1 d _ HL3.out hs hb).mono ?_
      rintro e w4 ⟨rfl, h4, f4⟩
      have hz4 := HZ3.out.frm f4 (by have := HLT.out; omega)
      obtain ⟨z0, z1, z2, zf⟩ := hz4.cells
      obtain ⟨y0, y1, y2, yf⟩ := (HV3.out.frm f4 (by have := HLT.out; have := HG.out; omega)).cells
      obtain ⟨q0, q1, q2, qf⟩ := (pass_var (x := .int .u8 o) (y := .int .i64 n) (z := .slice A c c) hz4).cells
      have hr : Reads_ R s d w r0 (.returned (.agg (trA o n A c))) (tset w4 w.heap.size (.int .u8 o) (.int .i64 n) (.slice A c c)) := by
        rw [HEQ.out]
        exact pass_ok (HT3b.out.frm f4 fun j hj => by have := HLT.out; omega) (fun j hj => by omega) h4 (frm_trans HFW.out f4) (by have := HLT.out; omega) (Nat.le_refl _)
      have HRR := Lib.hid hr
      simp only [tset] at q0 q1 q2
      clear h4 f4 hz4 hr
      go_wp2_with fail
      refine ⟨rfl, .agg (trA o n A c), ?_, HRR.out⟩
      simp only [results, Tryd.results24]
      simp [go_sem, q0, q1, q2, trA]
end Go.Proofs.YtmbhfadidpkkhaaDoor
