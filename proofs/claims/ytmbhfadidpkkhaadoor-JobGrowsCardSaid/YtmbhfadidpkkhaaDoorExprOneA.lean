/-
  Package expr: the contracts of one's closures: two between brackets; one in brackets. Conditions: the text takes at most 120 bytes, the depth is at most 20.
-/
import Derived.Test.YtmbhfadidpkkhaaDoorExprLess
import Derived.Deep.RegionWith
import Derived.RegionDies
namespace Go.Proofs.YtmbhfadidpkkhaaDoor
open Go.RowKit Go.Shelf
set_option linter.unusedVariables false

def ReadsLt_ (X : Reads) (m : Nat) : Prop := ∀ (R : Nat) (s : ByteArray) (l : List UInt8) (d : Nat) (w : World), RdL w R s l d → s.size ≤ 120 → d ≤ 20 → l.length < m → NumVars w R → Calls Tryd.prog 24 #[.pointer (some ⟨R, 0, none⟩)] w (Reads_ R s d w (X d l))
def PBox (w : World) (B R : Nat) : Prop := w.heap[B]? = some (.cells #[.pointer (some ⟨R, 0, none⟩)] 57 (0, 0))
theorem PBox.cell {w : World} {B R : Nat} (h : PBox w B R) : w.cell? ⟨B, 0, none⟩ = some (.pointer (some ⟨R, 0, none⟩)) := (cell_of_row w B 0 _ _ _ h).trans rfl
theorem PBox.frm {w w' : World} {B R : Nat} (h : PBox w B R) (hF : Frm (· = R) w w') (hB : B ≠ R) : PBox w' B R := (hF.block B (block_lt h) hB).trans h
theorem PBox.alloc {w : World} {B R : Nat} (h : PBox w B R) (ob : Obj) : PBox (w.alloc ob) B R := (heap_alloc_old _ _ (block_lt h)).trans h
/-- A variable of a byte. -/
def BVar (w : World) (B : Nat) (c : Int) : Prop := w.heap[B]? = some (.cells #[.int .u8 c] 5 (0, 0))
theorem BVar.cell {w : World} {B : Nat} {c : Int} (h : BVar w B c) : w.cell? ⟨B, 0, none⟩ = some (.int .u8 c) := (cell_of_row w B 0 _ _ _ h).trans rfl
theorem BVar.frm {w w' : World} {B R : Nat} {c : Int} (h : BVar w B c) (hF : Frm (· = R) w w') (hB : B ≠ R) : BVar w' B c := (hF.block B (block_lt h) hB).trans h
theorem BVar.alloc {w : World} {B : Nat} {c : Int} (h : BVar w B c) (ob : Obj) : BVar (w.alloc ob) B c := (heap_alloc_old _ _ (block_lt h)).trans h
theorem new_tree_ {F : Nat → Prop} {w2 : World} {R d : Nat} {s : ByteArray} {l : List UInt8} {t : Tr} {o n : Int} {A : Option Addr} {c : Nat} (ht : TrC F w2 t (trL o n A c)) (hl : RdL w2 R s l d) :
    ∃ w3, w3 = w2.alloc (.cells #[.int .u8 o, .int .i64 n, .slice A c c] 50) ∧ Hid (RdL w3 R s l d) ∧ Hid (TVar w3 w2.heap.size (.int .u8 o) (.int .i64 n) (.slice A c c)) ∧ Hid (TrC (fun j => F j ∧ j < w2.heap.size) w3 t (trL o n A c)) ∧ Hid (Frm (· = R) w2 w3) ∧ w3.heap.size = w2.heap.size + 1 := by
  refine ⟨_, rfl, hl.keep (heap_alloc_old _ _ hl.lt), TVar.new _ _ _ _, ?_, (Frm.refl _ _).alloc _, by simp⟩
  have h1 : TrC (fun j => F j ∧ j < w2.heap.size) w2 t (trL o n A c) := ht.in_ fun j h1 h2 => ⟨h1, h2⟩
  exact h1.keep fun j hj => heap_alloc_old _ _ hj.2
theorem TrC.frm_ {F : Nat → Prop} {w w' : World} {R : Nat} {t : Tr} {cs : List Value} (h : TrC F w t cs) (hF : Frm (· = R) w w') (hR : ∀ j, F j → j ≠ R) : TrC F w' t cs := by
  have h1 : TrC (fun j => F j ∧ j < w.heap.size) w t cs := h.in_ fun j h1 h2 => ⟨h1, h2⟩
  exact (h1.keep fun j hj => hF.block j hj.2 (hR j hj.1)).in_ fun j h _ => h.1
theorem want_fails_ {c : UInt8} {l : List UInt8} (f : List UInt8 → Rd) (h : ∀ r, l ≠ c :: r) : wantRd c l f = .bad l.length 2 := by
  cases l with
  | nil => rfl
  | cons x r => simp only [wantRd, if_neg (fun e : x = c => h r (e ▸ rfl))]
set_option maxRecDepth 100000 in
set_option maxHeartbeats 8000000 in
theorem one2_reads {W : Reads} {m : Nat} (hW : ReadsLt_ W m) (R B : Nat) (s : ByteArray) (l : List UInt8) (d : Nat) (w : World) (hB : PBox w B R) (hBR : B ≠ R) (h : RdL w R s l d) (hs : s.size ≤ 120) (hd : d ≤ 20) (hm : l.length < m) (hnv : NumVars w R) :
    Calls Tryd.prog 42 #[.pointer (some ⟨B, 0, none⟩)] w (Reads_ R s d w ((W d l).bind fun a l1 => wantRd 41 l1 fun l2 => .ok a l2)) := by
  obtain ⟨r1, hr1⟩ : ∃ r1, r1 = W d l := ⟨_, rfl⟩
  obtain ⟨r0, hr0⟩ : ∃ r0, r0 = (W d l).bind fun a l1 => wantRd 41 l1 fun l2 => .ok a l2 := ⟨_, rfl⟩
  have e0 : r0 = r1.bind fun a l1 => wantRd 41 l1 fun l2 => .ok a l2 := by rw [hr0, hr1]
  rw [← hr0]
  have HR1 := Lib.hid hr1
  have HR0 := Lib.hid e0
  have HH := Lib.hid h
  have HB := Lib.hid hB
  have hb0 := fun ob => (hB.alloc ob).cell
  have hlt := h.lt
  have HLT := Lib.hid hlt
  have HBL : Hid (B < w.heap.size) := block_lt hB
  clear hr0 hr1 e0 h hB
  go_enter Tryd.func42, Tryd.ntmps42
  go_wp2_with fail
  have HH1 : Hid (RdL (w.alloc (.cells #[.int .u8 0, .int .i64 0, .slice none 0 0] 50)) R s l d) := HH.out.keep (heap_alloc_old _ _ hlt)
  have HF1 : Hid (Frm (· = R) w (w.alloc (.cells #[.int .u8 0, .int .i64 0, .slice none 0 0] 50))) := (Frm.refl _ _).alloc _
  have HV1 : Hid (TVar (w.alloc (.cells #[.int .u8 0, .int .i64 0, .slice none 0 0] 50)) w.heap.size (.int .u8 0) (.int .i64 0) (.slice none 0 0)) := TVar.new _ _ _ _
  have HB1 : Hid (PBox (w.alloc (.cells #[.int .u8 0, .int .i64 0, .slice none 0 0] 50)) B R) := HB.out.alloc _
  have HC : Hid (Calls Tryd.prog 24 #[.pointer (some ⟨R, 0, none⟩)] (w.alloc (.cells #[.int .u8 0, .int .i64 0, .slice none 0 0] 50)) (Reads_ R s d (w.alloc (.cells #[.int .u8 0, .int .i64 0, .slice none 0 0] 50)) r1)) := by
    rw [HR1.out]; exact hW R s l d _ HH1.out hs hd hm (hnv.frm HF1.out)
  refine HC.out.mono ?_
  clear HC hlt hb0
  intro e w2 hr
  cases r1 with
  | bad k j =>
    obtain ⟨rfl, hp, hf⟩ := hr
    have e0 : r0 = .bad k j := HR0.out
    clear HR0
    subst e0
    exact ⟨rfl, rfl, hp, frm_trans HF1.out hf⟩
  | ok a l1 =>
    obtain ⟨o, n, A, c, rfl, ht, hl, hf⟩ := hr
    have HE0 : Hid (r0 = wantRd 41 l1 fun l2 => .ok a l2) := HR0.out
    have hRw := HLT.out
    have hBw := HBL.out
    obtain ⟨w3, hw3, HL3, HV3, HT3, HF3, hs3⟩ := new_tree_ ht hl
    have hz2 := HV1.out.frm hf (by omega)
    have hb2 := HB1.out.frm hf hBR
    have HZ3 := Lib.hid (hz2.frm HF3.out (by omega))
    have HFW := Lib.hid (frm_trans (frm_trans HF1.out hf) HF3.out)
    have HG : Hid (w.heap.size < w2.heap.size) := block_lt hz2
    obtain ⟨ga, hga⟩ : ∃ ga, ga = w2.heap.size := ⟨_, rfl⟩
    have HT3b : Hid (TrC (fun j => w.heap.size < j ∧ j < ga) w3 a (trL o n A c)) := HT3.out.in_ fun j h1 _ => by have := h1.1; simp at this; omega
    have hb0 := fun ob => (hb2.alloc ob).cell
    clear ht hl hf HH1 HF1 HV1 HB1 HR0 HR1 hz2 HH HT3 HF3 HB hb2
    simp only [trA]
    go_wp2_with fail
    rw [← hw3]
    rw [← hga] at HV3 HG ⊢
    clear hw3 hga hs3 hb0
    by_cases hq : ∃ l2, l1 = 41 :: l2
    · obtain ⟨l2, rfl⟩ := hq
      have e0 : r0 = .ok a l2 := HE0.out
      clear HE0
      subst e0
      refine (wantL_yes R s 41 l2 d _ HL3.out hs).mono ?_
      rintro e w4 ⟨rfl, h4, f4⟩
      have hg := HG.out
      have hz4 := HZ3.out.frm f4 (by omega)
      obtain ⟨z0, z1, z2, zf⟩ := hz4.cells
      obtain ⟨y0, y1, y2, yf⟩ := (HV3.out.frm f4 (by omega)).cells
      obtain ⟨q0, q1, q2, qf⟩ := (pass_var (x := .int .u8 o) (y := .int .i64 n) (z := .slice A c c) hz4).cells
      have hr : Reads_ R s d w (.ok a l2) (.returned (.agg (trA o n A c))) (tset w4 w.heap.size (.int .u8 o) (.int .i64 n) (.slice A c c)) :=
        pass_ok (HT3b.out.frm_ f4 fun j hj => by omega) (fun j hj => by omega) h4 (frm_trans HFW.out f4) (by omega) (Nat.le_refl _)
      have HRR := Lib.hid hr
      simp only [tset] at q0 q1 q2
      clear h4 f4 hz4 hr
      go_wp2_with fail
      refine ⟨rfl, .agg (trA o n A c), ?_, HRR.out⟩
      simp only [results, Tryd.results42]
      simp [go_sem, q0, q1, q2, trA]
    · have e0 : r0 = .bad l1.length 2 := HE0.out.trans (want_fails_ _ fun r e => hq ⟨r, e⟩)
      clear HE0
      subst e0
      refine (wantL_no R s 41 l1 d _ HL3.out hs fun r e => hq ⟨r, e⟩).mono ?_
      rintro e w7 ⟨rfl, h7, f7⟩
      exact ⟨rfl, rfl, ⟨_, h7.2.2⟩, frm_trans HFW.out f7⟩
end Go.Proofs.YtmbhfadidpkkhaaDoor
