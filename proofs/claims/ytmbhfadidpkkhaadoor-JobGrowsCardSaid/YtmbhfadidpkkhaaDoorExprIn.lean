/-
  Package expr: how a tree lies in memory; what a reader's method leaves; the contract of within, whatever is read one level deeper. No condition of ours.
-/
import Derived.Test.YtmbhfadidpkkhaaDoorExprMem
import Derived.Defers
import Derived.Recover
namespace Go.Proofs.YtmbhfadidpkkhaaDoor
open Go.RowKit Go.Shelf
set_option linter.unusedVariables false

/-- A row of kids in block g. -/
def KidsAt (F : Nat → Prop) (w : World) (g : Nat) (cs : List Value) : Prop := F g ∧ w.heap[g]? = some (.cells cs.toArray 50 (0, 0))
/-- The cells of a tree. -/
def TrC (F : Nat → Prop) (w : World) : Tr → List Value → Prop
  | .num k, cs => cs = [.int .u8 48, .int .i64 k, .slice none 0 0]
  | .nam n, cs => cs = [.int .u8 (if n then 110 else 115), .int .i64 0, .slice none 0 0]
  | .neg a, cs => ∃ g ca, cs = [.int .u8 126, .int .i64 0, .slice (some ⟨g, 0, none⟩) 1 1] ∧ KidsAt F w g ca ∧ TrC F w a ca
  | .bin op a b, cs => ∃ g ca cb, cs = [.int .u8 (op.toNat : Int), .int .i64 0, .slice (some ⟨g, 0, none⟩) 2 2] ∧ KidsAt F w g (ca ++ cb) ∧ TrC F w a ca ∧ TrC F w b cb
  | .sel a b c, cs => ∃ g ca cb cc, cs = [.int .u8 63, .int .i64 0, .slice (some ⟨g, 0, none⟩) 3 3] ∧ KidsAt F w g (ca ++ cb ++ cc) ∧ TrC F w a ca ∧ TrC F w b cb ∧ TrC F w c cc
/-- The cells of a tree, as they look. -/
def trL (o n : Int) (A : Option Addr) (c : Nat) : List Value := [.int .u8 o, .int .i64 n, .slice A c c]
def trA (o n : Int) (A : Option Addr) (c : Nat) : Array Value := #[.int .u8 o, .int .i64 n, .slice A c c]
theorem TrC.three {F : Nat → Prop} {w : World} {t : Tr} {cs : List Value} (h : TrC F w t cs) : ∃ o n A c, cs = trL o n A c := by
  cases t with
  | num k => exact ⟨_, _, _, _, h⟩
  | nam n => exact ⟨_, _, _, _, h⟩
  | neg a => obtain ⟨g, ca, h, _⟩ := h; exact ⟨_, _, _, _, h⟩
  | bin op a b => obtain ⟨g, ca, cb, h, _⟩ := h; exact ⟨_, _, _, _, h⟩
  | sel a b c => obtain ⟨g, ca, cb, cc, h, _⟩ := h; exact ⟨_, _, _, _, h⟩
theorem KidsAt.keep {F : Nat → Prop} {w w' : World} {g : Nat} {cs : List Value} (h : KidsAt F w g cs) (hs : Same F w w') : KidsAt F w' g cs := ⟨h.1, (hs g h.1).trans h.2⟩
theorem KidsAt.in_ {F G : Nat → Prop} {w : World} {g : Nat} {cs : List Value} (h : KidsAt F w g cs) (hF : ∀ k, F k → k < w.heap.size → G k) : KidsAt G w g cs := ⟨hF g h.1 (block_lt h.2), h.2⟩
theorem TrC.keep {F : Nat → Prop} {w w' : World} {t : Tr} {cs : List Value} (h : TrC F w t cs) (hs : Same F w w') : TrC F w' t cs := by
  induction t generalizing cs with
  | num k => exact h
  | nam n => exact h
  | neg a iha => obtain ⟨g, ca, h1, h2, h3⟩ := h; exact ⟨g, ca, h1, h2.keep hs, iha h3⟩
  | bin op a b iha ihb => obtain ⟨g, ca, cb, h1, h2, h3, h4⟩ := h; exact ⟨g, ca, cb, h1, h2.keep hs, iha h3, ihb h4⟩
  | sel a b c iha ihb ihc => obtain ⟨g, ca, cb, cc, h1, h2, h3, h4, h5⟩ := h; exact ⟨g, ca, cb, cc, h1, h2.keep hs, iha h3, ihb h4, ihc h5⟩
theorem TrC.in_ {F G : Nat → Prop} {w : World} {t : Tr} {cs : List Value} (h : TrC F w t cs) (hF : ∀ k, F k → k < w.heap.size → G k) : TrC G w t cs := by
  induction t generalizing cs with
  | num k => exact h
  | nam n => exact h
  | neg a iha => obtain ⟨g, ca, h1, h2, h3⟩ := h; exact ⟨g, ca, h1, h2.in_ hF, iha h3⟩
  | bin op a b iha ihb => obtain ⟨g, ca, cb, h1, h2, h3, h4⟩ := h; exact ⟨g, ca, cb, h1, h2.in_ hF, iha h3, ihb h4⟩
  | sel a b c iha ihb ihc => obtain ⟨g, ca, cb, cc, h1, h2, h3, h4, h5⟩ := h; exact ⟨g, ca, cb, cc, h1, h2.in_ hF, iha h3, ihb h4, ihc h5⟩
/-- A reader's place, by what is left. -/
def RdL (w : World) (R : Nat) (s : ByteArray) (l : List UInt8) (d : Nat) : Prop := l.length ≤ s.size ∧ l = s.data.toList.drop (s.size - l.length) ∧ RdAt w R s (s.size - l.length) d
/-- The two variables that Atoi's errors hold; they are no reader's. -/
def NumVar (w : World) (R g : Nat) : Prop := g ≠ R ∧ ∃ ev, w.cell? ⟨g, 0, none⟩ = some ev ∧ (ev = .nilIface ∨ ∃ te pe, ev = .iface te pe)
def NumVars (w : World) (R : Nat) : Prop := NumVar w R (Tryd.atoi_ren.g 15) ∧ NumVar w R (Tryd.atoi_ren.g 16)
theorem NumVar.frm {w w' : World} {R g : Nat} (h : NumVar w R g) (hF : Frm (· = R) w w') : NumVar w' R g := by
  obtain ⟨h0, ev, h1, h2⟩ := h
  exact ⟨h0, ev, (World.cell?_of_block (a := ⟨g, 0, none⟩) (hF.block g (cell_lt h1) h0)).trans h1, h2⟩
theorem NumVars.frm {w w' : World} {R : Nat} (h : NumVars w R) (hF : Frm (· = R) w w') : NumVars w' R := ⟨h.1.frm hF, h.2.frm hF⟩
/-- What a reader's method leaves, entered in w. -/
def Reads_ (R : Nat) (s : ByteArray) (d : Nat) (w : World) (r : Rd) (e : Ending) (w' : World) : Prop := match r with
  | .ok t l => ∃ o n A c, e = .returned (.agg (trA o n A c)) ∧ TrC (w.heap.size ≤ ·) w' t (trL o n A c) ∧ RdL w' R s l d ∧ Frm (· = R) w w'
  | .bad k j => e = faultE (s.size - k) j ∧ (∃ p, RdAt w' R s p d) ∧ Frm (· = R) w w'

/-- within's deferred closure: one level less. -/
theorem up_any (B R p d : Nat) (s : ByteArray) (u : FrameMode) (w : World) (hB : w.cell? ⟨B, 0, none⟩ = some (.pointer (some ⟨R, 0, none⟩))) (h : RdAt w R s p (d + 1)) (hd : d ≤ 1000) :
    CallsD Tryd.prog 36 #[.pointer (some ⟨B, 0, none⟩)] u w fun e u' w' => u' = u ∧ (e = .returned (.tuple #[]) ∧ w' = w.setCell ⟨R, 2, none⟩ (.int .i64 d)) := by
  obtain ⟨c0, c1, c2, cf⟩ := h.cells
  have e1 : ((d + 1 : Nat) : Int) - 1 = (d : Int) := by omega
  go_enter_d Tryd.func36, Tryd.ntmps36
  go_wp2_with fail
  exact ⟨rfl, .tuple #[], by simp [results, Tryd.results36, go_sem], rfl, rfl⟩
set_option maxRecDepth 100000 in
theorem within_full (R p at_ : Nat) (s : ByteArray) (fv : Value) (w : World) (h : RdAt w R s p 20) :
    Calls Tryd.prog 28 #[.pointer (some ⟨R, 0, none⟩), .int .i64 at_, fv] w fun e w' => e = faultE at_ 4 ∧ RdAt w' R s p 20 ∧ Frm (· = R) w w' := by
  have hlt := h.lt
  obtain ⟨c0, c1, c2, cf⟩ := h.cells
  have HH := Lib.hid h
  go_enter_defers Tryd.func28, Tryd.ntmps28
  go_wp2_with fail
  refine (fail_ok R at_ 4 _).mono ?_
  rintro e w1 ⟨rfl, rfl⟩
  have hF : Frm (· = R) w ((w.alloc (.cells #[.pointer (some ⟨R, 0, none⟩)] 57)).alloc (.cells #[.int .u8 0, .int .i64 0, .slice none 0 0] 50)) := ((Frm.refl _ _).alloc _).alloc _
  exact ⟨rfl, HH.out.keep ((heap_alloc_old _ _ (by simp; omega)).trans (heap_alloc_old _ _ hlt)), hF⟩
/-- A variable of a tree's type, in block k. -/
def TVar (w : World) (k : Nat) (x y z : Value) : Prop := w.heap[k]? = some (.cells #[x, y, z] 50 (0, 0))
theorem TVar.cells {w : World} {k : Nat} {x y z : Value} (h : TVar w k x y z) : w.cell? ⟨k, 0, none⟩ = some x ∧ w.cell? ⟨k, 1, none⟩ = some y ∧ w.cell? ⟨k, 2, none⟩ = some z ∧ (∀ i, w.frozen? ⟨k, i, none⟩ = false) :=
  ⟨(cell_of_row w k 0 _ _ _ h).trans rfl, (cell_of_row w k 1 _ _ _ h).trans rfl, (cell_of_row w k 2 _ _ _ h).trans rfl, fun i => by simp [World.frozen?, TVar] at h ⊢; simp [h]⟩
/-- A variable of a tree's type is written. -/
def tset (w : World) (k : Nat) (x y z : Value) : World := ((w.setCell ⟨k, 0, none⟩ x).setCell ⟨k, 1, none⟩ y).setCell ⟨k, 2, none⟩ z
theorem TVar.put {w : World} {k : Nat} {x y z : Value} (h : TVar w k x y z) (x' y' z' : Value) : TVar (tset w k x' y' z') k x' y' z' := by
  unfold TVar at h ⊢
  simp [tset, World.setCell, Array.getElem?_modify, h]
theorem tset_far (w : World) {k j : Nat} (h : j ≠ k) (x y z : Value) : (tset w k x y z).heap[j]? = w.heap[j]? := by
  unfold tset
  iterate 3 rw [Below.heap_setCell _ _ _ _ (by simpa using h)]
theorem tset_size (w : World) (k : Nat) (x y z : Value) : (tset w k x y z).heap.size = w.heap.size := by simp [tset]
theorem Frm.tset {F : Nat → Prop} {a w : World} (h : Frm F a w) {k : Nat} (hk : F k ∨ a.heap.size ≤ k) (x y z : Value) : Frm F a (Go.Proofs.YtmbhfadidpkkhaaDoor.tset w k x y z) := ((h.setCell (p := ⟨k, 0, none⟩) hk _).setCell (p := ⟨k, 1, none⟩) hk _).setCell (p := ⟨k, 2, none⟩) hk _
set_option maxRecDepth 100000 in
set_option maxHeartbeats 4000000 in
theorem within_ok (R p at_ d K : Nat) (s : ByteArray) (first cap : Array Value) (w : World) (r : Rd) (h : RdAt w R s p d) (hd : d ≠ 20) (hd2 : d ≤ 20)
    (hK : ∀ args w, (callFunc K args).run Tryd.prog w = .ok (.enter K args) w)
    (hC : ∀ W, RdAt W R s p (d + 1) → Frm (· = R) w W → Calls Tryd.prog K (first ++ cap) W (Reads_ R s (d + 1) W r)) :
    Calls Tryd.prog 28 #[.pointer (some ⟨R, 0, none⟩), .int .i64 at_, .func (.func K) first cap] w (Reads_ R s d w r) := by
  have hlt := h.lt
  obtain ⟨c0, c1, c2, cf⟩ := h.cells
  have HH := Lib.hid h
  have hne : ((d : Int) == 20) = false := beq_eq_false_iff_ne.2 (by omega)
  have hmf : ∀ (fn : Fn) (first cap : Array Value) (w : World), (Instr.makeFunc fn first cap).run Tryd.prog w = .ok (.func fn first cap) w := fun _ _ _ _ => rfl
  have HC := Lib.hid hC
  clear hC
  go_enter_defers Tryd.func28, Tryd.ntmps28
  go_wp2_with fail
  have ed : (d : Int) + 1 = ((d + 1 : Nat) : Int) := by omega
  obtain ⟨W, hW⟩ : ∃ W, W = ((w.setCell ⟨R, 2, none⟩ (.int .i64 ((d : Int) + 1))).alloc (.cells #[.pointer (some ⟨R, 0, none⟩)] 57)).alloc (.cells #[.int .u8 0, .int .i64 0, .slice none 0 0] 50) := ⟨_, rfl⟩
  have hWs : W.heap.size = w.heap.size + 2 := by rw [hW]; simp
  have hWR : RdAt W R s p (d + 1) := by
    rw [hW, ed]
    exact (HH.out.deeper (d + 1)).keep ((heap_alloc_old _ _ (by simp; omega)).trans (heap_alloc_old _ _ (by simpa using hlt)))
  have hWF : Frm (· = R) w W := by
    rw [hW]; exact ((((Frm.refl (· = R) w).setCell (p := ⟨R, 2, none⟩) (.inl rfl) _).alloc _).alloc _)
  have hWB : W.heap[w.heap.size]? = some (.cells #[.pointer (some ⟨R, 0, none⟩)] 57 (0, 0)) := by
    rw [hW]
    refine (heap_alloc_old _ _ (by simp)).trans ?_
    have := heap_alloc_new (w.setCell ⟨R, 2, none⟩ (.int .i64 ((d : Int) + 1))) (.cells #[.pointer (some ⟨R, 0, none⟩)] 57)
    simp only [World.size_setCell] at this
    exact this
  have hWT : TVar W (w.heap.size + 1) (.int .u8 0) (.int .i64 0) (.slice none 0 0) := by
    rw [hW]
    have := heap_alloc_new ((w.setCell ⟨R, 2, none⟩ (.int .i64 ((d : Int) + 1))).alloc (.cells #[.pointer (some ⟨R, 0, none⟩)] 57)) (.cells #[.int .u8 0, .int .i64 0, .slice none 0 0] 50)
    simpa [TVar] using this
  rw [← hW]
  have HWR := Lib.hid hWR
  have HWF := Lib.hid hWF
  have HWT := Lib.hid hWT
  have HWB := Lib.hid hWB
  have HWS := Lib.hid hWs
  have HRW := Lib.hid hlt
  clear hW hWR hWF hWT hWB hWs c0 c1 c2 cf h
  refine (HC.out W HWR.out HWF.out).mono ?_
  intro e w2 hr
  cases r with
  | ok t l =>
    obtain ⟨o, n, A, c, rfl, ht, hl, hf⟩ := hr
    have HT := Lib.hid ht
    have HL := Lib.hid hl
    have HF := Lib.hid hf
    have hv : TVar w2 (w.heap.size + 1) (.int .u8 0) (.int .i64 0) (.slice none 0 0) := (hf.block _ (by have := HWS.out; omega) (by have := HRW.out; omega)).trans HWT.out
    obtain ⟨v0, v1, v2, vf⟩ := hv.cells
    clear ht hl hf hv hlt
    simp only [trA]
    go_wp2_with fail
    obtain ⟨W3, hW3⟩ : ∃ W3, W3 = tset w2 (w.heap.size + 1) (.int .u8 o) (.int .i64 n) (.slice A c c) := ⟨_, rfl⟩
    have hsz : w.heap.size + 2 ≤ w2.heap.size := by have := HWS.out; have := HF.out.size; omega
    have h2F : Frm (· = R) w w2 := HWF.out.trans HF.out (fun _ h => h) (fun _ h => .inl h)
    have h3B : W3.heap[w.heap.size]? = some (.cells #[.pointer (some ⟨R, 0, none⟩)] 57 (0, 0)) := by
      rw [hW3, tset_far _ (by omega)]
      exact (HF.out.block _ (by have := HWS.out; omega) (by have := HRW.out; omega)).trans HWB.out
    have h3R : RdL W3 R s l (d + 1) := ⟨HL.out.1, HL.out.2.1, HL.out.2.2.keep (by rw [hW3, tset_far _ (by have := HRW.out; omega)])⟩
    have h3F : Frm (· = R) w W3 := by rw [hW3]; exact h2F.tset (.inr (by omega)) _ _ _
    have h3V : TVar W3 (w.heap.size + 1) (.int .u8 o) (.int .i64 n) (.slice A c c) := by
      rw [hW3]
      exact TVar.put (x := .int .u8 0) (y := .int .i64 0) (z := .slice none 0 0) ((HF.out.block _ (by have := HWS.out; omega) (by have := HRW.out; omega)).trans HWT.out) _ _ _
    have h3T : TrC (w.heap.size + 2 ≤ ·) W3 t (trL o n A c) := by
      refine TrC.keep (HT.out.in_ fun k hk _ => by have := HWS.out; omega) fun k hk => ?_
      rw [hW3, tset_far _ (by omega)]
    have hWd : (((w2.setCell ⟨w.heap.size + 1, 0, none⟩ (.int .u8 o)).setCell ⟨w.heap.size + 1, 1, none⟩ (.int .i64 n)).setCell ⟨w.heap.size + 1, 2, none⟩ (.slice A c c)) = W3 := hW3.symm
    rw [hWd]
    refine leaves_cons (f := 36) (args := #[.pointer (some ⟨w.heap.size, 0, none⟩)]) (by simp) (by simp [go_sem]) ?_
    refine (up_any w.heap.size R _ d s .returning W3 ((cell_of_row W3 w.heap.size 0 _ _ _ h3B).trans rfl) h3R.2.2 (by omega)).mono ?_
    rintro e u' w4 ⟨rfl, rfl, rfl⟩
    have h4V : TVar (W3.setCell ⟨R, 2, none⟩ (.int .i64 d)) (w.heap.size + 1) (.int .u8 o) (.int .i64 n) (.slice A c c) := (Below.heap_setCell _ _ _ _ (by have := HRW.out; simp; omega)).trans h3V
    obtain ⟨q0, q1, q2, qf⟩ := h4V.cells
    refine ⟨.agg (trA o n A c), ?_, o, n, A, c, rfl, ?_, ?_, ?_⟩
    · simp only [results, Tryd.results28]
      simp [go_sem, q0, q1, q2, trA]
    · exact (h3T.keep fun k hk => Below.heap_setCell _ _ _ _ (by have := HRW.out; simp; omega)).in_ fun k hk _ => by omega
    · exact ⟨h3R.1, h3R.2.1, h3R.2.2.deeper d⟩
    · exact h3F.setCell (p := ⟨R, 2, none⟩) (.inl rfl) _
  | bad k j =>
    obtain ⟨rfl, ⟨p2, hp2⟩, hf⟩ := hr
    simp only [faultE]
    refine leaves_cons (f := 36) (args := #[.pointer (some ⟨w.heap.size, 0, none⟩)]) (by simp) (by simp [go_sem]) ?_
    have h2B : w2.heap[w.heap.size]? = some (.cells #[.pointer (some ⟨R, 0, none⟩)] 57 (0, 0)) := (hf.block _ (by have := HWS.out; omega) (by have := HRW.out; omega)).trans HWB.out
    refine (up_any w.heap.size R _ d s _ w2 ((cell_of_row w2 w.heap.size 0 _ _ _ h2B).trans rfl) hp2 (by omega)).mono ?_
    rintro e u' w4 ⟨rfl, rfl, rfl⟩
    exact ⟨rfl, ⟨p2, hp2.deeper d⟩, (HWF.out.trans hf (fun _ h => h) (fun _ h => .inl h)).setCell (p := ⟨R, 2, none⟩) (.inl rfl) _⟩
end Go.Proofs.YtmbhfadidpkkhaaDoor
