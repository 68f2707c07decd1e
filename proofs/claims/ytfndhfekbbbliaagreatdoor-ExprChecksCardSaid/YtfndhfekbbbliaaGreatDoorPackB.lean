/-
  Several texts of this claim in one, in build order; each begins with its own remark, which says what it proves and under which conditions.
-/
import Derived.Test.YtfndhfekbbbliaaGreatDoorPackA
import Derived.BigQuiet
import Derived.Defers
import Derived.Recover
import Derived.Deep.RegionWith
import Derived.RegionDies
import Derived.Deep.RegionHeld2

/-
  Package expr: how a tree and a reader lie in memory; the contracts of the reader's small methods. No condition of ours.
-/
namespace Go.Proofs.YtfndhfekbbbliaaGreatDoor
open Go.RowKit Go.Shelf
set_option linter.unusedVariables false

/-- A reader of s, at a place, so deep, in block R. -/
def RdAt (w : World) (R : Nat) (s : ByteArray) (p d : Nat) : Prop := w.heap[R]? = some (.cells #[.string s, .int .i64 p, .int .i64 d] 151 (0, 0))
theorem RdAt.lt {w : World} {R : Nat} {s : ByteArray} {p d : Nat} (h : RdAt w R s p d) : R < w.heap.size := block_lt h
theorem RdAt.cells {w : World} {R : Nat} {s : ByteArray} {p d : Nat} (h : RdAt w R s p d) : w.cell? ⟨R, 0, none⟩ = some (.string s) ∧ w.cell? ⟨R, 1, none⟩ = some (.int .i64 p) ∧ w.cell? ⟨R, 2, none⟩ = some (.int .i64 d) ∧ (∀ i, w.frozen? ⟨R, i, none⟩ = false) :=
  ⟨(cell_of_row w R 0 _ _ _ h).trans rfl, (cell_of_row w R 1 _ _ _ h).trans rfl, (cell_of_row w R 2 _ _ _ h).trans rfl, fun i => by simp [World.frozen?, RdAt] at h ⊢; simp [h]⟩
theorem RdAt.keep {w w' : World} {R : Nat} {s : ByteArray} {p d : Nat} (h : RdAt w R s p d) (hs : w'.heap[R]? = w.heap[R]?) : RdAt w' R s p d := hs.trans h
theorem RdAt.moved {w : World} {R : Nat} {s : ByteArray} {p d : Nat} (h : RdAt w R s p d) (q : Nat) : RdAt (w.setCell ⟨R, 1, none⟩ (.int .i64 q)) R s q d := by
  unfold RdAt at h ⊢
  simp [World.setCell, Array.getElem?_modify, h]
theorem RdAt.deeper {w : World} {R : Nat} {s : ByteArray} {p d : Nat} (h : RdAt w R s p d) (q : Nat) : RdAt (w.setCell ⟨R, 2, none⟩ (.int .i64 q)) R s p q := by
  unfold RdAt at h ⊢
  simp [World.setCell, Array.getElem?_modify, h]
def headB (l : List UInt8) : Int := match l with
  | [] => 0
  | c :: _ => (c.toNat : Int)
theorem drop_head {s : ByteArray} {p : Nat} (h : p < s.size) : s.data.toList.drop p = s.data[p]'h :: s.data.toList.drop (p + 1) := by
  rw [List.drop_eq_getElem_cons (by simpa using h)]; simp
set_option maxRecDepth 100000 in
theorem peek_ok (R : Nat) (s : ByteArray) (p d : Nat) (w : World) (h : RdAt w R s p d) (hp : p ≤ s.size) :
    Calls Tryz.prog 142 #[.pointer (some ⟨R, 0, none⟩)] w fun e w' => e = .returned (.int .u8 (headB (s.data.toList.drop p))) ∧ ∃ q, w' = w.drewN q := by
  obtain ⟨c0, c1, c2, cf⟩ := h.cells
  by_cases hlt : p < s.size
  · have d1 : decide ((p : Int) < (s.size : Int)) = true := decide_eq_true (by omega)
    rw [drop_head hlt]
    go_enter Tryz.func142, Tryz.ntmps142
    go_wp2
    go_quiet (fail)
    go_wp2
    go_quiet (fail)
    go_wp2
    go_ret
    exact ⟨rfl, _, World.drewN_drewN _ _ _⟩
  · have d1 : decide ((p : Int) < (s.size : Int)) = false := decide_eq_false (by omega)
    have e : s.data.toList.drop p = [] := List.drop_eq_nil_of_le (by simpa using hlt)
    rw [e]
    go_enter Tryz.func142, Tryz.ntmps142
    go_wp2
    go_quiet (fail)
    go_wp2
    go_ret
    exact ⟨rfl, _, rfl⟩
/-- A text is there. -/
def hasB (s : ByteArray) (p : Nat) (t : ByteArray) : Bool := Lib.hasPrefix (s.data.toList.drop p) t.data.toList
theorem slice_drop (s : ByteArray) (p : Nat) : (s.extract p s.size).data.toList = s.data.toList.drop p := by
  simp [ByteArray.data_extract]
  exact List.take_of_length_le (by simp)
theorem hasp_ok (s : ByteArray) (p : Nat) (t : ByteArray) (w : World) : Calls Tryz.prog 144 #[.string (s.extract p s.size), .string t] w fun e w' => e = .returned (.bool (hasB s p t)) ∧ w' = w := by
  have := Any.strings_HasPrefix Tryz.hasp (s.extract p s.size) t w
  rw [slice_drop] at this
  exact this
theorem hasp_b {s : ByteArray} {p : Nat} {t : ByteArray} {b : Bool} (h : hasB s p t = b) (w : World) : Calls Tryz.prog 144 #[.string (s.extract p s.size), .string t] w fun e w' => e = .returned (.bool b) ∧ w' = w := h ▸ hasp_ok s p t w
theorem has_le {s t : ByteArray} {p : Nat} (h : hasB s p t = true) (hp : p ≤ s.size) : p + t.size ≤ s.size := by
  have h1 := (List.isPrefixOf_iff_prefix.1 h).length_le
  rw [List.length_drop] at h1
  have e1 : s.data.toList.length = s.size := by simp
  have e2 : t.data.toList.length = t.size := by simp
  omega
set_option maxRecDepth 100000 in
theorem has_ok (R : Nat) (s t : ByteArray) (p d : Nat) (w : World) (h : RdAt w R s p d) (hp : p ≤ s.size) (hs : s.size ≤ 120) :
    Calls Tryz.prog 117 #[.pointer (some ⟨R, 0, none⟩), .string t] w fun e w' => e = .returned (.bool (hasB s p t)) ∧ RdAt w' R s (if hasB s p t then p + t.size else p) d ∧ Frm (· = R) w w' := by
  obtain ⟨c0, c1, c2, cf⟩ := h.cells
  have HH := Lib.hid h
  have hl := fun h => has_le (s := s) (t := t) (p := p) h hp
  have dp : ¬ s.size < p := by omega
  cases hb : hasB s p t with
  | true =>
    have hl2 := hl hb
    clear hl
    go_enter Tryz.func117, Tryz.ntmps117
    go_wp2_with fail
    go_quiet ((go_at_call 144; exact Calls.quiet_of_same (hasp_b hb _)))
    go_wp2_with fail
    go_ret
    rw [show ((p : Int) + (t.size : Int)) = ((p + t.size : Nat) : Int) from by omega]
    exact ⟨rfl, (HH.out.keep (w' := w.drewN nq) rfl).moved (p + t.size), ((Frm.refl (· = R) w).drewN nq).setCell (p := ⟨R, 1, none⟩) (.inl rfl) _⟩
  | false =>
    clear hl
    go_enter Tryz.func117, Tryz.ntmps117
    go_wp2_with fail
    go_quiet ((go_at_call 144; exact Calls.quiet_of_same (hasp_b hb _)))
    go_wp2_with fail
    go_ret
    exact ⟨rfl, HH.out.keep rfl, (Frm.refl _ _).drewN _⟩
/-- The panic of a fault. -/
def faultV (p : Nat) (k : Int) : Value := .iface 147 (.agg #[.int .i64 p, .iface 89 (.int .i64 k)])
def faultE (p : Nat) (k : Int) : Ending := .panicked [{ v := faultV p k, recovered := false }]
set_option maxRecDepth 100000 in
theorem fail_ok (R p : Nat) (k : Int) (w : World) : Calls Tryz.prog 85 #[.pointer (some ⟨R, 0, none⟩), .int .i64 p, .iface 89 (.int .i64 k)] w fun e w' => e = faultE p k ∧ w' = w := by
  have hpn : ∀ (t : TypeId) (v : Value) (w : World), (Instr.panic (.iface t v)).run Tryz.prog w = .halt (.panic (.iface t v)) w := fun _ _ _ => rfl
  go_enter Tryz.func85, Tryz.ntmps85
  go_wp2_with fail
  exact ⟨rfl, rfl, rfl⟩
set_option maxRecDepth 100000 in
theorem want_yes (R : Nat) (s t : ByteArray) (p d : Nat) (w : World) (h : RdAt w R s p d) (hp : p ≤ s.size) (hs : s.size ≤ 120) (hb : hasB s p t = true) :
    Calls Tryz.prog 119 #[.pointer (some ⟨R, 0, none⟩), .string t] w fun e w' => e = .returned (.tuple #[]) ∧ RdAt w' R s (p + t.size) d ∧ Frm (· = R) w w' := by
  have HAS := Lib.hid (has_ok R s t p d w h hp hs)
  rw [hb] at HAS
  go_enter Tryz.func119, Tryz.ntmps119
  go_wp2_with fail
  refine HAS.out.mono ?_
  rintro e w1 ⟨rfl, h1, f1⟩
  have H1 := Lib.hid h1
  have F1 := Lib.hid f1
  clear h1 f1
  go_wp2_with fail
  exact ⟨rfl, .tuple #[], by simp [results, Tryz.results119, go_sem], rfl, by simpa using H1.out, F1.out⟩
set_option maxRecDepth 100000 in
theorem want_no (R : Nat) (s t : ByteArray) (p d : Nat) (w : World) (h : RdAt w R s p d) (hp : p ≤ s.size) (hs : s.size ≤ 120) (hb : hasB s p t = false) :
    Calls Tryz.prog 119 #[.pointer (some ⟨R, 0, none⟩), .string t] w fun e w' => e = faultE p 2 ∧ RdAt w' R s p d ∧ Frm (· = R) w w' := by
  have HAS := Lib.hid (has_ok R s t p d w h hp hs)
  rw [hb] at HAS
  go_enter Tryz.func119, Tryz.ntmps119
  go_wp2_with fail
  refine HAS.out.mono ?_
  rintro e w1 ⟨rfl, h1, f1⟩
  obtain ⟨c0, c1, c2, cf⟩ := RdAt.cells h1
  have H1 := Lib.hid h1
  have F1 := Lib.hid f1
  clear h1 f1
  simp only [Bool.false_eq_true, if_false] at c1 H1
  go_wp2_with fail
  refine (fail_ok R p 2 w1).mono ?_
  rintro e w2 ⟨rfl, rfl⟩
  exact ⟨rfl, rfl, H1.out, F1.out⟩
end Go.Proofs.YtfndhfekbbbliaaGreatDoor

/-
  Package expr: how a tree lies in memory; what a reader's method leaves; the contract of within, whatever is read one level deeper. No condition of ours.
-/
namespace Go.Proofs.YtfndhfekbbbliaaGreatDoor
open Go.RowKit Go.Shelf
set_option linter.unusedVariables false

/-- A row of kids in block g. -/
def KidsAt (F : Nat → Prop) (w : World) (g : Nat) (cs : List Value) : Prop := F g ∧ w.heap[g]? = some (.cells cs.toArray 86 (0, 0))
/-- The cells of a tree. -/
def TrC (F : Nat → Prop) (w : World) : Tr → List Value → Prop
  | .num k, cs => cs = [.int .u8 48, .int .i64 k, .slice none 0 0]
  | .nam n, cs => cs = [.int .u8 (if n then 110 else 115), .int .i64 0, .slice none 0 0]
  | .neg a, cs => ∃ g ca, cs = [.int .u8 126, .int .i64 0, .slice (some ⟨g, 0, none⟩) 1 1] ∧ KidsAt F w g ca ∧ TrC F w a ca
  | .bin op a b, cs => ∃ g ca cb, cs = [.int .u8 (op.toNat : Int), .int .i64 0, .slice (some ⟨g, 0, none⟩) 2 2] ∧ KidsAt F w g (ca ++ cb) ∧ TrC F w a ca ∧ TrC F w b cb
  | .sel a b c, cs => ∃ g ca cb cc, cs = [.int .u8 63, .int .i64 0, .slice (some ⟨g, 0, none⟩) 3 3] ∧ KidsAt F w g (ca ++ cb ++ cc) ∧ TrC F w a ca ∧ TrC F w b cb ∧ TrC F w c cc
/-- The cells of a tree, as they look. -/
def trL (o n : Int) (A : Option Addr) (c : Nat) : List Value := [.int .u8 o, .int .i64 n, .slice A c c]
def trA (o n : Int) (A : Option Addr) (c : Nat) : Array Value := #[.int .u8 o, .int .i64 n, .slice A c c]
theorem TrC.three {F : Nat → Prop} {w : World} {t : Tr} {cs : List Value} (h : TrC F w t cs) : ∃ o n A c, cs = trL o n A c := by
  cases t with
  | num k => exact ⟨_, _, _, _, h⟩
  | nam n => exact ⟨_, _, _, _, h⟩
  | neg a => obtain ⟨g, ca, h, _⟩ := h; exact ⟨_, _, _, _, h⟩
  | bin op a b => obtain ⟨g, ca, cb, h, _⟩ := h; exact ⟨_, _, _, _, h⟩
  | sel a b c => obtain ⟨g, ca, cb, cc, h, _⟩ := h; exact ⟨_, _, _, _, h⟩
theorem KidsAt.keep {F : Nat → Prop} {w w' : World} {g : Nat} {cs : List Value} (h : KidsAt F w g cs) (hs : Same F w w') : KidsAt F w' g cs := ⟨h.1, (hs g h.1).trans h.2⟩
theorem KidsAt.in_ {F G : Nat → Prop} {w : World} {g : Nat} {cs : List Value} (h : KidsAt F w g cs) (hF : ∀ k, F k → k < w.heap.size → G k) : KidsAt G w g cs := ⟨hF g h.1 (block_lt h.2), h.2⟩
theorem TrC.keep {F : Nat → Prop} {w w' : World} {t : Tr} {cs : List Value} (h : TrC F w t cs) (hs : Same F w w') : TrC F w' t cs := by
  induction t generalizing cs with
  | num k => exact h
  | nam n => exact h
  | neg a iha => obtain ⟨g, ca, h1, h2, h3⟩ := h; exact ⟨g, ca, h1, h2.keep hs, iha h3⟩
  | bin op a b iha ihb => obtain ⟨g, ca, cb, h1, h2, h3, h4⟩ := h; exact ⟨g, ca, cb, h1, h2.keep hs, iha h3, ihb h4⟩
  | sel a b c iha ihb ihc => obtain ⟨g, ca, cb, cc, h1, h2, h3, h4, h5⟩ := h; exact ⟨g, ca, cb, cc, h1, h2.keep hs, iha h3, ihb h4, ihc h5⟩
theorem TrC.in_ {F G : Nat → Prop} {w : World} {t : Tr} {cs : List Value} (h : TrC F w t cs) (hF : ∀ k, F k → k < w.heap.size → G k) : TrC G w t cs := by
  induction t generalizing cs with
  | num k => exact h
  | nam n => exact h
  | neg a iha => obtain ⟨g, ca, h1, h2, h3⟩ := h; exact ⟨g, ca, h1, h2.in_ hF, iha h3⟩
  | bin op a b iha ihb => obtain ⟨g, ca, cb, h1, h2, h3, h4⟩ := h; exact ⟨g, ca, cb, h1, h2.in_ hF, iha h3, ihb h4⟩
  | sel a b c iha ihb ihc => obtain ⟨g, ca, cb, cc, h1, h2, h3, h4, h5⟩ := h; exact ⟨g, ca, cb, cc, h1, h2.in_ hF, iha h3, ihb h4, ihc h5⟩
/-- A reader's place, by what is left. -/
def RdL (w : World) (R : Nat) (s : ByteArray) (l : List UInt8) (d : Nat) : Prop := l.length ≤ s.size ∧ l = s.data.toList.drop (s.size - l.length) ∧ RdAt w R s (s.size - l.length) d
/-- The two variables that Atoi's errors hold; they are no reader's. -/
def NumVar (w : World) (R g : Nat) : Prop := g ≠ R ∧ ∃ ev, w.cell? ⟨g, 0, none⟩ = some ev ∧ (ev = .nilIface ∨ ∃ te pe, ev = .iface te pe)
def NumVars (w : World) (R : Nat) : Prop := NumVar w R (Tryz.atoi_ren.g 15) ∧ NumVar w R (Tryz.atoi_ren.g 16)
theorem NumVar.frm {w w' : World} {R g : Nat} (h : NumVar w R g) (hF : Frm (· = R) w w') : NumVar w' R g := by
  obtain ⟨h0, ev, h1, h2⟩ := h
  exact ⟨h0, ev, (World.cell?_of_block (a := ⟨g, 0, none⟩) (hF.block g (cell_lt h1) h0)).trans h1, h2⟩
theorem NumVars.frm {w w' : World} {R : Nat} (h : NumVars w R) (hF : Frm (· = R) w w') : NumVars w' R := ⟨h.1.frm hF, h.2.frm hF⟩
/-- What a reader's method leaves, entered in w. -/
def Reads_ (R : Nat) (s : ByteArray) (d : Nat) (w : World) (r : Rd) (e : Ending) (w' : World) : Prop := match r with
  | .ok t l => ∃ o n A c, e = .returned (.agg (trA o n A c)) ∧ TrC (w.heap.size ≤ ·) w' t (trL o n A c) ∧ RdL w' R s l d ∧ Frm (· = R) w w'
  | .bad k j => e = faultE (s.size - k) j ∧ (∃ p, RdAt w' R s p d) ∧ Frm (· = R) w w'

/-- within's deferred closure: one level less. -/
theorem up_any (B R p d : Nat) (s : ByteArray) (u : FrameMode) (w : World) (hB : w.cell? ⟨B, 0, none⟩ = some (.pointer (some ⟨R, 0, none⟩))) (h : RdAt w R s p (d + 1)) (hd : d ≤ 1000) :
    CallsD Tryz.prog 145 #[.pointer (some ⟨B, 0, none⟩)] u w fun e u' w' => u' = u ∧ (e = .returned (.tuple #[]) ∧ w' = w.setCell ⟨R, 2, none⟩ (.int .i64 d)) := by
  obtain ⟨c0, c1, c2, cf⟩ := h.cells
  have e1 : ((d + 1 : Nat) : Int) - 1 = (d : Int) := by omega
  go_enter_d Tryz.func145, Tryz.ntmps145
  go_wp2_with fail
  exact ⟨rfl, .tuple #[], by simp [results, Tryz.results145, go_sem], rfl, rfl⟩
set_option maxRecDepth 100000 in
theorem within_full (R p at_ : Nat) (s : ByteArray) (fv : Value) (w : World) (h : RdAt w R s p 20) :
    Calls Tryz.prog 118 #[.pointer (some ⟨R, 0, none⟩), .int .i64 at_, fv] w fun e w' => e = faultE at_ 4 ∧ RdAt w' R s p 20 ∧ Frm (· = R) w w' := by
  have hlt := h.lt
  obtain ⟨c0, c1, c2, cf⟩ := h.cells
  have HH := Lib.hid h
  go_enter_defers Tryz.func118, Tryz.ntmps118
  go_wp2_with fail
  refine (fail_ok R at_ 4 _).mono ?_
  rintro e w1 ⟨rfl, rfl⟩
  have hF : Frm (· = R) w ((w.alloc (.cells #[.pointer (some ⟨R, 0, none⟩)] 149)).alloc (.cells #[.int .u8 0, .int .i64 0, .slice none 0 0] 86)) := ((Frm.refl _ _).alloc _).alloc _
  exact ⟨rfl, HH.out.keep ((heap_alloc_old _ _ (by simp; omega)).trans (heap_alloc_old _ _ hlt)), hF⟩
/-- A variable of a tree's type, in block k. -/
def TVar (w : World) (k : Nat) (x y z : Value) : Prop := w.heap[k]? = some (.cells #[x, y, z] 86 (0, 0))
theorem TVar.cells {w : World} {k : Nat} {x y z : Value} (h : TVar w k x y z) : w.cell? ⟨k, 0, none⟩ = some x ∧ w.cell? ⟨k, 1, none⟩ = some y ∧ w.cell? ⟨k, 2, none⟩ = some z ∧ (∀ i, w.frozen? ⟨k, i, none⟩ = false) :=
  ⟨(cell_of_row w k 0 _ _ _ h).trans rfl, (cell_of_row w k 1 _ _ _ h).trans rfl, (cell_of_row w k 2 _ _ _ h).trans rfl, fun i => by simp [World.frozen?, TVar] at h ⊢; simp [h]⟩
/-- A variable of a tree's type is written. -/
def tset (w : World) (k : Nat) (x y z : Value) : World := ((w.setCell ⟨k, 0, none⟩ x).setCell ⟨k, 1, none⟩ y).setCell ⟨k, 2, none⟩ z
theorem TVar.put {w : World} {k : Nat} {x y z : Value} (h : TVar w k x y z) (x' y' z' : Value) : TVar (tset w k x' y' z') k x' y' z' := by
  unfold TVar at h ⊢
  simp [tset, World.setCell, Array.getElem?_modify, h]
theorem tset_far (w : World) {k j : Nat} (h : j ≠ k) (x y z : Value) : (tset w k x y z).heap[j]? = w.heap[j]? := by
  unfold tset
  iterate 3 rw [Below.heap_setCell _ _ _ _ (by simpa using h)]
theorem tset_size (w : World) (k : Nat) (x y z : Value) : (tset w k x y z).heap.size = w.heap.size := by simp [tset]
theorem Frm.tset {F : Nat → Prop} {a w : World} (h : Frm F a w) {k : Nat} (hk : F k ∨ a.heap.size ≤ k) (x y z : Value) : Frm F a (Go.Proofs.YtfndhfekbbbliaaGreatDoor.tset w k x y z) := ((h.setCell (p := ⟨k, 0, none⟩) hk _).setCell (p := ⟨k, 1, none⟩) hk _).setCell (p := ⟨k, 2, none⟩) hk _
set_option maxRecDepth 100000 in
set_option maxHeartbeats 4000000 in
theorem within_ok (R p at_ d K : Nat) (s : ByteArray) (first cap : Array Value) (w : World) (r : Rd) (h : RdAt w R s p d) (hd : d ≠ 20) (hd2 : d ≤ 20)
    (hK : ∀ args w, (callFunc K args).run Tryz.prog w = .ok (.enter K args) w)
    (hC : ∀ W, RdAt W R s p (d + 1) → Frm (· = R) w W → Calls Tryz.prog K (first ++ cap) W (Reads_ R s (d + 1) W r)) :
    Calls Tryz.prog 118 #[.pointer (some ⟨R, 0, none⟩), .int .i64 at_, .func (.func K) first cap] w (Reads_ R s d w r) := by
  have hlt := h.lt
  obtain ⟨c0, c1, c2, cf⟩ := h.cells
  have HH := Lib.hid h
  have hne : ((d : Int) == 20) = false := beq_eq_false_iff_ne.2 (by omega)
  have hmf : ∀ (fn : Fn) (first cap : Array Value) (w : World), (Instr.makeFunc fn first cap).run Tryz.prog w = .ok (.func fn first cap) w := fun _ _ _ _ => rfl
  have HC := Lib.hid hC
  clear hC
  go_enter_defers Tryz.func118, Tryz.ntmps118
  go_wp2_with fail
  have ed : (d : Int) + 1 = ((d + 1 : Nat) : Int) := by omega
  obtain ⟨W, hW⟩ : ∃ W, W = ((w.setCell ⟨R, 2, none⟩ (.int .i64 ((d : Int) + 1))).alloc (.cells #[.pointer (some ⟨R, 0, none⟩)] 149)).alloc (.cells #[.int .u8 0, .int .i64 0, .slice none 0 0] 86) := ⟨_, rfl⟩
  have hWs : W.heap.size = w.heap.size + 2 := by rw [hW]; simp
  have hWR : RdAt W R s p (d + 1) := by
    rw [hW, ed]
    exact (HH.out.deeper (d + 1)).keep ((heap_alloc_old _ _ (by simp; omega)).trans (heap_alloc_old _ _ (by simpa using hlt)))
  have hWF : Frm (· = R) w W := by
    rw [hW]; exact ((((Frm.refl (· = R) w).setCell (p := ⟨R, 2, none⟩) (.inl rfl) _).alloc _).alloc _)
  have hWB : W.heap[w.heap.size]? = some (.cells #[.pointer (some ⟨R, 0, none⟩)] 149 (0, 0)) := by
    rw [hW]
    refine (heap_alloc_old _ _ (by simp)).trans ?_
    have := heap_alloc_new (w.setCell ⟨R, 2, none⟩ (.int .i64 ((d : Int) + 1))) (.cells #[.pointer (some ⟨R, 0, none⟩)] 149)
    simp only [World.size_setCell] at this
    exact this
  have hWT : TVar W (w.heap.size + 1) (.int .u8 0) (.int .i64 0) (.slice none 0 0) := by
    rw [hW]
    have := heap_alloc_new ((w.setCell ⟨R, 2, none⟩ (.int .i64 ((d : Int) + 1))).alloc (.cells #[.pointer (some ⟨R, 0, none⟩)] 149)) (.cells #[.int .u8 0, .int .i64 0, .slice none 0 0] 86)
    simpa [TVar] using this
  rw [← hW]
  have HWR := Lib.hid hWR
  have HWF := Lib.hid hWF
  have HWT := Lib.hid hWT
  have HWB := Lib.hid hWB
  have HWS := Lib.hid hWs
  have HRW := Lib.hid hlt
  clear hW hWR hWF hWT hWB hWs c0 c1 c2 cf h
  refine (HC.out W HWR.out HWF.out).mono ?_
  intro e w2 hr
  cases r with
  | ok t l =>
    obtain ⟨o, n, A, c, rfl, ht, hl, hf⟩ := hr
    have HT := Lib.hid ht
    have HL := Lib.hid hl
    have HF := Lib.hid hf
    have hv : TVar w2 (w.heap.size + 1) (.int .u8 0) (.int .i64 0) (.slice none 0 0) := (hf.block _ (by have := HWS.out; omega) (by have := HRW.out; omega)).trans HWT.out
    obtain ⟨v0, v1, v2, vf⟩ := hv.cells
    clear ht hl hf hv hlt
    simp only [trA]
    go_wp2_with fail
    obtain ⟨W3, hW3⟩ : ∃ W3, W3 = tset w2 (w.heap.size + 1) (.int .u8 o) (.int .i64 n) (.slice A c c) := ⟨_, rfl⟩
    have hsz : w.heap.size + 2 ≤ w2.heap.size := by have := HWS.out; have := HF.out.size; omega
    have h2F : Frm (· = R) w w2 := HWF.out.trans HF.out (fun _ h => h) (fun _ h => .inl h)
    have h3B : W3.heap[w.heap.size]? = some (.cells #[.pointer (some ⟨R, 0, none⟩)] 149 (0, 0)) := by
      rw [hW3, tset_far _ (by omega)]
      exact (HF.out.block _ (by have := HWS.out; omega) (by have := HRW.out; omega)).trans HWB.out
    have h3R : RdL W3 R s l (d + 1) := ⟨HL.out.1, HL.out.2.1, HL.out.2.2.keep (by rw [hW3, tset_far _ (by have := HRW.out; omega)])⟩
    have h3F : Frm (· = R) w W3 := by rw [hW3]; exact h2F.tset (.inr (by omega)) _ _ _
    have h3V : TVar W3 (w.heap.size + 1) (.int .u8 o) (.int .i64 n) (.slice A c c) := by
      rw [hW3]
      exact TVar.put (x := .int .u8 0) (y := .int .i64 0) (z := .slice none 0 0) ((HF.out.block _ (by have := HWS.out; omega) (by have := HRW.out; omega)).trans HWT.out) _ _ _
    have h3T : TrC (w.heap.size + 2 ≤ ·) W3 t (trL o n A c) := by
      refine TrC.keep (HT.out.in_ fun k hk _ => by have := HWS.out; omega) fun k hk => ?_
      rw [hW3, tset_far _ (by omega)]
    have hWd : (((w2.setCell ⟨w.heap.size + 1, 0, none⟩ (.int .u8 o)).setCell ⟨w.heap.size + 1, 1, none⟩ (.int .i64 n)).setCell ⟨w.heap.size + 1, 2, none⟩ (.slice A c c)) = W3 := hW3.symm
    rw [hWd]
    refine leaves_cons (f := 145) (args := #[.pointer (some ⟨w.heap.size, 0, none⟩)]) (by simp) (by simp [go_sem]) ?_
    refine (up_any w.heap.size R _ d s .returning W3 ((cell_of_row W3 w.heap.size 0 _ _ _ h3B).trans rfl) h3R.2.2 (by omega)).mono ?_
    rintro e u' w4 ⟨rfl, rfl, rfl⟩
    have h4V : TVar (W3.setCell ⟨R, 2, none⟩ (.int .i64 d)) (w.heap.size + 1) (.int .u8 o) (.int .i64 n) (.slice A c c) := (Below.heap_setCell _ _ _ _ (by have := HRW.out; simp; omega)).trans h3V
    obtain ⟨q0, q1, q2, qf⟩ := h4V.cells
    refine ⟨.agg (trA o n A c), ?_, o, n, A, c, rfl, ?_, ?_, ?_⟩
    · simp only [results, Tryz.results118]
      simp [go_sem, q0, q1, q2, trA]
    · exact (h3T.keep fun k hk => Below.heap_setCell _ _ _ _ (by have := HRW.out; simp; omega)).in_ fun k hk _ => by omega
    · exact ⟨h3R.1, h3R.2.1, h3R.2.2.deeper d⟩
    · exact h3F.setCell (p := ⟨R, 2, none⟩) (.inl rfl) _
  | bad k j =>
    obtain ⟨rfl, ⟨p2, hp2⟩, hf⟩ := hr
    simp only [faultE]
    refine leaves_cons (f := 145) (args := #[.pointer (some ⟨w.heap.size, 0, none⟩)]) (by simp) (by simp [go_sem]) ?_
    have h2B : w2.heap[w.heap.size]? = some (.cells #[.pointer (some ⟨R, 0, none⟩)] 149 (0, 0)) := (hf.block _ (by have := HWS.out; omega) (by have := HRW.out; omega)).trans HWB.out
    refine (up_any w.heap.size R _ d s _ w2 ((cell_of_row w2 w.heap.size 0 _ _ _ h2B).trans rfl) hp2 (by omega)).mono ?_
    rintro e u' w4 ⟨rfl, rfl, rfl⟩
    exact ⟨rfl, ⟨p2, hp2.deeper d⟩, (HWF.out.trans hf (fun _ h => h) (fun _ h => .inl h)).setCell (p := ⟨R, 2, none⟩) (.inl rfl) _⟩
end Go.Proofs.YtfndhfekbbbliaaGreatDoor

/-
  Expressions, plain: what is read of a text is read of it with other bytes behind that do not go on, at the same or a greater depth, or it is too deep there. No condition: plain lemmas.
-/
namespace Go.Proofs.YtfndhfekbbbliaaGreatDoor
open Go.RowKit
set_option linter.unusedVariables false

theorem Rd.bind_ok {r : Rd} {f : Tr → List UInt8 → Rd} {t : Tr} {l : List UInt8} (h : r.bind f = .ok t l) : ∃ a l1, r = .ok a l1 ∧ f a l1 = .ok t l := by
  cases r with
  | ok a l1 => exact ⟨a, l1, rfl, h⟩
  | bad k e => cases h
theorem want_ok {c : UInt8} {l : List UInt8} {f : List UInt8 → Rd} {t : Tr} {r : List UInt8} (h : wantRd c l f = .ok t r) : ∃ l1, l = c :: l1 ∧ f l1 = .ok t r := by
  cases l with
  | nil => cases h
  | cons x l1 =>
    by_cases e : x = c
    · subst e
      refine ⟨l1, rfl, ?_⟩
      simpa [wantRd] using h
    · simp [wantRd, e] at h
theorem deep_ok {d k : Nat} {f : Rd} {t : Tr} {r : List UInt8} (h : deepRd d k f = .ok t r) : d ≠ 20 ∧ f = .ok t r := by
  unfold deepRd at h
  split at h
  · cases h
  · exact ⟨by assumption, h⟩

/-! ### Nothing is read for nothing -/
def Short (X : List UInt8 → Rd) : Prop := ∀ l t r, X l = .ok t r → r.length < l.length
theorem two_short {W : Reads} (hW : ∀ d, Short (W d)) (op : UInt8) (d : Nat) : Short (twoRd W op d) := fun l t r h => by
  obtain ⟨a, l1, h1, h⟩ := Rd.bind_ok h
  obtain ⟨l2, rfl, h⟩ := want_ok h
  obtain ⟨b, l3, h3, h⟩ := Rd.bind_ok h
  obtain ⟨l4, rfl, h⟩ := want_ok h
  injection h with _ h; subst h
  have := hW d _ _ _ h1; have := hW d _ _ _ h3
  simp only [List.length_cons] at *; omega
theorem numOf_le (l : List UInt8) : (numOf l).length ≤ l.length := by
  have h : (digsOf l).length ≤ l.length := (List.takeWhile_prefix _).length_le
  unfold numOf
  split
  · rename_i c d r e
    rw [e] at h
    split
    · simp only [List.length_cons, List.length_nil] at *; omega
    · exact h
  · exact h
theorem num_ok {l : List UInt8} {t : Tr} {r : List UInt8} (h : numRd l = .ok t r) : numOf l ≠ [] ∧ digVal (numOf l) ≤ 9223372036854775807 ∧ t = .num (digVal (numOf l)) ∧ r = l.drop (numOf l).length := by
  unfold numRd at h
  split at h
  · cases h
  · rename_i hn
    injection h with h1 h2
    refine ⟨fun e => hn (.inl e), ?_, h1.symm, h2.symm⟩
    rcases Nat.lt_or_ge 9223372036854775807 (digVal (numOf l)) with h | h
    · exact absurd (.inr h) hn
    · exact h
theorem num_short : Short numRd := fun l t r h => by
  obtain ⟨h1, _, _, rfl⟩ := num_ok h
  have h2 := numOf_le l
  have h3 : 0 < (numOf l).length := List.length_pos_iff.2 h1
  rw [List.length_drop]; omega
theorem one_short {W : Reads} (hW : ∀ d, Short (W d)) (d : Nat) : Short (oneRd W d) := fun l t r h => by
  unfold oneRd at h
  split at h
  · have := two_short hW _ _ _ _ _ (deep_ok h).2; simp only [List.length_cons]; omega
  · have := two_short hW _ _ _ _ _ (deep_ok h).2; simp only [List.length_cons]; omega
  · injection h with _ h; subst h; simp
  · injection h with _ h; subst h; simp
  · obtain ⟨a, l1, h1, h⟩ := Rd.bind_ok (deep_ok h).2
    obtain ⟨l2, rfl, h⟩ := want_ok h
    injection h with _ h; subst h
    have := hW _ _ _ _ h1
    simp only [List.length_cons] at *; omega
  · exact num_short _ _ _ h
theorem less_other (W : Reads) (d : Nat) {c : UInt8} (r : List UInt8) (h : c ≠ 45) : lessRd W d (c :: r) = oneRd W d (c :: r) := by
  unfold lessRd
  split
  · rename_i e; injection e with e _; exact absurd e h
  · rfl
theorem less_nil (W : Reads) (d : Nat) : lessRd W d [] = .bad 0 2 := rfl
theorem less_minus (W : Reads) (d : Nat) (r : List UInt8) : lessRd W d (45 :: r) = deepRd d (r.length + 1) ((lessRd W (d + 1) r).bind fun a l1 => .ok (.neg a) l1) := rfl
theorem less_short {W : Reads} (hW : ∀ d, Short (W d)) (d : Nat) : Short (lessRd W d) := fun l => by
  induction l generalizing d with
  | nil => intro t r h; cases h
  | cons c l ih =>
    intro t r h
    by_cases e : c = 45
    · subst e
      rw [less_minus] at h
      obtain ⟨a, l1, h1, h⟩ := Rd.bind_ok (deep_ok h).2
      injection h with _ h; subst h
      have := ih _ _ _ h1
      simp only [List.length_cons]; omega
    · rw [less_other _ _ _ e] at h
      exact one_short hW d _ _ _ h
theorem loop_le {next : List UInt8 → Rd} (hn : Short next) (ops : List UInt8) : ∀ k a l t r, loopRd next ops k a l = .ok t r → r.length ≤ l.length := by
  intro k
  induction k with
  | zero => intro a l t r h; injection h with _ h; subst h; exact Nat.le_refl _
  | succ k ih =>
    intro a l t r h
    cases l with
    | nil => injection h with _ h; subst h; exact Nat.le_refl _
    | cons c l =>
      simp only [loopRd] at h
      split at h
      · obtain ⟨b, l1, h1, h⟩ := Rd.bind_ok h
        have := ih _ _ _ _ h
        have := hn _ _ _ h1
        simp only [List.length_cons]; omega
      · injection h with _ h; subst h; exact Nat.le_refl _
theorem row_short {next : List UInt8 → Rd} (hn : Short next) (ops : List UInt8) : Short (rowRd next ops) := fun l t r h => by
  obtain ⟨a, l1, h1, h⟩ := Rd.bind_ok h
  have := hn _ _ _ h1; have := loop_le hn ops _ _ _ _ _ h
  omega
theorem add_short {W : Reads} (hW : ∀ d, Short (W d)) (d : Nat) : Short (addRd W d) := row_short (row_short (less_short hW d) _) _
theorem cmp_short {W : Reads} (hW : ∀ d, Short (W d)) (d : Nat) : Short (cmpRd W d) := fun l t r h => by
  obtain ⟨a, l1, h1, h⟩ := Rd.bind_ok h
  have g1 := add_short hW d _ _ _ h1
  cases l1 with
  | nil => injection h with _ h; subst h; exact g1
  | cons c l1 =>
    simp only [cmpTl] at h
    split at h
    · obtain ⟨b, l2, h2, h⟩ := Rd.bind_ok h
      injection h with _ h; subst h
      have := add_short hW d _ _ _ h2
      simp only [List.length_cons] at *; omega
    · injection h with _ h; subst h; exact g1
theorem step_short {W : Reads} (hW : ∀ d, Short (W d)) (d : Nat) : Short (wholeStep W d) := fun l t r h => by
  obtain ⟨a, l1, h1, h⟩ := Rd.bind_ok h
  have g1 := cmp_short hW d _ _ _ h1
  cases l1 with
  | nil => injection h with _ h; subst h; exact g1
  | cons x l1 =>
    simp only [selRd] at h
    split at h
    · obtain ⟨b, l2, h2, h⟩ := Rd.bind_ok (deep_ok h).2
      obtain ⟨l3, rfl, h⟩ := want_ok h
      obtain ⟨c, l4, h4, h⟩ := Rd.bind_ok h
      injection h with _ h; subst h
      have := hW _ _ _ _ h2; have := hW _ _ _ _ h4
      simp only [List.length_cons] at *; omega
    · injection h with _ h; subst h; exact g1
theorem bad_short (e : Int) : ∀ d : Nat, Short ((fun (_ : Nat) (l : List UInt8) => Rd.bad l.length e) d) := fun d l t r h => by cases h
theorem whole_short (k : Nat) : ∀ d, Short (wholeRd k d) := by
  induction k with
  | zero => exact step_short (bad_short 2)
  | succ k ih => exact step_short ih

/-! ### Other bytes behind -/
def Stops (v : List UInt8) : Prop := v = [] ∨ ∃ c r, v = c :: r ∧ (c = 41 ∨ c = 44 ∨ c = 58)
def Ext (p : Prop) (v : List UInt8) (A B : Rd) : Prop := match A with
  | .ok t r => B = .ok t (r ++ v) ∨ (p ∧ ∃ k, B = .bad k 4)
  | .bad _ e => e = 4 → ∃ k, B = .bad k 4
theorem Ext.two {p : Prop} {v : List UInt8} {k : Nat} {B : Rd} : Ext p v (.bad k 2) B := fun h => absurd h (by decide)
theorem Ext.four {p : Prop} {v : List UInt8} (A : Rd) {k : Nat} (h : p) : Ext p v A (.bad k 4) := by
  cases A with
  | ok t r => exact .inr ⟨h, k, rfl⟩
  | bad k e => exact fun _ => ⟨_, rfl⟩
theorem Ext.bind {p : Prop} {v : List UInt8} {A B : Rd} {f g : Tr → List UInt8 → Rd} (h : Ext p v A B) (hf : ∀ t r, A = .ok t r → Ext p v (f t r) (g t (r ++ v))) : Ext p v (A.bind f) (B.bind g) := by
  cases A with
  | ok t r =>
    rcases h with rfl | ⟨h, k, rfl⟩
    · exact hf t r rfl
    · exact Ext.four _ h
  | bad k e =>
    intro he
    obtain ⟨k2, rfl⟩ := h he
    exact ⟨k2, rfl⟩
theorem Ext.want {p : Prop} {v : List UInt8} {c : UInt8} {l : List UInt8} {f g : List UInt8 → Rd} (h : ∀ r, l = c :: r → Ext p v (f r) (g (r ++ v))) : Ext p v (wantRd c l f) (wantRd c (l ++ v) g) := by
  cases l with
  | nil => exact Ext.two
  | cons x r =>
    by_cases e : x = c
    · subst e
      have := h r rfl
      simpa [wantRd] using this
    · simp only [wantRd, if_neg e]; exact Ext.two
theorem Ext.deep {p : Prop} {v : List UInt8} {d d' k k' : Nat} {A B : Rd} (h1 : d ≤ d') (h2 : d' ≤ 20) (h3 : d < d' → p) (h : d' + 1 ≤ 20 → Ext p v A B) : Ext p v (deepRd d k A) (deepRd d' k' B) := by
  unfold deepRd
  by_cases e : d' = 20
  · rw [if_pos e]
    by_cases e2 : d = 20
    · rw [if_pos e2]; exact fun _ => ⟨_, rfl⟩
    · exact Ext.four _ (h3 (by omega))
  · rw [if_neg e, if_neg (show ¬ d = 20 by omega)]
    exact h (by omega)
def ExtW (p : Prop) (v : List UInt8) (W W' : Reads) : Prop := ∀ d d' l, d ≤ d' → d' ≤ 20 → (d < d' → p) → Ext p v (W d l) (W' d' (l ++ v))
section
variable {p : Prop} {v : List UInt8} {W W' : Reads}
theorem two_ext (hW : ExtW p v W W') (op : UInt8) {d d' : Nat} (l : List UInt8) (h1 : d ≤ d') (h2 : d' ≤ 20) (h3 : d < d' → p) : Ext p v (twoRd W op d l) (twoRd W' op d' (l ++ v)) :=
  (hW d d' l h1 h2 h3).bind fun _ l1 _ => Ext.want fun l2 _ => (hW d d' l2 h1 h2 h3).bind fun _ l3 _ => Ext.want fun l4 _ => .inl rfl
theorem digs_app (hv : Stops v) (l : List UInt8) : digsOf (l ++ v) = digsOf l := by
  induction l with
  | nil =>
    rcases hv with rfl | ⟨c, r, rfl, h⟩
    · rfl
    · rcases h with rfl | rfl | rfl <;> rfl
  | cons c l ih =>
    unfold digsOf at ih ⊢
    rw [List.cons_append, List.takeWhile_cons, List.takeWhile_cons, ih]
theorem num_app (hv : Stops v) (l : List UInt8) : numOf (l ++ v) = numOf l := by
  unfold numOf; rw [digs_app hv]
theorem num_ext (hv : Stops v) (l : List UInt8) : Ext p v (numRd l) (numRd (l ++ v)) := by
  unfold numRd
  rw [num_app hv]
  split
  · exact Ext.two
  · left
    rw [List.drop_append_of_le_length (numOf_le l)]
theorem one_dig (W : Reads) (d : Nat) {c : UInt8} (r : List UInt8) (h : isDig c = true) : oneRd W d (c :: r) = numRd (c :: r) := by
  unfold oneRd
  split
  · rename_i e; injection e with e _; subst e; exact absurd h (by decide)
  · rename_i e; injection e with e _; subst e; exact absurd h (by decide)
  · rename_i e; injection e with e _; subst e; exact absurd h (by decide)
  · rename_i e; injection e with e _; subst e; exact absurd h (by decide)
  · rename_i e; injection e with e _; subst e; exact absurd h (by decide)
  · rfl
theorem num_head {l : List UInt8} (h : numOf l ≠ []) : ∃ c r, l = c :: r ∧ isDig c = true := by
  cases l with
  | nil => exact absurd rfl h
  | cons c r =>
    refine ⟨c, r, rfl, ?_⟩
    cases hc : isDig c with
    | true => rfl
    | false =>
      have : digsOf (c :: r) = [] := by unfold digsOf; rw [List.takeWhile_cons, hc]; rfl
      exact absurd (by unfold numOf; rw [this]) h
theorem one_ext (hv : Stops v) (hW : ExtW p v W W') {d d' : Nat} (l : List UInt8) (h1 : d ≤ d') (h2 : d' ≤ 20) (h3 : d < d' → p) : Ext p v (oneRd W d l) (oneRd W' d' (l ++ v)) := by
  have hn : oneRd W d l = numRd l → Ext p v (numRd l) (oneRd W' d' (l ++ v)) := fun _ => by
    cases hr : numRd l with
    | bad k e =>
      have : e = 2 := by
        unfold numRd at hr
        split at hr
        · injection hr with _ hr; exact hr.symm
        · cases hr
      subst this; exact Ext.two
    | ok t r =>
      obtain ⟨c, r2, rfl, hc⟩ := num_head (num_ok hr).1
      rw [List.cons_append, one_dig W' d' _ hc, ← hr]
      exact num_ext hv (c :: r2)
  unfold oneRd at hn ⊢
  split
  · exact Ext.deep h1 h2 h3 fun h => two_ext hW _ _ (by omega) h (fun h => h3 (by omega))
  · exact Ext.deep h1 h2 h3 fun h => two_ext hW _ _ (by omega) h (fun h => h3 (by omega))
  · exact .inl rfl
  · exact .inl rfl
  · exact Ext.deep h1 h2 h3 fun h => (hW _ _ _ (by omega) h (fun h => h3 (by omega))).bind fun _ _ _ => Ext.want fun _ _ => .inl rfl
  · rename_i g1 g2 g3 g4 g5
    refine hn ?_
    split
    · exact absurd rfl (g1 _)
    · exact absurd rfl (g2 _)
    · exact absurd rfl (g3 _)
    · exact absurd rfl (g4 _)
    · exact absurd rfl (g5 _)
    · rfl
theorem less_ext (hv : Stops v) (hW : ExtW p v W W') (l : List UInt8) : ∀ {d d' : Nat}, d ≤ d' → d' ≤ 20 → (d < d' → p) → Ext p v (lessRd W d l) (lessRd W' d' (l ++ v)) := by
  induction l with
  | nil => intro d d' h1 h2 h3; exact Ext.two
  | cons c l ih =>
    intro d d' h1 h2 h3
    by_cases e : c = 45
    · subst e
      rw [List.cons_append, less_minus, less_minus]
      exact Ext.deep h1 h2 h3 fun h => (ih (by omega) h (fun h => h3 (by omega))).bind fun _ _ _ => .inl rfl
    · rw [List.cons_append, less_other _ _ _ e, less_other _ _ _ e]
      exact one_ext hv hW (c :: l) h1 h2 h3
theorem loop_stop {next : List UInt8 → Rd} {ops : List UInt8} (h : ∀ c r, v = c :: r → c ∉ ops) (k : Nat) (a : Tr) : loopRd next ops k a v = .ok a v := by
  cases k with
  | zero => rfl
  | succ k =>
    cases v with
    | nil => rfl
    | cons c r => simp [loopRd, h c r rfl]
theorem loop_ext {next next' : List UInt8 → Rd} {ops : List UInt8} (hs : ∀ c r, v = c :: r → c ∉ ops) (hS : Short next) (hn : ∀ l, Ext p v (next l) (next' (l ++ v))) : ∀ k k' a l, l.length ≤ k → l.length ≤ k' → Ext p v (loopRd next ops k a l) (loopRd next' ops k' a (l ++ v)) := by
  intro k
  induction k with
  | zero =>
    intro k' a l h1 h2
    obtain rfl := List.eq_nil_of_length_eq_zero (Nat.le_zero.1 h1)
    exact .inl (loop_stop hs k' a)
  | succ k ih =>
    intro k' a l h1 h2
    cases l with
    | nil => exact .inl (loop_stop hs k' a)
    | cons c r =>
      obtain ⟨k2, rfl⟩ : ∃ k2, k' = k2 + 1 := ⟨k' - 1, by simp only [List.length_cons] at h2; omega⟩
      simp only [List.cons_append, loopRd, List.length_cons] at h1 h2 ⊢
      split
      · refine (hn r).bind fun b l1 e => ?_
        have := hS _ _ _ e
        exact ih k2 _ l1 (by omega) (by omega)
      · exact .inl rfl
theorem row_ext {next next' : List UInt8 → Rd} {ops : List UInt8} (hs : ∀ c r, v = c :: r → c ∉ ops) (hS : Short next) (hn : ∀ l, Ext p v (next l) (next' (l ++ v))) (l : List UInt8) : Ext p v (rowRd next ops l) (rowRd next' ops (l ++ v)) :=
  (hn l).bind fun a l1 _ => loop_ext hs hS hn _ _ _ _ (Nat.le_refl _) (by rw [List.length_append]; omega)
theorem Stops.head (hv : Stops v) {c : UInt8} {r : List UInt8} (e : v = c :: r) : c = 41 ∨ c = 44 ∨ c = 58 := by
  rcases hv with h | ⟨c', r', h, hc⟩
  · rw [h] at e; cases e
  · rw [h] at e; injection e with e _; subst e; exact hc
theorem add_ext (hv : Stops v) (hS : ∀ d, Short (W d)) (hW : ExtW p v W W') {d d' : Nat} (l : List UInt8) (h1 : d ≤ d') (h2 : d' ≤ 20) (h3 : d < d' → p) : Ext p v (addRd W d l) (addRd W' d' (l ++ v)) :=
  row_ext (fun c r e => by rcases hv.head e with rfl | rfl | rfl <;> decide) (row_short (less_short hS d) _) (fun l => row_ext (fun c r e => by rcases hv.head e with rfl | rfl | rfl <;> decide) (less_short hS d) (fun l => less_ext hv hW l h1 h2 h3) l) l
theorem cmp_ext (hv : Stops v) (hS : ∀ d, Short (W d)) (hW : ExtW p v W W') {d d' : Nat} (l : List UInt8) (h1 : d ≤ d') (h2 : d' ≤ 20) (h3 : d < d' → p) : Ext p v (cmpRd W d l) (cmpRd W' d' (l ++ v)) := by
  refine (add_ext hv hS hW l h1 h2 h3).bind fun a l1 _ => ?_
  cases l1 with
  | nil =>
    left
    cases hv2 : v with
    | nil => rfl
    | cons c r =>
      have : c ∉ ([61, 60, 62] : List UInt8) := by rcases hv.head hv2 with rfl | rfl | rfl <;> decide
      simp only [cmpTl, if_neg this, List.nil_append]
  | cons c r =>
    simp only [List.cons_append, cmpTl]
    split
    · exact (add_ext hv hS hW r h1 h2 h3).bind fun b l2 _ => .inl rfl
    · exact .inl rfl
theorem step_ext (hv : Stops v) (hS : ∀ d, Short (W d)) (hW : ExtW p v W W') : ExtW p v (wholeStep W) (wholeStep W') := by
  intro d d' l h1 h2 h3
  refine (cmp_ext hv hS hW l h1 h2 h3).bind fun a l1 _ => ?_
  cases l1 with
  | nil =>
    left
    cases hv2 : v with
    | nil => rfl
    | cons c r =>
      have : c ≠ 63 := by rcases hv.head hv2 with rfl | rfl | rfl <;> decide
      simp only [selRd, if_neg this, List.nil_append]
  | cons c r =>
    simp only [List.cons_append, selRd]
    split
    · exact Ext.deep h1 h2 h3 fun h => (hW _ _ _ (by omega) h (fun h => h3 (by omega))).bind fun b l2 _ => Ext.want fun l3 _ => (hW _ _ _ (by omega) h (fun h => h3 (by omega))).bind fun c l4 _ => .inl rfl
    · exact .inl rfl
end
theorem whole_ext {p : Prop} {v : List UInt8} (hv : Stops v) : ∀ k k', k ≤ k' → ExtW p v (wholeRd k) (wholeRd k') := by
  intro k
  induction k with
  | zero =>
    intro k' _
    have : ∀ W', ExtW p v (fun _ l => .bad l.length 2) W' := fun W' d d' l _ _ _ => Ext.two
    cases k' with
    | zero => exact step_ext hv (bad_short 2) (this _)
    | succ k' => exact step_ext hv (bad_short 2) (this _)
  | succ k ih =>
    intro k' h
    obtain ⟨k2, rfl⟩ : ∃ k2, k' = k2 + 1 := ⟨k' - 1, by omega⟩
    exact step_ext hv (whole_short k) (ih k2 (by omega))
end Go.Proofs.YtfndhfekbbbliaaGreatDoor

/-
  Package expr: the reader's methods by what is left of the text; the contract of less. Conditions: the text takes at most 120 bytes, the depth is at most 20.
-/
namespace Go.Proofs.YtfndhfekbbbliaaGreatDoor
open Go.RowKit Go.Shelf
set_option linter.unusedVariables false

theorem RdL.keep {w w' : World} {R : Nat} {s : ByteArray} {l : List UInt8} {d : Nat} (h : RdL w R s l d) (hs : w'.heap[R]? = w.heap[R]?) : RdL w' R s l d := ⟨h.1, h.2.1, h.2.2.keep hs⟩
theorem RdL.lt {w : World} {R : Nat} {s : ByteArray} {l : List UInt8} {d : Nat} (h : RdL w R s l d) : R < w.heap.size := h.2.2.lt
/-- Some bytes further. -/
theorem RdL.on {w w' : World} {R : Nat} {s : ByteArray} {l r : List UInt8} {n d : Nat} (h : RdL w R s l d) (hl : l.length = n + r.length) (hr : r = l.drop n) (h' : RdAt w' R s (s.size - l.length + n) d) : RdL w' R s r d := by
  obtain ⟨h1, h2, h3⟩ := h
  have e : s.size - l.length + n = s.size - r.length := by omega
  rw [e] at h'
  refine ⟨by omega, ?_, h'⟩
  rw [← e, ← List.drop_drop, ← h2]
  exact hr
theorem RdL.allocs {w : World} {R d : Nat} {s : ByteArray} {l : List UInt8} (h : RdL w R s l d) : ∀ ob, (w.alloc ob).cell? ⟨R, 1, none⟩ = some (.int .i64 ((s.size - l.length : Nat) : Int)) := fun ob => (RdL.keep (w' := w.alloc ob) h (heap_alloc_old _ _ h.lt)).2.2.cells.2.1
theorem peekL (R : Nat) (s : ByteArray) (l : List UInt8) (d : Nat) (w : World) (h : RdL w R s l d) : Calls Tryz.prog 142 #[.pointer (some ⟨R, 0, none⟩)] w fun e w' => e = .returned (.int .u8 (headB l)) ∧ ∃ q, w' = w.drewN q := by
  have := peek_ok R s (s.size - l.length) d w h.2.2 (by omega)
  rw [← h.2.1] at this
  exact this
theorem has_eq {w : World} {R : Nat} {s t : ByteArray} {l : List UInt8} {d : Nat} (h : RdL w R s l d) : hasB s (s.size - l.length) t = Lib.hasPrefix l t.data.toList := by
  unfold hasB; rw [← h.2.1]
theorem hasL_yes (R : Nat) (s t : ByteArray) (l r : List UInt8) (d : Nat) (w : World) (h : RdL w R s l d) (hs : s.size ≤ 120) (ht : l = t.data.toList ++ r) :
    Calls Tryz.prog 117 #[.pointer (some ⟨R, 0, none⟩), .string t] w fun e w' => e = .returned (.bool true) ∧ RdL w' R s r d ∧ Frm (· = R) w w' := by
  have hb : hasB s (s.size - l.length) t = true := by rw [has_eq h, ht]; exact List.isPrefixOf_iff_prefix.2 (List.prefix_append _ _)
  have e2 : t.data.toList.length = t.size := by simp
  refine (has_ok R s t _ d w h.2.2 (by omega) hs).mono ?_
  rintro e w' ⟨h1, h2, h3⟩
  rw [hb] at h1 h2
  exact ⟨h1, h.on (n := t.size) (by rw [ht, List.length_append, e2]) (by rw [ht, ← e2, List.drop_left]) (by simpa using h2), h3⟩
theorem hasL_no (R : Nat) (s t : ByteArray) (l : List UInt8) (d : Nat) (w : World) (h : RdL w R s l d) (hs : s.size ≤ 120) (ht : Lib.hasPrefix l t.data.toList = false) :
    Calls Tryz.prog 117 #[.pointer (some ⟨R, 0, none⟩), .string t] w fun e w' => e = .returned (.bool false) ∧ RdL w' R s l d ∧ Frm (· = R) w w' := by
  have hb : hasB s (s.size - l.length) t = false := by rw [has_eq h]; exact ht
  refine (has_ok R s t _ d w h.2.2 (by omega) hs).mono ?_
  rintro e w' ⟨h1, h2, h3⟩
  rw [hb] at h1 h2
  exact ⟨h1, ⟨h.1, h.2.1, by simpa using h2⟩, h3⟩
theorem wantL_yes (R : Nat) (s : ByteArray) (c : UInt8) (r : List UInt8) (d : Nat) (w : World) (h : RdL w R s (c :: r) d) (hs : s.size ≤ 120) :
    Calls Tryz.prog 119 #[.pointer (some ⟨R, 0, none⟩), .string ⟨#[c]⟩] w fun e w' => e = .returned (.tuple #[]) ∧ RdL w' R s r d ∧ Frm (· = R) w w' := by
  have hb : hasB s (s.size - (c :: r).length) ⟨#[c]⟩ = true := by rw [has_eq h]; simp [Lib.hasPrefix]
  refine (want_yes R s ⟨#[c]⟩ _ d w h.2.2 (by omega) hs hb).mono ?_
  rintro e w' ⟨h1, h2, h3⟩
  exact ⟨h1, h.on (n := 1) (by simp; omega) rfl h2, h3⟩
theorem wantL_no (R : Nat) (s : ByteArray) (c : UInt8) (l : List UInt8) (d : Nat) (w : World) (h : RdL w R s l d) (hs : s.size ≤ 120) (hc : ∀ r, l ≠ c :: r) :
    Calls Tryz.prog 119 #[.pointer (some ⟨R, 0, none⟩), .string ⟨#[c]⟩] w fun e w' => e = faultE (s.size - l.length) 2 ∧ RdL w' R s l d ∧ Frm (· = R) w w' := by
  have hb : hasB s (s.size - l.length) ⟨#[c]⟩ = false := by
    rw [has_eq h]
    cases l with
    | nil => rfl
    | cons x r =>
      have : ¬ c = x := fun e => hc r (e ▸ rfl)
      simp [Lib.hasPrefix, List.isPrefixOf, this]
  refine (want_no R s ⟨#[c]⟩ _ d w h.2.2 (by omega) hs hb).mono ?_
  rintro e w' ⟨h1, h2, h3⟩
  exact ⟨h1, ⟨h.1, h.2.1, h2⟩, h3⟩
theorem withinL (R k0 d K : Nat) (s : ByteArray) (l : List UInt8) (first cap : Array Value) (w : World) (r : Rd) (h : RdL w R s l d) (hd2 : d ≤ 20)
    (hK : ∀ args w, (callFunc K args).run Tryz.prog w = .ok (.enter K args) w)
    (hC : d ≠ 20 → ∀ W, RdL W R s l (d + 1) → Frm (· = R) w W → Calls Tryz.prog K (first ++ cap) W (Reads_ R s (d + 1) W r)) :
    Calls Tryz.prog 118 #[.pointer (some ⟨R, 0, none⟩), .int .i64 ((s.size - k0 : Nat) : Int), .func (.func K) first cap] w (Reads_ R s d w (deepRd d k0 r)) := by
  by_cases hd : d = 20
  · subst hd
    have e : deepRd 20 k0 r = .bad k0 4 := rfl
    rw [e]
    refine (within_full R _ (s.size - k0) s _ w h.2.2).mono ?_
    rintro e w' ⟨h1, h2, h3⟩
    exact ⟨h1, ⟨_, h2⟩, h3⟩
  · have e : deepRd d k0 r = r := by unfold deepRd; rw [if_neg hd]
    rw [e]
    exact within_ok R _ (s.size - k0) d K s first cap w r h.2.2 hd hd2 hK fun W hW hF => hC hd W ⟨h.1, h.2.1, hW⟩ hF
/-- What a reader that is called last leaves, seen from further back. -/
theorem Reads_.back {R d : Nat} {s : ByteArray} {w W : World} {r : Rd} {e : Ending} {w' : World} (h : Reads_ R s d W r e w') (hF : Frm (· = R) w W) : Reads_ R s d w r e w' := by
  cases r with
  | ok t l =>
    obtain ⟨o, n, A, c, h1, h2, h3, h4⟩ := h
    exact ⟨o, n, A, c, h1, h2.in_ fun k hk _ => by have := hF.size; omega, h3, hF.trans h4 (fun _ h => h) (fun _ h => .inl h)⟩
  | bad k j =>
    obtain ⟨h1, h2, h3⟩ := h
    exact ⟨h1, h2, hF.trans h3 (fun _ h => h) (fun _ h => .inl h)⟩
/-- A reader's method f reads as X does. -/
def ReadsAs (f : Nat) (X : Reads) (m : Nat) : Prop := ∀ (R : Nat) (s : ByteArray) (l : List UInt8) (d : Nat) (w : World), RdL w R s l d → s.size ≤ 120 → d ≤ 20 → l.length ≤ m → NumVars w R → Calls Tryz.prog f #[.pointer (some ⟨R, 0, none⟩)] w (Reads_ R s d w (X d l))
theorem deep_bind (d k : Nat) (r : Rd) (f : Tr → List UInt8 → Rd) : (deepRd d k r).bind f = deepRd d k (r.bind f) := by
  unfold deepRd; split <;> rfl
theorem TVar.new (w : World) (x y z : Value) : TVar (w.alloc (.cells #[x, y, z] 86)) w.heap.size x y z := heap_alloc_new w _
theorem TVar.frm {w w' : World} {R k : Nat} {x y z : Value} (h : TVar w k x y z) (hF : Frm (· = R) w w') (hk : k ≠ R) : TVar w' k x y z := (hF.block k (block_lt h) hk).trans h
theorem TVar.allocs {w : World} {k : Nat} {x y z : Value} (h : TVar w k x y z) : (∀ ob, (w.alloc ob).cell? ⟨k, 0, none⟩ = some x) ∧ (∀ ob, (w.alloc ob).cell? ⟨k, 1, none⟩ = some y) ∧ (∀ ob, (w.alloc ob).cell? ⟨k, 2, none⟩ = some z) ∧ (∀ ob i, (w.alloc ob).frozen? ⟨k, i, none⟩ = false) := by
  have h2 : ∀ ob, TVar (w.alloc ob) k x y z := fun ob => (heap_alloc_old _ _ (block_lt h)).trans h
  exact ⟨fun ob => (h2 ob).cells.1, fun ob => (h2 ob).cells.2.1, fun ob => (h2 ob).cells.2.2.1, fun ob => (h2 ob).cells.2.2.2⟩
theorem frm_trans {R : Nat} {a b c : World} (h : Frm (· = R) a b) (h' : Frm (· = R) b c) : Frm (· = R) a c := h.trans h' (fun _ h => h) (fun _ h => .inl h)
/-! ### A tree is made, and laid into a variable -/
section
variable {F : Nat → Prop} {w0 w3 : World} {k R : Nat} {x y z : Value} {ob : Obj}
theorem four_far {j : Nat} (h1 : j < w3.heap.size) (h2 : j ≠ k) : (tset (w3.alloc ob) k x y z).heap[j]? = w3.heap[j]? := (tset_far _ h2 _ _ _).trans (heap_alloc_old _ _ h1)
theorem four_new (hk : k < w3.heap.size) : (tset (w3.alloc ob) k x y z).heap[w3.heap.size]? = some ob := (tset_far _ (by omega) _ _ _).trans (heap_alloc_new _ _)
theorem four_tree {t : Tr} {cs : List Value} (h : TrC F w3 t cs) (hF : ∀ j, F j → j ≠ k ∧ w0.heap.size ≤ j) : TrC (w0.heap.size ≤ ·) (tset (w3.alloc ob) k x y z) t cs := by
  have h1 : TrC (fun j => F j ∧ j < w3.heap.size) w3 t cs := h.in_ fun j h1 h2 => ⟨h1, h2⟩
  exact (h1.keep fun j hj => four_far hj.2 (hF j hj.1).1).in_ fun j hj _ => (hF j hj.1).2
theorem four_rd {s : ByteArray} {l : List UInt8} {d : Nat} (h : RdL w3 R s l d) (hk : R ≠ k) : RdL (tset (w3.alloc ob) k x y z) R s l d := h.keep (four_far h.lt hk)
theorem four_frm (h : Frm (· = R) w0 w3) (hk : w0.heap.size ≤ k) : Frm (· = R) w0 (tset (w3.alloc ob) k x y z) := (h.alloc ob).tset (.inr hk) _ _ _
theorem four_var {a b c : Value} (h : TVar w3 k a b c) : TVar (tset (w3.alloc ob) k x y z) k x y z := TVar.put (x := a) (y := b) (z := c) ((heap_alloc_old _ _ (block_lt h)).trans h) _ _ _
end
/-! ### What was read last is laid into a variable -/
section
variable {w0 w3 : World} {k R d : Nat} {s : ByteArray} {x y z : Value}
theorem pass_var {a b c : Value} (h : TVar w3 k a b c) : TVar (tset w3 k x y z) k x y z := TVar.put (x := a) (y := b) (z := c) h _ _ _
theorem pass_ok {F : Nat → Prop} {t : Tr} {l : List UInt8} {o n : Int} {A : Option Addr} {c : Nat} (h : TrC F w3 t (trL o n A c)) (hF : ∀ j, F j → j ≠ k ∧ w0.heap.size ≤ j) (hl : RdL w3 R s l d) (hf : Frm (· = R) w0 w3) (hR : R ≠ k) (hk : w0.heap.size ≤ k) : Reads_ R s d w0 (.ok t l) (.returned (.agg (trA o n A c))) (tset w3 k x y z) :=
  ⟨o, n, A, c, rfl, (h.keep fun j hj => tset_far _ (hF j hj).1 _ _ _).in_ fun j hj _ => (hF j hj).2, hl.keep (tset_far _ hR _ _ _), hf.tset (.inr hk) _ _ _⟩
end
set_option maxRecDepth 100000 in
set_option maxHeartbeats 4000000 in
theorem less_one_reads {W : Reads} {m : Nat} (hone : ReadsAs 177 (oneRd W) m) (R : Nat) (s : ByteArray) (l : List UInt8) (d : Nat) (w : World) (h : RdL w R s l d) (hs : s.size ≤ 120) (hd : d ≤ 20) (hm : l.length ≤ m) (hnv : NumVars w R) (hl : ∀ r, l ≠ 45 :: r) :
    Calls Tryz.prog 141 #[.pointer (some ⟨R, 0, none⟩)] w (Reads_ R s d w (oneRd W d l)) := by
  obtain ⟨r0, hr0⟩ : ∃ r0, r0 = oneRd W d l := ⟨_, rfl⟩
  have HR0 := Lib.hid hr0
  rw [← hr0]
  have hb : Lib.hasPrefix l [45] = false := by
    cases l with
    | nil => rfl
    | cons x r =>
      have : ¬ 45 = x := fun e => hl r (e ▸ rfl)
      simp [Lib.hasPrefix, List.isPrefixOf, this]
  have HH := Lib.hid h
  obtain ⟨c0, c1, c2, cf⟩ := h.2.2.cells
  have hlt := h.lt
  have HLT := Lib.hid hlt
  clear hr0
  go_enter Tryz.func141, Tryz.ntmps141
  go_wp2_with fail
  have HH1 : Hid (RdL (w.alloc (.cells #[.int .u8 0, .int .i64 0, .slice none 0 0] 86)) R s l d) := HH.out.keep (heap_alloc_old _ _ hlt)
  have HF1 : Hid (Frm (· = R) w (w.alloc (.cells #[.int .u8 0, .int .i64 0, .slice none 0 0] 86))) := (Frm.refl _ _).alloc _
  have HV1 : Hid (TVar (w.alloc (.cells #[.int .u8 0, .int .i64 0, .slice none 0 0] 86)) w.heap.size (.int .u8 0) (.int .i64 0) (.slice none 0 0)) := TVar.new _ _ _ _
  clear c0 c1 c2 cf h hlt
  refine (hasL_no R s ⟨#[45]⟩ l d _ HH1.out hs hb).mono ?_
  rintro e w2 ⟨rfl, h2, f2⟩
  have HH2 := Lib.hid h2
  have HF2 := Lib.hid (frm_trans HF1.out f2)
  have HV2 := Lib.hid (HV1.out.frm f2 (by have := HLT.out; omega))
  clear h2 f2 HH1 HF1 HV1
  go_wp2_with fail
  refine (hone R s l d w2 HH2.out hs hd hm (hnv.frm HF2.out)).mono ?_
  intro e w3 hr
  rw [← HR0.out] at hr
  clear HR0
  cases r0 with
  | bad k j =>
    obtain ⟨rfl, hp, hf⟩ := hr
    exact ⟨rfl, rfl, hp, frm_trans HF2.out hf⟩
  | ok a l1 =>
    obtain ⟨o, n, A, ca, rfl, ht, hl, hf⟩ := hr
    have HT := Lib.hid ht
    have HL := Lib.hid hl
    have HF3 := Lib.hid (frm_trans HF2.out hf)
    have hV := HV2.out.frm hf (by have := HLT.out; omega)
    have HV3 := Lib.hid hV
    obtain ⟨v0, v1, v2, vf⟩ := hV.cells
    have hk2 : w.heap.size < w2.heap.size := block_lt HV2.out
    clear ht hl hf hV HV2 HH2 HF2
    simp only [trA]
    go_wp2_with fail
    obtain ⟨q0, q1, q2, qf⟩ := (pass_var (x := .int .u8 o) (y := .int .i64 n) (z := .slice A ca ca) HV3.out).cells
    simp only [tset] at q0 q1 q2
    refine ⟨rfl, .agg (trA o n A ca), ?_, pass_ok HT.out (fun j hj => by omega) HL.out HF3.out (by have := HLT.out; omega) (Nat.le_refl _)⟩
    simp only [results, Tryz.results141]
    simp [go_sem, q0, q1, q2, trA]
set_option maxRecDepth 100000 in
set_option maxHeartbeats 4000000 in
theorem less_reads {W : Reads} {m : Nat} (hone : ReadsAs 177 (oneRd W) m) : ReadsAs 141 (lessRd W) m := by
  intro R s l
  induction l with
  | nil => intro d w h hs hd hm hnv; exact less_one_reads hone R s [] d w h hs hd hm hnv (fun r e => by cases e)
  | cons c l ih =>
    intro d w h hs hd hm hnv
    have hmf : ∀ (fn : Fn) (first cap : Array Value) (w : World), (Instr.makeFunc fn first cap).run Tryz.prog w = .ok (.func fn first cap) w := fun _ _ _ _ => rfl
    have hK : ∀ args w, (callFunc 141 args).run Tryz.prog w = .ok (.enter 141 args) w := fun _ _ => rfl
    by_cases ec : c = 45
    · subst ec
      rw [less_minus, ← deep_bind]
      obtain ⟨r0, hr0⟩ : ∃ r0, r0 = deepRd d (l.length + 1) (lessRd W (d + 1) l) := ⟨_, rfl⟩
      rw [← hr0]
      have HR0 := Lib.hid hr0
      clear hr0
      have HH := Lib.hid h
      have HIH := Lib.hid ih
      obtain ⟨c0, c1, c2, cf⟩ := h.2.2.cells
      have hlt := h.lt
      have HLT := Lib.hid hlt
      clear ih
      go_enter Tryz.func141, Tryz.ntmps141
      go_wp2_with fail
      have HH1 : Hid (RdL (w.alloc (.cells #[.int .u8 0, .int .i64 0, .slice none 0 0] 86)) R s (45 :: l) d) := HH.out.keep (heap_alloc_old _ _ hlt)
      have HF1 : Hid (Frm (· = R) w (w.alloc (.cells #[.int .u8 0, .int .i64 0, .slice none 0 0] 86))) := (Frm.refl _ _).alloc _
      have HV1 : Hid (TVar (w.alloc (.cells #[.int .u8 0, .int .i64 0, .slice none 0 0] 86)) w.heap.size (.int .u8 0) (.int .i64 0) (.slice none 0 0)) := TVar.new _ _ _ _
      clear c0 c1 c2 cf h hlt
      refine (hasL_yes R s ⟨#[45]⟩ (45 :: l) l d _ HH1.out hs rfl).mono ?_
      rintro e w2 ⟨rfl, h2, f2⟩
      have HH2 := Lib.hid h2
      have HF2 := Lib.hid (frm_trans HF1.out f2)
      have HV2 := Lib.hid (HV1.out.frm f2 (by have := HLT.out; omega))
      clear h2 f2 HH1 HF1 HV1
      go_wp2_with fail
      refine (withinL R (l.length + 1) d 141 s l #[.pointer (some ⟨R, 0, none⟩)] #[] w2 (lessRd W (d + 1) l) HH2.out hd hK (fun hne W2 hW hF => HIH.out (d + 1) W2 hW hs (by omega) (by simp only [List.length_cons] at hm; omega) (hnv.frm (frm_trans HF2.out hF)))).mono ?_
      intro e w3 hr
      rw [← HR0.out] at hr
      clear HR0
      cases r0 with
      | bad k j =>
        obtain ⟨rfl, hp, hf⟩ := hr
        exact ⟨rfl, rfl, hp, frm_trans HF2.out hf⟩
      | ok a l1 =>
        obtain ⟨o, n, A, ca, rfl, ht, hl, hf⟩ := hr
        have HT := Lib.hid ht
        have HL := Lib.hid hl
        have HF3 := Lib.hid (frm_trans HF2.out hf)
        have hV := HV2.out.frm hf (by have := HLT.out; omega)
        have HV3 := Lib.hid hV
        obtain ⟨v0, v1, v2, vf⟩ := hV.allocs
        have hk2 : w.heap.size < w2.heap.size := block_lt HV2.out
        clear ht hl hf hV HV2 HH2 HF2
        simp only [trA]
        go_wp2_with fail
        have hk : w.heap.size < w3.heap.size := block_lt HV3.out
        obtain ⟨q0, q1, q2, qf⟩ := (four_var (x := .int .u8 126) (y := .int .i64 0) (z := .slice (some ⟨w3.heap.size, 0, none⟩) 1 1) (ob := .cells #[.int .u8 o, .int .i64 n, .slice A ca ca] 86) HV3.out).cells
        simp only [tset] at q0 q1 q2
        refine ⟨rfl, .agg (trA 126 0 (some ⟨w3.heap.size, 0, none⟩) 1), ?_, 126, 0, some ⟨w3.heap.size, 0, none⟩, 1, rfl, ⟨w3.heap.size, trL o n A ca, rfl, ⟨by omega, four_new hk⟩, four_tree HT.out fun j hj => by omega⟩, four_rd HL.out (by have := HLT.out; omega), four_frm HF3.out (Nat.le_refl _)⟩
        simp only [results, Tryz.results141]
        simp [go_sem, q0, q1, q2, trA]
    · rw [less_other _ _ _ ec]
      exact less_one_reads hone R s (c :: l) d w h hs hd hm hnv (fun r e => by injection e with e _; exact ec e)
end Go.Proofs.YtfndhfekbbbliaaGreatDoor

/-
  Package expr: the contracts of one's closures: two between brackets; one in brackets. Conditions: the text takes at most 120 bytes, the depth is at most 20.
-/
namespace Go.Proofs.YtfndhfekbbbliaaGreatDoor
open Go.RowKit Go.Shelf
set_option linter.unusedVariables false

def ReadsLt_ (X : Reads) (m : Nat) : Prop := ∀ (R : Nat) (s : ByteArray) (l : List UInt8) (d : Nat) (w : World), RdL w R s l d → s.size ≤ 120 → d ≤ 20 → l.length < m → NumVars w R → Calls Tryz.prog 84 #[.pointer (some ⟨R, 0, none⟩)] w (Reads_ R s d w (X d l))
def PBox (w : World) (B R : Nat) : Prop := w.heap[B]? = some (.cells #[.pointer (some ⟨R, 0, none⟩)] 149 (0, 0))
theorem PBox.cell {w : World} {B R : Nat} (h : PBox w B R) : w.cell? ⟨B, 0, none⟩ = some (.pointer (some ⟨R, 0, none⟩)) := (cell_of_row w B 0 _ _ _ h).trans rfl
theorem PBox.frm {w w' : World} {B R : Nat} (h : PBox w B R) (hF : Frm (· = R) w w') (hB : B ≠ R) : PBox w' B R := (hF.block B (block_lt h) hB).trans h
theorem PBox.alloc {w : World} {B R : Nat} (h : PBox w B R) (ob : Obj) : PBox (w.alloc ob) B R := (heap_alloc_old _ _ (block_lt h)).trans h
/-- A variable of a byte. -/
def BVar (w : World) (B : Nat) (c : Int) : Prop := w.heap[B]? = some (.cells #[.int .u8 c] 5 (0, 0))
theorem BVar.cell {w : World} {B : Nat} {c : Int} (h : BVar w B c) : w.cell? ⟨B, 0, none⟩ = some (.int .u8 c) := (cell_of_row w B 0 _ _ _ h).trans rfl
theorem BVar.frm {w w' : World} {B R : Nat} {c : Int} (h : BVar w B c) (hF : Frm (· = R) w w') (hB : B ≠ R) : BVar w' B c := (hF.block B (block_lt h) hB).trans h
theorem BVar.alloc {w : World} {B : Nat} {c : Int} (h : BVar w B c) (ob : Obj) : BVar (w.alloc ob) B c := (heap_alloc_old _ _ (block_lt h)).trans h
theorem new_tree_ {F : Nat → Prop} {w2 : World} {R d : Nat} {s : ByteArray} {l : List UInt8} {t : Tr} {o n : Int} {A : Option Addr} {c : Nat} (ht : TrC F w2 t (trL o n A c)) (hl : RdL w2 R s l d) :
    ∃ w3, w3 = w2.alloc (.cells #[.int .u8 o, .int .i64 n, .slice A c c] 86) ∧ Hid (RdL w3 R s l d) ∧ Hid (TVar w3 w2.heap.size (.int .u8 o) (.int .i64 n) (.slice A c c)) ∧ Hid (TrC (fun j => F j ∧ j < w2.heap.size) w3 t (trL o n A c)) ∧ Hid (Frm (· = R) w2 w3) ∧ w3.heap.size = w2.heap.size + 1 := by
  refine ⟨_, rfl, hl.keep (heap_alloc_old _ _ hl.lt), TVar.new _ _ _ _, ?_, (Frm.refl _ _).alloc _, by simp⟩
  have h1 : TrC (fun j => F j ∧ j < w2.heap.size) w2 t (trL o n A c) := ht.in_ fun j h1 h2 => ⟨h1, h2⟩
  exact h1.keep fun j hj => heap_alloc_old _ _ hj.2
theorem TrC.frm_ {F : Nat → Prop} {w w' : World} {R : Nat} {t : Tr} {cs : List Value} (h : TrC F w t cs) (hF : Frm (· = R) w w') (hR : ∀ j, F j → j ≠ R) : TrC F w' t cs := by
  have h1 : TrC (fun j => F j ∧ j < w.heap.size) w t cs := h.in_ fun j h1 h2 => ⟨h1, h2⟩
  exact (h1.keep fun j hj => hF.block j hj.2 (hR j hj.1)).in_ fun j h _ => h.1
theorem want_fails_ {c : UInt8} {l : List UInt8} (f : List UInt8 → Rd) (h : ∀ r, l ≠ c :: r) : wantRd c l f = .bad l.length 2 := by
  cases l with
  | nil => rfl
  | cons x r => simp only [wantRd, if_neg (fun e : x = c => h r (e ▸ rfl))]
set_option maxRecDepth 100000 in
set_option maxHeartbeats 8000000 in
theorem one2_reads {W : Reads} {m : Nat} (hW : ReadsLt_ W m) (R B : Nat) (s : ByteArray) (l : List UInt8) (d : Nat) (w : World) (hB : PBox w B R) (hBR : B ≠ R) (h : RdL w R s l d) (hs : s.size ≤ 120) (hd : d ≤ 20) (hm : l.length < m) (hnv : NumVars w R) :
    Calls Tryz.prog 199 #[.pointer (some ⟨B, 0, none⟩)] w (Reads_ R s d w ((W d l).bind fun a l1 => wantRd 41 l1 fun l2 => .ok a l2)) := by
  obtain ⟨r1, hr1⟩ : ∃ r1, r1 = W d l := ⟨_, rfl⟩
  obtain ⟨r0, hr0⟩ : ∃ r0, r0 = (W d l).bind fun a l1 => wantRd 41 l1 fun l2 => .ok a l2 := ⟨_, rfl⟩
  have e0 : r0 = r1.bind fun a l1 => wantRd 41 l1 fun l2 => .ok a l2 := by rw [hr0, hr1]
  rw [← hr0]
  have HR1 := Lib.hid hr1
  have HR0 := Lib.hid e0
  have HH := Lib.hid h
  have HB := Lib.hid hB
  have hb0 := fun ob => (hB.alloc ob).cell
  have hlt := h.lt
  have HLT := Lib.hid hlt
  have HBL : Hid (B < w.heap.size) := block_lt hB
  clear hr0 hr1 e0 h hB
  go_enter Tryz.func199, Tryz.ntmps199
  go_wp2_with fail
  have HH1 : Hid (RdL (w.alloc (.cells #[.int .u8 0, .int .i64 0, .slice none 0 0] 86)) R s l d) := HH.out.keep (heap_alloc_old _ _ hlt)
  have HF1 : Hid (Frm (· = R) w (w.alloc (.cells #[.int .u8 0, .int .i64 0, .slice none 0 0] 86))) := (Frm.refl _ _).alloc _
  have HV1 : Hid (TVar (w.alloc (.cells #[.int .u8 0, .int .i64 0, .slice none 0 0] 86)) w.heap.size (.int .u8 0) (.int .i64 0) (.slice none 0 0)) := TVar.new _ _ _ _
  have HB1 : Hid (PBox (w.alloc (.cells #[.int .u8 0, .int .i64 0, .slice none 0 0] 86)) B R) := HB.out.alloc _
  have HC : Hid (Calls Tryz.prog 84 #[.pointer (some ⟨R, 0, none⟩)] (w.alloc (.cells #[.int .u8 0, .int .i64 0, .slice none 0 0] 86)) (Reads_ R s d (w.alloc (.cells #[.int .u8 0, .int .i64 0, .slice none 0 0] 86)) r1)) := by
    rw [HR1.out]; exact hW R s l d _ HH1.out hs hd hm (hnv.frm HF1.out)
  refine HC.out.mono ?_
  clear HC hlt hb0
  intro e w2 hr
  cases r1 with
  | bad k j =>
    obtain ⟨rfl, hp, hf⟩ := hr
    have e0 : r0 = .bad k j := HR0.out
    clear HR0
    subst e0
    exact ⟨rfl, rfl, hp, frm_trans HF1.out hf⟩
  | ok a l1 =>
    obtain ⟨o, n, A, c, rfl, ht, hl, hf⟩ := hr
    have HE0 : Hid (r0 = wantRd 41 l1 fun l2 => .ok a l2) := HR0.out
    have hRw := HLT.out
    have hBw := HBL.out
    obtain ⟨w3, hw3, HL3, HV3, HT3, HF3, hs3⟩ := new_tree_ ht hl
    have hz2 := HV1.out.frm hf (by omega)
    have hb2 := HB1.out.frm hf hBR
    have HZ3 := Lib.hid (hz2.frm HF3.out (by omega))
    have HFW := Lib.hid (frm_trans (frm_trans HF1.out hf) HF3.out)
    have HG : Hid (w.heap.size < w2.heap.size) := block_lt hz2
    obtain ⟨ga, hga⟩ : ∃ ga, ga = w2.heap.size := ⟨_, rfl⟩
    have HT3b : Hid (TrC (fun j => w.heap.size < j ∧ j < ga) w3 a (trL o n A c)) := HT3.out.in_ fun j h1 _ => by have := h1.1; simp at this; omega
    have hb0 := fun ob => (hb2.alloc ob).cell
    clear ht hl hf HH1 HF1 HV1 HB1 HR0 HR1 hz2 HH HT3 HF3 HB hb2
    simp only [trA]
    go_wp2_with fail
    rw [← hw3]
    rw [← hga] at HV3 HG ⊢
    clear hw3 hga hs3 hb0
    by_cases hq : ∃ l2, l1 = 41 :: l2
    · obtain ⟨l2, rfl⟩ := hq
      have e0 : r0 = .ok a l2 := HE0.out
      clear HE0
      subst e0
      refine (wantL_yes R s 41 l2 d _ HL3.out hs).mono ?_
      rintro e w4 ⟨rfl, h4, f4⟩
      have hg := HG.out
      have hz4 := HZ3.out.frm f4 (by omega)
      obtain ⟨z0, z1, z2, zf⟩ := hz4.cells
      obtain ⟨y0, y1, y2, yf⟩ := (HV3.out.frm f4 (by omega)).cells
      obtain ⟨q0, q1, q2, qf⟩ := (pass_var (x := .int .u8 o) (y := .int .i64 n) (z := .slice A c c) hz4).cells
      have hr : Reads_ R s d w (.ok a l2) (.returned (.agg (trA o n A c))) (tset w4 w.heap.size (.int .u8 o) (.int .i64 n) (.slice A c c)) :=
        pass_ok (HT3b.out.frm_ f4 fun j hj => by omega) (fun j hj => by omega) h4 (frm_trans HFW.out f4) (by omega) (Nat.le_refl _)
      have HRR := Lib.hid hr
      simp only [tset] at q0 q1 q2
      clear h4 f4 hz4 hr
      go_wp2_with fail
      refine ⟨rfl, .agg (trA o n A c), ?_, HRR.out⟩
      simp only [results, Tryz.results199]
      simp [go_sem, q0, q1, q2, trA]
    · have e0 : r0 = .bad l1.length 2 := HE0.out.trans (want_fails_ _ fun r e => hq ⟨r, e⟩)
      clear HE0
      subst e0
      refine (wantL_no R s 41 l1 d _ HL3.out hs fun r e => hq ⟨r, e⟩).mono ?_
      rintro e w7 ⟨rfl, h7, f7⟩
      exact ⟨rfl, rfl, ⟨_, h7.2.2⟩, frm_trans HFW.out f7⟩
end Go.Proofs.YtfndhfekbbbliaaGreatDoor

/-
  Package expr: the contract of the closure that reads two between brackets. Conditions: the text takes at most 120 bytes, the depth is at most 20.
-/
namespace Go.Proofs.YtfndhfekbbbliaaGreatDoor
open Go.RowKit Go.Shelf
set_option linter.unusedVariables false

/-- A node is made, and laid into a variable tv; n0 is a variable that waits for it. -/
structure NodeOut (R : Nat) (s : ByteArray) (l : List UInt8) (d : Nat) (w : World) (B : Nat) (t : Tr) (tv g : Nat) (op : Int) (W9 : World) : Prop where
  rd : RdL W9 R s l d
  box : PBox W9 B R
  res : TVar W9 w.heap.size (.int .u8 0) (.int .i64 0) (.slice none 0 0)
  var : TVar W9 tv (.int .u8 op) (.int .i64 0) (.slice (some ⟨g, 0, none⟩) 2 2)
  tree : TrC (fun j => w.heap.size < j ∧ j ≠ tv) W9 t (trL op 0 (some ⟨g, 0, none⟩) 2)
  frm : Frm (· = R) w W9
  tv : w.heap.size < tv
theorem node_out {R d B k : Nat} {s : ByteArray} {l : List UInt8} {w w3 : World} {a b : Tr} {op : UInt8} {o n o2 n2 : Int} {A A2 : Option Addr} {c c2 : Nat} {x y z : Value} (hl : RdL w3 R s l d) (hB : PBox w3 B R) (hr : TVar w3 w.heap.size (.int .u8 0) (.int .i64 0) (.slice none 0 0)) (hv : TVar w3 k x y z)
    (ha : TrC (fun j => w.heap.size < j ∧ j ≠ k) w3 a (trL o n A c)) (hb : TrC (fun j => w.heap.size < j ∧ j ≠ k) w3 b (trL o2 n2 A2 c2)) (hF : Frm (· = R) w w3) (hk : w.heap.size < k) (hRk : R < w.heap.size) (hBk : B < w.heap.size) :
    NodeOut R s l d w B (.bin op a b) k w3.heap.size (op.toNat : Int) (tset (w3.alloc (.cells #[.int .u8 o, .int .i64 n, .slice A c c, .int .u8 o2, .int .i64 n2, .slice A2 c2 c2] 86)) k (.int .u8 (op.toNat : Int)) (.int .i64 0) (.slice (some ⟨w3.heap.size, 0, none⟩) 2 2)) := by
  have hk3 := block_lt hv
  have tr : ∀ {t : Tr} {cs : List Value}, TrC (fun j => w.heap.size < j ∧ j ≠ k) w3 t cs → TrC (fun j => w.heap.size < j ∧ j ≠ k) (tset (w3.alloc (.cells #[.int .u8 o, .int .i64 n, .slice A c c, .int .u8 o2, .int .i64 n2, .slice A2 c2 c2] 86)) k (.int .u8 (op.toNat : Int)) (.int .i64 0) (.slice (some ⟨w3.heap.size, 0, none⟩) 2 2)) t cs := fun h => by
    have h1 := h.in_ (G := fun j => (w.heap.size < j ∧ j ≠ k) ∧ j < w3.heap.size) fun j h1 h2 => ⟨h1, h2⟩
    exact (h1.keep fun j hj => four_far hj.2 hj.1.2).in_ fun j hj _ => hj.1
  exact ⟨four_rd hl (by omega), (four_far (block_lt hB) (by omega)).trans hB, (four_far (block_lt hr) (by omega)).trans hr, four_var hv,
    ⟨w3.heap.size, trL o n A c, trL o2 n2 A2 c2, rfl, ⟨⟨by omega, by omega⟩, four_new hk3⟩, tr ha, tr hb⟩, four_frm hF (by omega), hk⟩
theorem node_two {R d B g tv : Nat} {s : ByteArray} {l : List UInt8} {w w3 W9 : World} {a b : Tr} {op : UInt8} {o n o2 n2 : Int} {A A2 : Option Addr} {c c2 : Nat} (hl : RdL w3 R s l d) (hB : PBox w3 B R) (hr : TVar w3 w.heap.size (.int .u8 0) (.int .i64 0) (.slice none 0 0))
    (ha : TrC (fun j => w.heap.size < j) w3 a (trL o n A c)) (hb : TrC (fun j => w.heap.size < j) w3 b (trL o2 n2 A2 c2)) (hF : Frm (· = R) w W9) (hold : ∀ j, j < w3.heap.size → W9.heap[j]? = w3.heap[j]?) (htv : w3.heap.size ≤ tv) (hg : w3.heap.size ≤ g) (hne : g ≠ tv)
    (hk : W9.heap[g]? = some (.cells #[.int .u8 o, .int .i64 n, .slice A c c, .int .u8 o2, .int .i64 n2, .slice A2 c2 c2] 86 (0, 0))) (hv : TVar W9 tv (.int .u8 (op.toNat : Int)) (.int .i64 0) (.slice (some ⟨g, 0, none⟩) 2 2)) :
    NodeOut R s l d w B (.bin op a b) tv g (op.toNat : Int) W9 := by
  have hr3 := block_lt hr
  have tr : ∀ {t : Tr} {cs : List Value}, TrC (fun j => w.heap.size < j) w3 t cs → TrC (fun j => w.heap.size < j ∧ j ≠ tv) W9 t cs := fun h => by
    have h1 := h.in_ (G := fun j => w.heap.size < j ∧ j < w3.heap.size) fun j h1 h2 => ⟨h1, h2⟩
    exact (h1.keep fun j hj => hold j hj.2).in_ fun j hj _ => ⟨hj.1, by omega⟩
  exact ⟨hl.keep (hold _ hl.lt), (hold _ (block_lt hB)).trans hB, (hold _ hr3).trans hr, hv, ⟨g, trL o n A c, trL o2 n2 A2 c2, rfl, ⟨⟨by omega, hne⟩, hk⟩, tr ha, tr hb⟩, hF, by omega⟩
set_option maxRecDepth 100000 in
set_option maxHeartbeats 8000000 in
theorem one1_reads {W : Reads} {m : Nat} (hS : ∀ d, Short (W d)) (hW : ReadsLt_ W m) (R B G : Nat) (op : UInt8) (s : ByteArray) (l : List UInt8) (d : Nat) (w : World) (hB : PBox w B R) (hBR : B ≠ R) (hG : BVar w G (op.toNat : Int)) (hGR : G ≠ R) (h : RdL w R s l d) (hs : s.size ≤ 120) (hd : d ≤ 20) (hm : l.length < m) (hnv : NumVars w R) :
    Calls Tryz.prog 198 #[.pointer (some ⟨B, 0, none⟩), .pointer (some ⟨G, 0, none⟩)] w (Reads_ R s d w (twoRd W op d l)) := by
  obtain ⟨r1, hr1⟩ : ∃ r1, r1 = W d l := ⟨_, rfl⟩
  obtain ⟨r0, hr0⟩ : ∃ r0, r0 = twoRd W op d l := ⟨_, rfl⟩
  have e0 : r0 = r1.bind fun a l1 => wantRd 44 l1 fun l2 => (W d l2).bind fun b l3 => wantRd 41 l3 fun l4 => .ok (.bin op a b) l4 := by rw [hr0, hr1]; rfl
  rw [← hr0]
  have HR1 := Lib.hid hr1
  have HR0 := Lib.hid e0
  have HH := Lib.hid h
  have HB := Lib.hid hB
  have HGV := Lib.hid hG
  have hb0 := fun ob => (hB.alloc ob).cell
  have hlt := h.lt
  have HLT := Lib.hid hlt
  have HBL : Hid (B < w.heap.size) := block_lt hB
  have HGL : Hid (G < w.heap.size) := block_lt hG
  have HS := Lib.hid hS
  clear hr0 hr1 e0 h hB hG hS
  go_enter Tryz.func198, Tryz.ntmps198
  go_wp2_with fail
  have HH1 : Hid (RdL (w.alloc (.cells #[.int .u8 0, .int .i64 0, .slice none 0 0] 86)) R s l d) := HH.out.keep (heap_alloc_old _ _ hlt)
  have HF1 : Hid (Frm (· = R) w (w.alloc (.cells #[.int .u8 0, .int .i64 0, .slice none 0 0] 86))) := (Frm.refl _ _).alloc _
  have HV1 : Hid (TVar (w.alloc (.cells #[.int .u8 0, .int .i64 0, .slice none 0 0] 86)) w.heap.size (.int .u8 0) (.int .i64 0) (.slice none 0 0)) := TVar.new _ _ _ _
  have HB1 : Hid (PBox (w.alloc (.cells #[.int .u8 0, .int .i64 0, .slice none 0 0] 86)) B R) := HB.out.alloc _
  have HG1 : Hid (BVar (w.alloc (.cells #[.int .u8 0, .int .i64 0, .slice none 0 0] 86)) G (op.toNat : Int)) := HGV.out.alloc _
  have HC : Hid (Calls Tryz.prog 84 #[.pointer (some ⟨R, 0, none⟩)] (w.alloc (.cells #[.int .u8 0, .int .i64 0, .slice none 0 0] 86)) (Reads_ R s d (w.alloc (.cells #[.int .u8 0, .int .i64 0, .slice none 0 0] 86)) r1)) := by
    rw [HR1.out]; exact hW R s l d _ HH1.out hs hd hm (hnv.frm HF1.out)
  refine HC.out.mono ?_
  clear HC hlt hb0
  intro e w2 hr
  cases r1 with
  | bad k j =>
    obtain ⟨rfl, hp, hf⟩ := hr
    have e0 : r0 = .bad k j := HR0.out
    clear HR0
    subst e0
    exact ⟨rfl, rfl, hp, frm_trans HF1.out hf⟩
  | ok a l1 =>
    obtain ⟨o, n, A, c, rfl, ht, hl, hf⟩ := hr
    have HE0 : Hid (r0 = wantRd 44 l1 fun l2 => (W d l2).bind fun b l3 => wantRd 41 l3 fun l4 => .ok (.bin op a b) l4) := HR0.out
    have HM : Hid (l1.length < m) := by have := HS.out d l a l1 HR1.out.symm; show _ < _; omega
    have hRw := HLT.out
    have hBw := HBL.out
    have hGw := HGL.out
    obtain ⟨w3, hw3, HL3, HV3, HT3, HF3, hs3⟩ := new_tree_ ht hl
    have hz2 := HV1.out.frm hf (by omega)
    have hb2 := HB1.out.frm hf hBR
    have hg2 := HG1.out.frm hf hGR
    have HZ3 := Lib.hid (hz2.frm HF3.out (by omega))
    have HB3 := Lib.hid (hb2.frm HF3.out hBR)
    have HG3 := Lib.hid (hg2.frm HF3.out hGR)
    have HFW := Lib.hid (frm_trans (frm_trans HF1.out hf) HF3.out)
    have HG : Hid (w.heap.size < w2.heap.size) := block_lt hz2
    obtain ⟨ga, hga⟩ : ∃ ga, ga = w2.heap.size := ⟨_, rfl⟩
    have HT3b : Hid (TrC (fun j => w.heap.size < j ∧ j < ga) w3 a (trL o n A c)) := HT3.out.in_ fun j h1 _ => by have := h1.1; simp at this; omega
    have hb0 := fun ob => (hb2.alloc ob).cell
    clear ht hl hf HH1 HF1 HV1 HB1 HG1 HR0 HR1 hz2 HH HT3 HF3 HB HGV hb2 hg2
    simp only [trA]
    go_wp2_with fail
    rw [← hw3]
    rw [← hga] at HV3 HG ⊢
    clear hw3 hga hs3 hb0
    by_cases hq : ∃ l2, l1 = 44 :: l2
    · obtain ⟨l2, rfl⟩ := hq
      refine (wantL_yes R s 44 l2 d _ HL3.out hs).mono ?_
      rintro e w4 ⟨rfl, h4, f4⟩
      have hg := HG.out
      have HL4 := Lib.hid h4
      have HV4 := Lib.hid (HV3.out.frm f4 (by omega))
      have HZ4 := Lib.hid (HZ3.out.frm f4 (by omega))
      have HB4 := Lib.hid (HB3.out.frm f4 hBR)
      have HG4 := Lib.hid (HG3.out.frm f4 hGR)
      have HT4 := Lib.hid (HT3b.out.frm_ f4 fun j hj => by omega)
      have HF4 := Lib.hid (frm_trans HFW.out f4)
      clear h4 f4 HL3 HV3 HZ3 HB3 HG3 HT3b HFW
      go_wp2_with fail
      obtain ⟨rn, hrn⟩ : ∃ rn, rn = W d l2 := ⟨_, rfl⟩
      have HE5 : Hid (r0 = rn.bind fun b l3 => wantRd 41 l3 fun l4 => .ok (.bin op a b) l4) := by
        show _ = _
        rw [hrn, HE0.out]; simp only [wantRd, if_true]
      have HC5 : Hid (∀ W4, RdL W4 R s l2 d → Frm (· = R) w4 W4 → Calls Tryz.prog 84 #[.pointer (some ⟨R, 0, none⟩)] W4 (Reads_ R s d W4 rn)) := fun W4 h4 hf4 => by
        have hm2 := HM.out
        rw [hrn]; exact hW R s l2 d W4 h4 hs hd (by simp only [List.length_cons] at hm2; omega) (hnv.frm (frm_trans HF4.out hf4))
      have hg4 := block_lt HV4.out
      have hcells : ∀ W8 : World, W8.heap[G]? = w4.heap[G]? → W8.heap[ga]? = w4.heap[ga]? → W8.heap[B]? = w4.heap[B]? → (W8.cell? ⟨G, 0, none⟩ = some (.int .u8 (op.toNat : Int)) ∧ W8.cell? ⟨ga, 0, none⟩ = some (.int .u8 o) ∧ W8.cell? ⟨ga, 1, none⟩ = some (.int .i64 n) ∧ W8.cell? ⟨ga, 2, none⟩ = some (.slice A c c) ∧ W8.cell? ⟨B, 0, none⟩ = some (.pointer (some ⟨R, 0, none⟩))) := fun W8 h1 h2 h3 =>
        ⟨BVar.cell (h1.trans HG4.out), (TVar.cells (h2.trans HV4.out : TVar W8 ga (.int .u8 o) (.int .i64 n) (.slice A c c))).1, (TVar.cells (h2.trans HV4.out : TVar W8 ga (.int .u8 o) (.int .i64 n) (.slice A c c))).2.1, (TVar.cells (h2.trans HV4.out : TVar W8 ga (.int .u8 o) (.int .i64 n) (.slice A c c))).2.2.1, PBox.cell (h3.trans HB4.out)⟩
      have hGw4 : G < w4.heap.size := block_lt HG4.out
      have hBw4 : B < w4.heap.size := block_lt HB4.out
      have hS0 : (w4.drew.cell? ⟨G, 0, none⟩ = some (.int .u8 (op.toNat : Int)) ∧ w4.drew.cell? ⟨ga, 0, none⟩ = some (.int .u8 o) ∧ w4.drew.cell? ⟨ga, 1, none⟩ = some (.int .i64 n) ∧ w4.drew.cell? ⟨ga, 2, none⟩ = some (.slice A c c) ∧ w4.drew.cell? ⟨B, 0, none⟩ = some (.pointer (some ⟨R, 0, none⟩))) := hcells w4.drew rfl rfl rfl
      have hS0a : ∀ ob, ((w4.alloc ob).drew.cell? ⟨G, 0, none⟩ = some (.int .u8 (op.toNat : Int)) ∧ (w4.alloc ob).drew.cell? ⟨ga, 0, none⟩ = some (.int .u8 o) ∧ (w4.alloc ob).drew.cell? ⟨ga, 1, none⟩ = some (.int .i64 n) ∧ (w4.alloc ob).drew.cell? ⟨ga, 2, none⟩ = some (.slice A c c) ∧ (w4.alloc ob).drew.cell? ⟨B, 0, none⟩ = some (.pointer (some ⟨R, 0, none⟩))) := fun ob => hcells (w4.alloc ob).drew (heap_alloc_old _ _ hGw4) (heap_alloc_old _ _ hg4) (heap_alloc_old _ _ hBw4)
      have hpost : ∀ W4 : World, RdL W4 R s l2 d → Frm (· = R) w4 W4 → Calls Tryz.prog 84 #[.pointer (some ⟨R, 0, none⟩)] W4 fun e w8 => (∃ k j, rn = .bad k j ∧ e = faultE (s.size - k) j ∧ (∃ p, RdAt w8 R s p d) ∧ Frm (· = R) w4 w8) ∨
              ∃ b l3 o8 n8 A8 d8, Hid (rn = .ok b l3) ∧ e = .returned (.agg #[.int .u8 o8, .int .i64 n8, .slice A8 d8 d8]) ∧ Hid (TrC (fun j => W4.heap.size ≤ j ∧ j < w8.heap.size) w8 b (trL o8 n8 A8 d8)) ∧ Hid (RdL w8 R s l3 d) ∧ Hid (Frm (· = R) W4 w8) ∧
              (w8.cell? ⟨G, 0, none⟩ = some (.int .u8 (op.toNat : Int)) ∧ w8.cell? ⟨ga, 0, none⟩ = some (.int .u8 o) ∧ w8.cell? ⟨ga, 1, none⟩ = some (.int .i64 n) ∧ w8.cell? ⟨ga, 2, none⟩ = some (.slice A c c) ∧ w8.cell? ⟨B, 0, none⟩ = some (.pointer (some ⟨R, 0, none⟩))) ∧ (∀ ob, ((w8.alloc ob).cell? ⟨G, 0, none⟩ = some (.int .u8 (op.toNat : Int)) ∧ (w8.alloc ob).cell? ⟨ga, 0, none⟩ = some (.int .u8 o) ∧ (w8.alloc ob).cell? ⟨ga, 1, none⟩ = some (.int .i64 n) ∧ (w8.alloc ob).cell? ⟨ga, 2, none⟩ = some (.slice A c c) ∧ (w8.alloc ob).cell? ⟨B, 0, none⟩ = some (.pointer (some ⟨R, 0, none⟩)))) ∧ (∀ ob ob2, (((w8.alloc ob).alloc ob2).cell? ⟨G, 0, none⟩ = some (.int .u8 (op.toNat : Int)) ∧ ((w8.alloc ob).alloc ob2).cell? ⟨ga, 0, none⟩ = some (.int .u8 o) ∧ ((w8.alloc ob).alloc ob2).cell? ⟨ga, 1, none⟩ = some (.int .i64 n) ∧ ((w8.alloc ob).alloc ob2).cell? ⟨ga, 2, none⟩ = some (.slice A c c) ∧ ((w8.alloc ob).alloc ob2).cell? ⟨B, 0, none⟩ = some (.pointer (some ⟨R, 0, none⟩)))) ∧ (∀ ob x y z, (((((w8.alloc ob).setCell ⟨w4.heap.size, 0, none⟩ x).setCell ⟨w4.heap.size, 1, none⟩ y).setCell ⟨w4.heap.size, 2, none⟩ z).cell? ⟨G, 0, none⟩ = some (.int .u8 (op.toNat : Int)) ∧ ((((w8.alloc ob).setCell ⟨w4.heap.size, 0, none⟩ x).setCell ⟨w4.heap.size, 1, none⟩ y).setCell ⟨w4.heap.size, 2, none⟩ z).cell? ⟨ga, 0, none⟩ = some (.int .u8 o) ∧ ((((w8.alloc ob).setCell ⟨w4.heap.size, 0, none⟩ x).setCell ⟨w4.heap.size, 1, none⟩ y).setCell ⟨w4.heap.size, 2, none⟩ z).cell? ⟨ga, 1, none⟩ = some (.int .i64 n) ∧ ((((w8.alloc ob).setCell ⟨w4.heap.size, 0, none⟩ x).setCell ⟨w4.heap.size, 1, none⟩ y).setCell ⟨w4.heap.size, 2, none⟩ z).cell? ⟨ga, 2, none⟩ = some (.slice A c c) ∧ ((((w8.alloc ob).setCell ⟨w4.heap.size, 0, none⟩ x).setCell ⟨w4.heap.size, 1, none⟩ y).setCell ⟨w4.heap.size, 2, none⟩ z).cell? ⟨B, 0, none⟩ = some (.pointer (some ⟨R, 0, none⟩)))) ∧ (∀ ob ob2 x y z, ((((((w8.alloc ob).alloc ob2).setCell ⟨w8.heap.size, 0, none⟩ x).setCell ⟨w8.heap.size, 1, none⟩ y).setCell ⟨w8.heap.size, 2, none⟩ z).cell? ⟨G, 0, none⟩ = some (.int .u8 (op.toNat : Int)) ∧ (((((w8.alloc ob).alloc ob2).setCell ⟨w8.heap.size, 0, none⟩ x).setCell ⟨w8.heap.size, 1, none⟩ y).setCell ⟨w8.heap.size, 2, none⟩ z).cell? ⟨ga, 0, none⟩ = some (.int .u8 o) ∧ (((((w8.alloc ob).alloc ob2).setCell ⟨w8.heap.size, 0, none⟩ x).setCell ⟨w8.heap.size, 1, none⟩ y).setCell ⟨w8.heap.size, 2, none⟩ z).cell? ⟨ga, 1, none⟩ = some (.int .i64 n) ∧ (((((w8.alloc ob).alloc ob2).setCell ⟨w8.heap.size, 0, none⟩ x).setCell ⟨w8.heap.size, 1, none⟩ y).setCell ⟨w8.heap.size, 2, none⟩ z).cell? ⟨ga, 2, none⟩ = some (.slice A c c) ∧ (((((w8.alloc ob).alloc ob2).setCell ⟨w8.heap.size, 0, none⟩ x).setCell ⟨w8.heap.size, 1, none⟩ y).setCell ⟨w8.heap.size, 2, none⟩ z).cell? ⟨B, 0, none⟩ = some (.pointer (some ⟨R, 0, none⟩)))) ∧ (∀ ob ob2 x y z, ((((((w8.alloc ob).alloc ob2).setCell ⟨w8.heap.size + 1, 0, none⟩ x).setCell ⟨w8.heap.size + 1, 1, none⟩ y).setCell ⟨w8.heap.size + 1, 2, none⟩ z).cell? ⟨G, 0, none⟩ = some (.int .u8 (op.toNat : Int)) ∧ (((((w8.alloc ob).alloc ob2).setCell ⟨w8.heap.size + 1, 0, none⟩ x).setCell ⟨w8.heap.size + 1, 1, none⟩ y).setCell ⟨w8.heap.size + 1, 2, none⟩ z).cell? ⟨ga, 0, none⟩ = some (.int .u8 o) ∧ (((((w8.alloc ob).alloc ob2).setCell ⟨w8.heap.size + 1, 0, none⟩ x).setCell ⟨w8.heap.size + 1, 1, none⟩ y).setCell ⟨w8.heap.size + 1, 2, none⟩ z).cell? ⟨ga, 1, none⟩ = some (.int .i64 n) ∧ (((((w8.alloc ob).alloc ob2).setCell ⟨w8.heap.size + 1, 0, none⟩ x).setCell ⟨w8.heap.size + 1, 1, none⟩ y).setCell ⟨w8.heap.size + 1, 2, none⟩ z).cell? ⟨ga, 2, none⟩ = some (.slice A c c) ∧ (((((w8.alloc ob).alloc ob2).setCell ⟨w8.heap.size + 1, 0, none⟩ x).setCell ⟨w8.heap.size + 1, 1, none⟩ y).setCell ⟨w8.heap.size + 1, 2, none⟩ z).cell? ⟨B, 0, none⟩ = some (.pointer (some ⟨R, 0, none⟩)))) := by
        intro W4 h4 hf4
        refine (HC5.out W4 h4 hf4).mono ?_
        intro e w8 hr
        cases hcr : rn with
        | bad k j =>
          rw [hcr] at hr
          obtain ⟨h1, h2, h3⟩ := hr
          exact .inl ⟨k, j, rfl, h1, h2, frm_trans hf4 h3⟩
        | ok b l3 =>
          rw [hcr] at hr
          obtain ⟨o8, n8, A8, d8, rfl, ht, hl, hf⟩ := hr
          have hf2 : Frm (· = R) w4 w8 := frm_trans hf4 hf
          have hs8 := hf2.size
          have k1 : ∀ j, j < w4.heap.size → j ≠ R → w8.heap[j]? = w4.heap[j]? := fun j h1 h2 => hf2.block j h1 h2
          have far1 : ∀ ob j, j < w4.heap.size → j ≠ R → (w8.alloc ob).heap[j]? = w4.heap[j]? := fun ob j h1 h2 => (heap_alloc_old _ _ (by omega)).trans (k1 j h1 h2)
          have far2 : ∀ ob ob2 j, j < w4.heap.size → j ≠ R → ((w8.alloc ob).alloc ob2).heap[j]? = w4.heap[j]? := fun ob ob2 j h1 h2 => (heap_alloc_old _ _ (by simp; omega)).trans (far1 ob j h1 h2)
          exact .inr ⟨b, l3, o8, n8, A8, d8, rfl, rfl, ht.in_ fun j h1 h2 => ⟨h1, h2⟩, hl, hf, hcells w8 (k1 G hGw4 hGR) (k1 ga hg4 (by omega)) (k1 B hBw4 hBR), fun ob => hcells _ (far1 ob G hGw4 hGR) (far1 ob ga hg4 (by omega)) (far1 ob B hBw4 hBR), fun ob ob2 => hcells _ (far2 ob ob2 G hGw4 hGR) (far2 ob ob2 ga hg4 (by omega)) (far2 ob ob2 B hBw4 hBR),
            fun ob x y z => hcells _ ((tset_far _ (by omega) x y z).trans (far1 ob G hGw4 hGR)) ((tset_far _ (by omega) x y z).trans (far1 ob ga hg4 (by omega))) ((tset_far _ (by omega) x y z).trans (far1 ob B hBw4 hBR)),
            fun ob ob2 x y z => hcells _ ((tset_far _ (by omega) x y z).trans (far2 ob ob2 G hGw4 hGR)) ((tset_far _ (by omega) x y z).trans (far2 ob ob2 ga hg4 (by omega))) ((tset_far _ (by omega) x y z).trans (far2 ob ob2 B hBw4 hBR)),
            fun ob ob2 x y z => hcells _ ((tset_far _ (by omega) x y z).trans (far2 ob ob2 G hGw4 hGR)) ((tset_far _ (by omega) x y z).trans (far2 ob ob2 ga hg4 (by omega))) ((tset_far _ (by omega) x y z).trans (far2 ob ob2 B hBw4 hBR))⟩
      have HCA := Lib.hid (hpost w4.drew (HL4.out.keep rfl) (Frm.refl _ _).drew)
      have HCB := Lib.hid (hpost (w4.alloc (.cells #[.int .u8 0, .int .i64 0, .slice none 0 0] 86)).drew (HL4.out.keep (heap_alloc_old _ _ HL4.out.lt)) ((Frm.refl _ _).alloc _).drew)
      have HBAD : Hid (∀ k j w8, rn = .bad k j → (∃ p, RdAt w8 R s p d) → Frm (· = R) w4 w8 → Reads_ R s d w r0 (faultE (s.size - k) j) w8) := fun k j w8 h1 h2 h3 => by
        have e0 : r0 = .bad k j := by rw [HE5.out, h1]; rfl
        rw [e0]; exact ⟨rfl, h2, frm_trans HF4.out h3⟩
      have HTV : Hid (∀ w8, Hid (Frm (· = R) (w4.alloc (.cells #[.int .u8 0, .int .i64 0, .slice none 0 0] 86)).drew w8) → TVar w8 w4.heap.size (.int .u8 0) (.int .i64 0) (.slice none 0 0)) := fun w8 h8 =>
        TVar.frm (w := (w4.alloc (.cells #[.int .u8 0, .int .i64 0, .slice none 0 0] 86)).drew) (TVar.new w4 _ _ _) h8.out (by have := HL4.out.lt; omega)
      clear hpost HE0 hrn hcells
      go_region_held2 (fun W => W.cell? ⟨G, 0, none⟩ = some (.int .u8 (op.toNat : Int)) ∧ W.cell? ⟨ga, 0, none⟩ = some (.int .u8 o) ∧ W.cell? ⟨ga, 1, none⟩ = some (.int .i64 n) ∧ W.cell? ⟨ga, 2, none⟩ = some (.slice A c c) ∧ W.cell? ⟨B, 0, none⟩ = some (.pointer (some ⟨R, 0, none⟩))) (first | with_reducible exact hS0 | with_reducible exact hS0a _ | with_reducible exact hS8 | with_reducible exact hS8a _ | with_reducible exact hS8b _ _ | with_reducible exact hS8c _ _ _ _ | with_reducible exact hS8d _ _ _ _ _ | with_reducible exact hS8e _ _ _ _ _) (first
        | (go_at_call 84; refine HCA.out.mono ?_; rintro e w8 (⟨k, j, h1, rfl, h2, h3⟩ | ⟨b, l3, o8, n8, A8, d8, HRN, rfl, HT8, HL8, HF8, hS8, hS8a, hS8b, hS8c, hS8d, hS8e⟩); exact ⟨rfl, HBAD.out k j w8 h1 h2 h3⟩)
        | (go_at_call 84; refine HCB.out.mono ?_; rintro e w8 (⟨k, j, h1, rfl, h2, h3⟩ | ⟨b, l3, o8, n8, A8, d8, HRN, rfl, HT8, HL8, HF8, hS8, hS8a, hS8b, hS8c, hS8d, hS8e⟩); exact ⟨rfl, HBAD.out k j w8 h1 h2 h3⟩; obtain ⟨t0, t1, t2, tf⟩ := (HTV.out w8 HF8).allocs))
      · skip
        have hw84 : Frm (· = R) w4 w8 := frm_trans (Frm.refl _ _).drew HF8.out
        have hs8 := hw84.size
        have e0 : r0 = wantRd 41 l3 fun l4 => .ok (.bin op a b) l4 := by rw [HE5.out, HRN.out]; rfl
        have HEF := Lib.hid e0
        have ha8 : TrC (fun j => w.heap.size < j ∧ j < ga) w8 a (trL o n A c) := HT4.out.frm_ hw84 fun j hj => by omega
        have hb8 := HB4.out.frm hw84 hBR
        have hz8 := HZ4.out.frm hw84 (by omega)
        have hf8 := frm_trans HF4.out hw84
        have hb9 : TrC (fun j => w4.heap.size ≤ j ∧ j < w8.heap.size) w8 b (trL o8 n8 A8 d8) := HT8.out.in_ fun j hj _ => by have h1 := hj.1; have h2 := hj.2; exact ⟨h1, h2⟩
        obtain ⟨W9, hW9⟩ : ∃ W9, W9 = (w8.alloc (.cells #[.int .u8 o, .int .i64 n, .slice A c c, .int .u8 o8, .int .i64 n8, .slice A8 d8 d8] 86)).alloc (.cells #[.int .u8 (op.toNat : Int), .int .i64 0, .slice (some ⟨w8.heap.size, 0, none⟩) 2 2] 86) := ⟨_, rfl⟩
        have HN : Hid (NodeOut R s l3 d w B (.bin op a b) (w8.heap.size + 1) (w8.heap.size) (op.toNat : Int) W9) := by
          rw [hW9]
          refine node_two HL8.out hb8 hz8 (ha8.in_ fun j hj _ => hj.1) (hb9.in_ fun j hj _ => by omega) ((hf8.alloc _).alloc _) (fun j hj => (heap_alloc_old _ _ (by simp; omega)).trans (heap_alloc_old _ _ hj)) (by omega) (Nat.le_refl _) (by omega) ((heap_alloc_old _ _ (by simp)).trans (heap_alloc_new _ _)) ?_
          have h := heap_alloc_new (w8.alloc (.cells #[.int .u8 o, .int .i64 n, .slice A c c, .int .u8 o8, .int .i64 n8, .slice A8 d8 d8] 86)) (.cells #[.int .u8 (op.toNat : Int), .int .i64 0, .slice (some ⟨w8.heap.size, 0, none⟩) 2 2] 86)
          rw [show (w8.alloc (.cells #[.int .u8 o, .int .i64 n, .slice A c c, .int .u8 o8, .int .i64 n8, .slice A8 d8 d8] 86)).heap.size = w8.heap.size + 1 from by simp] at h
          exact h
        skip
        rw [← hW9]
        clear hW9 HT8 HL8 HF8 HRN hS8 hS8a hS8b hS8c hS8d hS8e hS0 hS0a HCA HCB HTV HBAD HC5 HE5 e0 ha8 hb8 hz8 hf8 hb9 HT4 HV4 HZ4 HB4 HG4 HF4 HL4
        obtain ⟨m0, m1, m2, mf⟩ := HN.out.var.cells
        have hbx := HN.out.box.cell
        go_wp2_with fail
        by_cases hq2 : ∃ l4, l3 = 41 :: l4
        · obtain ⟨l4, rfl⟩ := hq2
          have e1 : r0 = .ok (.bin op a b) l4 := HEF.out
          clear HEF
          subst e1
          refine (wantL_yes R s 41 l4 d _ HN.out.rd hs).mono ?_
          rintro e w10 ⟨rfl, h10, f10⟩
          have htv := HN.out.tv
          have hzz := HN.out.res.frm f10 (by omega)
          obtain ⟨z0, z1, z2, zf⟩ := hzz.cells
          obtain ⟨y0, y1, y2, yf⟩ := (HN.out.var.frm f10 (by omega)).cells
          obtain ⟨q0, q1, q2, qf⟩ := (pass_var (x := .int .u8 (op.toNat : Int)) (y := .int .i64 0) (z := .slice (some ⟨w8.heap.size, 0, none⟩) 2 2) hzz).cells
          have hr : Reads_ R s d w (.ok (.bin op a b) l4) (.returned (.agg (trA (op.toNat : Int) 0 (some ⟨w8.heap.size, 0, none⟩) 2))) (tset w10 w.heap.size (.int .u8 (op.toNat : Int)) (.int .i64 0) (.slice (some ⟨w8.heap.size, 0, none⟩) 2 2)) :=
            pass_ok (HN.out.tree.frm_ f10 fun j hj => by omega) (fun j hj => by omega) h10 (frm_trans HN.out.frm f10) (by omega) (Nat.le_refl _)
          have HRR := Lib.hid hr
          simp only [tset] at q0 q1 q2
          clear h10 f10 hzz hr
          go_wp2_with fail
          refine ⟨rfl, .agg (trA (op.toNat : Int) 0 (some ⟨w8.heap.size, 0, none⟩) 2), ?_, HRR.out⟩
          simp only [results, Tryz.results198]
          simp [go_sem, q0, q1, q2, trA]
        · have e1 : r0 = .bad l3.length 2 := HEF.out.trans (want_fails_ _ fun r e => hq2 ⟨r, e⟩)
          clear HEF
          subst e1
          refine (wantL_no R s 41 l3 d _ HN.out.rd hs fun r e => hq2 ⟨r, e⟩).mono ?_
          rintro e w10 ⟨rfl, h10, f10⟩
          exact ⟨rfl, rfl, ⟨_, h10.2.2⟩, frm_trans HN.out.frm f10⟩
      · skip
        have hw84 : Frm (· = R) w4 w8 := frm_trans (Frm.refl _ _).drew HF8.out
        have hs8 := hw84.size
        have e0 : r0 = wantRd 41 l3 fun l4 => .ok (.bin op a b) l4 := by rw [HE5.out, HRN.out]; rfl
        have HEF := Lib.hid e0
        have ha8 : TrC (fun j => w.heap.size < j ∧ j < ga) w8 a (trL o n A c) := HT4.out.frm_ hw84 fun j hj => by omega
        have hb8 := HB4.out.frm hw84 hBR
        have hz8 := HZ4.out.frm hw84 (by omega)
        have hf8 := frm_trans HF4.out hw84
        have hb9 : TrC (fun j => w4.heap.size ≤ j ∧ j < w8.heap.size) w8 b (trL o8 n8 A8 d8) := HT8.out.in_ fun j hj _ => by have h1 := hj.1; have h2 := hj.2; exact ⟨h1, h2⟩
        obtain ⟨W9, hW9⟩ : ∃ W9, W9 = (w8.alloc (.cells #[.int .u8 (op.toNat : Int), .int .i64 0, .slice (some ⟨w8.heap.size + 1, 0, none⟩) 2 2] 86)).alloc (.cells #[.int .u8 o, .int .i64 n, .slice A c c, .int .u8 o8, .int .i64 n8, .slice A8 d8 d8] 86) := ⟨_, rfl⟩
        have HN : Hid (NodeOut R s l3 d w B (.bin op a b) (w8.heap.size) ((w8.heap.size + 1)) (op.toNat : Int) W9) := by
          rw [hW9]
          refine node_two HL8.out hb8 hz8 (ha8.in_ fun j hj _ => hj.1) (hb9.in_ fun j hj _ => by omega) ((hf8.alloc _).alloc _) (fun j hj => (heap_alloc_old _ _ (by simp; omega)).trans (heap_alloc_old _ _ hj)) (Nat.le_refl _) (by omega) (by omega) ?_ ((heap_alloc_old _ _ (by simp)).trans (heap_alloc_new _ _))
          have h := heap_alloc_new (w8.alloc (.cells #[.int .u8 (op.toNat : Int), .int .i64 0, .slice (some ⟨w8.heap.size + 1, 0, none⟩) 2 2] 86)) (.cells #[.int .u8 o, .int .i64 n, .slice A c c, .int .u8 o8, .int .i64 n8, .slice A8 d8 d8] 86)
          rw [show (w8.alloc (.cells #[.int .u8 (op.toNat : Int), .int .i64 0, .slice (some ⟨w8.heap.size + 1, 0, none⟩) 2 2] 86)).heap.size = w8.heap.size + 1 from by simp] at h
          exact h
        skip
        rw [← hW9]
        clear hW9 HT8 HL8 HF8 HRN hS8 hS8a hS8b hS8c hS8d hS8e hS0 hS0a HCA HCB HTV HBAD HC5 HE5 e0 ha8 hb8 hz8 hf8 hb9 HT4 HV4 HZ4 HB4 HG4 HF4 HL4
        obtain ⟨m0, m1, m2, mf⟩ := HN.out.var.cells
        have hbx := HN.out.box.cell
        go_wp2_with fail
        by_cases hq2 : ∃ l4, l3 = 41 :: l4
        · obtain ⟨l4, rfl⟩ := hq2
          have e1 : r0 = .ok (.bin op a b) l4 := HEF.out
          clear HEF
          subst e1
          refine (wantL_yes R s 41 l4 d _ HN.out.rd hs).mono ?_
          rintro e w10 ⟨rfl, h10, f10⟩
          have htv := HN.out.tv
          have hzz := HN.out.res.frm f10 (by omega)
          obtain ⟨z0, z1, z2, zf⟩ := hzz.cells
          obtain ⟨y0, y1, y2, yf⟩ := (HN.out.var.frm f10 (by omega)).cells
          obtain ⟨q0, q1, q2, qf⟩ := (pass_var (x := .int .u8 (op.toNat : Int)) (y := .int .i64 0) (z := .slice (some ⟨(w8.heap.size + 1), 0, none⟩) 2 2) hzz).cells
          have hr : Reads_ R s d w (.ok (.bin op a b) l4) (.returned (.agg (trA (op.toNat : Int) 0 (some ⟨(w8.heap.size + 1), 0, none⟩) 2))) (tset w10 w.heap.size (.int .u8 (op.toNat : Int)) (.int .i64 0) (.slice (some ⟨(w8.heap.size + 1), 0, none⟩) 2 2)) :=
            pass_ok (HN.out.tree.frm_ f10 fun j hj => by omega) (fun j hj => by omega) h10 (frm_trans HN.out.frm f10) (by omega) (Nat.le_refl _)
          have HRR := Lib.hid hr
          simp only [tset] at q0 q1 q2
          clear h10 f10 hzz hr
          go_wp2_with fail
          refine ⟨rfl, .agg (trA (op.toNat : Int) 0 (some ⟨(w8.heap.size + 1), 0, none⟩) 2), ?_, HRR.out⟩
          simp only [results, Tryz.results198]
          simp [go_sem, q0, q1, q2, trA]
        · have e1 : r0 = .bad l3.length 2 := HEF.out.trans (want_fails_ _ fun r e => hq2 ⟨r, e⟩)
          clear HEF
          subst e1
          refine (wantL_no R s 41 l3 d _ HN.out.rd hs fun r e => hq2 ⟨r, e⟩).mono ?_
          rintro e w10 ⟨rfl, h10, f10⟩
          exact ⟨rfl, rfl, ⟨_, h10.2.2⟩, frm_trans HN.out.frm f10⟩
      · skip
        have hw84 : Frm (· = R) w4 w8 := frm_trans ((Frm.refl _ _).alloc _).drew HF8.out
        have hs8 := hw84.size
        have e0 : r0 = wantRd 41 l3 fun l4 => .ok (.bin op a b) l4 := by rw [HE5.out, HRN.out]; rfl
        have HEF := Lib.hid e0
        have ha8 : TrC (fun j => w.heap.size < j ∧ j < ga) w8 a (trL o n A c) := HT4.out.frm_ hw84 fun j hj => by omega
        have hb8 := HB4.out.frm hw84 hBR
        have hz8 := HZ4.out.frm hw84 (by omega)
        have hf8 := frm_trans HF4.out hw84
        have hb9 : TrC (fun j => w4.heap.size + 1 ≤ j ∧ j < w8.heap.size) w8 b (trL o8 n8 A8 d8) := HT8.out.in_ fun j hj _ => by have h1 := hj.1; have h2 := hj.2; exact ⟨by simpa using h1, h2⟩
        obtain ⟨W9, hW9⟩ : ∃ W9, W9 = tset (w8.alloc (.cells #[.int .u8 o, .int .i64 n, .slice A c c, .int .u8 o8, .int .i64 n8, .slice A8 d8 d8] 86)) w4.heap.size (.int .u8 (op.toNat : Int)) (.int .i64 0) (.slice (some ⟨w8.heap.size, 0, none⟩) 2 2) := ⟨_, rfl⟩
        have HN : Hid (NodeOut R s l3 d w B (.bin op a b) (w4.heap.size) (w8.heap.size) (op.toNat : Int) W9) := by
          rw [hW9]
          exact node_out HL8.out hb8 hz8 (HTV.out w8 HF8) (ha8.in_ fun j hj _ => ⟨hj.1, by omega⟩) (hb9.in_ fun j hj _ => ⟨by omega, by omega⟩) hf8 (by omega) hRw hBw
        simp only [tset] at hW9
        rw [← hW9]
        clear hW9 HT8 HL8 HF8 HRN hS8 hS8a hS8b hS8c hS8d hS8e hS0 hS0a HCA HCB HTV HBAD HC5 HE5 e0 ha8 hb8 hz8 hf8 hb9 HT4 HV4 HZ4 HB4 HG4 HF4 HL4
        obtain ⟨m0, m1, m2, mf⟩ := HN.out.var.cells
        have hbx := HN.out.box.cell
        go_wp2_with fail
        by_cases hq2 : ∃ l4, l3 = 41 :: l4
        · obtain ⟨l4, rfl⟩ := hq2
          have e1 : r0 = .ok (.bin op a b) l4 := HEF.out
          clear HEF
          subst e1
          refine (wantL_yes R s 41 l4 d _ HN.out.rd hs).mono ?_
          rintro e w10 ⟨rfl, h10, f10⟩
          have htv := HN.out.tv
          have hzz := HN.out.res.frm f10 (by omega)
          obtain ⟨z0, z1, z2, zf⟩ := hzz.cells
          obtain ⟨y0, y1, y2, yf⟩ := (HN.out.var.frm f10 (by omega)).cells
          obtain ⟨q0, q1, q2, qf⟩ := (pass_var (x := .int .u8 (op.toNat : Int)) (y := .int .i64 0) (z := .slice (some ⟨w8.heap.size, 0, none⟩) 2 2) hzz).cells
          have hr : Reads_ R s d w (.ok (.bin op a b) l4) (.returned (.agg (trA (op.toNat : Int) 0 (some ⟨w8.heap.size, 0, none⟩) 2))) (tset w10 w.heap.size (.int .u8 (op.toNat : Int)) (.int .i64 0) (.slice (some ⟨w8.heap.size, 0, none⟩) 2 2)) :=
            pass_ok (HN.out.tree.frm_ f10 fun j hj => by omega) (fun j hj => by omega) h10 (frm_trans HN.out.frm f10) (by omega) (Nat.le_refl _)
          have HRR := Lib.hid hr
          simp only [tset] at q0 q1 q2
          clear h10 f10 hzz hr
          go_wp2_with fail
          refine ⟨rfl, .agg (trA (op.toNat : Int) 0 (some ⟨w8.heap.size, 0, none⟩) 2), ?_, HRR.out⟩
          simp only [results, Tryz.results198]
          simp [go_sem, q0, q1, q2, trA]
        · have e1 : r0 = .bad l3.length 2 := HEF.out.trans (want_fails_ _ fun r e => hq2 ⟨r, e⟩)
          clear HEF
          subst e1
          refine (wantL_no R s 41 l3 d _ HN.out.rd hs fun r e => hq2 ⟨r, e⟩).mono ?_
          rintro e w10 ⟨rfl, h10, f10⟩
          exact ⟨rfl, rfl, ⟨_, h10.2.2⟩, frm_trans HN.out.frm f10⟩
    · have e0 : r0 = .bad l1.length 2 := HE0.out.trans (want_fails_ _ fun r e => hq ⟨r, e⟩)
      clear HE0
      subst e0
      refine (wantL_no R s 44 l1 d _ HL3.out hs fun r e => hq ⟨r, e⟩).mono ?_
      rintro e w7 ⟨rfl, h7, f7⟩
      exact ⟨rfl, rfl, ⟨_, h7.2.2⟩, frm_trans HFW.out f7⟩
end Go.Proofs.YtfndhfekbbbliaaGreatDoor
