/-
  Package expr: how a tree and a reader lie in memory; the contracts of the reader's small methods. No condition of ours.
-/
import Derived.Test.YtmbhfadidpkkhaaDoorExprTree
import Derived.Test.YtmbhfadidpkkhaaDoorLays
import Derived.Test.YtmbhfadidpkkhaaDoorHeap
import Derived.BigQuiet
namespace Go.Proofs.YtmbhfadidpkkhaaDoor
open Go.RowKit Go.Shelf
set_option linter.unusedVariables false

/-- A reader of s, at a place, so deep, in block R. -/
def RdAt (w : World) (R : Nat) (s : ByteArray) (p d : Nat) : Prop := w.heap[R]? = some (.cells #[.string s, .int .i64 p, .int .i64 d] 59 (0, 0))
theorem RdAt.lt {w : World} {R : Nat} {s : ByteArray} {p d : Nat} (h : RdAt w R s p d) : R < w.heap.size := block_lt h
theorem RdAt.cells {w : World} {R : Nat} {s : ByteArray} {p d : Nat} (h : RdAt w R s p d) : w.cell? ⟨R, 0, none⟩ = some (.string s) ∧ w.cell? ⟨R, 1, none⟩ = some (.int .i64 p) ∧ w.cell? ⟨R, 2, none⟩ = some (.int .i64 d) ∧ (∀ i, w.frozen? ⟨R, i, none⟩ = false) :=
  ⟨(cell_of_row w R 0 _ _ _ h).trans rfl, (cell_of_row w R 1 _ _ _ h).trans rfl, (cell_of_row w R 2 _ _ _ h).trans rfl, fun i => by simp [World.frozen?, RdAt] at h ⊢; simp [h]⟩
theorem RdAt.keep {w w' : World} {R : Nat} {s : ByteArray} {p d : Nat} (h : RdAt w R s p d) (hs : w'.heap[R]? = w.heap[R]?) : RdAt w' R s p d := hs.trans h
theorem RdAt.moved {w : World} {R : Nat} {s : ByteArray} {p d : Nat} (h : RdAt w R s p d) (q : Nat) : RdAt (w.setCell ⟨R, 1, none⟩ (.int .i64 q)) R s q d := by
  unfold RdAt at h ⊢
  simp [World.setCell, Array.getElem?_modify, h]
theorem RdAt.deeper {w : World} {R : Nat} {s : ByteArray} {p d : Nat} (h : RdAt w R s p d) (q : Nat) : RdAt (w.setCell ⟨R, 2, none⟩ (.int .i64 q)) R s p q := by
  unfold RdAt at h ⊢
  simp [World.setCell, Array.getElem?_modify, h]
def headB (l : List UInt8) : Int := match l with
  | [] => 0
  | c :: _ => (c.toNat : Int)
theorem drop_head {s : ByteArray} {p : Nat} (h : p < s.size) : s.data.toList.drop p = s.data[p]'h :: s.data.toList.drop (p + 1) := by
  rw [List.drop_eq_getElem_cons (by simpa using h)]; simp
set_option maxRecDepth 100000 in
theorem peek_ok (R : Nat) (s : ByteArray) (p d : Nat) (w : World) (h : RdAt w R s p d) (hp : p ≤ s.size) :
    Calls Tryd.prog 33 #[.pointer (some ⟨R, 0, none⟩)] w fun e w' => e = .returned (.int .u8 (headB (s.data.toList.drop p))) ∧ ∃ q, w' = w.drewN q := by
  obtain ⟨c0, c1, c2, cf⟩ := h.cells
  by_cases hlt : p < s.size
  · have d1 : decide ((p : Int) < (s.size : Int)) = true := decide_eq_true (by omega)
    rw [drop_head hlt]
    go_enter Tryd.func33, Tryd.ntmps33
    go_wp2
    go_quiet (fail)
    go_wp2
    go_quiet (fail)
    go_wp2
    go_ret
    exact ⟨rfl, _, World.drewN_drewN _ _ _⟩
  · have d1 : decide ((p : Int) < (s.size : Int)) = false := decide_eq_false (by omega)
    have e : s.data.toList.drop p = [] := List.drop_eq_nil_of_le (by simpa using hlt)
    rw [e]
    go_enter Tryd.func33, Tryd.ntmps33
    go_wp2
    go_quiet (fail)
    go_wp2
    go_ret
    exact ⟨rfl, _, rfl⟩
/-- A text is there. -/
def hasB (s : ByteArray) (p : Nat) (t : ByteArray) : Bool := Lib.hasPrefix (s.data.toList.drop p) t.data.toList
theorem slice_drop (s : ByteArray) (p : Nat) : (s.extract p s.size).data.toList = s.data.toList.drop p := by
  simp [ByteArray.data_extract]
  exact List.take_of_length_le (by simp)
theorem hasp_ok (s : ByteArray) (p : Nat) (t : ByteArray) (w : World) : Calls Tryd.prog 35 #[.string (s.extract p s.size), .string t] w fun e w' => e = .returned (.bool (hasB s p t)) ∧ w' = w := by
  have := Any.strings_HasPrefix Tryd.hasp (s.extract p s.size) t w
  rw [slice_drop] at this
  exact this
theorem hasp_b {s : ByteArray} {p : Nat} {t : ByteArray} {b : Bool} (h : hasB s p t = b) (w : World) : Calls Tryd.prog 35 #[.string (s.extract p s.size), .string t] w fun e w' => e = .returned (.bool b) ∧ w' = w := h ▸ hasp_ok s p t w
theorem has_le {s t : ByteArray} {p : Nat} (h : hasB s p t = true) (hp : p ≤ s.size) : p + t.size ≤ s.size := by
  have h1 := (List.isPrefixOf_iff_prefix.1 h).length_le
  rw [List.length_drop] at h1
  have e1 : s.data.toList.length = s.size := by simp
  have e2 : t.data.toList.length = t.size := by simp
  omega
set_option maxRecDepth 100000 in
theorem has_ok (R : Nat) (s t : ByteArray) (p d : Nat) (w : World) (h : RdAt w R s p d) (hp : p ≤ s.size) (hs : s.size ≤ 120) :
    Calls Tryd.prog 27 #[.pointer (some ⟨R, 0, none⟩), .string t] w fun e w' => e = .returned (.bool (hasB s p t)) ∧ RdAt w' R s (if hasB s p t then p + t.size else p) d ∧ Frm (· = R) w w' := by
  obtain ⟨c0, c1, c2, cf⟩ := h.cells
  have HH := Lib.hid h
  have hl := fun h => has_le (s := s) (t := t) (p := p) h hp
  have dp : ¬ s.size < p := by omega
  cases hb : hasB s p t with
  | true =>
    have hl2 := hl hb
    clear hl
    go_enter Tryd.func27, Tryd.ntmps27
    go_wp2_with fail
    go_quiet ((go_at_call 35; exact Calls.quiet_of_same (hasp_b hb _)))
    go_wp2_with fail
    go_ret
    rw [show ((p : Int) + (t.size : Int)) = ((p + t.size : Nat) : Int) from by omega]
    exact ⟨rfl, (HH.out.keep (w' := w.drewN nq) rfl).moved (p + t.size), ((Frm.refl (· = R) w).drewN nq).setCell (p := ⟨R, 1, none⟩) (.inl rfl) _⟩
  | false =>
    clear hl
    go_enter Tryd.func27, Tryd.ntmps27
    go_wp2_with fail
    go_quiet ((go_at_call 35; exact Calls.quiet_of_same (hasp_b hb _)))
    go_wp2_with fail
    go_ret
    exact ⟨rfl, HH.out.keep rfl, (Frm.refl _ _).drewN _⟩
/-- The panic of a fault. -/
def faultV (p : Nat) (k : Int) : Value := .iface 55 (.agg #[.int .i64 p, .iface 36 (.int .i64 k)])
def faultE (p : Nat) (k : Int) : Ending := .panicked [{ v := faultV p k, recovered := false }]
set_option maxRecDepth 100000 in
theorem fail_ok (R p : Nat) (k : Int) (w : World) : Calls Tryd.prog 25 #[.pointer (some ⟨R, 0, none⟩), .int .i64 p, .iface 36 (.int .i64 k)] w fun e w' => e = faultE p k ∧ w' = w := by
  have hpn : ∀ (t : TypeId) (v : Value) (w : World), (Instr.panic (.iface t v)).run Tryd.prog w = .halt (.panic (.iface t v)) w := fun _ _ _ => rfl
  go_enter Tryd.func25, Tryd.ntmps25
  go_wp2_with fail
  exact ⟨rfl, rfl, rfl⟩
set_option maxRecDepth 100000 in
theorem want_yes (R : Nat) (s t : ByteArray) (p d : Nat) (w : World) (h : RdAt w R s p d) (hp : p ≤ s.size) (hs : s.size ≤ 120) (hb : hasB s p t = true) :
    Calls Tryd.prog 29 #[.pointer (some ⟨R, 0, none⟩), .string t] w fun e w' => e = .returned (.tuple #[]) ∧ RdAt w' R s (p + t.size) d ∧ Frm (· = R) w w' := by
  have HAS := Lib.hid (has_ok R s t p d w h hp hs)
  rw [hb] at HAS
  go_enter Tryd.func29, Tryd.ntmps29
  go_wp2_with fail
  refine HAS.out.mono ?_
  rintro e w1 ⟨rfl, h1, f1⟩
  have H1 := Lib.hid h1
  have F1 := Lib.hid f1
  clear h1 f1
  go_wp2_with fail
  exact ⟨rfl, .tuple #[], by simp [results, Tryd.results29, go_sem], rfl, by simpa using H1.out, F1.out⟩
set_option maxRecDepth 100000 in
theorem want_no (R : Nat) (s t : ByteArray) (p d : Nat) (w : World) (h : RdAt w R s p d) (hp : p ≤ s.size) (hs : s.size ≤ 120) (hb : hasB s p t = false) :
    Calls Tryd.prog 29 #[.pointer (some ⟨R, 0, none⟩), .string t] w fun e w' => e = faultE p 2 ∧ RdAt w' R s p d ∧ Frm (· = R) w w' := by
  have HAS := Lib.hid (has_ok R s t p d w h hp hs)
  rw [hb] at HAS
  go_enter Tryd.func29, Tryd.ntmps29
  go_wp2_with fail
  refine HAS.out.mono ?_
  rintro e w1 ⟨rfl, h1, f1⟩
  obtain ⟨c0, c1, c2, cf⟩ := RdAt.cells h1
  have H1 := Lib.hid h1
  have F1 := Lib.hid f1
  clear h1 f1
  simp only [Bool.false_eq_true, if_false] at c1 H1
  go_wp2_with fail
  refine (fail_ok R p 2 w1).mono ?_
  rintro e w2 ⟨rfl, rfl⟩
  exact ⟨rfl, rfl, H1.out, F1.out⟩
end Go.Proofs.YtmbhfadidpkkhaaDoor
