/-
  The contract of slices.Clone at records, and of sink's Written. Condition: at most 10^9 records.
-/
import Derived.Test.YtmcmejmfaihclaaDoorSink
namespace Go.Proofs.YtmcmejmfaihclaaDoor
open Go.RowKit
set_option linter.unusedVariables false

set_option maxRecDepth 100000 in
theorem clone_any (A : Option Addr) (c : Nat) (l : List Rec) (w : World) (h : SlA recE (· < w.heap.size) w A c l) (hn : l.length ≤ 1000000000) :
    Calls Tryd.prog 32 #[.slice A l.length c] w fun e w' => ∃ A' c', e = .returned (.slice A' l.length c') ∧ SlA recE (· < w'.heap.size) w' A' c' l ∧ Below w.heap.size w w' := by
  have h1 := fun wx : World => Lib.run_eql_slice_nil (P := Tryd.prog) wx 42 47 A l.length c 0 0 Tryd.underlying42
  have HC := Lib.hid h.2.1
  have H := Lib.hid h
  clear h
  cases A with
  | none =>
    have h0 : l = [] := by
      cases l with
      | nil => rfl
      | cons x l => obtain ⟨b, off, cs, e, _⟩ := H.out.2.2 0 x rfl; cases e
    subst h0
    clear H h1
    have h2 := fun wx : World => (Lib.run_eql_slice_nil (P := Tryd.prog) wx 42 47 none 0 c 0 0 Tryd.underlying42).trans (show (Result.ok (Value.bool (none : Option Addr).isNone) wx : Result Value) = .ok (.bool true) wx from rfl)
    go_enter Tryd.func32, Tryd.ntmps32
    go_wp2_with fail
    go_ret
    exact ⟨none, 0, rfl, SlA.nil _ _ _ _ _ (by unfold maxLen; omega), Below.refl _ _⟩
  | some ad =>
    have hsrc := Src.of_sl (P := Tryd.prog) (tx := 42) (H.out.below (w' := w.alloc (.cells #[] 47)) ((Below.refl _ _).alloc (Nat.le_refl _) _)) Tryd.underlying42 recCells (fun cs x hx => hx.1) (fun _ => rfl) (fun x u hu => by simp [recCells] at hu; rcases hu with rfl | rfl | rfl <;> rfl)
    have HS := Lib.hid hsrc
    clear hsrc
    have h2 := fun wx : World => (h1 wx).trans (show (Result.ok (Value.bool (some ad : Option Addr).isNone) wx : Result Value) = .ok (.bool false) wx from rfl)
    clear h1
    go_enter Tryd.func32, Tryd.ntmps32
    go_wp2_with (at_builtin; refine wpList_append_S rfl _ _ 42 42 rfl 47 _ 3 32 Tryd.underlying42 info_rec rfl (by decide) (some ⟨w.heap.size, 0, none⟩) 0 0 [] rfl ?_ _ rfl l.length (l.flatMap recCells) HS.out ?_ ?_ ?_)
    · exact ⟨by simp, Nat.le_refl _, Nat.zero_le _, .inr ⟨_, 0, #[], rfl, heap_alloc_new w _, by simp, fun j u hj => by simp at hj⟩⟩
    · unfold maxLen; omega
    · omega
    · intro A' cap' w1 hown1 hg1 hat1
      have hb : Below w.heap.size w w1 := ((Below.refl _ _).alloc (Nat.le_refl _) _).grown hg1 (by simp) (fun k e => by simp [blk] at e; omega)
      have HO := Lib.hid hown1
      have HB := Lib.hid hb
      clear hown1 hg1 hat1 hb
      go_wp2_with fail
      go_ret
      have ho := HO.out
      try simp only [List.nil_append, Nat.zero_add] at ho
      refine ⟨A', cap', by first | rfl | (simp; rfl), ho.sl (E := recE) recCells (fun _ => rfl) rfl (fun k e => ho.lt k e) (fun x hx => ⟨rfl, recs_ok H.out x hx⟩), HB.out⟩

set_option maxRecDepth 100000 in
theorem written_any (g : Nat) (S : SinkSt) (F : Nat → Prop) (w : World) (h : SinkAt w F g S) (hn : S.written.length ≤ 1000000000) :
    Calls Tryd.prog 21 #[.pointer (some ⟨g, 0, none⟩)] w fun e w' => ∃ A' c', e = .returned (.slice A' S.written.length c') ∧ SlA recE (· < w'.heap.size) w' A' c' S.written ∧ Below w.heap.size w w' := by
  obtain ⟨Ao, co, As, cs, Aw, cw, bs, Fb, h, hf⟩ := h
  have c3 := cell_of_row w g 3 _ _ _ h.blk
  simp at c3
  have hsl := h.ownw.sl (E := recE) recCells (fun _ => rfl) rfl (F := (· < w.heap.size)) (fun k e => h.ownw.lt k e) (fun x hx => ⟨rfl, h.okW x hx⟩)
  have HS := Lib.hid hsl
  have HN := Lib.hid hn
  clear h hf hsl hn
  go_enter Tryd.func21, Tryd.ntmps21
  go_wp2_with fail
  refine (clone_any Aw cw S.written _ HS.out HN.out).mono ?_
  rintro e w1 ⟨A', c', rfl, hs, hb⟩
  have HS2 := Lib.hid hs
  clear hs
  go_wp2_with fail
  go_ret
  exact ⟨A', c', rfl, HS2.out, hb⟩
end Go.Proofs.YtmcmejmfaihclaaDoor
