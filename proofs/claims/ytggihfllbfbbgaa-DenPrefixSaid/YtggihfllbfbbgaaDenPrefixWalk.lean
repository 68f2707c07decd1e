/-
  The walk of DenPrefix: it returns true, whatever the lines. No condition.
-/
import Derived.Test.YtggihfllbfbbgaaPrefix
namespace Go.Proofs.Ytggihfllbfbbgaa
open Go.RowKit
set_option linter.unusedVariables false

set_option maxHeartbeats 1000000 in
set_option maxRecDepth 100000 in
theorem denPrefix_walk (A : Option Addr) (c : Nat) (a : List Lin) (B : Option Addr) (d : Nat) (b : List Lin) (w : World) (ha : SlA linE (· < w.heap.size) w A c a) (ra : c * 40 ≤ 140737488351232) (hb : SlA linE (· < w.heap.size) w B d b) (rb : d * 40 ≤ 140737488351232) :
    Calls Try.prog 9 #[.slice A a.length c, .slice B b.length d] w fun e w' => e = .returned (.bool true) ∧ Below w.heap.size w w' := by
  have H := Lib.hid ha
  have H' := Lib.hid hb
  clear ha hb ra rb
  go_enter Try.func9, Try.ntmps9
  go_wp2_with fail
  obtain ⟨w1, hw1⟩ : ∃ w1, w1 = (((w.alloc (Obj.cells #[Value.int IntKind.i64 1] 3)).alloc (Obj.cells #[Value.string ⟨#[97]⟩, Value.slice (some ⟨w.heap.size, 0, none⟩) 1 1] 53)).alloc
        (Obj.cells #[Value.int IntKind.i64 1, Value.int IntKind.i64 2] 3)).alloc (Obj.cells #[Value.string ⟨#[97]⟩, Value.slice (some ⟨w.heap.size + 1 + 1, 0, none⟩) 2 2] 53) := ⟨_, rfl⟩
  rw [← hw1]
  have hp : w1.heap = (((w.heap.push (Obj.cells #[Value.int IntKind.i64 1] 3)).push (Obj.cells #[Value.string ⟨#[97]⟩, Value.slice (some ⟨w.heap.size, 0, none⟩) 1 1] 53)).push
        (Obj.cells #[Value.int IntKind.i64 1, Value.int IntKind.i64 2] 3)).push (Obj.cells #[Value.string ⟨#[97]⟩, Value.slice (some ⟨w.heap.size + 1 + 1, 0, none⟩) 2 2] 53) := by rw [hw1]; rfl
  have hb1 : Below w.heap.size w w1 := by
    rw [hw1]
    exact ((((Below.refl _ _).alloc (Nat.le_refl _) _).alloc (by simp) _).alloc (by simp; omega) _).alloc (by simp; omega) _
  have g0 : w1.heap[w.heap.size]? = some (Obj.cells #[Value.int IntKind.i64 1] 3) := by rw [hp]; simp only [Array.getElem?_push, Array.size_push]; repeat (first | rw [if_pos rfl] | rw [if_neg (by omega)] | rw [if_pos trivial])
  have g1 : w1.heap[w.heap.size + 1]? = some (Obj.cells #[Value.string ⟨#[97]⟩, Value.slice (some ⟨w.heap.size, 0, none⟩) 1 1] 53) := by rw [hp]; simp only [Array.getElem?_push, Array.size_push]; repeat (first | rw [if_pos rfl] | rw [if_neg (by omega)] | rw [if_pos trivial])
  have g2 : w1.heap[w.heap.size + 1 + 1]? = some (Obj.cells #[Value.int IntKind.i64 1, Value.int IntKind.i64 2] 3) := by rw [hp]; simp only [Array.getElem?_push, Array.size_push]; repeat (first | rw [if_pos rfl] | rw [if_neg (by omega)] | rw [if_pos trivial])
  have g3 : w1.heap[w.heap.size + 1 + 1 + 1]? = some (Obj.cells #[Value.string ⟨#[97]⟩, Value.slice (some ⟨w.heap.size + 1 + 1, 0, none⟩) 2 2] 53) := by rw [hp]; simp only [Array.getElem?_push, Array.size_push]; repeat (first | rw [if_pos rfl] | rw [if_neg (by omega)] | rw [if_pos trivial])
  clear hw1 hp
  have s0 : SlA (intE .i64) (· < w1.heap.size) w1 (some ⟨w.heap.size, 0, none⟩) 1 [1] := lit_sl (fun n => [.int .i64 n]) (fun _ => rfl) g0 rfl (fun x hx => ⟨rfl, by simp at hx; subst hx; decide⟩) (by decide) (by unfold maxLen; omega)
  have s2 : SlA (intE .i64) (· < w1.heap.size) w1 (some ⟨w.heap.size + 1 + 1, 0, none⟩) 2 [1, 2] := lit_sl (fun n => [.int .i64 n]) (fun _ => rfl) g2 rfl (fun x hx => ⟨rfl, by simp at hx; rcases hx with rfl | rfl <;> decide⟩) (by decide) (by unfold maxLen; omega)
  have l1 : SlA linE (· < w1.heap.size) w1 (some ⟨w.heap.size + 1, 0, none⟩) 1 [⟨⟨#[97]⟩, [1]⟩] := lit_one g1 ⟨_, rfl, by unfold maxLen; decide, _, _, rfl, s0⟩ (by decide) (by unfold maxLen; omega)
  have l2 : SlA linE (· < w1.heap.size) w1 (some ⟨w.heap.size + 1 + 1 + 1, 0, none⟩) 1 [⟨⟨#[97]⟩, [1, 2]⟩] := lit_one g3 ⟨_, rfl, by unfold maxLen; decide, _, _, rfl, s2⟩ (by decide) (by unfold maxLen; omega)
  clear s0 s2 g0 g1 g2 g3
  refine (denPrefix_any _ _ 1 1 [⟨⟨#[97]⟩, [1]⟩] [⟨⟨#[97]⟩, [1, 2]⟩] w1 l1 l2).mono ?_
  rintro e w2 ⟨rfl, hb2⟩
  clear l1 l2
  rw [show pfx [⟨⟨#[97]⟩, [1]⟩] [⟨⟨#[97]⟩, [1, 2]⟩] = true from by simp [pfx, okL, findK, keyIs, List.findIdx_cons]]
  have hb3 := hb1.trans (hb2.mono hb1.size)
  have ha2 := (H.out.below hb3)
  have hbb2 := (H'.out.below hb3)
  clear H H' hb1 hb2
  have H := Lib.hid ha2
  have H' := Lib.hid hbb2
  clear ha2 hbb2
  obtain ⟨r, hr⟩ : ∃ r, r = pfx a b := ⟨_, rfl⟩
  have HR := Lib.hid hr
  clear hr
  go_wp2_with fail
  refine (denPrefix_any A B c d a b w2 H.out H'.out).mono ?_
  rintro e w3 ⟨rfl, hb4⟩
  rw [← HR.out]
  have ha3 := (H.out.below hb4)
  have hbb3 := (H'.out.below hb4)
  clear H H'
  have H := Lib.hid ha3
  have H' := Lib.hid hbb3
  clear ha3 hbb3
  go_wp2_with fail
  refine (refPrefix_any A B c d a b w3 _ H.out H'.out).mono ?_
  rintro e w4 ⟨rfl, q, rfl⟩
  rw [← HR.out]
  cases r
  all_goals
    go_wp2_with fail
    go_ret
    exact ⟨rfl, bdrewN (hb3.trans (hb4.mono hb3.size)) _⟩
end Go.Proofs.Ytggihfllbfbbgaa
