/-
  The statements' own whole numbers: Uint64, Int64. No condition.
-/
import Derived.Test.YtbhapjipledioaaDoorBigB
namespace Go.Proofs.YtbhapjipledioaaDoor
open Go.RowKit Go.ChangeShapes Go.WideShapes
set_option linter.unusedVariables false

set_option maxRecDepth 100000 in
theorem uint64_ok (g : Nat) (f : Bool) (V : Nat) (w : World) (h : BigAt w g f V) (hV : V < 18446744073709551616) :
    Calls Tryd.prog 20 #[.pointer (some ⟨g, 0, none⟩)] w fun e w' => e = .returned (.int .u64 (V : Int)) ∧ w = w' := by
  obtain ⟨A, n, c, hb, hw, _⟩ := h.words
  have x1 := cell_of_row w g 1 _ _ _ hb
  simp at x1
  have hn := hw.len (k := 2) hV
  obtain ⟨l, hl, _, hs, hv, _⟩ := hw
  have wl := words_lt hs
  have hc := hs.1
  clear h hb
  subst hl
  match l, hn, hs, hv, wl, hc with
  | [], _, hs, hv, wl, hc =>
    subst hv
    rw [show wVal [] = 0 from rfl]
    rw [show List.length ([] : List Nat) = 0 from rfl] at x1
    clear hs wl
    go_enter Tryd.func20, Tryd.ntmps20
    go_wp2_with fail
    go_ret
    first | exact ⟨rfl, rfl⟩ | rfl
  | [x], _, hs, hv, wl, hc =>
    subst hv
    obtain ⟨b, off, rfl, _, c0, hw0⟩ := hs.u32_ (k := 0) (by simp)
    simp only [List.getElem_cons_zero, Nat.add_zero] at c0 hw0
    rw [show wVal [x] = x by simp [wVal]]
    rw [show List.length [x] = 1 from rfl] at hc x1
    clear hs wl hV
    go_enter Tryd.func20, Tryd.ntmps20
    go_wp2_with fail
    go_ret
    exact ⟨rfl, rfl⟩
  | [x, y], _, hs, hv, wl, hc =>
    subst hv
    obtain ⟨b, off, rfl, _, c0, hw0⟩ := hs.u32_ (k := 0) (by simp)
    obtain ⟨b', off', e, _, c1, hw1⟩ := hs.u32_ (k := 1) (by simp)
    injection e with e; injection e with e1 e2; subst e1; subst e2
    simp only [List.getElem_cons_zero, List.getElem_cons_succ, Nat.add_zero] at c0 hw0 c1 hw1
    have hV2 : wVal [x, y] = y * 4294967296 + x := by simp [wVal]; omega
    rw [hV2]
    have hor := or_add2 x y hw0 (by omega)
    obtain ⟨T, hT⟩ : ∃ T, T = y * 4294967296 + x := ⟨_, rfl⟩
    rw [← hT] at hor ⊢
    rw [show List.length [x, y] = 2 from rfl] at hc x1
    clear hs wl hT hV2 hV
    go_enter Tryd.func20, Tryd.ntmps20
    go_wp2_with fail
    go_ret
    exact ⟨rfl, rfl⟩
set_option maxRecDepth 100000 in
theorem int64_ok (g : Nat) (f : Bool) (V : Nat) (w : World) (h : BigAt w g f V) (hV : V ≤ 9223372036854775808) (hf : f = false → V < 9223372036854775808) :
    Calls Tryd.prog 12 #[.pointer (some ⟨g, 0, none⟩)] w fun e w' => e = .returned (.int .i64 (if f then -(V : Int) else (V : Int))) ∧ w = w' := by
  have HU := Lib.hid (uint64_ok g f V w h (by omega))
  obtain ⟨A, n, c, hb, _, _⟩ := h.words
  have x0 := cell_of_row w g 0 _ _ _ hb
  simp at x0
  clear h hb
  cases f with
  | false =>
    have hV2 := hf rfl
    clear hf
    have hcv : IntKind.i64.wrap (V : Int) = (V : Int) := IntWalk.i64_in _ (by omega)
    go_enter Tryd.func12, Tryd.ntmps12
    go_wp2_with fail
    refine HU.out.mono ?_
    rintro e w2 ⟨rfl, rfl⟩
    go_wp2_with fail
    go_ret
    exact ⟨rfl, rfl⟩
  | true =>
    clear hf
    have hcv : wrap64 (-wrap64 (V : Int)) = -(V : Int) := by
      by_cases h0 : V = 9223372036854775808
      · subst h0; show wrap64 (-wrap64 9223372036854775808) = -9223372036854775808; unfold wrap64; omega
      · rw [IntWalk.wrap64_in (V : Int) (by omega)]; exact IntWalk.wrap64_in _ (by omega)
    go_enter Tryd.func12, Tryd.ntmps12
    go_wp2_with fail
    refine HU.out.mono ?_
    rintro e w2 ⟨rfl, rfl⟩
    go_wp2_with fail
    go_ret
    exact ⟨rfl, rfl⟩
end Go.Proofs.YtbhapjipledioaaDoor
