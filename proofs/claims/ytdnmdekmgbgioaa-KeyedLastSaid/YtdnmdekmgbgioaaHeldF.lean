/-
  Contracts of frame.Held and frame.Compare (of two states' places). No condition.
-/
import Derived.Test.YtdnmdekmgbgioaaHelds
import Derived.Test.YtdnmdekmgbgioaaMap
import Derived.Deep.RegionHeld3
import Derived.Outline
namespace Go.Proofs.Ytdnmdekmgbgioaa
open Go.RowKit
open Go.Sort hiding Below
set_option linter.unusedVariables false

def hldCells (h : Hld) : List Value := [.int .i64 h.node, .string h.key, .int .i64 h.a, .int .i64 h.b]
def hldV (h : Hld) : Value := .agg #[.int .i64 h.node, .string h.key, .int .i64 h.a, .int .i64 h.b]

theorem held_yes (n : Int) (s : ByteArray) (x y : Int) (w : World) (h : hldOk ⟨n, s, x, y⟩) : Calls Try.prog 28 #[.agg #[.int .i64 n, .string s, .int .i64 x, .int .i64 y]] w fun e w' => e = .returned (.bool true) ∧ Below w.heap.size w w' := by
  obtain ⟨h1, h2, h3⟩ := h
  simp only at h1 h2 h3
  have d3 : decide ((s.size : Int) ≤ 40) = true := decide_eq_true (by omega)
  go_enter Try.func28, Try.ntmps28
  go_wp2
  go_ret
  exact ⟨by simp [*], (Below.refl _ _).alloc (Nat.le_refl _) _⟩
theorem held_no (n : Int) (s : ByteArray) (x y : Int) (w : World) (h : ¬ hldOk ⟨n, s, x, y⟩) : Calls Try.prog 28 #[.agg #[.int .i64 n, .string s, .int .i64 x, .int .i64 y]] w fun e w' => e = .returned (.bool false) ∧ Below w.heap.size w w' := by
  by_cases h1 : 0 ≤ n
  · by_cases h2 : n < 12
    · have h3 : ¬ s.size ≤ 40 := fun h3 => h ⟨h1, h2, h3⟩
      have d1 : decide (0 ≤ n) = true := decide_eq_true h1
      have d2 : decide (n < 12) = true := decide_eq_true h2
      have d3 : decide ((s.size : Int) ≤ 40) = false := decide_eq_false (by omega)
      clear h
      go_enter Try.func28, Try.ntmps28
      go_wp2
      go_ret
      exact ⟨by simp [*], (Below.refl _ _).alloc (Nat.le_refl _) _⟩
    · have d1 : decide (0 ≤ n) = true := decide_eq_true h1
      have d2 : decide (n < 12) = false := decide_eq_false h2
      clear h
      go_enter Try.func28, Try.ntmps28
      go_wp2
      go_ret
      exact ⟨by simp [*], (Below.refl _ _).alloc (Nat.le_refl _) _⟩
  · have d1 : decide (0 ≤ n) = false := decide_eq_false h1
    clear h
    go_enter Try.func28, Try.ntmps28
    go_wp2
    go_ret
    exact ⟨by simp [*], (Below.refl _ _).alloc (Nat.le_refl _) _⟩
theorem cell_drew_new2 (w : World) (cs : Array Value) (t : TypeId) (j n : Nat) (h : w.heap.size = n) : (w.alloc (.cells cs t)).drew.cell? ⟨n, j, none⟩ = cs[j]? := by
  subst h; exact cell_of_row _ _ j cs t (0, 0) (heap_alloc_new w _)
set_option maxRecDepth 100000 in
set_option maxHeartbeats 2000000 in
theorem hldCmp : CmpOk Try.prog 55 hldCells hldCf := by
  intro x y W
  obtain ⟨xn, xk, xa, xb⟩ := x
  obtain ⟨yn, yk, ya, yb⟩ := y
  show Calls _ _ #[.agg #[.int .i64 xn, .string xk, .int .i64 xa, .int .i64 xb], .agg #[.int .i64 yn, .string yk, .int .i64 ya, .int .i64 yb]] W _
  unfold hldCf
  obtain ⟨a, ha⟩ : ∃ a, a = cmpS xk yk := ⟨_, rfl⟩
  obtain ⟨b, hb⟩ : ∃ b, b = cmpI xn yn := ⟨_, rfl⟩
  show Calls _ _ _ W fun e w' => e = .returned (.int .i64 (orI (cmpI xn yn) (cmpS xk yk))) ∧ _
  have c1 : ∀ w, Calls Try.prog 51 #[.string xk, .string yk] w fun e w' => e = .returned (.int .i64 a) ∧ w = w' := fun w => by rw [ha]; exact compare_str xk yk w
  have c2 : ∀ w, Calls Try.prog 52 #[.int .i64 xn, .int .i64 yn] w fun e w' => e = .returned (.int .i64 b) ∧ w = w' := fun w => by rw [hb]; exact compare_int xn yn w
  rw [← ha, ← hb]
  have C1 := Lib.hid c1
  have C2 := Lib.hid c2
  clear ha hb c1 c2
  go_enter Try.func55, Try.ntmps55
  go_wp2_with fail
  go_region_held3 (fun w' => w'.cell? ⟨W.heap.size, 0, none⟩ = some (.int .i64 xn) ∧ w'.cell? ⟨W.heap.size, 1, none⟩ = some (.string xk) ∧ w'.cell? ⟨W.heap.size + 1, 0, none⟩ = some (.int .i64 yn) ∧ w'.cell? ⟨W.heap.size + 1, 1, none⟩ = some (.string yk)) (go_keep)
    (first | (go_at_call 51; refine (C1.out _).mono ?_; rintro e w' ⟨rfl, rfl⟩) | (go_at_call 52; refine (C2.out _).mono ?_; rintro e w' ⟨rfl, rfl⟩) | (go_at_call 50; refine (or_two _ b a _ ?_ ?_).mono ?_; (exact (cell_drew_new2 _ _ _ 0 _ (by simp)).trans rfl); (exact (cell_drew_new2 _ _ _ 1 _ (by simp)).trans rfl); rintro e w' ⟨rfl, rfl⟩))
  all_goals
    go_wp2_with fail
    go_ret
    exact ⟨rfl, ((((Below.refl _ _).alloc (Nat.le_refl _) _).alloc (by simp) _).alloc (by simp <;> omega) _).drew, by show W.drawn ≤ W.drawn + 1; omega⟩
end Go.Proofs.Ytdnmdekmgbgioaa
