/-
  Package keep: Save and Clean where they are refused: a number out of range, one that is there. No condition of ours.
-/
import Derived.Test.YtapabhglcdikeaaGreatDoorClean
namespace Go.Proofs.YtapabhglcdikeaaGreatDoor
open Go.RowKit Go.Shelf
set_option linter.unusedVariables false

set_option maxRecDepth 100000 in
theorem save_range (g : Nat) (id : Int) (A : Option Addr) (c n : Nat) (w : World) (h : ¬ Good id) :
    Calls Tryz.prog 6 #[.pointer (some ⟨g, 0, none⟩), .int .i64 id, .slice A n c] w fun e w' => e = .returned (.iface 48 (.int .i64 1)) ∧ w' = w := by
  have hg := good_ok id w
  have hb : (decide (1 ≤ id) && decide (id ≤ 1000000000)) = false := by
    rw [Bool.and_eq_false_iff]
    by_cases h1 : 1 ≤ id
    · right; exact decide_eq_false fun h2 => h ⟨h1, h2⟩
    · left; exact decide_eq_false h1
  rw [hb] at hg
  clear hb h
  go_enter Tryz.func6, Tryz.ntmps6
  go_wp2_with fail
  refine hg.mono ?_
  rintro e w1 ⟨rfl, rfl⟩
  go_wp2_with fail
  go_ret
  exact ⟨rfl, rfl⟩
set_option maxRecDepth 100000 in
theorem save_clash (w0 : World) (g : Nat) (S : DState) (id : Int) (A : Option Addr) (c n : Nat) (x : List UInt8) (w : World) (D : DiskIn w0 w g S) (hG : Good id) (hT : PowTab w0) (hf : fhas S.now (picN id) = true) (hv : BlobAt w (fgetD zB S.now (picN id)) (sealB x)) (hx : (sealB x).length ≤ 1099511627776) :
    Calls Tryz.prog 6 #[.pointer (some ⟨g, 0, none⟩), .int .i64 id, .slice A n c] w fun e w' => e = .returned (.iface 48 (.int .i64 8)) ∧ Below w.heap.size w w' := by
  have hg := good_yes hG w
  have HR := Lib.hid (kread_yes w0 g S id x w D hG (hT.at_ D) (by simp [hasE, named_pic hG, hf]) hv hx)
  clear D hf hv
  go_enter Tryz.func6, Tryz.ntmps6
  go_wp2_with fail
  refine hg.mono ?_
  rintro e w1 ⟨rfl, rfl⟩
  go_wp2_with fail
  refine HR.out.mono ?_
  rintro e w2 ⟨A2, c2, rfl, -, hb2⟩
  go_wp2_with fail
  go_ret
  exact ⟨rfl, hb2⟩
set_option maxRecDepth 100000 in
theorem clean_range (g : Nat) (many : Int) (w : World) (h : many < 1) :
    Calls Tryz.prog 10 #[.pointer (some ⟨g, 0, none⟩), .int .i64 many] w fun e w' => e = .returned (.iface 48 (.int .i64 1)) ∧ w' = w := by
  have hd : decide (many < 1) = true := decide_eq_true h
  go_enter Tryz.func10, Tryz.ntmps10
  go_wp2_with fail
  go_ret
  exact ⟨rfl, rfl⟩

/-! ### Rows of numbers are no disk's -/
theorem row_qk {w w' : World} {base n size : Nat} {e : TypeId} {v : Value} {xs : List Value} (h : w.ownsRow base e size v n xs) (hq : QKeep w w') (h1 : e ≠ 46) (h2 : e ≠ 61) : w'.ownsRow base e size v n xs := by
  obtain ⟨h3, h4⟩ := h
  refine ⟨h3, ?_⟩
  rcases h4 with h4 | ⟨g, cap, cur, rfl, hbs, hh, r⟩
  · exact .inl h4
  · exact .inr ⟨g, cap, cur, rfl, hbs, (hq g ⟨_, _, _, hh, h1, h2⟩).trans hh, r⟩
end Go.Proofs.YtapabhglcdikeaaGreatDoor
