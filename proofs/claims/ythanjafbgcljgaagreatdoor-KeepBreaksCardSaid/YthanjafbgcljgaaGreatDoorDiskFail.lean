/-
  Package disk: Fail, Steps. No condition.
-/
import Derived.Test.YthanjafbgcljgaaGreatDoorDiskSync
namespace Go.Proofs.YthanjafbgcljgaaGreatDoor
open Go.RowKit
set_option linter.unusedVariables false

def failS (S : DState) (at_ : Int) : DState := { S with stop := max (-1) at_ }
section
variable {w : World} {g bn bs : Nat} {A : Option Addr} {c : Nat} {vs : List Value} {S : DState}
theorem DiskAt.failed (h : DiskAt w g bn bs A c vs S) (n : Int) : DiskAt (w.setCell ⟨g, 4, none⟩ (.int .i64 n)) g bn bs A c vs { S with stop := n } := by
  have hk : ∀ k, k ≠ g → (w.setCell ⟨g, 4, none⟩ (.int .i64 n)).heap[k]? = w.heap[k]? := fun k hk => Below.heap_setCell _ _ _ _ (by simpa using hk)
  refine ⟨by simp [World.setCell, Array.getElem?_modify, h.obj], h.now.keep (hk _ (fun e => h.g_bn e.symm)), h.safe.keep (hk _ (fun e => h.g_bs e.symm)), h.ne, h.row.keep fun k e => hk k (fun e2 => h.A_g (e2 ▸ e)), fun i op hi => ?_⟩
  obtain ⟨v, h1, h2⟩ := h.ops i op hi
  exact ⟨v, h1, h2.keep fun k hq => hk k fun e => h.quiet (.inl e) hq⟩
end
set_option maxRecDepth 100000 in
theorem fail_in (w0 : World) (g : Nat) (S : DState) (at_ : Int) (w : World) (D : DiskIn w0 w g S) :
    Calls Tryz.prog 7 #[.pointer (some ⟨g, 0, none⟩), .int .i64 at_] w fun e w' => e = .returned (.tuple #[]) ∧ QKeep w w' ∧ DiskIn w0 w' g (failS S at_) := by
  obtain ⟨bn, bs, A, c, vs, hD, h0, h1, h2, h3, h4⟩ := D
  have c4 : w.cell? ⟨g, 4, none⟩ = some (.int .i64 S.stop) := (cell_of_row w g 4 _ _ _ hD.obj).trans rfl
  have f4 : w.frozen? ⟨g, 4, none⟩ = false := by simp [World.frozen?, hD.obj]
  have HF := Lib.hid (hD.failed (max (-1) at_))
  have H0 := Lib.hid (h0.setCell (p := ⟨g, 4, none⟩) h1 (.int .i64 (max (-1) at_)))
  have HQ : Hid (QKeep w (w.setCell ⟨g, 4, none⟩ (.int .i64 (max (-1) at_)))) := fun k hk => Below.heap_setCell _ _ _ _ (fun e => hD.quiet (.inl (by simpa using e)) hk)
  clear hD h0
  go_enter Tryz.func7, Tryz.ntmps7
  go_wp2_with fail
  go_end0
  exact ⟨rfl, HQ.out, bn, bs, A, c, vs, HF.out, H0.out, h1, h2, h3, h4⟩
set_option maxRecDepth 100000 in
theorem steps_in (w0 : World) (g : Nat) (S : DState) (w : World) (D : DiskIn w0 w g S) :
    Calls Tryz.prog 8 #[.pointer (some ⟨g, 0, none⟩)] w fun e w' => e = .returned (.int .i64 S.steps) ∧ w' = w := by
  obtain ⟨bn, bs, A, c, vs, hD, h0, h1, h2, h3, h4⟩ := D
  have c3 : w.cell? ⟨g, 3, none⟩ = some (.int .i64 S.steps) := (cell_of_row w g 3 _ _ _ hD.obj).trans rfl
  clear hD h0
  go_enter Tryz.func8, Tryz.ntmps8
  go_wp2_with fail
  go_ret
  exact ⟨rfl, rfl⟩
end Go.Proofs.YthanjafbgcljgaaGreatDoor
