/-
  Plain lemmas about pictures and disks, for KeepPlain and KeepBreaks. No condition.
-/
import Derived.Test.YthanjafbgcljgaaGreatDoorKeepList
import Derived.Test.YthanjafbgcljgaaGreatDoorLatest
import Derived.Test.YthanjafbgcljgaaGreatDoorSave
namespace Go.Proofs.YthanjafbgcljgaaGreatDoor
open Go.RowKit Go.Shelf
set_option linter.unusedVariables false

theorem has_ids {w : World} {fs : SMap} (hP : Pics w fs) {id : Int} (hG : Good id) : fhas fs (picN id) = true ↔ id ∈ idsOf fs := by
  constructor
  · intro h
    exact List.mem_filterMap.2 ⟨picN id, fhas_iff.1 h, idOf_pic hG⟩
  · intro h; exact (ids_mem hP h).2
theorem saveS_stop (S : DState) (id : Int) (v : Value) (j : Nat) : (saveS S id v j).stop = S.stop := by
  match j with
  | 0 => rfl
  | 1 => rfl
  | 2 => rfl
  | 3 => rfl
  | j + 4 => rfl
theorem never_stopped {S : DState} (h : S.stop = -1) : stoppedB S = false := by simp [stoppedB, h]
theorem saved_all {w0 w w' : World} {g : Nat} {S : DState} {id : Int} {x : List UInt8} {v : Value} {j : Nat} (h : Saved w0 w g S id x w' v j) (hs : S.stop = -1) : j = 4 := by
  have h1 := h.le
  rcases Nat.lt_or_ge j 4 with h2 | h2
  · have h3 := h.stop h2
    rw [never_stopped ((saveS_stop S id v j).trans hs)] at h3; cases h3
  · omega

/-! ### Sorted lists -/
end Go.Proofs.YthanjafbgcljgaaGreatDoor
