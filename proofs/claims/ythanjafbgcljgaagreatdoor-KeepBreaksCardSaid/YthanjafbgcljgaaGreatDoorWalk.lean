/-
  The tactics' imports, and small laws over any program: bytes of a string; a fold's last step. No condition.
-/
import Derived.Test.YthanjafbgcljgaaGreatDoorElts
import Derived.WalkSpells
import Derived.WalkLawsBesides
import Derived.Deep.QuietTactic
import Derived.BigQuiet
import Derived.Laws.IdiomStrings
import Derived.IntWalk
namespace Go.Proofs.YthanjafbgcljgaaGreatDoor
open Go.RowKit

theorem ret_true {b : Bool} (h : b = true) : Ending.returned (.bool b) = .returned (.bool true) := by rw [h]
theorem bytes_of (P : Program) (w : World) (src dst e : TypeId) (s : ByteArray) (hs : P.underlying src = some .string) (hd : P.underlying dst = some (.slice e)) (he : P.underlying e = some (.int .u8)) :
    ∃ cap o, (convert src dst (.string s)).run P w = .ok (.slice (some ⟨w.heap.size, 0, none⟩) s.size cap) (w.drew.alloc o) ∧ ∀ j (hj : j < s.size), (w.alloc o).cell? ⟨w.heap.size, j, none⟩ = some (.int .u8 (s[j].toNat : Int)) := by
  refine ⟨_, _, run_bytes_of_string w src dst e s hs hd he, fun j hj => ?_⟩
  have e1 : (w.alloc (.cells (bytesRow s (grownCap w s.size 0 e)) e ((bytesRow s (grownCap w s.size 0 e)).size, (bytesRow s (grownCap w s.size 0 e)).size + 1))).heap[w.heap.size]? = some (.cells (bytesRow s (grownCap w s.size 0 e)) e ((bytesRow s (grownCap w s.size 0 e)).size, (bytesRow s (grownCap w s.size 0 e)).size + 1)) := heap_alloc_new w _
  simp only [World.cell?, e1]
  have hj' : j < s.data.size := hj
  simp only [bytesRow]
  rw [Array.getElem?_append_left (by simpa using hj'), Array.getElem?_map, Array.getElem?_eq_getElem hj']
  rfl

theorem foldl_snoc {α β : Type} (f : α → β → α) (x : α) (l : List β) (c : β) : (l ++ [c]).foldl f x = f (l.foldl f x) c := by rw [List.foldl_append]; rfl
end Go.Proofs.YthanjafbgcljgaaGreatDoor
