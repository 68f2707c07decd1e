/-
  Package share: how a share lies in memory; New, Count, Take. Conditions: counts that are small.
-/
import Derived.Test.YthobnigjhedjaaaDoorShareIn
import Derived.Test.YthobnigjhedjaaaDoorIMap
import Derived.Shelf.SortM.Plain
import Derived.Shelf.SortM.SortNone
import Derived.Shelf.Slices.CompactS
import Derived.Sort.OwnSorted
namespace Go.Proofs.YthobnigjhedjaaaDoor
open Go.RowKit Go.Shelf
set_option linter.unusedVariables false

/-- A row of names. -/
structure RowS where
  A : Option Addr
  cap : Nat
  xs : List ByteArray
def rowSV (r : RowS) : Value := .slice r.A r.xs.length r.cap
abbrev PMapS := List (Int × RowS)
def pl (P : PMapS) : FMap := kmap (·.xs) P
/-- A block of strings. -/
def StrRow (w : World) (k : Nat) : Prop := ∃ cs fr, w.heap[k]? = some (.cells cs 9 fr)
theorem StrRow.lt {w : World} {k : Nat} (h : StrRow w k) : k < w.heap.size := by obtain ⟨cs, fr, h⟩ := h; exact block_lt h
theorem StrRow.kept {w w' : World} {k : Nat} (h : StrRow w k) (hs : w'.heap[k]? = w.heap[k]?) : StrRow w' k := by
  obtain ⟨cs, fr, h⟩ := h
  exact ⟨cs, fr, hs.trans h⟩
structure ShAt (w : World) (g bp bc : Nat) (P : PMapS) (C : CMap) : Prop where
  obj : w.heap[g]? = some (.cells #[.map (some bp), .map (some bc)] 49 (0, 0))
  pics : IMapAt w bp (kmap rowSV P)
  counts : CAt w bc C
  ne : bp ≠ bc
  rows : ∀ p ∈ P, SlA strE (StrRow w) w p.2.A p.2.cap p.2.xs
section
variable {w w' : World} {g bp bc : Nat} {P : PMapS} {C : CMap}
theorem ShAt.lt (h : ShAt w g bp bc P C) : g < w.heap.size ∧ bp < w.heap.size ∧ bc < w.heap.size := ⟨block_lt h.obj, h.pics.lt, h.counts.lt⟩
theorem ShAt.keep (h : ShAt w g bp bc P C) (hs : ∀ k, k = g ∨ k = bp ∨ k = bc ∨ StrRow w k → w'.heap[k]? = w.heap[k]?) : ShAt w' g bp bc P C :=
  ⟨(hs g (.inl rfl)).trans h.obj, h.pics.keep (hs bp (.inr (.inl rfl))), h.counts.keep (hs bc (.inr (.inr (.inl rfl)))), h.ne, fun p hp => ((h.rows p hp).keep fun k hk => hs k (.inr (.inr (.inr hk)))).more fun k hk => hk.kept (hs k (.inr (.inr (.inr hk))))⟩
theorem ShAt.below (h : ShAt w g bp bc P C) (hb : Below w.heap.size w w') : ShAt w' g bp bc P C := h.keep fun k hk => hb.block k (by
  obtain ⟨h1, h2, h3⟩ := h.lt
  rcases hk with rfl | rfl | rfl | hk
  · exact h1
  · exact h2
  · exact h3
  · exact hk.lt)
theorem ShAt.cells (h : ShAt w g bp bc P C) : w.cell? ⟨g, 0, none⟩ = some (.map (some bp)) ∧ w.cell? ⟨g, 1, none⟩ = some (.map (some bc)) :=
  ⟨(cell_of_row w g 0 _ _ _ h.obj).trans rfl, (cell_of_row w g 1 _ _ _ h.obj).trans rfl⟩
theorem ShAt.g_bp (h : ShAt w g bp bc P C) : g ≠ bp := fun e => h.pics.not_cells (e ▸ h.obj)
theorem ShAt.g_bc (h : ShAt w g bp bc P C) : g ≠ bc := fun e => SMapAt.not_cells h.counts (e ▸ h.obj)
theorem StrRow.off (h : ShAt w g bp bc P C) {k : Nat} (hk : StrRow w k) : k ≠ bp ∧ k ≠ bc ∧ k ≠ g := by
  obtain ⟨cs, fr, hk⟩ := hk
  refine ⟨fun e => h.pics.not_cells (e ▸ hk), fun e => SMapAt.not_cells h.counts (e ▸ hk), fun e => ?_⟩
  rw [e, h.obj] at hk
  injection hk with hk
  injection hk with _ hk _
  exact absurd hk (by decide)
/-- The counts are turned. -/
theorem ShAt.turnC (h : ShAt w g bp bc P C) {C' : CMap} (hc : CAt w' bc C') (hg : w.grownBy w' (some bc)) : ShAt w' g bp bc P C' := by
  have hs : ∀ k, k ≠ bc → k < w.heap.size → w'.heap[k]? = w.heap[k]? := fun k hk hl => hg.block k hl fun e => hk (Option.some.inj e)
  exact ⟨(hs g h.g_bc h.lt.1).trans h.obj, h.pics.keep (hs bp h.ne h.lt.2.1), hc, h.ne, fun p hp => ((h.rows p hp).keep fun k hk => hs k (hk.off h).2.1 hk.lt).more fun k hk => hk.kept (hs k (hk.off h).2.1 hk.lt)⟩
/-- The pictures are turned. -/
theorem ShAt.turnP (h : ShAt w g bp bc P C) {P' : PMapS} (hp : IMapAt w' bp (kmap rowSV P')) (hg : w.grownBy w' (some bp)) (hr : ∀ p ∈ P', p ∈ P ∨ SlA strE (StrRow w) w p.2.A p.2.cap p.2.xs) : ShAt w' g bp bc P' C := by
  have hs : ∀ k, k ≠ bp → k < w.heap.size → w'.heap[k]? = w.heap[k]? := fun k hk hl => hg.block k hl fun e => hk (Option.some.inj e)
  refine ⟨(hs g h.g_bp h.lt.1).trans h.obj, hp, h.counts.keep (hs bc h.ne.symm h.lt.2.2), h.ne, fun p hp => ?_⟩
  have h1 : SlA strE (StrRow w) w p.2.A p.2.cap p.2.xs := (hr p hp).elim (h.rows p) id
  exact (h1.keep fun k hk => hs k (hk.off h).1 hk.lt).more fun k hk => hk.kept (hs k (hk.off h).1 hk.lt)
end
theorem pics_t : Tryd.prog.underlying 46 = some (.map 3 28) := Tryd.underlying46
theorem counts_t : Tryd.prog.underlying 47 = some (.map 9 3) := Tryd.underlying47

theorem share_new (w : World) : Calls Tryd.prog 5 #[] w fun e w' => ∃ g bp bc, e = .returned (.pointer (some ⟨g, 0, none⟩)) ∧ ShAt w' g bp bc [] [] ∧ w.heap.size ≤ g ∧ w.heap.size ≤ bp ∧ w.heap.size ≤ bc ∧ Below w.heap.size w w' := by
  have hmm := @run_makeMap Tryd.prog
  go_enter Tryd.func5, Tryd.ntmps5
  go_wp2_with fail
  go_ret
  refine ⟨w.heap.size + 2, w.heap.size, w.heap.size + 1, by simp, ⟨?_, ?_, ?_, by omega, nofun⟩, by omega, by omega, by omega, (((Below.refl _ _).alloc (Nat.le_refl _) _).alloc (by simp) _).alloc (by simp; omega) _⟩
  · have := heap_alloc_new ((w.alloc (.map #[] 0)).alloc (.map #[] 0)) (.cells #[.map (some w.heap.size), .map (some (w.heap.size + 1))] 49)
    have e : ((w.alloc (.map #[] 0)).alloc (.map #[] 0)).heap.size = w.heap.size + 2 := by simp
    rw [e] at this
    exact this
  · exact (IMapAt.made w).keep ((Below.heap_alloc _ _ _ (by simp; omega)).trans (Below.heap_alloc _ _ _ (by simp)))
  · have h := SMapAt.made (w.alloc (.map #[] 0))
    have e : (w.alloc (.map #[] 0)).heap.size = w.heap.size + 1 := by simp
    rw [e] at h
    exact h.keep (Below.heap_alloc _ _ _ (by simp))
set_option maxRecDepth 100000 in
theorem count_ok (g bp bc : Nat) (P : PMapS) (C : CMap) (f : ByteArray) (w : World) (S : ShAt w g bp bc P C) (hf : f.size ≤ maxLen) :
    Calls Tryd.prog 7 #[.pointer (some ⟨g, 0, none⟩), .string f] w fun e w' => e = .returned (.int .i64 (cget C f)) ∧ w' = w := by
  obtain ⟨c0, c1⟩ := S.cells
  have hl := S.counts.get (P := Tryd.prog) Tryd.underlying9 counts_t (by kernel_rfl) hf
  rw [show (kget C f).getD 0 = cget C f from rfl] at hl
  generalize cget C f = n at hl
  clear S hf
  go_enter Tryd.func7, Tryd.ntmps7
  go_wp2_with fail
  go_ret
  exact ⟨rfl, rfl⟩
end Go.Proofs.YthobnigjhedjaaaDoor
