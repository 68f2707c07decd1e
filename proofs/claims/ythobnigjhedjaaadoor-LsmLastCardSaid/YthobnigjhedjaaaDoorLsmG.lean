/-
  Package lsm: what the stores of Flush leave of a store in memory. No condition: plain lemmas.
-/
import Derived.Test.YthobnigjhedjaaaDoorLsmFlush
namespace Go.Proofs.YthobnigjhedjaaaDoor
open Go.RowKit Go.ChangeShapes Go.WideShapes
open Go.Sort hiding Below
set_option linter.unusedVariables false

/-- A store in memory, but for what its lists hold. -/
structure LsmG (w : World) (g bf : Nat) (A1 : Option Addr) (c1 n1 : Nat) (tvs : List Value) (A2 : Option Addr) (c2 n2 : Nat) (lvs : List Value) (limit : Nat) (F : EMap) : Prop where
  obj : w.heap[g]? = some (.cells #[.int .i64 (limit : Int), .map (some bf), .slice A1 n1 c1, .slice A2 n2 c2] 78 (0, 0))
  fresh : FAt w bf F
  tabs : OwnS w 70 1 A1 c1 n1 tvs
  lists : OwnS w 68 1 A2 c2 n2 lvs
section
variable {w w' : World} {g bf : Nat} {A1 : Option Addr} {c1 n1 : Nat} {tvs : List Value} {A2 : Option Addr} {c2 n2 : Nat} {lvs : List Value} {limit : Nat} {F : EMap}
theorem LsmG.keep (h : LsmG w g bf A1 c1 n1 tvs A2 c2 n2 lvs limit F) (hs : ∀ k, k < w.heap.size → w'.heap[k]? = w.heap[k]?) : LsmG w' g bf A1 c1 n1 tvs A2 c2 n2 lvs limit F :=
  ⟨(hs g (block_lt h.obj)).trans h.obj, h.fresh.keep (hs bf h.fresh.lt), h.tabs.keep fun k hk => hs k (h.tabs.lt k hk), h.lists.keep fun k hk => hs k (h.lists.lt k hk)⟩
theorem own_ne_cells {w : World} {e t : TypeId} {A : Option Addr} {cap n : Nat} {xs : List Value} (h : OwnS w e 1 A cap n xs) {k : Nat} {cs : Array Value} {fr : Nat × Nat} (hk : w.heap[k]? = some (.cells cs t fr)) (ht : t ≠ e) : blk A ≠ some k := fun e1 => by
  obtain ⟨cur, hc⟩ : ∃ cur, w.heap[k]? = some (.cells cur e (0, 0)) := by
    rcases h.2.2.2 with ⟨rfl, _⟩ | ⟨g, off, cur, rfl, hh, _⟩
    · cases e1
    · injection e1 with e1; subst e1; exact ⟨_, hh⟩
  rw [hk] at hc
  injection hc with hc
  injection hc with _ hc _
  exact ht hc
theorem LsmG.no (h : LsmG w g bf A1 c1 n1 tvs A2 c2 n2 lvs limit F) : g ≠ bf ∧ blk A1 ≠ some g ∧ blk A2 ≠ some g ∧ blk A1 ≠ some bf ∧ blk A2 ≠ some bf ∧ ∀ k, blk A1 = some k → blk A2 ≠ some k := by
  refine ⟨fun e => h.fresh.not_cells (e ▸ h.obj), own_ne_cells h.tabs h.obj (by decide), own_ne_cells h.lists h.obj (by decide), fun e => ?_, fun e => ?_, fun k hk => ?_⟩
  · rcases h.tabs.2.2.2 with ⟨rfl, _⟩ | ⟨g', off, cur, rfl, hh, _⟩
    · cases e
    · injection e with e; subst e; exact h.fresh.not_cells hh
  · rcases h.lists.2.2.2 with ⟨rfl, _⟩ | ⟨g', off, cur, rfl, hh, _⟩
    · cases e
    · injection e with e; subst e; exact h.fresh.not_cells hh
  · rcases h.tabs.2.2.2 with ⟨rfl, _⟩ | ⟨g', off, cur, rfl, hh, _⟩
    · cases hk
    · injection hk with hk; subst hk; exact own_ne_cells h.lists hh (by decide)
theorem LsmG.tab (h : LsmG w g bf A1 c1 n1 tvs A2 c2 n2 lvs limit F) {A : Option Addr} {c n : Nat} {vs : List Value} (hg : w.grownBy w' (blk A1)) (ho : OwnS w' 70 1 A c n vs) (hat : blk A = blk A1 ∨ ∃ k, blk A = some k ∧ w.heap.size ≤ k) :
    LsmG (w'.setCell ⟨g, 2, none⟩ (.slice A n c)) g bf A c n vs A2 c2 n2 lvs limit F ∧ ∀ k, k < w.heap.size → k ≠ g → blk A1 ≠ some k → (w'.setCell ⟨g, 2, none⟩ (.slice A n c)).heap[k]? = w.heap[k]? := by
  obtain ⟨n1, n2, n3, n4, n5, n6⟩ := h.no
  obtain ⟨h1, h2⟩ := field_store (i := 2) h.obj n2 hg (.slice A n c)
  refine ⟨⟨by simpa using h1, h.fresh.keep (h2 bf h.fresh.lt (Ne.symm n1) n4), ho.setFar (fun e => ?_) _, h.lists.keep fun k hk => h2 k (h.lists.lt k hk) (fun e => n3 (e ▸ hk)) (fun e => n6 k e hk)⟩, h2⟩
  simp only at e
  rcases hat with h3 | ⟨k, h3, h4⟩
  · exact n2 (h3 ▸ e)
  · rw [h3] at e; injection e with e; have := block_lt h.obj; omega
theorem LsmG.lst (h : LsmG w g bf A1 c1 n1 tvs A2 c2 n2 lvs limit F) {A : Option Addr} {c n : Nat} {vs : List Value} (hg : w.grownBy w' (blk A2)) (ho : OwnS w' 68 1 A c n vs) (hat : blk A = blk A2 ∨ ∃ k, blk A = some k ∧ w.heap.size ≤ k) :
    LsmG (w'.setCell ⟨g, 3, none⟩ (.slice A n c)) g bf A1 c1 n1 tvs A c n vs limit F ∧ ∀ k, k < w.heap.size → k ≠ g → blk A2 ≠ some k → (w'.setCell ⟨g, 3, none⟩ (.slice A n c)).heap[k]? = w.heap[k]? := by
  obtain ⟨n1, n2, n3, n4, n5, n6⟩ := h.no
  obtain ⟨h1, h2⟩ := field_store (i := 3) h.obj n3 hg (.slice A n c)
  refine ⟨⟨by simpa using h1, h.fresh.keep (h2 bf h.fresh.lt (Ne.symm n1) n5), h.tabs.keep fun k hk => h2 k (h.tabs.lt k hk) (fun e => n2 (e ▸ hk)) (fun e => n6 k hk e), ho.setFar (fun e => ?_) _⟩, h2⟩
  simp only at e
  rcases hat with h3 | ⟨k, h3, h4⟩
  · exact n3 (h3 ▸ e)
  · rw [h3] at e; injection e with e; have := block_lt h.obj; omega
theorem LsmG.turn (h : LsmG w g bf A1 c1 n1 tvs A2 c2 n2 lvs limit F) {F' : EMap} (hg : w.grownBy w' (some bf)) (hF : FAt w' bf F') : LsmG w' g bf A1 c1 n1 tvs A2 c2 n2 lvs limit F' := by
  obtain ⟨n1, n2, n3, n4, n5, n6⟩ := h.no
  exact ⟨(hg.block g (block_lt h.obj) (fun e => n1 (Option.some.inj e))).trans h.obj, hF, h.tabs.keep fun k hk => hg.block k (h.tabs.lt k hk) (fun e => n4 (e ▸ hk)), h.lists.keep fun k hk => hg.block k (h.lists.lt k hk) (fun e => n5 (e ▸ hk))⟩
theorem LsmG.fz (h : LsmG w g bf A1 c1 n1 tvs A2 c2 n2 lvs limit F) : ∀ i, w.frozen? ⟨g, i, none⟩ = false := fun i => by simp [World.frozen?, h.obj]
theorem LsmG.cells (h : LsmG w g bf A1 c1 n1 tvs A2 c2 n2 lvs limit F) : w.cell? ⟨g, 0, none⟩ = some (.int .i64 (limit : Int)) ∧ w.cell? ⟨g, 1, none⟩ = some (.map (some bf)) ∧ w.cell? ⟨g, 2, none⟩ = some (.slice A1 n1 c1) ∧ w.cell? ⟨g, 3, none⟩ = some (.slice A2 n2 c2) :=
  ⟨(cell_of_row w g 0 _ _ _ h.obj).trans rfl, (cell_of_row w g 1 _ _ _ h.obj).trans rfl, (cell_of_row w g 2 _ _ _ h.obj).trans rfl, (cell_of_row w g 3 _ _ _ h.obj).trans rfl⟩
end
theorem LsmAt.g {B : Nat} {w : World} {g bf : Nat} {A1 : Option Addr} {c1 : Nat} {tvs : List Value} {A2 : Option Addr} {c2 : Nat} {lvs : List Value} {limit : Nat} {F : EMap} {L : List (List Ent)} (h : LsmAt B w g bf A1 c1 tvs A2 c2 lvs limit F L) : LsmG w g bf A1 c1 L.length tvs A2 c2 L.length lvs limit F := ⟨h.obj, h.fresh, h.tabs, h.lists⟩
theorem EntRow.ne_obj {w : World} {g bf : Nat} {A1 : Option Addr} {c1 n1 : Nat} {tvs : List Value} {A2 : Option Addr} {c2 n2 : Nat} {lvs : List Value} {limit : Nat} {F : EMap} (h : LsmG w g bf A1 c1 n1 tvs A2 c2 n2 lvs limit F) {k : Nat} (hk : EntRow w k) : k ≠ g ∧ k ≠ bf ∧ blk A1 ≠ some k ∧ blk A2 ≠ some k := by
  obtain ⟨cs, fr, hk⟩ := hk
  refine ⟨fun e => ?_, fun e => h.fresh.not_cells (e ▸ hk), own_ne_cells h.tabs hk (by decide), own_ne_cells h.lists hk (by decide)⟩
  subst e
  exact EntRow.not h.obj (by decide) ⟨cs, fr, hk⟩
end Go.Proofs.YthobnigjhedjaaaDoor
