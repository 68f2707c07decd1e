/-
  Words of my own: rows of bytes that a call appends onto one another, in whatever order, beside one block that is read ('BI'). No condition: plain definitions and lemmas over any program.
-/
import Derived.Test.YthobnigjhedjaaaDoorForest
namespace Go.Proofs.YthobnigjhedjaaaDoor
open Go.RowKit Go.ChangeShapes Go.WideShapes
set_option linter.unusedVariables false

/-- The rows, each in a block of its own behind 'base'; block Bx, that holds o; and nothing ahead of 'base' has turned since w. -/
structure BI (w : World) (base Bx : Nat) (o : Obj) (W : World) (rs : List ORow) : Prop where
  F : Forest W rs
  box : W.heap[Bx]? = some o
  bel : Below base w W
  far : ∀ k, forF rs k → base ≤ k ∧ k ≠ Bx
theorem BI.size {w W : World} {base Bx : Nat} {o : Obj} {rs : List ORow} (h : BI w base Bx o W rs) (hb : base ≤ w.heap.size) : base ≤ W.heap.size := Nat.le_trans hb h.bel.size
theorem BI.drew {w W : World} {base Bx : Nat} {o : Obj} {rs : List ORow} (h : BI w base Bx o W rs) : BI w base Bx o W.drew rs := ⟨h.F.keep fun _ _ => rfl, h.box, h.bel.drew, h.far⟩
theorem Forest.addNew {W W' : World} {b r : ORow} {rs : List ORow} (h : Forest W (b :: rs)) (hbel : Below W.heap.size W W') (hr : r.At W') (hn : ∀ k, blk r.A = some k → W.heap.size ≤ k) : Forest W' (b :: r :: rs) := by
  have h1 := h.below hbel
  have hsep : ∀ s ∈ b :: rs, Sep s.A r.A := fun s hs k e e2 => by
    have := (h.at_ s hs).lt k e
    have := hn k e2
    omega
  refine ⟨fun s hs => ?_, ?_⟩
  · rcases List.mem_cons.1 hs with rfl | hs
    · exact h1.at_ _ (by simp)
    · rcases List.mem_cons.1 hs with rfl | hs
      · exact hr
      · exact h1.at_ s (List.mem_cons_of_mem _ hs)
  · have h2 := List.pairwise_cons.1 h.sep
    refine List.pairwise_cons.2 ⟨fun s hs => ?_, List.pairwise_cons.2 ⟨fun s hs => (hsep s (List.mem_cons_of_mem _ hs)).symm, h2.2⟩⟩
    rcases List.mem_cons.1 hs with rfl | hs
    · exact hsep b (by simp)
    · exact h2.1 s hs
/-- A row that a callee has made. -/
theorem BI.add {w W W' : World} {base Bx : Nat} {o : Obj} {b : ORow} {rs : List ORow} (h : BI w base Bx o W (b :: rs)) (hb : base ≤ w.heap.size) (hbel : Below W.heap.size W W') {r : ORow} (hr : r.At W') (hn : ∀ k, blk r.A = some k → W.heap.size ≤ k) :
    BI w base Bx o W' (b :: r :: rs) := by
  have hs := h.size hb
  have hbx := block_lt h.box
  refine ⟨h.F.addNew hbel hr hn, (hbel.block Bx hbx).trans h.box, h.bel.trans (hbel.mono hs), ?_⟩
  rintro k ⟨s, hs', e⟩
  rcases List.mem_cons.1 hs' with rfl | hs'
  · exact h.far k ⟨_, by simp, e⟩
  · rcases List.mem_cons.1 hs' with rfl | hs'
    · have := hn k e; omega
    · exact h.far k ⟨s, List.mem_cons_of_mem _ hs', e⟩
theorem OwnS.lit {W : World} {e : TypeId} (xs : List Value) : OwnS (W.alloc (.cells xs.toArray e)) e 1 (some ⟨W.heap.size, 0, none⟩) xs.length xs.length xs ∨ ¬ xs.length ≤ maxLen := by
  by_cases h : xs.length ≤ maxLen
  · refine .inl ⟨by simp, Nat.le_refl _, h, .inr ⟨W.heap.size, 0, xs.toArray, rfl, heap_alloc_new W _, by simp, fun j u hj => by simpa using hj⟩⟩
  · exact .inr h
/-- A row that is laid as it stands: one cell. -/
theorem BI.one {w W : World} {base Bx : Nat} {o : Obj} {b : ORow} {rs : List ORow} (h : BI w base Bx o W (b :: rs)) (hb : base ≤ w.heap.size) (e : TypeId) (v : Value) :
    BI w base Bx o (W.alloc (.cells #[v] e)) (b :: ⟨e, 1, some ⟨W.heap.size, 0, none⟩, 1, 1, [v]⟩ :: rs) := by
  refine h.add hb ((Below.refl _ _).alloc (Nat.le_refl _) _) ?_ (fun k e => by simp [blk] at e; omega)
  rcases OwnS.lit (W := W) (e := e) [v] with h1 | h1
  · exact h1
  · exact absurd (show ([v] : List Value).length ≤ maxLen by simp [maxLen]) h1
/-- The first row's append of another row. -/
theorem step_append_B {P : Program} {ops : Array Oper} {o : Oper} {a : Act} {K : Act → World → Prop} {Q : Exit → Act → World → Prop} {E : Prop} {w W : World} {base Bx : Nat} {ob : Obj} (hgd : o.guard = none) (s x : Operand) (t : TypeId)
    (ho : o.op = .call { callee := .builtin .append, args := #[s, x], argTypes := #[t, t] })
    (e : TypeId) (z : Value) (bytes : Nat) (ht : P.underlying t = some (.slice e))
    (hinfo : (P.info? e).map (fun i => (i.zero, i.size, i.bytes)) = some (some z, 1, bytes)) (hzs : z.cells.size = 1)
    {A Ar : Option Addr} {cap n capr m : Nat} {xs ys : List Value} {rs : List ORow} (hI : BI w base Bx ob W (⟨e, 1, A, cap, n, xs⟩ :: rs)) (hb : base ≤ w.heap.size) (hs : a.eval s = .slice A n cap)
    (hr : (⟨e, 1, Ar, capr, m, ys⟩ : ORow) ∈ rs) (hx : a.eval x = .slice Ar m capr) (h1 : ∀ u ∈ ys, u.oneCell' = true)
    (h63 : n + m ≤ maxLen) (hbytes : (n + m) * bytes ≤ 140737488355328)
    (h : ∀ A' cap' W', BI w base Bx ob W' (⟨e, 1, A', cap', n + m, xs ++ ys⟩ :: rs) → K (a.put o.dst (.slice A' (n + m) cap')) W') :
    if Region.wanted o (yielded ops a.tmps) = true then Oper.wp P o a W K Q else E := by
  have hrow : OwnS W e 1 Ar capr m ys := hI.F.at_ _ (List.mem_cons_of_mem _ hr)
  have hsrc : Src P 1 t (.slice Ar m capr) m ys W := by
    obtain ⟨q1, q2, q3, q4⟩ := hrow
    rcases q4 with ⟨rfl, h0⟩ | ⟨g, off, cur, rfl, hh, hc, hrr⟩
    · have hm : m = 0 := by omega
      subst hm; subst h0
      have hy : ys = [] := List.eq_nil_of_length_eq_zero (by simpa using q1)
      subst hy
      exact Src.ofNil W ht 0
    · exact Src.ofSlice _ ht _ m capr ys q1 (fun j u hj => by rw [add_plain]; exact (cell_of_row W g (off + j) cur e (0, 0) hh).trans (hrr j u hj)) h1
  refine step_append_S hgd s x t t ho e z 1 bytes ht hinfo hzs (by decide) A cap n xs hs hI.F.head _ hx m ys hsrc h63 hbytes ?_
  intro A' cap' w' hown hg hat
  have hat' : blk A' = blk A ∨ blk A' = none ∨ ∃ k, blk A' = some k ∧ W.heap.size ≤ k := by
    rcases hat with h1 | h1
    · exact .inl h1
    · exact .inr (.inr ⟨_, h1, Nat.le_refl _⟩)
  have hsz := hI.size hb
  have hbx := block_lt hI.box
  have hme : ∀ k, blk A = some k → forF (⟨e, 1, A, cap, n, xs⟩ :: rs) k := fun k h => ⟨⟨e, 1, A, cap, n, xs⟩, List.mem_cons_self, h⟩
  refine h A' cap' w' ⟨hI.F.turn hown hg hat', (hg.block Bx hbx (fun e => (hI.far Bx (hme Bx e.symm)).2 rfl)).trans hI.box, hI.bel.grown hg hsz (fun k e => (hI.far k (hme k e)).1), ?_⟩
  intro k hk
  rcases forF_turn (r := ⟨e, 1, A, cap, n, xs⟩) (r' := ⟨e, 1, A', cap', n + m, xs ++ ys⟩) hat' hk with h1 | h1
  · exact hI.far k h1
  · omega
end Go.Proofs.YthobnigjhedjaaaDoor
