/-
  Words of my own for memory that a call's own objects own: which blocks may have turned ('Frm'); a slice whose backing row is owned, wherever it begins ('OwnS'), and append onto it. No condition: plain definitions and lemmas over any program.
-/
import Derived.Test.YthanjafbgcljgaaGreatDoorBase
namespace Go.Proofs.YthanjafbgcljgaaGreatDoor
open Go.RowKit Go.ChangeShapes Go.WideShapes
set_option linter.unusedVariables false

/-- From w to w' only blocks in F, and new ones, have turned. -/
structure Frm (F : Nat → Prop) (w w' : World) : Prop where
  os : w'.os = w.os
  tape : w'.tape = w.tape
  output : w'.output = w.output
  size : w.heap.size ≤ w'.heap.size
  block : ∀ k, k < w.heap.size → ¬ F k → w'.heap[k]? = w.heap[k]?
theorem Frm.refl (F : Nat → Prop) (w : World) : Frm F w w := ⟨rfl, rfl, rfl, Nat.le_refl _, fun _ _ _ => rfl⟩
theorem Frm.trans {F F' G : Nat → Prop} {a b c : World} (h : Frm F a b) (h' : Frm F' b c) (h1 : ∀ k, F k → G k) (h2 : ∀ k, F' k → G k ∨ a.heap.size ≤ k) : Frm G a c :=
  ⟨h'.os.trans h.os, h'.tape.trans h.tape, h'.output.trans h.output, Nat.le_trans h.size h'.size, fun k hk hn => (h'.block k (Nat.lt_of_lt_of_le hk h.size) (fun hf => by rcases h2 k hf with h3 | h3; exact hn h3; omega)).trans (h.block k hk (fun hf => hn (h1 k hf)))⟩
theorem Frm.less {F G : Nat → Prop} {a b : World} (h : Frm F a b) (h1 : ∀ k, F k → G k ∨ a.heap.size ≤ k) : Frm G a b :=
  ⟨h.os, h.tape, h.output, h.size, fun k hk hn => h.block k hk (fun hf => by rcases h1 k hf with h3 | h3; exact hn h3; omega)⟩
theorem Frm.ofBelow {F : Nat → Prop} {w w' : World} (h : Below w.heap.size w w') : Frm F w w' := ⟨h.os, h.tape, h.output, h.size, fun k hk _ => h.block k hk⟩
theorem Frm.below {F : Nat → Prop} {w w' : World} {B : Nat} (h : Frm F w w') (hB : B ≤ w.heap.size) (hF : ∀ k, F k → B ≤ k) : Below B w w' := ⟨h.os, h.tape, h.output, h.size, fun k hk => h.block k (by omega) (fun hf => by have := hF k hf; omega)⟩
theorem Frm.same {F G : Nat → Prop} {w w' : World} (h : Frm F w w') (hlt : ∀ k, G k → k < w.heap.size) (hd : ∀ k, G k → ¬ F k) : Same G w w' := fun k hk => h.block k (hlt k hk) (hd k hk)
theorem Frm.ofGrown {F : Nat → Prop} {w w' : World} {row : Option Nat} (h : w.grownBy w' row) (hr : ∀ k, row = some k → F k) : Frm F w w' := ⟨h.os, h.tape, h.output, h.size, fun k hk hn => h.block k hk (fun e => hn (hr k e.symm))⟩
theorem Frm.setCell {F : Nat → Prop} {a w : World} (h : Frm F a w) {p : Addr} (hp : F p.block ∨ a.heap.size ≤ p.block) (u : Value) : Frm F a (w.setCell p u) :=
  ⟨h.os, h.tape, h.output, by show _ ≤ (w.setCell p u).heap.size; simp [World.setCell]; exact h.size, fun k hk hn => (Below.heap_setCell w p u k (fun e => by subst e; rcases hp with h3 | h3; exact hn h3; omega)).trans (h.block k hk hn)⟩
theorem Frm.alloc {F : Nat → Prop} {a w : World} (h : Frm F a w) (o : Obj) : Frm F a (w.alloc o) :=
  ⟨h.os, h.tape, h.output, by have := h.size; simp; omega, fun k hk hn => (Below.heap_alloc w o k (Nat.lt_of_lt_of_le hk h.size)).trans (h.block k hk hn)⟩
theorem Frm.drew {F : Nat → Prop} {a w : World} (h : Frm F a w) : Frm F a w.drew := ⟨h.os, h.tape, h.output, h.size, h.block⟩
theorem Frm.drewN {F : Nat → Prop} {a w : World} (h : Frm F a w) (q : Nat) : Frm F a (w.drewN q) := ⟨h.os, h.tape, h.output, h.size, h.block⟩

/-- The block that a slice lies in. -/
def blk (A : Option Addr) : Option Nat := A.map (·.block)

/-- The slice value '.slice A n cap' holds the cells xs, and its backing row is a whole block of elements e that may be written. -/
def OwnS (w : World) (e : TypeId) (size : Nat) (A : Option Addr) (cap n : Nat) (xs : List Value) : Prop :=
  xs.length = n * size ∧ n ≤ cap ∧ cap ≤ maxLen ∧
  ((A = none ∧ cap = 0) ∨ ∃ g off cur, A = some ⟨g, off, none⟩ ∧ w.heap[g]? = some (.cells cur e (0, 0)) ∧ off + cap * size ≤ cur.size ∧ ∀ j u, xs[j]? = some u → cur[off + j]? = some u)

theorem OwnS.nil (w : World) (e : TypeId) (size : Nat) : OwnS w e size none 0 0 [] := ⟨by simp, Nat.le_refl _, Nat.zero_le _, .inl ⟨rfl, rfl⟩⟩
theorem OwnS.lt {w : World} {e : TypeId} {size cap n : Nat} {A : Option Addr} {xs : List Value} (h : OwnS w e size A cap n xs) : ∀ k, blk A = some k → k < w.heap.size := by
  intro k hk
  rcases h.2.2.2 with ⟨rfl, _⟩ | ⟨g, off, cur, rfl, hh, _⟩
  · cases hk
  · injection hk with hk; subst hk; exact block_lt hh
theorem OwnS.keep {w w' : World} {e : TypeId} {size cap n : Nat} {A : Option Addr} {xs : List Value} (h : OwnS w e size A cap n xs) (hk : ∀ k, blk A = some k → w'.heap[k]? = w.heap[k]?) : OwnS w' e size A cap n xs := by
  obtain ⟨h1, h2, h3, h4⟩ := h
  refine ⟨h1, h2, h3, ?_⟩
  rcases h4 with h4 | ⟨g, off, cur, rfl, hh, r⟩
  · exact .inl h4
  · exact .inr ⟨g, off, cur, rfl, (hk g rfl).trans hh, r⟩
theorem OwnS.grown {w w' : World} {e : TypeId} {size cap n : Nat} {A : Option Addr} {xs : List Value} (h : OwnS w e size A cap n xs) {row : Option Nat} (hg : w.grownBy w' row) (hne : ∀ k, blk A = some k → row ≠ some k) : OwnS w' e size A cap n xs :=
  h.keep fun k hk => hg.block k (h.lt k hk) (fun e => hne k hk e.symm)
/-- The elements read. -/
theorem OwnS.sl {α : Type} {E : Elt α} {w : World} {e : TypeId} {A : Option Addr} {cap n : Nat} {l : List α} (f : α → List Value) (hf : ∀ x, (f x).length = E.sz) (h : OwnS w e E.sz A cap n (l.flatMap f)) (hn : n = l.length)
    {F : Nat → Prop} (hF : ∀ k, blk A = some k → F k) (hR : ∀ x ∈ l, E.R F w (f x) x) : SlA E F w A cap l := by
  obtain ⟨h1, h2, h3, h4⟩ := h
  refine ⟨by omega, h3, fun i x hx => ?_⟩
  have hi : i < l.length := by
    rcases Nat.lt_or_ge i l.length with h | h
    · exact h
    · rw [List.getElem?_eq_none h] at hx; cases hx
  rcases h4 with ⟨rfl, h0⟩ | ⟨g, off, cur, rfl, hh, hc, hr⟩
  · omega
  · refine ⟨g, off, f x, rfl, hF g rfl, fun j u hj => ?_, hR x (List.mem_of_getElem? hx)⟩
    have hjl : j < E.sz := by
      rcases Nat.lt_or_ge j (f x).length with h | h
      · rw [hf] at h; exact h
      · rw [List.getElem?_eq_none h] at hj; cases hj
    have h5 := cell_of_row w g (off + (i * E.sz + j)) cur e (0, 0) hh
    rw [h5]
    exact hr _ u (by rw [flat_get f E.sz hf l hx hjl]; exact hj)
theorem OwnS.of_row {w : World} {base : Nat} {e : TypeId} {size n : Nat} {v : Value} {xs : List Value} (h : w.ownsRow base e size v n xs) : ∃ A cap, v = .slice A n cap ∧ OwnS w e size A cap n xs ∧ ∀ k, blk A = some k → base ≤ k := by
  obtain ⟨h1, h2⟩ := h
  rcases h2 with ⟨rfl, rfl⟩ | ⟨g, cap, cur, rfl, hb, hh, hnc, hcm, hcs, ht⟩
  · exact ⟨none, 0, rfl, ⟨h1, Nat.le_refl _, Nat.zero_le _, .inl ⟨rfl, rfl⟩⟩, fun k hk => by cases hk⟩
  · refine ⟨_, cap, rfl, ⟨h1, hnc, hcm, .inr ⟨g, 0, cur, rfl, hh, by omega, fun j u hj => ?_⟩⟩, fun k hk => by simp [blk] at hk; omega⟩
    rw [← ht] at hj
    rw [List.getElem?_take] at hj
    split at hj
    · rw [Nat.zero_add]; simpa using hj
    · cases hj

/-- append, of whatever. -/
theorem run_append_S {P : Program} (w : World) (t tx ty e : TypeId) (z : Value) (size bytes : Nat) (ht : P.underlying t = some (.slice e))
    (hinfo : (P.info? e).map (fun i => (i.zero, i.size, i.bytes)) = some (some z, size, bytes)) (hzs : z.cells.size = size) (hsz : 0 < size)
    (A : Option Addr) (cap n : Nat) (xs : List Value) (hown : OwnS w e size A cap n xs) (x : Value) (m : Nat) (news : List Value) (hs : Src P size tx x m news w)
    (h63 : n + m ≤ maxLen) (hbytes : (n + m) * bytes ≤ 140737488355328) :
    ∃ A' cap' w', (Builtin.append_ #[t, tx] ty #[.slice A n cap, x]).run P w = .ok (.slice A' (n + m) cap') w' ∧ OwnS w' e size A' cap' (n + m) (xs ++ news) ∧ w.grownBy w' (blk A) ∧ (blk A' = blk A ∨ blk A' = some w.heap.size) := by
  obtain ⟨i, hi, hz, rfl, rfl⟩ := info_parts hinfo
  have hsmall : n + m ≤ 9223372036854775807 := by simp only [maxLen] at h63; omega
  obtain ⟨h1, h2, h3, h4⟩ := hown
  have hlen : (xs ++ news).length = (n + m) * i.size := by rw [List.length_append, h1, hs.newsLen, Nat.add_mul]
  by_cases hroom : n + m ≤ cap
  · rcases h4 with ⟨rfl, h0⟩ | ⟨g, off, cur, rfl, hh, hcs, hr⟩
    · have hn0 : n = 0 := by omega
      have hm0 : m = 0 := by omega
      subst hn0; subst hm0; subst h0
      have hx : xs = [] := List.eq_nil_of_length_eq_zero (by simpa using h1)
      have hnw : news = [] := List.eq_nil_of_length_eq_zero (by simpa using hs.newsLen)
      subst hx; subst hnw
      refine ⟨none, 0, w, ?_, OwnS.nil w e i.size, ⟨rfl, rfl, rfl, Nat.le_refl _, fun _ _ _ => rfl⟩, Or.inl rfl⟩
      have hc := hs.cells
      rcases hs.kind with ⟨e', hk⟩ | hk <;> simp [Builtin.append_, run_underlying ht, run_underlying hk, sizeOf, typeInfo, hi, hs.len, hc]
    · have hfit : off + n * i.size + news.length ≤ cur.size := by
        rw [hs.newsLen]
        have := Nat.mul_le_mul_right i.size hroom
        rw [Nat.add_mul] at this
        omega
      have hst := run_storeCells_at P g (off + n * i.size) e news 0 cur w hh (by simpa using hfit) hs.one
      simp only [Nat.add_zero] at hst
      have hc := hs.cells
      have hrun : (Builtin.append_ #[t, tx] ty #[.slice (some ⟨g, off, none⟩) n cap, x]).run P w =
          .ok (.slice (some ⟨g, off, none⟩) (n + m) cap) (w.setRow g (cur.toList.take (off + n * i.size) ++ news ++ cur.toList.drop (off + n * i.size + news.length)).toArray) := by
        have ha : (⟨g, off, none⟩ : Addr).add (n * i.size) = ⟨g, off + n * i.size, none⟩ := add_plain _ _ _
        rcases hs.kind with ⟨e', hk⟩ | hk <;> simp [Builtin.append_, run_underlying ht, run_underlying hk, sizeOf, typeInfo, hi, hs.len, hc, hroom, ha, hst]
      refine ⟨_, cap, _, hrun, ⟨hlen, hroom, h3, .inr ⟨g, off, _, rfl, setRow_heap w g cur _ e _ hh, ?_, ?_⟩⟩, ⟨rfl, rfl, rfl, by simp, fun k _ hk => setRow_other w g k _ (fun e => hk (by simp [blk, e]))⟩, Or.inl rfl⟩
      · simp only [List.size_toArray, List.length_append, List.length_take, List.length_drop, Array.length_toList]
        omega
      · intro j u hj
        simp only [List.getElem?_toArray]
        have hl1 : (cur.toList.take (off + n * i.size)).length = off + n * i.size := by rw [List.length_take, Array.length_toList]; omega
        by_cases hjx : j < xs.length
        · rw [List.getElem?_append_left hjx] at hj
          rw [List.append_assoc, List.getElem?_append_left (by rw [hl1]; omega), List.getElem?_take, if_pos (by omega)]
          have := hr j u hj
          simpa using this
        · rw [List.getElem?_append_right (by omega)] at hj
          rw [List.append_assoc, List.getElem?_append_right (by rw [hl1]; omega), hl1, show off + j - (off + n * i.size) = j - xs.length by omega]
          have hjl : j - xs.length < news.length := by
            rcases Nat.lt_or_ge (j - xs.length) news.length with h | h
            · exact h
            · rw [List.getElem?_eq_none h] at hj; cases hj
          rw [List.getElem?_append_left hjl]
          exact hj
  · have hge := grownCap_ge w (n + m) cap e
    have hcm : grownCap w (n + m) cap e ≤ maxLen := grownCap_le_maxLen w (n + m) cap e h63
    have hold : (Builtin.firstCells i.size n (.slice A n cap)).run P w.drew = .ok xs.toArray w.drew := by
      rcases h4 with ⟨rfl, h0⟩ | ⟨g, off, cur, rfl, hh, hcs, hr⟩
      · have hn0 : n = 0 := by omega
        subst hn0; subst h0
        have hx : xs = [] := List.eq_nil_of_length_eq_zero (by simpa using h1)
        subst hx
        simp [Builtin.firstCells]
      · refine run_firstCells_some (P := P) w.drew i.size n ⟨g, off, none⟩ n cap xs h1 (fun j u hj => ?_)
        rw [add_plain]
        exact (cell_of_row w g (off + j) cur e (0, 0) hh).trans (hr j u hj)
    have hr := run_append_grow_src (P := P) w t tx ty e i z ht hi hz A n cap xs hold x m news hs (by omega) (by omega) (growslice_fits (by omega) hbytes)
    refine ⟨_, _, _, hr, ⟨hlen, hge, hcm, .inr ⟨w.heap.size, 0, _, rfl, heap_alloc_new w.drew _, ?_, ?_⟩⟩, ⟨rfl, rfl, rfl, by simp, fun k hk _ => Below.heap_alloc w.drew _ k hk⟩, Or.inr rfl⟩
    · rw [Array.size_append, List.size_toArray, size_zeroCells, hzs, hlen, ← Nat.add_mul, Nat.zero_add]
      exact Nat.mul_le_mul_right _ (by omega)
    · intro j u hj
      have hjl : j < (xs ++ news).length := by
        rcases Nat.lt_or_ge j (xs ++ news).length with h | h
        · exact h
        · rw [List.getElem?_eq_none h] at hj; cases hj
      rw [Nat.zero_add, Array.getElem?_append_left (by simpa using hjl)]
      simpa using hj

/-- One element, laid in a new block first. -/
theorem run_push_S {P : Program} (w0 : World) (t ty e : TypeId) (z : Value) (size bytes : Nat) (ht : P.underlying t = some (.slice e))
    (hinfo : (P.info? e).map (fun i => (i.zero, i.size, i.bytes)) = some (some z, size, bytes)) (hzs : z.cells.size = size) (hsz : 0 < size)
    (A : Option Addr) (cap n : Nat) (xs : List Value) (hown : OwnS w0 e size A cap n xs) (news : List Value) (hl : news.length = size) (h1 : ∀ u ∈ news, u.oneCell' = true)
    (h63 : n + 1 ≤ maxLen) (hbytes : (n + 1) * bytes ≤ 140737488355328) :
    ∃ A' cap' w', (Builtin.append_ #[t, t] ty #[.slice A n cap, .slice (some ⟨w0.heap.size, 0, none⟩) 1 1]).run P (w0.alloc (.cells news.toArray e)) = .ok (.slice A' (n + 1) cap') w' ∧ OwnS w' e size A' cap' (n + 1) (xs ++ news) ∧ w0.grownBy w' (blk A) ∧
      (blk A' = blk A ∨ ∃ k, blk A' = some k ∧ w0.heap.size ≤ k) := by
  have hsrc : Src P size t (.slice (some ⟨w0.heap.size, 0, none⟩) 1 1) 1 news (w0.alloc (.cells news.toArray e)) := Src.ofSlice _ ht _ 1 1 news (by rw [hl, Nat.one_mul]) (cells_new w0 news e) h1
  obtain ⟨A', cap', w', hr, h2, h3, h5⟩ := run_append_S (P := P) (w0.alloc (.cells news.toArray e)) t t ty e z size bytes ht hinfo hzs hsz A cap n xs (hown.grown (World.grownBy_alloc w0 _ none) (fun _ _ => by simp)) _ 1 news hsrc h63 hbytes
  refine ⟨A', cap', w', hr, h2, (World.grownBy_alloc w0 _ _).trans h3, ?_⟩
  rcases h5 with h5 | h5
  · exact .inl h5
  · exact .inr ⟨_, h5, by simp⟩

theorem step_push_S {P : Program} {ops : Array Oper} {o : Oper} {a : Act} {K : Act → World → Prop} {Q : Exit → Act → World → Prop} {E : Prop} {w0 : World} (hgd : o.guard = none) (s x : Operand) (t : TypeId)
    (ho : o.op = .call { callee := .builtin .append, args := #[s, x], argTypes := #[t, t] })
    (e : TypeId) (z : Value) (size bytes : Nat) (ht : P.underlying t = some (.slice e))
    (hinfo : (P.info? e).map (fun i => (i.zero, i.size, i.bytes)) = some (some z, size, bytes)) (hzs : z.cells.size = size) (hsz : 0 < size)
    (A : Option Addr) (cap n : Nat) (xs : List Value) (hs : a.eval s = .slice A n cap) (hown : OwnS w0 e size A cap n xs) (news : List Value) (hx : a.eval x = .slice (some ⟨w0.heap.size, 0, none⟩) 1 1) (hl : news.length = size) (h1 : ∀ u ∈ news, u.oneCell' = true)
    (h63 : n + 1 ≤ maxLen) (hbytes : (n + 1) * bytes ≤ 140737488355328)
    (h : ∀ A' cap' w', OwnS w' e size A' cap' (n + 1) (xs ++ news) → w0.grownBy w' (blk A) → (blk A' = blk A ∨ ∃ k, blk A' = some k ∧ w0.heap.size ≤ k) → K (a.put o.dst (.slice A' (n + 1) cap')) w') :
    if Region.wanted o (yielded ops a.tmps) = true then Oper.wp P o a (w0.alloc (.cells news.toArray e)).drew K Q else E := by
  have hw : Region.wanted o (yielded ops a.tmps) = true := by simp [Region.wanted, hgd]
  rw [if_pos hw]
  obtain ⟨A', cap', w', hr, h2, h3, h5⟩ := run_push_S (P := P) w0.drew t o.type e z size bytes ht hinfo hzs hsz A cap n xs hown news hl h1 h63 hbytes
  have hr' : (Builtin.append_ #[t, t] o.type #[.slice A n cap, .slice (some ⟨w0.heap.size, 0, none⟩) 1 1]).run P (w0.alloc (.cells news.toArray e)).drew = .ok (.slice A' (n + 1) cap') w' := hr
  unfold Oper.wp execOp
  simp only [ho, resolve, invoke, builtin, Sem.run_bind, Sem.run_pure, Result.andThen_ok, List.map_toArray, List.map_cons, List.map_nil, hs, hx, hr']
  exact h A' cap' w' h2 ⟨h3.os, h3.tape, h3.output, h3.size, h3.block⟩ h5
theorem step_append_S {P : Program} {ops : Array Oper} {o : Oper} {a : Act} {K : Act → World → Prop} {Q : Exit → Act → World → Prop} {E : Prop} {w : World} (hgd : o.guard = none) (s x : Operand) (t tx : TypeId)
    (ho : o.op = .call { callee := .builtin .append, args := #[s, x], argTypes := #[t, tx] })
    (e : TypeId) (z : Value) (size bytes : Nat) (ht : P.underlying t = some (.slice e))
    (hinfo : (P.info? e).map (fun i => (i.zero, i.size, i.bytes)) = some (some z, size, bytes)) (hzs : z.cells.size = size) (hsz : 0 < size)
    (A : Option Addr) (cap n : Nat) (xs : List Value) (hs : a.eval s = .slice A n cap) (hown : OwnS w e size A cap n xs) (vx : Value) (hx : a.eval x = vx) (m : Nat) (news : List Value) (hsrc : Src P size tx vx m news w)
    (h63 : n + m ≤ maxLen) (hbytes : (n + m) * bytes ≤ 140737488355328)
    (h : ∀ A' cap' w', OwnS w' e size A' cap' (n + m) (xs ++ news) → w.grownBy w' (blk A) → (blk A' = blk A ∨ blk A' = some w.heap.size) → K (a.put o.dst (.slice A' (n + m) cap')) w') :
    if Region.wanted o (yielded ops a.tmps) = true then Oper.wp P o a w K Q else E := by
  have hw : Region.wanted o (yielded ops a.tmps) = true := by simp [Region.wanted, hgd]
  rw [if_pos hw]
  obtain ⟨A', cap', w', hr, h2, h3, h5⟩ := run_append_S (P := P) w t tx o.type e z size bytes ht hinfo hzs hsz A cap n xs hown vx m news hsrc h63 hbytes
  unfold Oper.wp execOp
  simp only [ho, resolve, invoke, builtin, Sem.run_bind, Sem.run_pure, Result.andThen_ok, List.map_toArray, List.map_cons, List.map_nil, hs, hx, hr]
  exact h A' cap' w' h2 h3 h5
theorem wpList_append_S {P : Program} {ops : Array Oper} {rest : List Oper} {o : Oper} {a : Act} {Q : Exit → Act → World → Prop} {w : World} (hgd : o.guard = none) (s x : Operand) (t tx : TypeId)
    (ho : o.op = .call { callee := .builtin .append, args := #[s, x], argTypes := #[t, tx] })
    (e : TypeId) (z : Value) (size bytes : Nat) (ht : P.underlying t = some (.slice e))
    (hinfo : (P.info? e).map (fun i => (i.zero, i.size, i.bytes)) = some (some z, size, bytes)) (hzs : z.cells.size = size) (hsz : 0 < size)
    (A : Option Addr) (cap n : Nat) (xs : List Value) (hs : a.eval s = .slice A n cap) (hown : OwnS w e size A cap n xs) (vx : Value) (hx : a.eval x = vx) (m : Nat) (news : List Value) (hsrc : Src P size tx vx m news w)
    (h63 : n + m ≤ maxLen) (hbytes : (n + m) * bytes ≤ 140737488355328)
    (h : ∀ A' cap' w', OwnS w' e size A' cap' (n + m) (xs ++ news) → w.grownBy w' (blk A) → (blk A' = blk A ∨ blk A' = some w.heap.size) → wpList P ops Q rest (a.put o.dst (.slice A' (n + m) cap')) w') :
    wpList P ops Q (o :: rest) a w := by
  refine wpList_plain hgd fun K hK => ?_
  obtain ⟨A', cap', w', hr, h2, h3, h5⟩ := run_append_S (P := P) w t tx o.type e z size bytes ht hinfo hzs hsz A cap n xs hown vx m news hsrc h63 hbytes
  unfold Oper.wp execOp
  simp only [ho, resolve, invoke, builtin, Sem.run_bind, Sem.run_pure, Result.andThen_ok, List.map_toArray, List.map_cons, List.map_nil, hs, hx, hr]
  exact hK _ _ (h A' cap' w' h2 h3 h5)

/-- A field stored behind an append: the object's block, and all others. -/
theorem field_store {w w1 : World} {g i : Nat} {cs : Array Value} {t : TypeId} {row : Option Nat} (hb : w.heap[g]? = some (.cells cs t (0, 0))) (hrow : row ≠ some g) (hg : w.grownBy w1 row) (v : Value) :
    (w1.setCell ⟨g, i, none⟩ v).heap[g]? = some (.cells (cs.setIfInBounds i v) t (0, 0)) ∧ ∀ k, k < w.heap.size → k ≠ g → row ≠ some k → (w1.setCell ⟨g, i, none⟩ v).heap[k]? = w.heap[k]? := by
  have h1 : w1.heap[g]? = some (.cells cs t (0, 0)) := (hg.block g (block_lt hb) (fun e => hrow e.symm)).trans hb
  refine ⟨by simp [World.setCell, Array.getElem?_modify, h1], fun k hk hkg hkr => ?_⟩
  rw [Below.heap_setCell _ _ _ _ (by simpa using hkg)]
  exact hg.block k hk (fun e => hkr e.symm)
theorem OwnS.setFar {w : World} {e : TypeId} {size cap n : Nat} {A : Option Addr} {xs : List Value} (h : OwnS w e size A cap n xs) {p : Addr} (hp : blk A ≠ some p.block) (u : Value) : OwnS (w.setCell p u) e size A cap n xs :=
  h.keep fun k hk => Below.heap_setCell _ _ _ _ (fun e => hp (by rw [hk, e]))
theorem size_setCell (w : World) (p : Addr) (u : Value) : (w.setCell p u).heap.size = w.heap.size := by simp [World.setCell]
theorem OwnS.cut {w : World} {e : TypeId} {size cap n g off k : Nat} {xs : List Value} (h : OwnS w e size (some ⟨g, off, none⟩) cap n xs) (hk : k ≤ n) : OwnS w e size (some ⟨g, off + k * size, none⟩) (cap - k) (n - k) (xs.drop (k * size)) := by
  obtain ⟨h1, h2, h3, h4⟩ := h
  refine ⟨by rw [List.length_drop, h1, Nat.sub_mul], by omega, by omega, ?_⟩
  rcases h4 with ⟨h4, _⟩ | ⟨g', off', cur, e1, hh, hc, hr⟩
  · cases h4
  · injection e1 with e1; injection e1 with e1 e2; subst e1; subst e2
    refine .inr ⟨g, _, cur, rfl, hh, ?_, fun j u hj => ?_⟩
    · rw [Nat.sub_mul]
      have := Nat.mul_le_mul_right size (Nat.le_trans hk h2)
      omega
    · rw [List.getElem?_drop] at hj
      rw [Nat.add_assoc]; exact hr _ u hj
theorem OwnS.head {w : World} {e : TypeId} {size cap n : Nat} {A : Option Addr} {xs : List Value} (h : OwnS w e size A cap n xs) (hn : 0 < n) (hs : 0 < size) : ∃ g off, A = some ⟨g, off, none⟩ ∧ g < w.heap.size ∧ ∀ j u, xs[j]? = some u → w.cell? ⟨g, off + j, none⟩ = some u := by
  obtain ⟨h1, h2, h3, h4⟩ := h
  rcases h4 with ⟨_, h4⟩ | ⟨g, off, cur, rfl, hh, hc, hr⟩
  · omega
  · exact ⟨g, off, rfl, block_lt hh, fun j u hj => (cell_of_row w g (off + j) cur e (0, 0) hh).trans (hr j u hj)⟩
theorem OwnS.empty {w : World} {e : TypeId} {size cap n : Nat} {A : Option Addr} {xs : List Value} (h : OwnS w e size A cap n xs) : OwnS w e size A 0 0 [] := by
  obtain ⟨h1, h2, h3, h4⟩ := h
  refine ⟨by simp, Nat.le_refl _, Nat.zero_le _, ?_⟩
  rcases h4 with ⟨rfl, _⟩ | ⟨g, off, cur, rfl, hh, hc, hr⟩
  · exact .inl ⟨rfl, rfl⟩
  · exact .inr ⟨g, off, cur, rfl, hh, by omega, fun j u hj => by simp at hj⟩
end Go.Proofs.YthanjafbgcljgaaGreatDoor
