/-
  Words of my own: several owned rows at once, no two in one block ('Forest'), and what becomes of them where one is turned. No condition: plain definitions and lemmas over any program.
-/
import Derived.Test.YthanjafbgcljgaaGreatDoorHeap
namespace Go.Proofs.YthanjafbgcljgaaGreatDoor
open Go.RowKit Go.ChangeShapes Go.WideShapes
set_option linter.unusedVariables false

structure ORow where
  e : TypeId
  size : Nat
  A : Option Addr
  cap : Nat
  n : Nat
  xs : List Value
def ORow.At (r : ORow) (w : World) : Prop := OwnS w r.e r.size r.A r.cap r.n r.xs
def Sep (a b : Option Addr) : Prop := ∀ k, blk a = some k → blk b ≠ some k
theorem Sep.symm {a b : Option Addr} (h : Sep a b) : Sep b a := fun k hb ha => h k ha hb
theorem Sep.none_left (b : Option Addr) : Sep none b := fun k h => by cases h
theorem Sep.none_right (a : Option Addr) : Sep a none := fun k _ h => by cases h

structure Forest (w : World) (rs : List ORow) : Prop where
  at_ : ∀ r ∈ rs, r.At w
  sep : rs.Pairwise fun r s => Sep r.A s.A
/-- The blocks of the rows. -/
def forF (rs : List ORow) (k : Nat) : Prop := ∃ r ∈ rs, blk r.A = some k

theorem Forest.nil (w : World) : Forest w [] := ⟨nofun, .nil⟩
theorem Forest.lt {w : World} {rs : List ORow} (h : Forest w rs) : ∀ k, forF rs k → k < w.heap.size := by
  rintro k ⟨r, hr, e⟩
  exact (h.at_ r hr).lt k e
theorem Forest.perm {w : World} {rs ss : List ORow} (h : Forest w rs) (hp : rs.Perm ss) : Forest w ss :=
  ⟨fun r hr => h.at_ r (hp.mem_iff.2 hr), (hp.pairwise_iff (fun {_ _} h => h.symm)).1 h.sep⟩
theorem Forest.tail {w : World} {r : ORow} {rs : List ORow} (h : Forest w (r :: rs)) : Forest w rs :=
  ⟨fun s hs => h.at_ s (List.mem_cons_of_mem _ hs), (List.pairwise_cons.1 h.sep).2⟩
theorem Forest.head {w : World} {r : ORow} {rs : List ORow} (h : Forest w (r :: rs)) : r.At w := h.at_ r (List.mem_cons_self)
/-- An empty row beside them. -/
theorem Forest.addNil {w : World} {rs : List ORow} (h : Forest w rs) (e : TypeId) (size : Nat) : Forest w (⟨e, size, none, 0, 0, []⟩ :: rs) :=
  ⟨fun r hr => by
    rcases List.mem_cons.1 hr with rfl | hr
    · exact OwnS.nil w e size
    · exact h.at_ r hr, List.pairwise_cons.2 ⟨fun s _ => Sep.none_left _, h.sep⟩⟩
/-- Kept where their blocks are kept. -/
theorem Forest.keep {w w' : World} {rs : List ORow} (h : Forest w rs) (hs : ∀ k, forF rs k → w'.heap[k]? = w.heap[k]?) : Forest w' rs :=
  ⟨fun r hr => (h.at_ r hr).keep fun k hk => hs k ⟨r, hr, hk⟩, h.sep⟩
theorem Forest.below {w w' : World} {rs : List ORow} (h : Forest w rs) (hb : Below w.heap.size w w') : Forest w' rs := h.keep fun k hk => hb.block k (h.lt k hk)
theorem Forest.drewN {w : World} {rs : List ORow} (h : Forest w rs) (q : Nat) : Forest (w.drewN q) rs := h.keep fun _ _ => rfl
theorem Forest.frm {w w' : World} {rs : List ORow} {F : Nat → Prop} (h : Forest w rs) (hf : Frm F w w') (hd : ∀ k, forF rs k → ¬ F k) : Forest w' rs := h.keep fun k hk => hf.block k (h.lt k hk) (hd k hk)
/-- The first row is turned. -/
theorem Forest.turn {w w' : World} {r r' : ORow} {rs : List ORow} (h : Forest w (r :: rs)) (hr : r'.At w') (hg : w.grownBy w' (blk r.A)) (hat : blk r'.A = blk r.A ∨ blk r'.A = none ∨ ∃ k, blk r'.A = some k ∧ w.heap.size ≤ k) : Forest w' (r' :: rs) := by
  have hs := (List.pairwise_cons.1 h.sep)
  refine ⟨fun s hs' => ?_, List.pairwise_cons.2 ⟨fun s hs' k e e2 => ?_, hs.2⟩⟩
  · rcases List.mem_cons.1 hs' with rfl | hs'
    · exact hr
    · exact (h.at_ s (List.mem_cons_of_mem _ hs')).grown hg fun k hk e => hs.1 s hs' k e hk
  · rcases hat with e1 | e1 | ⟨j, e1, hj⟩
    · exact hs.1 s hs' k (e1 ▸ e) e2
    · rw [e1] at e; cases e
    · rw [e1] at e; injection e with e
      have := (h.at_ s (List.mem_cons_of_mem _ hs')).lt k e2
      omega
/-- The first row is read otherwise, in the same block or in none. -/
theorem Forest.swap {w : World} {r r' : ORow} {rs : List ORow} (h : Forest w (r :: rs)) (hr : r'.At w) (hat : blk r'.A = blk r.A ∨ blk r'.A = none) : Forest w (r' :: rs) :=
  h.turn hr ⟨rfl, rfl, rfl, Nat.le_refl _, fun _ _ _ => rfl⟩ (hat.imp_right .inl)
theorem forF_turn {w : World} {r r' : ORow} {rs : List ORow} {k : Nat} (hat : blk r'.A = blk r.A ∨ blk r'.A = none ∨ ∃ k, blk r'.A = some k ∧ w.heap.size ≤ k) (h : forF (r' :: rs) k) : forF (r :: rs) k ∨ w.heap.size ≤ k := by
  obtain ⟨s, hs, e⟩ := h
  rcases List.mem_cons.1 hs with rfl | hs
  · rcases hat with e1 | e1 | ⟨j, e1, hj⟩
    · exact .inl ⟨r, List.mem_cons_self, e1 ▸ e⟩
    · rw [e1] at e; cases e
    · rw [e1] at e; injection e with e; omega
  · exact .inl ⟨s, List.mem_cons_of_mem _ hs, e⟩
theorem forF_perm {rs ss : List ORow} (hp : rs.Perm ss) {k : Nat} (h : forF rs k) : forF ss k := by
  obtain ⟨r, hr, e⟩ := h
  exact ⟨r, hp.mem_iff.1 hr, e⟩
/-- What is turned where the first row is. -/
theorem Forest.frmTurn {w w' : World} {r : ORow} {rs : List ORow} (hg : w.grownBy w' (blk r.A)) : Frm (forF (r :: rs)) w w' := Frm.ofGrown hg fun k e => ⟨r, List.mem_cons_self, e⟩

/-- A row in the midst is turned. -/
theorem Forest.turnMid {w w' : World} {r r' : ORow} {pre post : List ORow} (h : Forest w (pre ++ r :: post)) (hr : r'.At w') (hg : w.grownBy w' (blk r.A)) (hat : blk r'.A = blk r.A ∨ blk r'.A = none ∨ ∃ k, blk r'.A = some k ∧ w.heap.size ≤ k) : Forest w' (pre ++ r' :: post) :=
  ((h.perm List.perm_middle).turn hr hg hat).perm List.perm_middle.symm
theorem Forest.swapMid {w : World} {r r' : ORow} {pre post : List ORow} (h : Forest w (pre ++ r :: post)) (hr : r'.At w) (hat : blk r'.A = blk r.A ∨ blk r'.A = none) : Forest w (pre ++ r' :: post) :=
  ((h.perm List.perm_middle).swap hr hat).perm List.perm_middle.symm
theorem forF_mid {w : World} {r r' : ORow} {pre post : List ORow} {k : Nat} (hat : blk r'.A = blk r.A ∨ blk r'.A = none ∨ ∃ k, blk r'.A = some k ∧ w.heap.size ≤ k) (h : forF (pre ++ r' :: post) k) : forF (pre ++ r :: post) k ∨ w.heap.size ≤ k :=
  (forF_turn hat (forF_perm List.perm_middle h)).imp_left (forF_perm List.perm_middle.symm)

theorem wpList_push_S {P : Program} {ops : Array Oper} {rest : List Oper} {o : Oper} {a : Act} {Q : Exit → Act → World → Prop} {w0 : World} (hgd : o.guard = none) (s x : Operand) (t : TypeId)
    (ho : o.op = .call { callee := .builtin .append, args := #[s, x], argTypes := #[t, t] })
    (e : TypeId) (z : Value) (size bytes : Nat) (ht : P.underlying t = some (.slice e))
    (hinfo : (P.info? e).map (fun i => (i.zero, i.size, i.bytes)) = some (some z, size, bytes)) (hzs : z.cells.size = size) (hsz : 0 < size)
    (A : Option Addr) (cap n : Nat) (xs : List Value) (hs : a.eval s = .slice A n cap) (hown : OwnS w0 e size A cap n xs) (news : List Value) (hx : a.eval x = .slice (some ⟨w0.heap.size, 0, none⟩) 1 1) (hl : news.length = size) (h1 : ∀ u ∈ news, u.oneCell' = true)
    (h63 : n + 1 ≤ maxLen) (hbytes : (n + 1) * bytes ≤ 140737488355328)
    (h : ∀ A' cap' w', OwnS w' e size A' cap' (n + 1) (xs ++ news) → w0.grownBy w' (blk A) → (blk A' = blk A ∨ ∃ k, blk A' = some k ∧ w0.heap.size ≤ k) → wpList P ops Q rest (a.put o.dst (.slice A' (n + 1) cap')) w') :
    wpList P ops Q (o :: rest) a (w0.alloc (.cells news.toArray e)) := by
  refine wpList_plain hgd fun K hK => ?_
  obtain ⟨A', cap', w', hr, h2, h3, h5⟩ := run_push_S (P := P) w0 t o.type e z size bytes ht hinfo hzs hsz A cap n xs hown news hl h1 h63 hbytes
  unfold Oper.wp execOp
  simp only [ho, resolve, invoke, builtin, Sem.run_bind, Sem.run_pure, Result.andThen_ok, List.map_toArray, List.map_cons, List.map_nil, hs, hx, hr]
  exact hK _ _ (h A' cap' w' h2 h3 h5)
end Go.Proofs.YthanjafbgcljgaaGreatDoor
