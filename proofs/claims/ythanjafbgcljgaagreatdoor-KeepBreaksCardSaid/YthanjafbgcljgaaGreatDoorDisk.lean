/-
  Package disk: the words. What a disk is ('DState'), what was done since the last Sync as closures ('OpAt'), and how a disk lies in memory ('DiskAt'). No condition: plain definitions and lemmas.
-/
import Derived.Test.YthanjafbgcljgaaGreatDoorFiles
import Derived.Test.YthanjafbgcljgaaGreatDoorHeap
import Derived.Test.YthanjafbgcljgaaGreatDoorElts
import Derived.Lib.SlTrimSet
namespace Go.Proofs.YthanjafbgcljgaaGreatDoor
open Go.RowKit
set_option linter.unusedVariables false

/-- What may be done to files. -/
inductive DOp
  | wr (n : ByteArray) (v : Value)
  | ren (a b : ByteArray)
  | rem (n : ByteArray)
def zB : Value := .slice none 0 0
def DOp.run : DOp → SMap → SMap
  | .wr n v, fs => fset fs n v
  | .ren a b, fs => fset (fdel fs a) b (fgetD zB fs a)
  | .rem n, fs => fdel fs n
structure DState where
  now : SMap
  safe : SMap
  since : List DOp
  steps : Int
  stop : Int

/-- Block k is a variable that holds v. -/
def BoxAt (w : World) (k : Nat) (v : Value) (t : TypeId) : Prop := w.heap[k]? = some (.cells #[v] t (0, 0))
theorem BoxAt.lt {w : World} {k : Nat} {v : Value} {t : TypeId} (h : BoxAt w k v t) : k < w.heap.size := block_lt h
theorem BoxAt.cell {w : World} {k : Nat} {v : Value} {t : TypeId} (h : BoxAt w k v t) : w.cell? ⟨k, 0, none⟩ = some v := (cell_of_row w k 0 _ _ _ h).trans rfl

def WrAt (w : World) (f : Value) (op : DOp) : Prop := ∃ n v kb kn, op = .wr n v ∧ f = .func (.func 33) #[] #[.pointer (some ⟨kb, 0, none⟩), .pointer (some ⟨kn, 0, none⟩)] ∧ BoxAt w kb v 28 ∧ BoxAt w kn (.string n) 9 ∧ n.size ≤ maxLen
def RenAt (w : World) (f : Value) (op : DOp) : Prop := ∃ a b ka kb, op = .ren a b ∧ f = .func (.func 37) #[] #[.pointer (some ⟨ka, 0, none⟩), .pointer (some ⟨kb, 0, none⟩)] ∧ BoxAt w ka (.string a) 9 ∧ BoxAt w kb (.string b) 9 ∧ a.size ≤ maxLen ∧ b.size ≤ maxLen
def RemAt (w : World) (f : Value) (op : DOp) : Prop := ∃ n kn, op = .rem n ∧ f = .func (.func 42) #[] #[.pointer (some ⟨kn, 0, none⟩)] ∧ BoxAt w kn (.string n) 9 ∧ n.size ≤ maxLen
/-- The function value f does op. -/
def OpAt (w : World) (f : Value) (op : DOp) : Prop := WrAt w f op ∨ RenAt w f op ∨ RemAt w f op

/-- A block of strings' or bytes' or numbers' own: none that a disk turns. -/
def Quiet (w : World) (k : Nat) : Prop := ∃ cs t fr, w.heap[k]? = some (.cells cs t fr) ∧ t ≠ 43 ∧ t ≠ 58
theorem Quiet.lt {w : World} {k : Nat} (h : Quiet w k) : k < w.heap.size := by obtain ⟨cs, t, fr, h, _⟩ := h; exact block_lt h
theorem BoxAt.quiet {w : World} {k : Nat} {v : Value} {t : TypeId} (h : BoxAt w k v t) (h1 : t ≠ 43) (h2 : t ≠ 58) : Quiet w k := ⟨_, _, _, h, h1, h2⟩

/-- The disk at block g: its files in the maps bn, bs; what was done since in the row A. -/
structure DiskAt (w : World) (g bn bs : Nat) (A : Option Addr) (c : Nat) (vs : List Value) (S : DState) : Prop where
  obj : w.heap[g]? = some (.cells #[.map (some bn), .map (some bs), .slice A S.since.length c, .int .i64 S.steps, .int .i64 S.stop] 43 (0, 0))
  now : SMapAt w bn S.now
  safe : SMapAt w bs S.safe
  ne : bn ≠ bs
  row : OwnS w 58 1 A c S.since.length vs
  ops : ∀ (i : Nat) op, S.since[i]? = some op → ∃ v, vs[i]? = some v ∧ OpAt w v op
/-- The blocks that a disk turns. -/
def dom (g bn bs : Nat) (A : Option Addr) (k : Nat) : Prop := k = g ∨ k = bn ∨ k = bs ∨ blk A = some k

theorem OwnS.tag {w : World} {e : TypeId} {size cap n : Nat} {A : Option Addr} {xs : List Value} (h : OwnS w e size A cap n xs) {k : Nat} (hk : blk A = some k) : ∃ cur, w.heap[k]? = some (.cells cur e (0, 0)) := by
  rcases h.2.2.2 with ⟨rfl, _⟩ | ⟨g, off, cur, rfl, hh, _⟩
  · cases hk
  · injection hk with hk; subst hk; exact ⟨cur, hh⟩
section
variable {w w' : World} {g bn bs : Nat} {A : Option Addr} {c : Nat} {vs : List Value} {S : DState}
theorem DiskAt.quiet (h : DiskAt w g bn bs A c vs S) {k : Nat} (hk : dom g bn bs A k) : ¬ Quiet w k := by
  rintro ⟨cs, t, fr, h1, h2, h3⟩
  rcases hk with rfl | rfl | rfl | hk
  · rw [h.obj] at h1; injection h1 with h1; injection h1 with _ h1 _; exact h2 h1.symm
  · exact h.now.not_cells h1
  · exact h.safe.not_cells h1
  · obtain ⟨cur, h4⟩ := h.row.tag hk
    rw [h4] at h1; injection h1 with h1; injection h1 with _ h1 _; exact h3 h1.symm
theorem DiskAt.lt (h : DiskAt w g bn bs A c vs S) {k : Nat} (hk : dom g bn bs A k) : k < w.heap.size := by
  rcases hk with rfl | rfl | rfl | hk
  · exact block_lt h.obj
  · exact h.now.lt
  · exact h.safe.lt
  · exact h.row.lt k hk
theorem DiskAt.g_bn (h : DiskAt w g bn bs A c vs S) : g ≠ bn := fun e => h.now.not_cells (e ▸ h.obj)
theorem DiskAt.g_bs (h : DiskAt w g bn bs A c vs S) : g ≠ bs := fun e => h.safe.not_cells (e ▸ h.obj)
theorem DiskAt.A_g (h : DiskAt w g bn bs A c vs S) : blk A ≠ some g := fun e => by
  obtain ⟨cur, h4⟩ := h.row.tag e
  rw [h.obj] at h4; injection h4 with h4; injection h4 with _ h4 _
  exact absurd h4 (by decide)
theorem DiskAt.A_bn (h : DiskAt w g bn bs A c vs S) : blk A ≠ some bn := fun e => by
  obtain ⟨cur, h4⟩ := h.row.tag e
  exact h.now.not_cells h4
theorem DiskAt.A_bs (h : DiskAt w g bn bs A c vs S) : blk A ≠ some bs := fun e => by
  obtain ⟨cur, h4⟩ := h.row.tag e
  exact h.safe.not_cells h4
theorem DiskAt.cells (h : DiskAt w g bn bs A c vs S) : w.cell? ⟨g, 0, none⟩ = some (.map (some bn)) ∧ w.cell? ⟨g, 1, none⟩ = some (.map (some bs)) ∧ w.cell? ⟨g, 2, none⟩ = some (.slice A S.since.length c) ∧ w.cell? ⟨g, 3, none⟩ = some (.int .i64 S.steps) ∧ w.cell? ⟨g, 4, none⟩ = some (.int .i64 S.stop) ∧
    (∀ i, w.frozen? ⟨g, i, none⟩ = false) :=
  ⟨(cell_of_row w g 0 _ _ _ h.obj).trans rfl, (cell_of_row w g 1 _ _ _ h.obj).trans rfl, (cell_of_row w g 2 _ _ _ h.obj).trans rfl, (cell_of_row w g 3 _ _ _ h.obj).trans rfl, (cell_of_row w g 4 _ _ _ h.obj).trans rfl, fun i => by simp [World.frozen?, h.obj]⟩
end
/-- A variable that a closure has caught stays as it is. -/
theorem BoxAt.keep {w w' : World} {k : Nat} {v : Value} {t : TypeId} (h : BoxAt w k v t) (hs : w'.heap[k]? = w.heap[k]?) : BoxAt w' k v t := hs.trans h
theorem OpAt.keep {w w' : World} {f : Value} {op : DOp} (h : OpAt w f op) (hs : ∀ k, Quiet w k → w'.heap[k]? = w.heap[k]?) : OpAt w' f op := by
  have q1 : ∀ {k v}, BoxAt w k v 28 → BoxAt w' k v 28 := fun h => h.keep (hs _ (h.quiet (by decide) (by decide)))
  have q2 : ∀ {k v}, BoxAt w k v 9 → BoxAt w' k v 9 := fun h => h.keep (hs _ (h.quiet (by decide) (by decide)))
  rcases h with ⟨n, v, kb, kn, rfl, rfl, h1, h2, h3⟩ | ⟨a, b, ka, kb, rfl, rfl, h1, h2, h3⟩ | h
  · exact .inl ⟨n, v, kb, kn, rfl, rfl, q1 h1, q2 h2, h3⟩
  · exact .inr (.inl ⟨a, b, ka, kb, rfl, rfl, q2 h1, q2 h2, h3⟩)
  obtain ⟨n, kn, rfl, rfl, h1, h2⟩ := h
  exact .inr (.inr ⟨n, kn, rfl, rfl, q2 h1, h2⟩)
theorem Frm.quiet {F : Nat → Prop} {w w' : World} (h : Frm F w w') (hF : ∀ k, F k → ¬ Quiet w k) : ∀ k, Quiet w k → w'.heap[k]? = w.heap[k]? := fun k hk => h.block k hk.lt (fun hf => hF k hf hk)
theorem Below.quiet {w w' : World} (h : Below w.heap.size w w') : ∀ k, Quiet w k → w'.heap[k]? = w.heap[k]? := fun k hk => h.block k hk.lt
theorem Quiet.kept {w w' : World} {k : Nat} (h : Quiet w k) (hs : w'.heap[k]? = w.heap[k]?) : Quiet w' k := by
  obtain ⟨cs, t, fr, h1, h2⟩ := h
  exact ⟨cs, t, fr, hs.trans h1, h2⟩
/-- Where only new blocks have come. -/
theorem DiskAt.below {w w' : World} {g bn bs : Nat} {A : Option Addr} {c : Nat} {vs : List Value} {S : DState} (h : DiskAt w g bn bs A c vs S) (hb : Below w.heap.size w w') : DiskAt w' g bn bs A c vs S :=
  ⟨(hb.block g (h.lt (.inl rfl))).trans h.obj, h.now.keep (hb.block bn (h.lt (.inr (.inl rfl)))), h.safe.keep (hb.block bs (h.lt (.inr (.inr (.inl rfl))))), h.ne, h.row.keep fun k hk => hb.block k (h.lt (.inr (.inr (.inr hk)))),
    fun i op hi => by obtain ⟨v, h1, h2⟩ := h.ops i op hi; exact ⟨v, h1, h2.keep (Below.quiet hb)⟩⟩
end Go.Proofs.YthanjafbgcljgaaGreatDoor
