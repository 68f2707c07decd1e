/-
  Package disk, plain: what each method makes of a disk's state, what it answers. No condition: plain definitions and lemmas.
-/
import Derived.Test.YthanjafbgcljgaaGreatDoorDisk
namespace Go.Proofs.YthanjafbgcljgaaGreatDoor
open Go.RowKit
set_option linter.unusedVariables false

def nameSet : List UInt8 := [97, 98, 99, 100, 101, 102, 103, 104, 105, 106, 107, 108, 109, 110, 111, 112, 113, 114, 115, 116, 117, 118, 119, 120, 121, 122, 48, 49, 50, 51, 52, 53, 54, 55, 56, 57, 45]
def namedB (s : ByteArray) : Bool := decide (0 < s.size) && decide (s.size ≤ 20) && (Lib.trimS s.data.toList nameSet).isEmpty
def stoppedB (S : DState) : Bool := decide (0 ≤ S.stop) && decide (S.stop ≤ S.steps)
def errV : Option Int → Value
  | none => .nilIface
  | some k => .iface 45 (.int .i64 k)
def doneS (S : DState) (op : DOp) : DState := { S with now := op.run S.now, since := S.since ++ [op], steps := S.steps + 1 }
/-- What step answers. -/
def stepE (S : DState) (e : Option Int) : Option Int := if stoppedB S then some 7 else e
def hasE (S : DState) (n : ByteArray) : Option Int := if namedB n then (if fhas S.now n then none else some 6) else some 2
def syncS (S : DState) : DState := { S with safe := S.now, since := [], steps := S.steps + 1 }
def keepN (keep : Int) (n : Nat) : Nat := min keep.toNat n
def runOps (fs : SMap) (l : List DOp) : SMap := l.foldl (fun f o => o.run f) fs
def crashS (S : DState) (keep : Int) : DState := ⟨runOps S.safe (S.since.take (keepN keep S.since.length)), runOps S.safe (S.since.take (keepN keep S.since.length)), [], 0, -1⟩
theorem runOps_snoc (fs : SMap) (l : List DOp) (o : DOp) : runOps fs (l ++ [o]) = o.run (runOps fs l) := by unfold runOps; rw [List.foldl_append]; rfl

/-- The value v holds the bytes l, in rows that no disk turns. -/
def BlobAt (w : World) (v : Value) (l : List UInt8) : Prop := ∃ A c, v = .slice A l.length c ∧ SlA bytE (Quiet w) w A c l
theorem BlobAt.keep {w w' : World} {v : Value} {l : List UInt8} (h : BlobAt w v l) (hs : ∀ k, Quiet w k → w'.heap[k]? = w.heap[k]?) : BlobAt w' v l := by
  obtain ⟨A, c, rfl, h⟩ := h
  exact ⟨A, c, rfl, (h.keep hs).more fun k hk => hk.kept (hs k hk)⟩
theorem BlobAt.zero (w : World) : BlobAt w zB [] := ⟨none, 0, rfl, SlA.nil _ _ _ _ _ (by unfold maxLen; omega)⟩

section
variable {w w' : World} {g bn bs : Nat} {A : Option Addr} {c : Nat} {vs : List Value} {S : DState}
/-- One more step is counted. -/
theorem DiskAt.counted (h : DiskAt w g bn bs A c vs S) (n : Int) : DiskAt (w.setCell ⟨g, 3, none⟩ (.int .i64 n)) g bn bs A c vs { S with steps := n } := by
  have hk : ∀ k, k ≠ g → (w.setCell ⟨g, 3, none⟩ (.int .i64 n)).heap[k]? = w.heap[k]? := fun k hk => Below.heap_setCell _ _ _ _ (by simpa using hk)
  refine ⟨by simp [World.setCell, Array.getElem?_modify, h.obj], h.now.keep (hk _ (fun e => h.g_bn e.symm)), h.safe.keep (hk _ (fun e => h.g_bs e.symm)), h.ne, h.row.keep fun k e => hk k (fun e2 => h.A_g (e2 ▸ e)), fun i op hi => ?_⟩
  obtain ⟨v, h1, h2⟩ := h.ops i op hi
  exact ⟨v, h1, h2.keep fun k hq => hk k fun e => h.quiet (.inl e) hq⟩
/-- Something was done to the files. -/
theorem DiskAt.turned (h : DiskAt w g bn bs A c vs S) {fs : SMap} (hm : SMapAt w' bn fs) (hf : Frm (· = bn) w w') : DiskAt w' g bn bs A c vs { S with now := fs } := by
  have hk : ∀ k, k < w.heap.size → k ≠ bn → w'.heap[k]? = w.heap[k]? := fun k a b => hf.block k a b
  refine ⟨(hk g (h.lt (.inl rfl)) h.g_bn).trans h.obj, hm, h.safe.keep (hk _ (h.lt (.inr (.inr (.inl rfl)))) h.ne.symm), h.ne, h.row.keep fun k e => hk k (h.lt (.inr (.inr (.inr e)))) (fun e2 => h.A_bn (e2 ▸ e)), fun i op hi => ?_⟩
  obtain ⟨v, h1, h2⟩ := h.ops i op hi
  exact ⟨v, h1, h2.keep fun k hq => hk k hq.lt fun e => h.quiet (.inr (.inl e)) hq⟩
/-- What was done is written down. -/
theorem DiskAt.pushed (h : DiskAt w g bn bs A c vs S) {f : Value} {op : DOp} (ho : OpAt w f op) {A' : Option Addr} {c' n : Nat} (hn : n = S.since.length) (hown : OwnS w' 58 1 A' c' (n + 1) (vs ++ [f])) (hg : w.grownBy w' (blk A)) (hat : blk A' = blk A ∨ ∃ k, blk A' = some k ∧ w.heap.size ≤ k) :
    DiskAt (w'.setCell ⟨g, 2, none⟩ (.slice A' (n + 1) c')) g bn bs A' c' (vs ++ [f]) { S with since := S.since ++ [op] } := by
  subst hn
  obtain ⟨hb, hk⟩ := field_store (i := 2) h.obj h.A_g hg (.slice A' (S.since.length + 1) c')
  have hkq : ∀ k, Quiet w k → (w'.setCell ⟨g, 2, none⟩ (.slice A' (S.since.length + 1) c')).heap[k]? = w.heap[k]? := fun k hq => hk k hq.lt (fun e => h.quiet (.inl e) hq) (fun e => h.quiet (.inr (.inr (.inr e))) hq)
  have hAg : blk A' ≠ some g := by
    intro e
    rcases hat with h1 | ⟨j, h1, h2⟩
    · exact h.A_g (h1 ▸ e)
    · rw [h1] at e; injection e with e; have := block_lt h.obj; omega
  refine ⟨?_, h.now.keep (hk _ (h.lt (.inr (.inl rfl))) (fun e => h.g_bn e.symm) h.A_bn), h.safe.keep (hk _ (h.lt (.inr (.inr (.inl rfl)))) (fun e => h.g_bs e.symm) h.A_bs), h.ne, ?_, fun i op' hi => ?_⟩
  · rw [hb]; simp
  · have e2 : (S.since ++ [op]).length = S.since.length + 1 := by simp
    simp only [e2]
    exact hown.setFar hAg _
  · have hl : vs.length = S.since.length := by rw [h.row.1, Nat.mul_one]
    rcases Nat.lt_or_ge i S.since.length with hlt | hge
    · simp only [List.getElem?_append_left hlt] at hi
      obtain ⟨v, h1, h2⟩ := h.ops i op' hi
      exact ⟨v, by rw [List.getElem?_append_left (by omega)]; exact h1, h2.keep hkq⟩
    · simp only [List.getElem?_append_right hge] at hi
      obtain ⟨e1, rfl⟩ : i - S.since.length = 0 ∧ op = op' := by
        cases hh : i - S.since.length with
        | zero => rw [hh] at hi; simp at hi; exact ⟨rfl, hi⟩
        | succ m => rw [hh] at hi; simp at hi
      exact ⟨f, by rw [List.getElem?_append_right (by omega), hl, e1]; rfl, ho.keep hkq⟩
end
end Go.Proofs.YthanjafbgcljgaaGreatDoor
