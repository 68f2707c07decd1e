/-
  Package disk: a disk that was laid since some world ('DiskIn'), and each method's contract in that word. Conditions: fewer than 10^12 steps, names that memory holds.
-/
import Derived.Test.YthanjafbgcljgaaGreatDoorDiskNames
import Derived.Test.YthanjafbgcljgaaGreatDoorDiskCrash
namespace Go.Proofs.YthanjafbgcljgaaGreatDoor
open Go.RowKit
set_option linter.unusedVariables false

/-- The disk at g is as S tells, and all of it was laid since w0. -/
def DiskIn (w0 w : World) (g : Nat) (S : DState) : Prop := ∃ bn bs A c vs, DiskAt w g bn bs A c vs S ∧ Below w0.heap.size w0 w ∧ w0.heap.size ≤ g ∧ w0.heap.size ≤ bn ∧ w0.heap.size ≤ bs ∧ ∀ k, blk A = some k → w0.heap.size ≤ k
/-- What is no disk's stays. -/
def QKeep (w w' : World) : Prop := ∀ k, Quiet w k → w'.heap[k]? = w.heap[k]?
theorem QKeep.trans {a b c : World} (h : QKeep a b) (h' : QKeep b c) : QKeep a c := fun k hk => (h' k (hk.kept (h k hk))).trans (h k hk)
theorem QKeep.below {a b : World} (h : Below a.heap.size a b) : QKeep a b := fun k hk => h.block k hk.lt
theorem QKeep.of_below {a b : World} {B : Nat} (h : Below B a b) (hB : a.heap.size ≤ B) : QKeep a b := fun k hk => h.block k (Nat.lt_of_lt_of_le hk.lt hB)
theorem QKeep.refl (a : World) : QKeep a a := fun _ _ => rfl
theorem BlobAt.qk {w w' : World} {v : Value} {l : List UInt8} (h : BlobAt w v l) (hq : QKeep w w') : BlobAt w' v l := h.keep hq
theorem SlA.qk {α : Type} {E : Elt α} {w w' : World} {A : Option Addr} {c : Nat} {l : List α} (h : SlA E (Quiet w) w A c l) (hq : QKeep w w') : SlA E (Quiet w') w' A c l := (h.keep hq).more fun k hk => hk.kept (hq k hk)
theorem DiskIn.all {w0 w : World} {g : Nat} {S : DState} (h : DiskIn w0 w g S) : Below w0.heap.size w0 w := by obtain ⟨_, _, _, _, _, _, h, _⟩ := h; exact h
theorem DiskIn.below {w0 w w' : World} {g : Nat} {S : DState} (h : DiskIn w0 w g S) (hb : Below w.heap.size w w') : DiskIn w0 w' g S := by
  obtain ⟨bn, bs, A, c, vs, hD, h0, h1⟩ := h
  exact ⟨bn, bs, A, c, vs, hD.below hb, h0.trans (hb.mono h0.size), h1⟩
theorem DiskIn.nodup {w0 w : World} {g : Nat} {S : DState} (h : DiskIn w0 w g S) : (skeys S.now).Nodup := by obtain ⟨_, _, _, _, _, hD, _⟩ := h; exact hD.now.nodup
theorem Turned.in_ {w0 w w' : World} {g bn bs c : Nat} {A : Option Addr} {vs : List Value} {S S' : DState} (h : Turned w g bn bs A S' w') (hD : DiskAt w g bn bs A c vs S) (h0 : Below w0.heap.size w0 w) (hg : w0.heap.size ≤ g) (hn : w0.heap.size ≤ bn) (hs : w0.heap.size ≤ bs) (hA : ∀ k, blk A = some k → w0.heap.size ≤ k) :
    DiskIn w0 w' g S' ∧ QKeep w w' := by
  obtain ⟨A', c', vs', h1, h2, h3⟩ := h
  have hz := h0.size
  refine ⟨⟨bn, bs, A', c', vs', h1, h0.trans (h2.below h0.size fun k hk => ?_), hg, hn, hs, fun k e => ?_⟩, Frm.quiet h2 fun k hk => hD.quiet hk⟩
  · rcases hk with rfl | rfl | rfl | hk
    · exact hg
    · exact hn
    · exact hs
    · exact hA k hk
  · rcases h3 with h3 | ⟨j, e', h3⟩
    · exact hA k (h3 ▸ e)
    · rw [e'] at e; injection e with e; subst e; omega

theorem new_in (w : World) : Calls Tryz.prog 4 #[] w fun e w' => ∃ g, e = .returned (.pointer (some ⟨g, 0, none⟩)) ∧ DiskIn w w' g newS := by
  refine (disk_new w).mono ?_
  rintro e w' ⟨g, bn, bs, he, hD, h1, h2, h3, hb⟩
  exact ⟨g, he, bn, bs, none, 0, [], hD, hb, h1, h2, h3, nofun⟩
theorem write_in (w0 : World) (g : Nat) (S : DState) (n : ByteArray) (A0 : Option Addr) (c0 : Nat) (l : List UInt8) (F : Nat → Prop) (w : World) (D : DiskIn w0 w g S) (hs : n.size ≤ maxLen)
    (h : SlA bytE F w A0 c0 l) (hF : ∀ k, F k → k < w.heap.size) (hn : l.length ≤ 140737488355328) (ok : DiskOk S) (r : Option Int) (hr : stepE S (writeE n l) = r) :
    Calls Tryz.prog 15 #[.pointer (some ⟨g, 0, none⟩), .string n, .slice A0 l.length c0] w fun e w' => e = .returned (errV r) ∧ QKeep w w' ∧ (r = none → ∃ v, DiskIn w0 w' g (doneS S (.wr n v)) ∧ BlobAt w' v l) ∧ (r ≠ none → DiskIn w0 w' g S) := by
  have D' := D
  obtain ⟨bn, bs, A, c, vs, hD, h0, h1, h2, h3, h4⟩ := D
  have hw := write_ok g bn bs c A vs S n A0 c0 l F w hD hs h hF hn ok
  rw [hr] at hw
  refine hw.mono ?_
  rintro e w' ⟨he, hy, hz⟩
  cases r with
  | none =>
    obtain ⟨v, hT, hv⟩ := hy rfl
    obtain ⟨hI, hq⟩ := hT.in_ hD h0 h1 h2 h3 h4
    exact ⟨he, hq, fun _ => ⟨v, hI, hv⟩, fun h => absurd rfl h⟩
  | some k =>
    have hb := hz (by simp)
    exact ⟨he, QKeep.below hb, nofun, fun _ => D'.below hb⟩
theorem rename_in (w0 : World) (g : Nat) (S : DState) (a b : ByteArray) (w : World) (D : DiskIn w0 w g S) (ha : a.size ≤ maxLen) (hb : b.size ≤ maxLen) (ok : DiskOk S) (r : Option Int) (hr : stepE S (renE S a b) = r) :
    Calls Tryz.prog 18 #[.pointer (some ⟨g, 0, none⟩), .string a, .string b] w fun e w' => e = .returned (errV r) ∧ QKeep w w' ∧ DiskIn w0 w' g (if r.isNone then doneS S (.ren a b) else S) := by
  have D' := D
  obtain ⟨bn, bs, A, c, vs, hD, h0, h1, h2, h3, h4⟩ := D
  have hw := rename_ok g bn bs c A vs S a b w hD ha hb ok
  rw [hr] at hw
  refine hw.mono ?_
  rintro e w' ⟨he, hy, hz⟩
  cases r with
  | none =>
    obtain ⟨hI, hq⟩ := (hy rfl).in_ hD h0 h1 h2 h3 h4
    exact ⟨he, hq, hI⟩
  | some k =>
    have hb := hz (by simp)
    exact ⟨he, QKeep.below hb, D'.below hb⟩
theorem read_no_in (w0 : World) (g : Nat) (S : DState) (s : ByteArray) (k : Int) (w : World) (D : DiskIn w0 w g S) (hs : s.size ≤ maxLen) (hk : hasE S s = some k) :
    Calls Tryz.prog 28 #[.pointer (some ⟨g, 0, none⟩), .string s] w fun e w' => e = .returned (.tuple #[zB, errV (some k)]) ∧ Below w.heap.size w w' := by
  obtain ⟨bn, bs, A, c, vs, hD, _⟩ := D
  exact read_no g bn bs c A vs S s k w hD hs hk
theorem read_yes_in (w0 : World) (g : Nat) (S : DState) (s : ByteArray) (l : List UInt8) (w : World) (D : DiskIn w0 w g S) (hs : s.size ≤ maxLen) (hk : hasE S s = none) (hv : BlobAt w (fgetD zB S.now s) l) (hn : l.length ≤ 140737488355328) :
    Calls Tryz.prog 28 #[.pointer (some ⟨g, 0, none⟩), .string s] w fun e w' => ∃ v, e = .returned (.tuple #[v, .nilIface]) ∧ BlobAt w' v l ∧ Below w.heap.size w w' := by
  obtain ⟨bn, bs, A, c, vs, hD, _⟩ := D
  exact read_yes g bn bs c A vs S s l w hD hs hk hv hn
theorem names_in (w0 : World) (g : Nat) (S : DState) (w : World) (D : DiskIn w0 w g S) (hn : S.now.length ≤ 1000000000000) :
    Calls Tryz.prog 20 #[.pointer (some ⟨g, 0, none⟩)] w fun e w' => ∃ A' c' l, e = .returned (.slice A' l.length c') ∧ SlA strE (Quiet w') w' A' c' l ∧ l.Perm (skeys S.now) ∧ Below w.heap.size w w' := by
  obtain ⟨bn, bs, A, c, vs, hD, _⟩ := D
  exact names_ok g bn bs c A vs S w hD hn
theorem crash_in (w0 : World) (g : Nat) (S : DState) (keep : Int) (w : World) (D : DiskIn w0 w g S) (ok : DiskOk S) (hI : I64 keep) :
    Calls Tryz.prog 11 #[.pointer (some ⟨g, 0, none⟩), .int .i64 keep] w fun e w' => e = .returned (.tuple #[]) ∧ QKeep w w' ∧ DiskIn w0 w' g (crashS S keep) := by
  obtain ⟨bn, bs, A, c, vs, hD, h0, h1, h2, h3, h4⟩ := D
  refine (crash_ok g bn bs c A vs S keep w hD ok hI).mono ?_
  rintro e w' ⟨he, bn', bs', hD', hf, hn, hs⟩
  have hz := h0.size
  refine ⟨he, Frm.quiet hf (fun k e => hD.quiet (.inl e)), bn', bs', none, 0, [], hD', h0.trans (hf.below h0.size fun k e => by rw [e]; exact h1), h1, by omega, by omega, nofun⟩
end Go.Proofs.YthanjafbgcljgaaGreatDoor
