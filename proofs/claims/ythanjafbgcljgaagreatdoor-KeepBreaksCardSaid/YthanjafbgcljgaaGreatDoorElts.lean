/-
  The document's records, as plain data and as they lie in memory, over this seat's table of types. No condition: definitions and lemmas.
-/
import Derived.Test.YthanjafbgcljgaaGreatDoorBase
namespace Go.Proofs.YthanjafbgcljgaaGreatDoor
open Go.RowKit Go.ChangeShapes Go.WideShapes

structure Rec where
  key : ByteArray
  num : Int
  time : Int
structure Lin where
  key : ByteArray
  nums : List Int

def I64 (n : Int) : Prop := (Lit.int .i64 n).wf = true

def recE : Elt Rec where
  sz := 3
  bulk := fun r => r.key.size + 4
  R := fun _ _ cs r => cs = [.string r.key, .int .i64 r.num, .int .i64 r.time] ∧ r.key.size ≤ maxLen ∧ I64 r.num ∧ I64 r.time
  len := fun _ _ _ _ h => by rw [h.1]; rfl
  keep := fun _ _ _ _ _ h _ => h
  more := fun _ _ _ _ _ h _ => h
def linE : Elt Lin where
  sz := 2
  bulk := fun r => r.key.size + sumBulk (fun _ => 1) r.nums + 3
  R := fun F w cs r => ∃ v, cs = [.string r.key, v] ∧ r.key.size ≤ maxLen ∧ Sl (intE .i64) F w v r.nums
  len := fun _ _ _ _ h => by obtain ⟨v, rfl, _⟩ := h; rfl
  keep := fun _ _ _ _ _ h hs => by obtain ⟨v, rfl, h1, h⟩ := h; exact ⟨v, rfl, h1, h.keep hs⟩
  more := fun _ _ _ _ _ h hF => by obtain ⟨v, rfl, h1, h⟩ := h; exact ⟨v, rfl, h1, h.more hF⟩

theorem SlA.rec_ {F : Nat → Prop} {w : World} {A : Option Addr} {c : Nat} {l : List Rec} (h : SlA recE F w A c l) {k : Nat} (hk : k < l.length) :
    ∃ b off, A = some ⟨b, off, none⟩ ∧ F b ∧ w.cell? ⟨b, off + k * 3, none⟩ = some (.string l[k].key) ∧ w.cell? ⟨b, off + k * 3 + 1, none⟩ = some (.int .i64 l[k].num) ∧ w.cell? ⟨b, off + k * 3 + 2, none⟩ = some (.int .i64 l[k].time) ∧
      l[k].key.size ≤ maxLen ∧ I64 l[k].num ∧ I64 l[k].time := by
  obtain ⟨b, off, cs, rfl, hb, hc, he, h1, h2, h3⟩ := h.at_ hk
  have c0 := hc 0 _ (by rw [he]; rfl)
  have c1 := hc 1 _ (by rw [he]; rfl)
  have c2 := hc 2 _ (by rw [he]; rfl)
  simp only [recE, Nat.add_zero] at c0 c1 c2
  exact ⟨b, off, rfl, hb, c0, by rw [Nat.add_assoc]; exact c1, by rw [Nat.add_assoc]; exact c2, h1, h2, h3⟩
theorem SlA.lin_ {F : Nat → Prop} {w : World} {A : Option Addr} {c : Nat} {l : List Lin} (h : SlA linE F w A c l) {k : Nat} (hk : k < l.length) :
    ∃ b off A' c', A = some ⟨b, off, none⟩ ∧ F b ∧ w.cell? ⟨b, off + k * 2, none⟩ = some (.string l[k].key) ∧ w.cell? ⟨b, off + k * 2 + 1, none⟩ = some (.slice A' l[k].nums.length c') ∧
      l[k].key.size ≤ maxLen ∧ SlA (intE .i64) F w A' c' l[k].nums := by
  obtain ⟨b, off, cs, rfl, hb, hc, v, he, h1, A', c', rfl, h2⟩ := h.at_ hk
  have c0 := hc 0 _ (by rw [he]; rfl)
  have c1 := hc 1 _ (by rw [he]; rfl)
  simp only [linE, Nat.add_zero] at c0 c1
  exact ⟨b, off, A', c', rfl, hb, c0, by rw [Nat.add_assoc]; exact c1, h1, h2⟩

structure Hld where
  node : Int
  key : ByteArray
  a : Int
  b : Int
structure Ent where
  key : ByteArray
  value : ByteArray
  dead : Bool
def hldE : Elt Hld where
  sz := 4
  bulk := fun r => r.key.size + 5
  R := fun _ _ cs r => cs = [.int .i64 r.node, .string r.key, .int .i64 r.a, .int .i64 r.b] ∧ r.key.size ≤ maxLen ∧ I64 r.node ∧ I64 r.a ∧ I64 r.b
  len := fun _ _ _ _ h => by rw [h.1]; rfl
  keep := fun _ _ _ _ _ h _ => h
  more := fun _ _ _ _ _ h _ => h
def entE : Elt Ent where
  sz := 3
  bulk := fun r => r.key.size + r.value.size + 4
  R := fun _ _ cs r => cs = [.string r.key, .string r.value, .bool r.dead] ∧ r.key.size ≤ maxLen ∧ r.value.size ≤ maxLen
  len := fun _ _ _ _ h => by rw [h.1]; rfl
  keep := fun _ _ _ _ _ h _ => h
  more := fun _ _ _ _ _ h _ => h
theorem SlA.hld_ {F : Nat → Prop} {w : World} {A : Option Addr} {c : Nat} {l : List Hld} (h : SlA hldE F w A c l) {k : Nat} (hk : k < l.length) :
    ∃ b off, A = some ⟨b, off, none⟩ ∧ F b ∧ w.cell? ⟨b, off + k * 4, none⟩ = some (.int .i64 l[k].node) ∧ w.cell? ⟨b, off + k * 4 + 1, none⟩ = some (.string l[k].key) ∧ w.cell? ⟨b, off + k * 4 + 2, none⟩ = some (.int .i64 l[k].a) ∧ w.cell? ⟨b, off + k * 4 + 3, none⟩ = some (.int .i64 l[k].b) ∧
      l[k].key.size ≤ maxLen ∧ I64 l[k].node ∧ I64 l[k].a ∧ I64 l[k].b := by
  obtain ⟨b, off, cs, rfl, hb, hc, he, h1, h2, h3, h4⟩ := h.at_ hk
  have c0 := hc 0 _ (by rw [he]; rfl)
  have c1 := hc 1 _ (by rw [he]; rfl)
  have c2 := hc 2 _ (by rw [he]; rfl)
  have c3 := hc 3 _ (by rw [he]; rfl)
  simp only [hldE, Nat.add_zero] at c0 c1 c2 c3
  exact ⟨b, off, rfl, hb, c0, by rw [Nat.add_assoc]; exact c1, by rw [Nat.add_assoc]; exact c2, by rw [Nat.add_assoc]; exact c3, h1, h2, h3, h4⟩
theorem SlA.ent_ {F : Nat → Prop} {w : World} {A : Option Addr} {c : Nat} {l : List Ent} (h : SlA entE F w A c l) {k : Nat} (hk : k < l.length) :
    ∃ b off, A = some ⟨b, off, none⟩ ∧ F b ∧ w.cell? ⟨b, off + k * 3, none⟩ = some (.string l[k].key) ∧ w.cell? ⟨b, off + k * 3 + 1, none⟩ = some (.string l[k].value) ∧ w.cell? ⟨b, off + k * 3 + 2, none⟩ = some (.bool l[k].dead) ∧
      l[k].key.size ≤ maxLen ∧ l[k].value.size ≤ maxLen := by
  obtain ⟨b, off, cs, rfl, hb, hc, he, h1, h2⟩ := h.at_ hk
  have c0 := hc 0 _ (by rw [he]; rfl)
  have c1 := hc 1 _ (by rw [he]; rfl)
  have c2 := hc 2 _ (by rw [he]; rfl)
  simp only [entE, Nat.add_zero] at c0 c1 c2
  exact ⟨b, off, rfl, hb, c0, by rw [Nat.add_assoc]; exact c1, by rw [Nat.add_assoc]; exact c2, h1, h2⟩

/-! ### The types of this seat -/
theorem ofInts : OfT Tryz.prog 32 (slE (intE .i64)) := ofSl Tryz.underlying32 (by kernel_rfl) (ofInt Tryz.underlying3 (by kernel_rfl))
theorem ofIntss : OfT Tryz.prog 22 (slE (slE (intE .i64))) := ofSl Tryz.underlying22 (by kernel_rfl) ofInts
theorem ofBytes : OfT Tryz.prog 28 (slE bytE) := ofSl Tryz.underlying28 (by kernel_rfl) (ofByte Tryz.underlying5 (by kernel_rfl))
theorem ofStrs : OfT Tryz.prog 53 (slE strE) := ofSl Tryz.underlying53 (by kernel_rfl) (ofStr Tryz.underlying9 (by kernel_rfl))
end Go.Proofs.YthanjafbgcljgaaGreatDoor
