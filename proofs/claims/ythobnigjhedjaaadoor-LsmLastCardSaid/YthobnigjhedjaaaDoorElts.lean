/-
  The document's records, as plain data and as they lie in memory, over this seat's table of types. No condition: definitions and lemmas.
-/
import Derived.Test.YthobnigjhedjaaaDoorBase
namespace Go.Proofs.YthobnigjhedjaaaDoor
open Go.RowKit Go.ChangeShapes Go.WideShapes

structure Rec where
  key : ByteArray
  num : Int
  time : Int
structure Lin where
  key : ByteArray
  nums : List Int

def I64 (n : Int) : Prop := (Lit.int .i64 n).wf = true

def recE : Elt Rec where
  sz := 3
  bulk := fun r => r.key.size + 4
  R := fun _ _ cs r => cs = [.string r.key, .int .i64 r.num, .int .i64 r.time] ∧ r.key.size ≤ maxLen ∧ I64 r.num ∧ I64 r.time
  len := fun _ _ _ _ h => by rw [h.1]; rfl
  keep := fun _ _ _ _ _ h _ => h
  more := fun _ _ _ _ _ h _ => h
def linE : Elt Lin where
  sz := 2
  bulk := fun r => r.key.size + sumBulk (fun _ => 1) r.nums + 3
  R := fun F w cs r => ∃ v, cs = [.string r.key, v] ∧ r.key.size ≤ maxLen ∧ Sl (intE .i64) F w v r.nums
  len := fun _ _ _ _ h => by obtain ⟨v, rfl, _⟩ := h; rfl
  keep := fun _ _ _ _ _ h hs => by obtain ⟨v, rfl, h1, h⟩ := h; exact ⟨v, rfl, h1, h.keep hs⟩
  more := fun _ _ _ _ _ h hF => by obtain ⟨v, rfl, h1, h⟩ := h; exact ⟨v, rfl, h1, h.more hF⟩

theorem SlA.rec_ {F : Nat → Prop} {w : World} {A : Option Addr} {c : Nat} {l : List Rec} (h : SlA recE F w A c l) {k : Nat} (hk : k < l.length) :
    ∃ b off, A = some ⟨b, off, none⟩ ∧ F b ∧ w.cell? ⟨b, off + k * 3, none⟩ = some (.string l[k].key) ∧ w.cell? ⟨b, off + k * 3 + 1, none⟩ = some (.int .i64 l[k].num) ∧ w.cell? ⟨b, off + k * 3 + 2, none⟩ = some (.int .i64 l[k].time) ∧
      l[k].key.size ≤ maxLen ∧ I64 l[k].num ∧ I64 l[k].time := by
  obtain ⟨b, off, cs, rfl, hb, hc, he, h1, h2, h3⟩ := h.at_ hk
  have c0 := hc 0 _ (by rw [he]; rfl)
  have c1 := hc 1 _ (by rw [he]; rfl)
  have c2 := hc 2 _ (by rw [he]; rfl)
  simp only [recE, Nat.add_zero] at c0 c1 c2
  exact ⟨b, off, rfl, hb, c0, by rw [Nat.add_assoc]; exact c1, by rw [Nat.add_assoc]; exact c2, h1, h2, h3⟩
theorem SlA.lin_ {F : Nat → Prop} {w : World} {A : Option Addr} {c : Nat} {l : List Lin} (h : SlA linE F w A c l) {k : Nat} (hk : k < l.length) :
    ∃ b off A' c', A = some ⟨b, off, none⟩ ∧ F b ∧ w.cell? ⟨b, off + k * 2, none⟩ = some (.string l[k].key) ∧ w.cell? ⟨b, off + k * 2 + 1, none⟩ = some (.slice A' l[k].nums.length c') ∧
      l[k].key.size ≤ maxLen ∧ SlA (intE .i64) F w A' c' l[k].nums := by
  obtain ⟨b, off, cs, rfl, hb, hc, v, he, h1, A', c', rfl, h2⟩ := h.at_ hk
  have c0 := hc 0 _ (by rw [he]; rfl)
  have c1 := hc 1 _ (by rw [he]; rfl)
  simp only [linE, Nat.add_zero] at c0 c1
  exact ⟨b, off, A', c', rfl, hb, c0, by rw [Nat.add_assoc]; exact c1, h1, h2⟩

structure Hld where
  node : Int
  key : ByteArray
  a : Int
  b : Int
structure Ent where
  key : ByteArray
  value : ByteArray
  dead : Bool
def hldE : Elt Hld where
  sz := 4
  bulk := fun r => r.key.size + 5
  R := fun _ _ cs r => cs = [.int .i64 r.node, .string r.key, .int .i64 r.a, .int .i64 r.b] ∧ r.key.size ≤ maxLen ∧ I64 r.node ∧ I64 r.a ∧ I64 r.b
  len := fun _ _ _ _ h => by rw [h.1]; rfl
  keep := fun _ _ _ _ _ h _ => h
  more := fun _ _ _ _ _ h _ => h
def entE : Elt Ent where
  sz := 3
  bulk := fun r => r.key.size + r.value.size + 4
  R := fun _ _ cs r => cs = [.string r.key, .string r.value, .bool r.dead] ∧ r.key.size ≤ maxLen ∧ r.value.size ≤ maxLen
  len := fun _ _ _ _ h => by rw [h.1]; rfl
  keep := fun _ _ _ _ _ h _ => h
  more := fun _ _ _ _ _ h _ => h
theorem SlA.hld_ {F : Nat → Prop} {w : World} {A : Option Addr} {c : Nat} {l : List Hld} (h : SlA hldE F w A c l) {k : Nat} (hk : k < l.length) :
    ∃ b off, A = some ⟨b, off, none⟩ ∧ F b ∧ w.cell? ⟨b, off + k * 4, none⟩ = some (.int .i64 l[k].node) ∧ w.cell? ⟨b, off + k * 4 + 1, none⟩ = some (.string l[k].key) ∧ w.cell? ⟨b, off + k * 4 + 2, none⟩ = some (.int .i64 l[k].a) ∧ w.cell? ⟨b, off + k * 4 + 3, none⟩ = some (.int .i64 l[k].b) ∧
      l[k].key.size ≤ maxLen ∧ I64 l[k].node ∧ I64 l[k].a ∧ I64 l[k].b := by
  obtain ⟨b, off, cs, rfl, hb, hc, he, h1, h2, h3, h4⟩ := h.at_ hk
  have c0 := hc 0 _ (by rw [he]; rfl)
  have c1 := hc 1 _ (by rw [he]; rfl)
  have c2 := hc 2 _ (by rw [he]; rfl)
  have c3 := hc 3 _ (by rw [he]; rfl)
  simp only [hldE, Nat.add_zero] at c0 c1 c2 c3
  exact ⟨b, off, rfl, hb, c0, by rw [Nat.add_assoc]; exact c1, by rw [Nat.add_assoc]; exact c2, by rw [Nat.add_assoc]; exact c3, h1, h2, h3, h4⟩
theorem SlA.ent_ {F : Nat → Prop} {w : World} {A : Option Addr} {c : Nat} {l : List Ent} (h : SlA entE F w A c l) {k : Nat} (hk : k < l.length) :
    ∃ b off, A = some ⟨b, off, none⟩ ∧ F b ∧ w.cell? ⟨b, off + k * 3, none⟩ = some (.string l[k].key) ∧ w.cell? ⟨b, off + k * 3 + 1, none⟩ = some (.string l[k].value) ∧ w.cell? ⟨b, off + k * 3 + 2, none⟩ = some (.bool l[k].dead) ∧
      l[k].key.size ≤ maxLen ∧ l[k].value.size ≤ maxLen := by
  obtain ⟨b, off, cs, rfl, hb, hc, he, h1, h2⟩ := h.at_ hk
  have c0 := hc 0 _ (by rw [he]; rfl)
  have c1 := hc 1 _ (by rw [he]; rfl)
  have c2 := hc 2 _ (by rw [he]; rfl)
  simp only [entE, Nat.add_zero] at c0 c1 c2
  exact ⟨b, off, rfl, hb, c0, by rw [Nat.add_assoc]; exact c1, by rw [Nat.add_assoc]; exact c2, h1, h2⟩

/-! ### The types of this seat -/
theorem ofInts : OfT Tryd.prog 32 (slE (intE .i64)) := ofSl Tryd.underlying32 (by kernel_rfl) (ofInt Tryd.underlying3 (by kernel_rfl))
theorem ofBytes : OfT Tryd.prog 70 (slE bytE) := ofSl Tryd.underlying70 (by kernel_rfl) (ofByte Tryd.underlying5 (by kernel_rfl))
theorem ofPieces : OfT Tryd.prog 73 (slE (slE bytE)) := ofSl Tryd.underlying73 (by kernel_rfl) ofBytes
theorem ofStrs : OfT Tryd.prog 28 (slE strE) := ofSl Tryd.underlying28 (by kernel_rfl) (ofStr Tryd.underlying9 (by kernel_rfl))
theorem ofStrss : OfT Tryd.prog 22 (slE (slE strE)) := ofSl Tryd.underlying22 (by kernel_rfl) ofStrs
theorem ofEnt : OfT Tryd.prog 67 entE := ⟨by kernel_rfl, by decide, fun enc w fuel cs x h => by
  obtain ⟨y0, y1, y2, n, rfl, hl, h0, h1, h2⟩ := Go.Deep.trod_struct3 Tryd.underlying67 h
  have e1 : Tryd.prog.cellsOf 67 = 3 := by kernel_rfl
  have e2 : Tryd.prog.cellsOf 9 = 1 := by kernel_rfl
  have e3 : Tryd.prog.cellsOf 4 = 1 := by kernel_rfl
  rw [e1] at hl
  rw [e2] at h0 h1; rw [e3] at h2
  obtain ⟨k, g0, rfl, hk⟩ := DataW.trod_string Tryd.underlying9 h0
  obtain ⟨v, g1, rfl, hv⟩ := DataW.trod_string Tryd.underlying9 h1
  obtain ⟨d, g2, rfl⟩ := DataW.trod_bool Tryd.underlying4 h2
  match cs, hl with
  | [c0, c1, c2], _ =>
    simp at g0 g1 g2
    subst g0; subst g1; subst g2
    exact ⟨⟨k, v, d⟩, ⟨rfl, hk, hv⟩, by simp [entE, Rows.uptoBulk, Rows.uptoBulkAll]; have : k.data.size = k.size := rfl; have : v.data.size = v.size := rfl; omega⟩⟩
theorem ofEnts : OfT Tryd.prog 68 (slE entE) := ofSl Tryd.underlying68 (by kernel_rfl) ofEnt
end Go.Proofs.YthobnigjhedjaaaDoor
