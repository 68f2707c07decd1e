/-
  The document's records, as plain data and as they lie in memory, over this seat's table of types. No condition: definitions and lemmas.
-/
import Derived.Test.YtmcmejmfaihclaaDoorBase
namespace Go.Proofs.YtmcmejmfaihclaaDoor
open Go.RowKit Go.ChangeShapes Go.WideShapes

structure Rec where
  key : ByteArray
  num : Int
  time : Int
structure Lin where
  key : ByteArray
  nums : List Int

def I64 (n : Int) : Prop := (Lit.int .i64 n).wf = true

def recE : Elt Rec where
  sz := 3
  bulk := fun r => r.key.size + 4
  R := fun _ _ cs r => cs = [.string r.key, .int .i64 r.num, .int .i64 r.time] ∧ r.key.size ≤ maxLen ∧ I64 r.num ∧ I64 r.time
  len := fun _ _ _ _ h => by rw [h.1]; rfl
  keep := fun _ _ _ _ _ h _ => h
  more := fun _ _ _ _ _ h _ => h
def linE : Elt Lin where
  sz := 2
  bulk := fun r => r.key.size + sumBulk (fun _ => 1) r.nums + 3
  R := fun F w cs r => ∃ v, cs = [.string r.key, v] ∧ r.key.size ≤ maxLen ∧ Sl (intE .i64) F w v r.nums
  len := fun _ _ _ _ h => by obtain ⟨v, rfl, _⟩ := h; rfl
  keep := fun _ _ _ _ _ h hs => by obtain ⟨v, rfl, h1, h⟩ := h; exact ⟨v, rfl, h1, h.keep hs⟩
  more := fun _ _ _ _ _ h hF => by obtain ⟨v, rfl, h1, h⟩ := h; exact ⟨v, rfl, h1, h.more hF⟩

theorem SlA.rec_ {F : Nat → Prop} {w : World} {A : Option Addr} {c : Nat} {l : List Rec} (h : SlA recE F w A c l) {k : Nat} (hk : k < l.length) :
    ∃ b off, A = some ⟨b, off, none⟩ ∧ F b ∧ w.cell? ⟨b, off + k * 3, none⟩ = some (.string l[k].key) ∧ w.cell? ⟨b, off + k * 3 + 1, none⟩ = some (.int .i64 l[k].num) ∧ w.cell? ⟨b, off + k * 3 + 2, none⟩ = some (.int .i64 l[k].time) ∧
      l[k].key.size ≤ maxLen ∧ I64 l[k].num ∧ I64 l[k].time := by
  obtain ⟨b, off, cs, rfl, hb, hc, he, h1, h2, h3⟩ := h.at_ hk
  have c0 := hc 0 _ (by rw [he]; rfl)
  have c1 := hc 1 _ (by rw [he]; rfl)
  have c2 := hc 2 _ (by rw [he]; rfl)
  simp only [recE, Nat.add_zero] at c0 c1 c2
  exact ⟨b, off, rfl, hb, c0, by rw [Nat.add_assoc]; exact c1, by rw [Nat.add_assoc]; exact c2, h1, h2, h3⟩
theorem SlA.lin_ {F : Nat → Prop} {w : World} {A : Option Addr} {c : Nat} {l : List Lin} (h : SlA linE F w A c l) {k : Nat} (hk : k < l.length) :
    ∃ b off A' c', A = some ⟨b, off, none⟩ ∧ F b ∧ w.cell? ⟨b, off + k * 2, none⟩ = some (.string l[k].key) ∧ w.cell? ⟨b, off + k * 2 + 1, none⟩ = some (.slice A' l[k].nums.length c') ∧
      l[k].key.size ≤ maxLen ∧ SlA (intE .i64) F w A' c' l[k].nums := by
  obtain ⟨b, off, cs, rfl, hb, hc, v, he, h1, A', c', rfl, h2⟩ := h.at_ hk
  have c0 := hc 0 _ (by rw [he]; rfl)
  have c1 := hc 1 _ (by rw [he]; rfl)
  simp only [linE, Nat.add_zero] at c0 c1
  exact ⟨b, off, A', c', rfl, hb, c0, by rw [Nat.add_assoc]; exact c1, h1, h2⟩

/-! ### The types of this seat -/
theorem ofInts : OfT Tryd.prog 44 (slE (intE .i64)) := ofSl Tryd.underlying44 (by kernel_rfl) (ofInt Tryd.underlying3 (by kernel_rfl))
theorem ofIntss : OfT Tryd.prog 39 (slE (slE (intE .i64))) := ofSl Tryd.underlying39 (by kernel_rfl) ofInts
theorem ofBytes : OfT Tryd.prog 58 (slE bytE) := ofSl Tryd.underlying58 (by kernel_rfl) (ofByte Tryd.underlying5 (by kernel_rfl))
theorem ofRec : OfT Tryd.prog 47 recE := ⟨by kernel_rfl, by decide, fun enc w fuel cs x h => by
  obtain ⟨y0, y1, y2, n, rfl, hl, h0, h1, h2⟩ := Go.Deep.trod_struct3 Tryd.underlying47 h
  have e1 : Tryd.prog.cellsOf 47 = 3 := by kernel_rfl
  have e2 : Tryd.prog.cellsOf 9 = 1 := by kernel_rfl
  have e3 : Tryd.prog.cellsOf 3 = 1 := by kernel_rfl
  rw [e1] at hl
  rw [e2] at h0; rw [e3] at h1 h2
  obtain ⟨k, g0, rfl, hk⟩ := DataW.trod_string Tryd.underlying9 h0
  obtain ⟨a, g1, rfl, ha⟩ := DataW.trod_int Tryd.underlying3 h1
  obtain ⟨b, g2, rfl, hb⟩ := DataW.trod_int Tryd.underlying3 h2
  match cs, hl with
  | [c0, c1, c2], _ =>
    simp at g0 g1 g2
    subst g0; subst g1; subst g2
    exact ⟨⟨k, a, b⟩, ⟨rfl, hk, ha, hb⟩, by simp [recE, Rows.uptoBulk, Rows.uptoBulkAll]⟩⟩
theorem ofRecs : OfT Tryd.prog 42 (slE recE) := ofSl Tryd.underlying42 (by kernel_rfl) ofRec
theorem ofRecss : OfT Tryd.prog 43 (slE (slE recE)) := ofSl Tryd.underlying43 (by kernel_rfl) ofRecs
end Go.Proofs.YtmcmejmfaihclaaDoor
