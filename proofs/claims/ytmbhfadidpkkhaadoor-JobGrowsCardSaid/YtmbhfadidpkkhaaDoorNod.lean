/-
  A node of a job, as plain data and as it lies in memory, over this seat's table of types. No condition: definitions and lemmas.
-/
import Derived.Test.YtmbhfadidpkkhaaDoorElts
namespace Go.Proofs.YtmbhfadidpkkhaaDoor
open Go.RowKit Go.ChangeShapes Go.WideShapes
set_option linter.unusedVariables false

structure Nod where
  kind : Int
  from_ : List Int
  text : ByteArray
  n : Int
def nodE : Elt Nod where
  sz := 4
  bulk := fun r => r.text.size + sumBulk (fun _ => 1) r.from_ + 5
  R := fun F w cs r => ∃ v, cs = [.int .i64 r.kind, v, .string r.text, .int .i64 r.n] ∧ I64 r.kind ∧ r.text.size ≤ maxLen ∧ I64 r.n ∧ Sl (intE .i64) F w v r.from_
  len := fun _ _ _ _ h => by obtain ⟨v, rfl, _⟩ := h; rfl
  keep := fun _ _ _ _ _ h hs => by obtain ⟨v, rfl, h1, h2, h3, h⟩ := h; exact ⟨v, rfl, h1, h2, h3, h.keep hs⟩
  more := fun _ _ _ _ _ h hF => by obtain ⟨v, rfl, h1, h2, h3, h⟩ := h; exact ⟨v, rfl, h1, h2, h3, h.more hF⟩
theorem SlA.nod_ {F : Nat → Prop} {w : World} {A : Option Addr} {c : Nat} {l : List Nod} (h : SlA nodE F w A c l) {k : Nat} (hk : k < l.length) :
    ∃ b off A' c', A = some ⟨b, off, none⟩ ∧ F b ∧ w.cell? ⟨b, off + k * 4, none⟩ = some (.int .i64 l[k].kind) ∧ w.cell? ⟨b, off + k * 4 + 1, none⟩ = some (.slice A' l[k].from_.length c') ∧ w.cell? ⟨b, off + k * 4 + 2, none⟩ = some (.string l[k].text) ∧ w.cell? ⟨b, off + k * 4 + 3, none⟩ = some (.int .i64 l[k].n) ∧
      l[k].text.size ≤ maxLen ∧ I64 l[k].kind ∧ I64 l[k].n ∧ SlA (intE .i64) F w A' c' l[k].from_ := by
  obtain ⟨b, off, cs, rfl, hb, hc, v, he, h1, h2, h3, A', c', rfl, h4⟩ := h.at_ hk
  have c0 := hc 0 _ (by rw [he]; rfl)
  have c1 := hc 1 _ (by rw [he]; rfl)
  have c2 := hc 2 _ (by rw [he]; rfl)
  have c3 := hc 3 _ (by rw [he]; rfl)
  simp only [nodE, Nat.add_zero] at c0 c1 c2 c3
  exact ⟨b, off, A', c', rfl, hb, c0, by rw [Nat.add_assoc]; exact c1, by rw [Nat.add_assoc]; exact c2, by rw [Nat.add_assoc]; exact c3, h2, h1, h3, h4⟩
theorem ofNod : OfT Tryd.prog 28 nodE := ⟨by kernel_rfl, by decide, fun enc w fuel cs x h => by
  obtain ⟨y0, y1, y2, y3, n, rfl, hl, h0, h1, h2, h3⟩ := Go.Joins.trod_struct4 Tryd.underlying28 h
  have e1 : Tryd.prog.cellsOf 28 = 4 := by kernel_rfl
  have e2 : Tryd.prog.cellsOf 9 = 1 := by kernel_rfl
  have e3 : Tryd.prog.cellsOf 3 = 1 := by kernel_rfl
  have e4 : Tryd.prog.cellsOf 26 = 1 := by kernel_rfl
  rw [e1] at hl
  rw [e3] at h0 h3; rw [e4] at h1; rw [e2] at h2
  obtain ⟨a, g0, rfl, ha⟩ := DataW.trod_int Tryd.underlying3 h0
  obtain ⟨l, ⟨v, g1, hv⟩, hbk⟩ := ofInts.of enc w n _ _ h1
  obtain ⟨k, g2, rfl, hk⟩ := DataW.trod_string Tryd.underlying9 h2
  obtain ⟨c, g3, rfl, hc⟩ := DataW.trod_int Tryd.underlying3 h3
  match cs, hl with
  | [c0, c1, c2, c3], _ =>
    simp at g0 g1 g2 g3
    subst g0; subst g1; subst g2; subst g3
    refine ⟨⟨a, l, k, c⟩, ⟨_, rfl, ha, hk, hc, hv⟩, ?_⟩
    have hbk' : sumBulk (fun _ => 1) l + 1 ≤ Rows.uptoBulk y1.1 := hbk
    simp [nodE, Rows.uptoBulk, Rows.uptoBulkAll]; have : k.data.size = k.size := rfl; omega⟩
theorem ofNods : OfT Tryd.prog 22 (slE nodE) := ofSl Tryd.underlying22 (by kernel_rfl) ofNod
end Go.Proofs.YtmbhfadidpkkhaaDoor
