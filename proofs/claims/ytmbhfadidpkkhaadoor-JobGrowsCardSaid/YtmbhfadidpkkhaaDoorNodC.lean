/-
  Nodes with the values of their inputs: so a node's cells are a function of it, and rows of nodes are appended. No condition: definitions and lemmas.
-/
import Derived.Test.YtmbhfadidpkkhaaDoorNod
import Derived.Test.YtmbhfadidpkkhaaDoorHeap
namespace Go.Proofs.YtmbhfadidpkkhaaDoor
open Go.RowKit Go.ChangeShapes Go.WideShapes
set_option linter.unusedVariables false

abbrev NodV := Nod × (Option Addr × Nat)
def nodCells (x : NodV) : List Value := [.int .i64 x.1.kind, .slice x.2.1 x.1.from_.length x.2.2, .string x.1.text, .int .i64 x.1.n]
def nodC : Elt NodV where
  sz := 4
  bulk := fun _ => 0
  R := fun F w cs x => cs = nodCells x ∧ I64 x.1.kind ∧ x.1.text.size ≤ maxLen ∧ I64 x.1.n ∧ SlA (intE .i64) F w x.2.1 x.2.2 x.1.from_
  len := fun _ _ _ _ h => by rw [h.1]; rfl
  keep := fun _ _ _ _ _ h hs => ⟨h.1, h.2.1, h.2.2.1, h.2.2.2.1, h.2.2.2.2.keep hs⟩
  more := fun _ _ _ _ _ h hF => ⟨h.1, h.2.1, h.2.2.1, h.2.2.2.1, h.2.2.2.2.more hF⟩
theorem SlA.toV {F : Nat → Prop} {w : World} {A : Option Addr} {c : Nat} {l : List Nod} (h : SlA nodE F w A c l) : ∃ lv : List NodV, lv.map (·.1) = l ∧ SlA nodC F w A c lv := by
  obtain ⟨h1, h2, h3⟩ := h
  have hex : ∀ i : Fin l.length, ∃ v : Option Addr × Nat, ∃ b off, A = some ⟨b, off, none⟩ ∧ F b ∧ (∀ j u, (nodCells (l[i], v))[j]? = some u → w.cell? ⟨b, off + (i.1 * 4 + j), none⟩ = some u) ∧ nodC.R F w (nodCells (l[i], v)) (l[i], v) := fun i => by
    obtain ⟨b, off, cs, rfl, hb, hc, v, rfl, k1, k2, k3, A', c', rfl, k4⟩ := h3 i.1 l[i] (List.getElem?_eq_getElem i.2)
    exact ⟨(A', c'), b, off, rfl, hb, hc, rfl, k1, k2, k3, k4⟩
  obtain ⟨f, hf⟩ := Classical.axiomOfChoice hex
  refine ⟨List.ofFn fun i : Fin l.length => (l[i], f i), ?_, ?_, h2, ?_⟩
  · apply List.ext_getElem
    · simp
    · intro i h1 h2; simp
  · simp; exact h1
  · intro i x hx
    have hi : i < l.length := by
      rcases Nat.lt_or_ge i l.length with h | h
      · exact h
      · rw [List.getElem?_eq_none (by simp; exact h)] at hx; cases hx
    rw [List.getElem?_ofFn, dif_pos hi] at hx
    injection hx with hx
    subst hx
    obtain ⟨b, off, e, hb, hc, hr⟩ := hf ⟨i, hi⟩
    exact ⟨b, off, _, e, hb, hc, hr⟩
theorem SlA.ofV {F : Nat → Prop} {w : World} {A : Option Addr} {c : Nat} {lv : List NodV} (h : SlA nodC F w A c lv) : SlA nodE F w A c (lv.map (·.1)) := by
  obtain ⟨h1, h2, h3⟩ := h
  refine ⟨by simpa using h1, h2, fun i x hx => ?_⟩
  rw [List.getElem?_map] at hx
  cases hv : lv[i]? with
  | none => rw [hv] at hx; cases hx
  | some y =>
    rw [hv] at hx
    injection hx with hx
    subst hx
    obtain ⟨b, off, cs, e, hb, hc, rfl, k1, k2, k3, k4⟩ := h3 i y hv
    exact ⟨b, off, _, e, hb, hc, _, rfl, k1, k2, k3, _, _, rfl, k4⟩
theorem nodCells_one (x : NodV) : ∀ u ∈ nodCells x, u.oneCell' = true := fun u hu => by
  unfold nodCells at hu
  simp only [List.mem_cons, List.not_mem_nil, or_false] at hu
  rcases hu with rfl | rfl | rfl | rfl <;> rfl
theorem src_nods {P : Program} {F : Nat → Prop} {w : World} {A : Option Addr} {c : Nat} {lv : List NodV} {tx e' : TypeId} (h : SlA nodC F w A c lv) (hk : P.underlying tx = some (.slice e')) : Src P 4 tx (.slice A lv.length c) lv.length (lv.flatMap nodCells) w :=
  Src.of_sl (P := P) (E := nodC) h hk nodCells (fun cs x hx => hx.1) (fun _ => rfl) nodCells_one
theorem own_nods {w : World} {e : TypeId} {A : Option Addr} {cap n : Nat} {lv : List NodV} (h : OwnS w e 4 A cap n (lv.flatMap nodCells)) (hn : n = lv.length) {F : Nat → Prop} (hF : ∀ k, blk A = some k → F k) (hR : ∀ x ∈ lv, nodC.R F w (nodCells x) x) : SlA nodE F w A cap (lv.map (·.1)) :=
  (OwnS.sl (E := nodC) nodCells (fun _ => rfl) h hn hF hR).ofV
end Go.Proofs.YtmbhfadidpkkhaaDoor
