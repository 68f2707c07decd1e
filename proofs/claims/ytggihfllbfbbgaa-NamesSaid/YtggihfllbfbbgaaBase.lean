/-
  Words of my own for memory, over any program: what a slice that is read holds ('SlA', 'Sl'), element by element ('Elt'), and that it is kept where the blocks it lies in are kept. No condition: plain definitions and lemmas.
-/
import Derived.Test.YtggihfllbfbbgaaRows
import Derived.WalkKit
import Derived.ProofKit
import Derived.Deep.Slices
import Derived.Deep.Strs
import Derived.Lib.SmallJoins
import Derived.Lib.Hide
import Derived.SizedLaws
namespace Go.Proofs.Ytggihfllbfbbgaa
open Go.RowKit Go.ChangeShapes Go.WideShapes

/-- The blocks F are in w' as in w. -/
def Same (F : Nat → Prop) (w w' : World) : Prop := ∀ k, F k → w'.heap[k]? = w.heap[k]?
theorem Same.refl (F : Nat → Prop) (w : World) : Same F w w := fun _ _ => rfl
theorem Same.trans {F : Nat → Prop} {a b c : World} (h : Same F a b) (h' : Same F b c) : Same F a c := fun k hk => (h' k hk).trans (h k hk)
theorem Same.less {F F' : Nat → Prop} {a b : World} (h : Same F a b) (hF : ∀ k, F' k → F k) : Same F' a b := fun k hk => h k (hF k hk)
theorem Same.below {B : Nat} {a b : World} (h : Below B a b) : Same (· < B) a b := fun k hk => h.block k hk
theorem Same.cell {F : Nat → Prop} {a b : World} (h : Same F a b) {p : Addr} (hp : F p.block) : b.cell? p = a.cell? p := World.cell?_of_block (h _ hp)

/-- How one element lies in its cells. -/
structure Elt (α : Type) where
  sz : Nat
  bulk : α → Nat
  R : (Nat → Prop) → World → List Value → α → Prop
  len : ∀ F w cs x, R F w cs x → cs.length = sz
  keep : ∀ F w w' cs x, R F w cs x → Same F w w' → R F w' cs x
  more : ∀ F F' w cs x, R F w cs x → (∀ k, F k → F' k) → R F' w cs x

def sumBulk {α : Type} (f : α → Nat) : List α → Nat
  | [] => 0
  | x :: r => f x + sumBulk f r

section
variable {α β : Type}
/-- The slice value at A, of capacity c, holds l. -/
def SlA (E : Elt α) (F : Nat → Prop) (w : World) (A : Option Addr) (c : Nat) (l : List α) : Prop :=
  l.length ≤ c ∧ c ≤ maxLen ∧ ∀ i x, l[i]? = some x → ∃ b off cs, A = some ⟨b, off, none⟩ ∧ F b ∧ (∀ j u, cs[j]? = some u → w.cell? ⟨b, off + (i * E.sz + j), none⟩ = some u) ∧ E.R F w cs x
def Sl (E : Elt α) (F : Nat → Prop) (w : World) (v : Value) (l : List α) : Prop := ∃ A c, v = .slice A l.length c ∧ SlA E F w A c l

theorem SlA.keep {E : Elt α} {F : Nat → Prop} {w w' : World} {A : Option Addr} {c : Nat} {l : List α} (h : SlA E F w A c l) (hs : Same F w w') : SlA E F w' A c l :=
  ⟨h.1, h.2.1, fun i x hx => by
    obtain ⟨b, off, cs, rfl, hb, hc, hr⟩ := h.2.2 i x hx
    exact ⟨b, off, cs, rfl, hb, fun j u hu => (hs.cell (p := ⟨b, _, none⟩) hb).trans (hc j u hu), E.keep _ _ _ _ _ hr hs⟩⟩
theorem SlA.more {E : Elt α} {F F' : Nat → Prop} {w : World} {A : Option Addr} {c : Nat} {l : List α} (h : SlA E F w A c l) (hF : ∀ k, F k → F' k) : SlA E F' w A c l :=
  ⟨h.1, h.2.1, fun i x hx => by
    obtain ⟨b, off, cs, rfl, hb, hc, hr⟩ := h.2.2 i x hx
    exact ⟨b, off, cs, rfl, hF _ hb, hc, E.more _ _ _ _ _ hr hF⟩⟩
theorem SlA.le {E : Elt α} {F : Nat → Prop} {w : World} {A : Option Addr} {c : Nat} {l : List α} (h : SlA E F w A c l) : l.length ≤ 9223372036854775807 := by
  have h1 := h.1; have h2 := h.2.1; unfold maxLen at h2; omega
theorem SlA.nil (E : Elt α) (F : Nat → Prop) (w : World) (A : Option Addr) (c : Nat) (hc : c ≤ maxLen) : SlA E F w A c [] := ⟨by simp, hc, fun i x hx => by simp at hx⟩
theorem Sl.keep {E : Elt α} {F : Nat → Prop} {w w' : World} {v : Value} {l : List α} (h : Sl E F w v l) (hs : Same F w w') : Sl E F w' v l := by
  obtain ⟨A, c, rfl, h⟩ := h; exact ⟨A, c, rfl, h.keep hs⟩
theorem Sl.more {E : Elt α} {F F' : Nat → Prop} {w : World} {v : Value} {l : List α} (h : Sl E F w v l) (hF : ∀ k, F k → F' k) : Sl E F' w v l := by
  obtain ⟨A, c, rfl, h⟩ := h; exact ⟨A, c, rfl, h.more hF⟩
theorem Sl.nil (E : Elt α) (F : Nat → Prop) (w : World) : Sl E F w (.slice none 0 0) [] := ⟨none, 0, rfl, SlA.nil E F w _ _ (by unfold maxLen; omega)⟩

/-! ### Elements -/
def intE (k : IntKind) : Elt Int where
  sz := 1
  bulk := fun _ => 1
  R := fun _ _ cs n => cs = [.int k n] ∧ (Lit.int k n).wf = true
  len := fun _ _ _ _ h => by rw [h.1]; rfl
  keep := fun _ _ _ _ _ h _ => h
  more := fun _ _ _ _ _ h _ => h
def strE : Elt ByteArray where
  sz := 1
  bulk := fun s => s.size + 1
  R := fun _ _ cs s => cs = [.string s] ∧ s.size ≤ maxLen
  len := fun _ _ _ _ h => by rw [h.1]; rfl
  keep := fun _ _ _ _ _ h _ => h
  more := fun _ _ _ _ _ h _ => h
def boolE : Elt Bool where
  sz := 1
  bulk := fun _ => 1
  R := fun _ _ cs n => cs = [.bool n]
  len := fun _ _ _ _ h => by rw [h]; rfl
  keep := fun _ _ _ _ _ h _ => h
  more := fun _ _ _ _ _ h _ => h
def slE (E : Elt α) : Elt (List α) where
  sz := 1
  bulk := fun l => sumBulk E.bulk l + 1
  R := fun F w cs l => ∃ v, cs = [v] ∧ Sl E F w v l
  len := fun _ _ _ _ h => by obtain ⟨v, rfl, _⟩ := h; rfl
  keep := fun _ _ _ _ _ h hs => by obtain ⟨v, rfl, h⟩ := h; exact ⟨v, rfl, h.keep hs⟩
  more := fun _ _ _ _ _ h hF => by obtain ⟨v, rfl, h⟩ := h; exact ⟨v, rfl, h.more hF⟩

/-- An element's cells, at its index. -/
theorem SlA.at_ {E : Elt α} {F : Nat → Prop} {w : World} {A : Option Addr} {c : Nat} {l : List α} (h : SlA E F w A c l) {k : Nat} (hk : k < l.length) :
    ∃ b off cs, A = some ⟨b, off, none⟩ ∧ F b ∧ (∀ j u, cs[j]? = some u → w.cell? ⟨b, off + (k * E.sz + j), none⟩ = some u) ∧ E.R F w cs l[k] :=
  h.2.2 k l[k] (List.getElem?_eq_getElem hk)
theorem SlA.int_ {q : IntKind} {F : Nat → Prop} {w : World} {A : Option Addr} {c : Nat} {l : List Int} (h : SlA (intE q) F w A c l) {k : Nat} (hk : k < l.length) :
    ∃ b off, A = some ⟨b, off, none⟩ ∧ F b ∧ w.cell? ⟨b, off + k, none⟩ = some (.int q l[k]) ∧ (Lit.int q l[k]).wf = true := by
  obtain ⟨b, off, cs, rfl, hb, hc, he, hw⟩ := h.at_ hk
  refine ⟨b, off, rfl, hb, ?_, hw⟩
  have := hc 0 (.int q l[k]) (by rw [he]; rfl)
  simpa [intE] using this
theorem SlA.str_ {F : Nat → Prop} {w : World} {A : Option Addr} {c : Nat} {l : List ByteArray} (h : SlA strE F w A c l) {k : Nat} (hk : k < l.length) :
    ∃ b off, A = some ⟨b, off, none⟩ ∧ F b ∧ w.cell? ⟨b, off + k, none⟩ = some (.string l[k]) ∧ l[k].size ≤ maxLen := by
  obtain ⟨b, off, cs, rfl, hb, hc, he, hw⟩ := h.at_ hk
  refine ⟨b, off, rfl, hb, ?_, hw⟩
  have := hc 0 (.string l[k]) (by rw [he]; rfl)
  simpa [strE] using this
theorem SlA.sl_ {E : Elt α} {F : Nat → Prop} {w : World} {A : Option Addr} {c : Nat} {l : List (List α)} (h : SlA (slE E) F w A c l) {k : Nat} (hk : k < l.length) :
    ∃ b off A' c', A = some ⟨b, off, none⟩ ∧ F b ∧ w.cell? ⟨b, off + k, none⟩ = some (.slice A' l[k].length c') ∧ SlA E F w A' c' l[k] := by
  obtain ⟨b, off, cs, rfl, hb, hc, v, he, A', c', rfl, hw⟩ := h.at_ hk
  refine ⟨b, off, A', c', rfl, hb, ?_, hw⟩
  have := hc 0 _ (by rw [he]; rfl)
  simpa [slE] using this

/-! ### From the form's reading -/
theorem cell_lt {w : World} {a : Addr} {v : Value} (h : w.cell? a = some v) : a.block < w.heap.size := by
  unfold World.cell? at h
  rcases Nat.lt_or_ge a.block w.heap.size with hlt | hge
  · exact hlt
  · rw [Array.getElem?_eq_none hge] at h; simp at h

/-- Type t's cells hold an element E. -/
structure OfT (P : Program) (t : TypeId) (E : Elt α) : Prop where
  cells : P.cellsOf t = E.sz
  pos : 0 < E.sz
  of : ∀ {H : Type} (enc : TypeId × Value → H) (w : World) (fuel : Nat) (cs : List Value) (x : DataW H × List MemPlace), DataW.trod enc P w 0 (fun _ => true) true fuel t cs = some x → ∃ y, E.R (· < w.heap.size) w cs y ∧ E.bulk y ≤ Rows.uptoBulk x.1

theorem ofInt {P : Program} {t : TypeId} {k : IntKind} (ht : P.underlying t = some (.int k)) (hc : P.cellsOf t = 1) : OfT P t (intE k) :=
  ⟨hc, Nat.one_pos, fun enc w fuel cs x h => by
    obtain ⟨n, rfl, rfl, hw⟩ := DataW.trod_int ht h
    exact ⟨n, ⟨rfl, hw⟩, by simp [intE, Rows.uptoBulk]⟩⟩
theorem ofStr {P : Program} {t : TypeId} (ht : P.underlying t = some .string) (hc : P.cellsOf t = 1) : OfT P t strE :=
  ⟨hc, Nat.one_pos, fun enc w fuel cs x h => by
    obtain ⟨n, rfl, rfl, hw⟩ := DataW.trod_string ht h
    exact ⟨n, ⟨rfl, hw⟩, by simp [strE, Rows.uptoBulk]⟩⟩
theorem ofBool {P : Program} {t : TypeId} (ht : P.underlying t = some .bool) (hc : P.cellsOf t = 1) : OfT P t boolE :=
  ⟨hc, Nat.one_pos, fun enc w fuel cs x h => by
    obtain ⟨n, rfl, rfl⟩ := DataW.trod_bool ht h
    exact ⟨n, rfl, by simp [boolE, Rows.uptoBulk]⟩⟩

theorem sumBulk_le {H : Type} {f : β → Nat} {l : List β} {D : Nat → DataW H} (h : ∀ i x, l[i]? = some x → f x ≤ Rows.uptoBulk (D i)) : sumBulk f l ≤ Rows.uptoBulkAll ((List.range l.length).map D) := by
  induction l generalizing D with
  | nil => simp [sumBulk]
  | cons x l ih =>
    have h0 := h 0 x rfl
    have := ih (D := fun i => D (i + 1)) (fun i y hy => h (i + 1) y (by simpa using hy))
    rw [List.length_cons, List.range_succ_eq_map, List.map_cons, List.map_map]
    simp only [sumBulk, Rows.uptoBulkAll]
    have e : (List.range l.length).map (D ∘ Nat.succ) = (List.range l.length).map fun i => D (i + 1) := rfl
    rw [e]; omega

theorem cells_add {w : World} {a : Addr} {n : Nat} {cs : List Value} (h : w.cells? 0 a n = some cs) : cs.length = n ∧ ∀ j u, cs[j]? = some u → w.cell? (a.add j) = some u := by
  obtain ⟨_, hl, hc⟩ := World.cells?_some h
  refine ⟨hl, fun j u hu => ?_⟩
  have hj : j < cs.length := by
    rcases Nat.lt_or_ge j cs.length with h | h
    · exact h
    · rw [List.getElem?_eq_none h] at hu; cases hu
  rw [hc j (by omega)]; exact hu

theorem ofSl {P : Program} {t e : TypeId} {E : Elt α} (ht : P.underlying t = some (.slice e)) (hc : P.cellsOf t = 1) (hE : OfT P e E) : OfT P t (slE E) :=
  ⟨hc, Nat.one_pos, fun enc w fuel cs x h => by
    classical
    rcases Go.Deep.open_slice ht h with ⟨rfl, rfl⟩ | ⟨a, len, cap, m, n, D, Pl, rfl, hb, hl, hm, hmm, rfl, hx⟩
    · exact ⟨[], ⟨_, rfl, Sl.nil E _ w⟩, by simp [slE, sumBulk, Rows.uptoBulk]⟩
    · simp only [if_true] at hmm
      subst hmm
      have hall : ∀ i, i < len → ∃ y, (∃ cs', cs'.length = E.sz ∧ (∀ j u, cs'[j]? = some u → w.cell? ((a.add (i * E.sz)).add j) = some u) ∧ E.R (· < w.heap.size) w cs' y) ∧ E.bulk y ≤ Rows.uptoBulk (D i) := by
        intro i hi
        obtain ⟨cs', h1, h2⟩ := hx i (by omega)
        rw [hE.cells] at h1
        obtain ⟨hl', hc'⟩ := cells_add h1
        obtain ⟨y, hy, hbk⟩ := hE.of enc w n cs' _ h2
        exact ⟨y, ⟨cs', hl', hc', hy⟩, hbk⟩
      let f : Fin len → α := fun i => Classical.choose (hall i.1 i.2)
      have hf : ∀ i : Fin len, (∃ cs', cs'.length = E.sz ∧ (∀ j u, cs'[j]? = some u → w.cell? ((a.add (i.1 * E.sz)).add j) = some u) ∧ E.R (· < w.heap.size) w cs' (f i)) ∧ E.bulk (f i) ≤ Rows.uptoBulk (D i.1) := fun i => Classical.choose_spec (hall i.1 i.2)
      have hlen : (List.ofFn f).length = len := List.length_ofFn
      refine ⟨List.ofFn f, ⟨_, rfl, some a, m, by rw [hlen], by rw [hlen]; exact hl, hm, ?_⟩, ?_⟩
      · intro i x hx'
        have hi : i < len := by
          rcases Nat.lt_or_ge i len with h | h
          · exact h
          · rw [List.getElem?_eq_none (by rw [hlen]; exact h)] at hx'; cases hx'
        rw [List.getElem?_eq_getElem (by rw [hlen]; exact hi), List.getElem_ofFn] at hx'
        injection hx' with hx'
        obtain ⟨⟨cs', h1, h2, h3⟩, _⟩ := hf ⟨i, hi⟩
        subst hx'
        obtain ⟨b, off, spot⟩ := a
        have hpos := hE.pos
        have hspot : spot = none := by
          obtain ⟨⟨cs0, g1, g2, g3⟩, _⟩ := hf ⟨0, by omega⟩
          obtain ⟨u, hu⟩ : ∃ u, cs0[0]? = some u := ⟨cs0[0], List.getElem?_eq_getElem (by omega)⟩
          have := g2 0 u hu
          simp only [Nat.zero_mul] at this
          simpa [Addr.add] using World.cell?_spot this
        subst hspot
        refine ⟨b, off, cs', rfl, ?_, ?_, h3⟩
        · obtain ⟨u, hu⟩ : ∃ u, cs'[0]? = some u := ⟨cs'[0], List.getElem?_eq_getElem (by omega)⟩
          have := cell_lt (h2 0 u hu)
          rwa [Go.Deep.add_add, add_plain] at this
        · intro j u hu
          have := h2 j u hu
          rwa [Go.Deep.add_add, add_plain] at this
      · show sumBulk E.bulk (List.ofFn f) + 1 ≤ _
        have := sumBulk_le (H := _) (f := E.bulk) (l := List.ofFn f) (D := D) (fun i x hx' => by
          have hi : i < len := by
            rcases Nat.lt_or_ge i len with h | h
            · exact h
            · rw [List.getElem?_eq_none (by rw [hlen]; exact h)] at hx'; cases hx'
          rw [List.getElem?_eq_getElem (by rw [hlen]; exact hi), List.getElem_ofFn] at hx'
          injection hx' with hx'
          subst hx'
          exact (hf ⟨i, hi⟩).2)
        rw [hlen] at this
        simp only [Rows.uptoBulk]
        omega⟩

/-- A slice argument's bytes, by the form's own reach. -/
theorem capOfTrod {H : Type} {P : Program} {ts : List TypeId} {ds : List (DataW H)} {enc : TypeId × Value → H} {w : World} {t e : TypeId} (ht : P.underlying t = some (.slice e))
    (h : (DataW.weightsEach P ts ds).all (· ≤ reachBytes) = true) {j : Nat} (hj : ts[j]? = some t) {A : Option Addr} {n c : Nat} {d : DataW H} (hd : ds[j]? = some d) {ps : List MemPlace}
    (hr : DataW.Trod enc P w 0 (fun _ => true) true t (.slice A n c) d ps) : c * P.bytesOf e ≤ 140737488351232 := by
  obtain ⟨fuel, hf⟩ := hr
  rcases Go.Deep.open_slice ht hf with ⟨hcs, _⟩ | ⟨a, len, cap, m, k, D, Pl, hcs, hb, hl, hm, hmm, hx, _⟩
  · simp [Value.cells] at hcs
    obtain ⟨_, _, rfl⟩ := hcs
    simp
  · simp [Value.cells] at hcs
    obtain ⟨_, rfl, rfl⟩ := hcs
    injection hx with hx _
    subst hx
    have := sized_slice h hj hd ht
    simp only [List.length_map, List.length_range, if_true] at this hmm
    subst hmm
    have e : ∀ a b : Nat, a ≤ b → a + (b - a) = b := fun _ _ _ => by omega
    rw [e _ _ hl] at this
    exact this

/-- An argument that is a slice. -/
theorem slOfTrod {P : Program} {t : TypeId} {E : Elt α} (h : OfT P t (slE E)) {H : Type} {enc : TypeId × Value → H} {w : World} {A : Option Addr} {n c : Nat} {d : DataW H} {ps : List MemPlace}
    (hd : DataW.Trod enc P w 0 (fun _ => true) true t (.slice A n c) d ps) : ∃ l : List α, n = l.length ∧ SlA E (· < w.heap.size) w A c l ∧ sumBulk E.bulk l + 1 ≤ Rows.uptoBulk d := by
  obtain ⟨fuel, hf⟩ := hd
  obtain ⟨l, ⟨v, hv, A', c', he, hs⟩, hb⟩ := h.of enc w fuel _ _ hf
  have e : v = .slice A n c := by simpa [Value.cells] using hv.symm
  rw [e] at he
  injection he with e1 e2 e3
  subst e1; subst e3
  exact ⟨l, e2, hs, hb⟩
end
end Go.Proofs.Ytggihfllbfbbgaa
