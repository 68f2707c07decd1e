/-
  Words of my own for memory, over any program: what a slice that is read holds ('SlA', 'Sl'), element by element ('Elt'), and that it is kept where the blocks it lies in are kept. No condition: plain definitions and lemmas.
-/
import Derived.Test.YthanjafbgcljgaaGreatDoorRows
import Derived.WalkKit
import Derived.ProofKit
import Derived.Deep.Slices
import Derived.Deep.Strs
import Derived.Lib.SmallJoins
import Derived.Lib.Hide
import Derived.SizedLaws
import Derived.Maps.AppendAt
import Derived.Deep.AppendLies
import Derived.Deep.AppendSrc
import Derived.Laws.CopyRow
import Derived.Laws.IdiomStrings
import Derived.OpenShut
namespace Go.Proofs.YthanjafbgcljgaaGreatDoor
open Go.RowKit Go.ChangeShapes Go.WideShapes
set_option linter.unusedVariables false

/-- The blocks F are in w' as in w. -/
def Same (F : Nat → Prop) (w w' : World) : Prop := ∀ k, F k → w'.heap[k]? = w.heap[k]?
theorem Same.refl (F : Nat → Prop) (w : World) : Same F w w := fun _ _ => rfl
theorem Same.trans {F : Nat → Prop} {a b c : World} (h : Same F a b) (h' : Same F b c) : Same F a c := fun k hk => (h' k hk).trans (h k hk)
theorem Same.less {F F' : Nat → Prop} {a b : World} (h : Same F a b) (hF : ∀ k, F' k → F k) : Same F' a b := fun k hk => h k (hF k hk)
theorem Same.below {B : Nat} {a b : World} (h : Below B a b) : Same (· < B) a b := fun k hk => h.block k hk
theorem Same.cell {F : Nat → Prop} {a b : World} (h : Same F a b) {p : Addr} (hp : F p.block) : b.cell? p = a.cell? p := World.cell?_of_block (h _ hp)

/-- How one element lies in its cells. -/
structure Elt (α : Type) where
  sz : Nat
  bulk : α → Nat
  R : (Nat → Prop) → World → List Value → α → Prop
  len : ∀ F w cs x, R F w cs x → cs.length = sz
  keep : ∀ F w w' cs x, R F w cs x → Same F w w' → R F w' cs x
  more : ∀ F F' w cs x, R F w cs x → (∀ k, F k → F' k) → R F' w cs x

def sumBulk {α : Type} (f : α → Nat) : List α → Nat
  | [] => 0
  | x :: r => f x + sumBulk f r

section
variable {α β : Type}
/-- The slice value at A, of capacity c, holds l. -/
def SlA (E : Elt α) (F : Nat → Prop) (w : World) (A : Option Addr) (c : Nat) (l : List α) : Prop :=
  l.length ≤ c ∧ c ≤ maxLen ∧ ∀ i x, l[i]? = some x → ∃ b off cs, A = some ⟨b, off, none⟩ ∧ F b ∧ (∀ j u, cs[j]? = some u → w.cell? ⟨b, off + (i * E.sz + j), none⟩ = some u) ∧ E.R F w cs x
def Sl (E : Elt α) (F : Nat → Prop) (w : World) (v : Value) (l : List α) : Prop := ∃ A c, v = .slice A l.length c ∧ SlA E F w A c l

theorem SlA.keep {E : Elt α} {F : Nat → Prop} {w w' : World} {A : Option Addr} {c : Nat} {l : List α} (h : SlA E F w A c l) (hs : Same F w w') : SlA E F w' A c l :=
  ⟨h.1, h.2.1, fun i x hx => by
    obtain ⟨b, off, cs, rfl, hb, hc, hr⟩ := h.2.2 i x hx
    exact ⟨b, off, cs, rfl, hb, fun j u hu => (hs.cell (p := ⟨b, _, none⟩) hb).trans (hc j u hu), E.keep _ _ _ _ _ hr hs⟩⟩
theorem SlA.more {E : Elt α} {F F' : Nat → Prop} {w : World} {A : Option Addr} {c : Nat} {l : List α} (h : SlA E F w A c l) (hF : ∀ k, F k → F' k) : SlA E F' w A c l :=
  ⟨h.1, h.2.1, fun i x hx => by
    obtain ⟨b, off, cs, rfl, hb, hc, hr⟩ := h.2.2 i x hx
    exact ⟨b, off, cs, rfl, hF _ hb, hc, E.more _ _ _ _ _ hr hF⟩⟩
theorem SlA.le {E : Elt α} {F : Nat → Prop} {w : World} {A : Option Addr} {c : Nat} {l : List α} (h : SlA E F w A c l) : l.length ≤ 9223372036854775807 := by
  have h1 := h.1; have h2 := h.2.1; unfold maxLen at h2; omega
theorem SlA.nil (E : Elt α) (F : Nat → Prop) (w : World) (A : Option Addr) (c : Nat) (hc : c ≤ maxLen) : SlA E F w A c [] := ⟨by simp, hc, fun i x hx => by simp at hx⟩
theorem Sl.keep {E : Elt α} {F : Nat → Prop} {w w' : World} {v : Value} {l : List α} (h : Sl E F w v l) (hs : Same F w w') : Sl E F w' v l := by
  obtain ⟨A, c, rfl, h⟩ := h; exact ⟨A, c, rfl, h.keep hs⟩
theorem Sl.more {E : Elt α} {F F' : Nat → Prop} {w : World} {v : Value} {l : List α} (h : Sl E F w v l) (hF : ∀ k, F k → F' k) : Sl E F' w v l := by
  obtain ⟨A, c, rfl, h⟩ := h; exact ⟨A, c, rfl, h.more hF⟩
theorem Sl.nil (E : Elt α) (F : Nat → Prop) (w : World) : Sl E F w (.slice none 0 0) [] := ⟨none, 0, rfl, SlA.nil E F w _ _ (by unfold maxLen; omega)⟩

/-! ### Elements -/
def intE (k : IntKind) : Elt Int where
  sz := 1
  bulk := fun _ => 1
  R := fun _ _ cs n => cs = [.int k n] ∧ (Lit.int k n).wf = true
  len := fun _ _ _ _ h => by rw [h.1]; rfl
  keep := fun _ _ _ _ _ h _ => h
  more := fun _ _ _ _ _ h _ => h
def strE : Elt ByteArray where
  sz := 1
  bulk := fun s => s.size + 1
  R := fun _ _ cs s => cs = [.string s] ∧ s.size ≤ maxLen
  len := fun _ _ _ _ h => by rw [h.1]; rfl
  keep := fun _ _ _ _ _ h _ => h
  more := fun _ _ _ _ _ h _ => h
def bytE : Elt UInt8 where
  sz := 1
  bulk := fun _ => 1
  R := fun _ _ cs b => cs = [.int .u8 (b.toNat : Int)]
  len := fun _ _ _ _ h => by rw [h]; rfl
  keep := fun _ _ _ _ _ h _ => h
  more := fun _ _ _ _ _ h _ => h
def boolE : Elt Bool where
  sz := 1
  bulk := fun _ => 1
  R := fun _ _ cs n => cs = [.bool n]
  len := fun _ _ _ _ h => by rw [h]; rfl
  keep := fun _ _ _ _ _ h _ => h
  more := fun _ _ _ _ _ h _ => h
def slE (E : Elt α) : Elt (List α) where
  sz := 1
  bulk := fun l => sumBulk E.bulk l + 1
  R := fun F w cs l => ∃ v, cs = [v] ∧ Sl E F w v l
  len := fun _ _ _ _ h => by obtain ⟨v, rfl, _⟩ := h; rfl
  keep := fun _ _ _ _ _ h hs => by obtain ⟨v, rfl, h⟩ := h; exact ⟨v, rfl, h.keep hs⟩
  more := fun _ _ _ _ _ h hF => by obtain ⟨v, rfl, h⟩ := h; exact ⟨v, rfl, h.more hF⟩

/-- An element's cells, at its index. -/
theorem SlA.at_ {E : Elt α} {F : Nat → Prop} {w : World} {A : Option Addr} {c : Nat} {l : List α} (h : SlA E F w A c l) {k : Nat} (hk : k < l.length) :
    ∃ b off cs, A = some ⟨b, off, none⟩ ∧ F b ∧ (∀ j u, cs[j]? = some u → w.cell? ⟨b, off + (k * E.sz + j), none⟩ = some u) ∧ E.R F w cs l[k] :=
  h.2.2 k l[k] (List.getElem?_eq_getElem hk)
theorem SlA.int_ {q : IntKind} {F : Nat → Prop} {w : World} {A : Option Addr} {c : Nat} {l : List Int} (h : SlA (intE q) F w A c l) {k : Nat} (hk : k < l.length) :
    ∃ b off, A = some ⟨b, off, none⟩ ∧ F b ∧ w.cell? ⟨b, off + k, none⟩ = some (.int q l[k]) ∧ (Lit.int q l[k]).wf = true := by
  obtain ⟨b, off, cs, rfl, hb, hc, he, hw⟩ := h.at_ hk
  refine ⟨b, off, rfl, hb, ?_, hw⟩
  have := hc 0 (.int q l[k]) (by rw [he]; rfl)
  simpa [intE] using this
theorem SlA.byt_ {F : Nat → Prop} {w : World} {A : Option Addr} {c : Nat} {l : List UInt8} (h : SlA bytE F w A c l) {k : Nat} (hk : k < l.length) :
    ∃ b off, A = some ⟨b, off, none⟩ ∧ F b ∧ w.cell? ⟨b, off + k, none⟩ = some (.int .u8 (l[k].toNat : Int)) := by
  obtain ⟨b, off, cs, rfl, hb, hc, he⟩ := h.at_ hk
  refine ⟨b, off, rfl, hb, ?_⟩
  have := hc 0 _ (by rw [he]; rfl)
  simpa [bytE] using this
theorem SlA.str_ {F : Nat → Prop} {w : World} {A : Option Addr} {c : Nat} {l : List ByteArray} (h : SlA strE F w A c l) {k : Nat} (hk : k < l.length) :
    ∃ b off, A = some ⟨b, off, none⟩ ∧ F b ∧ w.cell? ⟨b, off + k, none⟩ = some (.string l[k]) ∧ l[k].size ≤ maxLen := by
  obtain ⟨b, off, cs, rfl, hb, hc, he, hw⟩ := h.at_ hk
  refine ⟨b, off, rfl, hb, ?_, hw⟩
  have := hc 0 (.string l[k]) (by rw [he]; rfl)
  simpa [strE] using this
theorem SlA.sl_ {E : Elt α} {F : Nat → Prop} {w : World} {A : Option Addr} {c : Nat} {l : List (List α)} (h : SlA (slE E) F w A c l) {k : Nat} (hk : k < l.length) :
    ∃ b off A' c', A = some ⟨b, off, none⟩ ∧ F b ∧ w.cell? ⟨b, off + k, none⟩ = some (.slice A' l[k].length c') ∧ SlA E F w A' c' l[k] := by
  obtain ⟨b, off, cs, rfl, hb, hc, v, he, A', c', rfl, hw⟩ := h.at_ hk
  refine ⟨b, off, A', c', rfl, hb, ?_, hw⟩
  have := hc 0 _ (by rw [he]; rfl)
  simpa [slE] using this

/-! ### From the form's reading -/
theorem cell_lt {w : World} {a : Addr} {v : Value} (h : w.cell? a = some v) : a.block < w.heap.size := by
  unfold World.cell? at h
  rcases Nat.lt_or_ge a.block w.heap.size with hlt | hge
  · exact hlt
  · rw [Array.getElem?_eq_none hge] at h; simp at h

/-- Type t's cells hold an element E. -/
structure OfT (P : Program) (t : TypeId) (E : Elt α) : Prop where
  cells : P.cellsOf t = E.sz
  pos : 0 < E.sz
  of : ∀ {H : Type} (enc : TypeId × Value → H) (w : World) (fuel : Nat) (cs : List Value) (x : DataW H × List MemPlace), DataW.trod enc P w 0 (fun _ => true) true fuel t cs = some x → ∃ y, E.R (· < w.heap.size) w cs y ∧ E.bulk y ≤ Rows.uptoBulk x.1

theorem ofInt {P : Program} {t : TypeId} {k : IntKind} (ht : P.underlying t = some (.int k)) (hc : P.cellsOf t = 1) : OfT P t (intE k) :=
  ⟨hc, Nat.one_pos, fun enc w fuel cs x h => by
    obtain ⟨n, rfl, rfl, hw⟩ := DataW.trod_int ht h
    exact ⟨n, ⟨rfl, hw⟩, by simp [intE, Rows.uptoBulk]⟩⟩
theorem ofByte {P : Program} {t : TypeId} (ht : P.underlying t = some (.int .u8)) (hc : P.cellsOf t = 1) : OfT P t bytE :=
  ⟨hc, Nat.one_pos, fun enc w fuel cs x h => by
    obtain ⟨n, rfl, rfl, hw⟩ := DataW.trod_int ht h
    have hb : 0 ≤ n ∧ n < 256 := by
      have h2 := bounds_u8 hw
      omega
    refine ⟨UInt8.ofNat n.toNat, ?_, by simp [bytE, Rows.uptoBulk]⟩
    have e : ((UInt8.ofNat n.toNat).toNat : Int) = n := by rw [UInt8.toNat_ofNat']; omega
    show [Value.int .u8 n] = [Value.int .u8 _]
    rw [e]⟩
theorem ofStr {P : Program} {t : TypeId} (ht : P.underlying t = some .string) (hc : P.cellsOf t = 1) : OfT P t strE :=
  ⟨hc, Nat.one_pos, fun enc w fuel cs x h => by
    obtain ⟨n, rfl, rfl, hw⟩ := DataW.trod_string ht h
    exact ⟨n, ⟨rfl, hw⟩, by simp [strE, Rows.uptoBulk]⟩⟩
theorem ofBool {P : Program} {t : TypeId} (ht : P.underlying t = some .bool) (hc : P.cellsOf t = 1) : OfT P t boolE :=
  ⟨hc, Nat.one_pos, fun enc w fuel cs x h => by
    obtain ⟨n, rfl, rfl⟩ := DataW.trod_bool ht h
    exact ⟨n, rfl, by simp [boolE, Rows.uptoBulk]⟩⟩

theorem sumBulk_le {H : Type} {f : β → Nat} {l : List β} {D : Nat → DataW H} (h : ∀ i x, l[i]? = some x → f x ≤ Rows.uptoBulk (D i)) : sumBulk f l ≤ Rows.uptoBulkAll ((List.range l.length).map D) := by
  induction l generalizing D with
  | nil => simp [sumBulk]
  | cons x l ih =>
    have h0 := h 0 x rfl
    have := ih (D := fun i => D (i + 1)) (fun i y hy => h (i + 1) y (by simpa using hy))
    rw [List.length_cons, List.range_succ_eq_map, List.map_cons, List.map_map]
    simp only [sumBulk, Rows.uptoBulkAll]
    have e : (List.range l.length).map (D ∘ Nat.succ) = (List.range l.length).map fun i => D (i + 1) := rfl
    rw [e]; omega

theorem cells_add {w : World} {a : Addr} {n : Nat} {cs : List Value} (h : w.cells? 0 a n = some cs) : cs.length = n ∧ ∀ j u, cs[j]? = some u → w.cell? (a.add j) = some u := by
  obtain ⟨_, hl, hc⟩ := World.cells?_some h
  refine ⟨hl, fun j u hu => ?_⟩
  have hj : j < cs.length := by
    rcases Nat.lt_or_ge j cs.length with h | h
    · exact h
    · rw [List.getElem?_eq_none h] at hu; cases hu
  rw [hc j (by omega)]; exact hu

theorem ofSl {P : Program} {t e : TypeId} {E : Elt α} (ht : P.underlying t = some (.slice e)) (hc : P.cellsOf t = 1) (hE : OfT P e E) : OfT P t (slE E) :=
  ⟨hc, Nat.one_pos, fun enc w fuel cs x h => by
    classical
    rcases Go.Deep.open_slice ht h with ⟨rfl, rfl⟩ | ⟨a, len, cap, m, n, D, Pl, rfl, hb, hl, hm, hmm, rfl, hx⟩
    · exact ⟨[], ⟨_, rfl, Sl.nil E _ w⟩, by simp [slE, sumBulk, Rows.uptoBulk]⟩
    · simp only [if_true] at hmm
      subst hmm
      have hall : ∀ i, i < len → ∃ y, (∃ cs', cs'.length = E.sz ∧ (∀ j u, cs'[j]? = some u → w.cell? ((a.add (i * E.sz)).add j) = some u) ∧ E.R (· < w.heap.size) w cs' y) ∧ E.bulk y ≤ Rows.uptoBulk (D i) := by
        intro i hi
        obtain ⟨cs', h1, h2⟩ := hx i (by omega)
        rw [hE.cells] at h1
        obtain ⟨hl', hc'⟩ := cells_add h1
        obtain ⟨y, hy, hbk⟩ := hE.of enc w n cs' _ h2
        exact ⟨y, ⟨cs', hl', hc', hy⟩, hbk⟩
      let f : Fin len → α := fun i => Classical.choose (hall i.1 i.2)
      have hf : ∀ i : Fin len, (∃ cs', cs'.length = E.sz ∧ (∀ j u, cs'[j]? = some u → w.cell? ((a.add (i.1 * E.sz)).add j) = some u) ∧ E.R (· < w.heap.size) w cs' (f i)) ∧ E.bulk (f i) ≤ Rows.uptoBulk (D i.1) := fun i => Classical.choose_spec (hall i.1 i.2)
      have hlen : (List.ofFn f).length = len := List.length_ofFn
      refine ⟨List.ofFn f, ⟨_, rfl, some a, m, by rw [hlen], by rw [hlen]; exact hl, hm, ?_⟩, ?_⟩
      · intro i x hx'
        have hi : i < len := by
          rcases Nat.lt_or_ge i len with h | h
          · exact h
          · rw [List.getElem?_eq_none (by rw [hlen]; exact h)] at hx'; cases hx'
        rw [List.getElem?_eq_getElem (by rw [hlen]; exact hi), List.getElem_ofFn] at hx'
        injection hx' with hx'
        obtain ⟨⟨cs', h1, h2, h3⟩, _⟩ := hf ⟨i, hi⟩
        subst hx'
        obtain ⟨b, off, spot⟩ := a
        have hpos := hE.pos
        have hspot : spot = none := by
          obtain ⟨⟨cs0, g1, g2, g3⟩, _⟩ := hf ⟨0, by omega⟩
          obtain ⟨u, hu⟩ : ∃ u, cs0[0]? = some u := ⟨cs0[0], List.getElem?_eq_getElem (by omega)⟩
          have := g2 0 u hu
          simp only [Nat.zero_mul] at this
          simpa [Addr.add] using World.cell?_spot this
        subst hspot
        refine ⟨b, off, cs', rfl, ?_, ?_, h3⟩
        · obtain ⟨u, hu⟩ : ∃ u, cs'[0]? = some u := ⟨cs'[0], List.getElem?_eq_getElem (by omega)⟩
          have := cell_lt (h2 0 u hu)
          rwa [Go.Deep.add_add, add_plain] at this
        · intro j u hu
          have := h2 j u hu
          rwa [Go.Deep.add_add, add_plain] at this
      · show sumBulk E.bulk (List.ofFn f) + 1 ≤ _
        have := sumBulk_le (H := _) (f := E.bulk) (l := List.ofFn f) (D := D) (fun i x hx' => by
          have hi : i < len := by
            rcases Nat.lt_or_ge i len with h | h
            · exact h
            · rw [List.getElem?_eq_none (by rw [hlen]; exact h)] at hx'; cases hx'
          rw [List.getElem?_eq_getElem (by rw [hlen]; exact hi), List.getElem_ofFn] at hx'
          injection hx' with hx'
          subst hx'
          exact (hf ⟨i, hi⟩).2)
        rw [hlen] at this
        simp only [Rows.uptoBulk]
        omega⟩

/-- A slice argument's bytes, by the form's own reach. -/
theorem capOfTrod {H : Type} {P : Program} {ts : List TypeId} {ds : List (DataW H)} {enc : TypeId × Value → H} {w : World} {t e : TypeId} (ht : P.underlying t = some (.slice e))
    (h : (DataW.weightsEach P ts ds).all (· ≤ reachBytes) = true) {j : Nat} (hj : ts[j]? = some t) {A : Option Addr} {n c : Nat} {d : DataW H} (hd : ds[j]? = some d) {ps : List MemPlace}
    (hr : DataW.Trod enc P w 0 (fun _ => true) true t (.slice A n c) d ps) : c * P.bytesOf e ≤ 140737488351232 := by
  obtain ⟨fuel, hf⟩ := hr
  rcases Go.Deep.open_slice ht hf with ⟨hcs, _⟩ | ⟨a, len, cap, m, k, D, Pl, hcs, hb, hl, hm, hmm, hx, _⟩
  · simp [Value.cells] at hcs
    obtain ⟨_, _, rfl⟩ := hcs
    simp
  · simp [Value.cells] at hcs
    obtain ⟨_, rfl, rfl⟩ := hcs
    injection hx with hx _
    subst hx
    have := sized_slice h hj hd ht
    simp only [List.length_map, List.length_range, if_true] at this hmm
    subst hmm
    have e : ∀ a b : Nat, a ≤ b → a + (b - a) = b := fun _ _ _ => by omega
    rw [e _ _ hl] at this
    exact this

/-- An argument that is a slice. -/
theorem slOfTrod {P : Program} {t : TypeId} {E : Elt α} (h : OfT P t (slE E)) {H : Type} {enc : TypeId × Value → H} {w : World} {A : Option Addr} {n c : Nat} {d : DataW H} {ps : List MemPlace}
    (hd : DataW.Trod enc P w 0 (fun _ => true) true t (.slice A n c) d ps) : ∃ l : List α, n = l.length ∧ SlA E (· < w.heap.size) w A c l ∧ sumBulk E.bulk l + 1 ≤ Rows.uptoBulk d := by
  obtain ⟨fuel, hf⟩ := hd
  obtain ⟨l, ⟨v, hv, A', c', he, hs⟩, hb⟩ := h.of enc w fuel _ _ hf
  have e : v = .slice A n c := by simpa [Value.cells] using hv.symm
  rw [e] at he
  injection he with e1 e2 e3
  subst e1; subst e3
  exact ⟨l, e2, hs, hb⟩
end

/-! ### append of one element onto a row of the call's own -/
theorem cells_new (w : World) (news : List Value) (t : TypeId) : ∀ j u, news[j]? = some u → (w.alloc (.cells news.toArray t)).cell? ((⟨w.heap.size, 0, none⟩ : Addr).add j) = some u := by
  intro j u hj
  have e1 : (w.alloc (.cells news.toArray t)).heap[w.heap.size]? = some (.cells news.toArray t) := heap_alloc_new w _
  rw [add_plain]
  simp only [World.cell?]
  rw [e1]
  simpa using hj

theorem push_step (P : Program) (w0 : World) (t ty : TypeId) (base : Nat) (e : TypeId) (z : Value) (size bytes : Nat) (ht : P.underlying t = some (.slice e))
    (hinfo : (P.info? e).map (fun i => (i.zero, i.size, i.bytes)) = some (some z, size, bytes)) (hzs : z.cells.size = size) (hsz : 0 < size)
    (v : Value) (n : Nat) (xs : List Value) (hown : w0.ownsRow base e size v n xs) (news : List Value) (hl : news.length = size) (h1 : ∀ u ∈ news, u.oneCell' = true)
    (h63 : n + 1 ≤ maxLen) (hbytes : (n + 1) * bytes ≤ 140737488355328) (hbase : base ≤ w0.heap.size) {B : Nat} {W : World} (hbel : Below B W w0) (hB : B ≤ base) :
    ∃ v' w', (Builtin.append_ #[t, t] ty #[v, .slice (some ⟨w0.heap.size, 0, none⟩) 1 1]).run P (w0.alloc (.cells news.toArray e)) = .ok v' w' ∧ w'.ownsRow base e size v' (n + 1) (xs ++ news) ∧ w0.grownBy w' v.ownBlock ∧ Below B W w' ∧
      (v'.ownBlock = v.ownBlock ∨ ∃ g, v'.ownBlock = some g ∧ w0.heap.size ≤ g) := by
  obtain ⟨i, hi, hz0, hz1, hz2⟩ := info_parts hinfo
  obtain ⟨v', w', hr, h2, h3, _, h5⟩ := run_append_own_at (P := P) (w0.alloc (.cells news.toArray e)) base t ty e i z size bytes ht hi hz0 hz1 hz2 hzs hsz v n xs (hown.alloc _) ⟨w0.heap.size, 0, none⟩ 1 1 news (by rw [hl, Nat.one_mul]) (cells_new w0 news e) h1 h63 hbytes (by simp; omega)
  refine ⟨v', w', hr, h2, (World.grownBy_alloc w0 _ _).trans h3, (hbel.alloc (by omega) _).grown h3 (by simp; omega) (fun k hk => ?_), ?_⟩
  · have := (hown.lt k hk).1; omega
  · rcases h5 with h5 | h5
    · exact .inl h5
    · exact .inr ⟨_, h5, by simp⟩

/-- The same, as a step of a region that draws its order (behind the draw). -/
theorem step_push {P : Program} {ops : Array Oper} {o : Oper} {a : Act} {K : Act → World → Prop} {Q : Exit → Act → World → Prop} {E : Prop} {w0 : World} (hgd : o.guard = none) (s x : Operand) (t : TypeId)
    (ho : o.op = .call { callee := .builtin .append, args := #[s, x], argTypes := #[t, t] })
    (base : Nat) (e : TypeId) (z : Value) (size bytes : Nat) (ht : P.underlying t = some (.slice e))
    (hinfo : (P.info? e).map (fun i => (i.zero, i.size, i.bytes)) = some (some z, size, bytes)) (hzs : z.cells.size = size) (hsz : 0 < size)
    (v : Value) (n : Nat) (xs : List Value) (hs : a.eval s = v) (hown : w0.ownsRow base e size v n xs) (news : List Value) (hx : a.eval x = .slice (some ⟨w0.heap.size, 0, none⟩) 1 1) (hl : news.length = size) (h1 : ∀ u ∈ news, u.oneCell' = true)
    (h63 : n + 1 ≤ maxLen) (hbytes : (n + 1) * bytes ≤ 140737488355328) (hbase : base ≤ w0.heap.size) {B : Nat} {W : World} (hbel : Below B W w0) (hB : B ≤ base)
    (h : ∀ v' w', w'.ownsRow base e size v' (n + 1) (xs ++ news) → w0.grownBy w' v.ownBlock → Below B W w' → (v'.ownBlock = v.ownBlock ∨ ∃ g, v'.ownBlock = some g ∧ w0.heap.size ≤ g) → K (a.put o.dst v') w') :
    if Region.wanted o (yielded ops a.tmps) = true then Oper.wp P o a (w0.alloc (.cells news.toArray e)).drew K Q else E := by
  have hw : Region.wanted o (yielded ops a.tmps) = true := by simp [Region.wanted, hgd]
  rw [if_pos hw]
  obtain ⟨v', w', hr, h2, h3, h4, h5⟩ := push_step P w0.drew t o.type base e z size bytes ht hinfo hzs hsz v n xs hown news hl h1 h63 hbytes hbase hbel.drew hB
  have hr' : (Builtin.append_ #[t, t] o.type #[v, .slice (some ⟨w0.heap.size, 0, none⟩) 1 1]).run P (w0.alloc (.cells news.toArray e)).drew = .ok v' w' := hr
  unfold Oper.wp execOp
  simp only [ho, resolve, invoke, builtin, Sem.run_bind, Sem.run_pure, Result.andThen_ok, List.map_toArray, List.map_cons, List.map_nil, hs, hx, hr']
  exact h v' w' h2 ⟨h3.os, h3.tape, h3.output, h3.size, h3.block⟩ h4 h5

theorem wpList_push {P : Program} {ops : Array Oper} {rest : List Oper} {o : Oper} {a : Act} {Q : Exit → Act → World → Prop} {w0 : World} (hgd : o.guard = none) (s x : Operand) (t : TypeId)
    (ho : o.op = .call { callee := .builtin .append, args := #[s, x], argTypes := #[t, t] })
    (base : Nat) (e : TypeId) (z : Value) (size bytes : Nat) (ht : P.underlying t = some (.slice e))
    (hinfo : (P.info? e).map (fun i => (i.zero, i.size, i.bytes)) = some (some z, size, bytes)) (hzs : z.cells.size = size) (hsz : 0 < size)
    (v : Value) (n : Nat) (xs : List Value) (hs : a.eval s = v) (hown : w0.ownsRow base e size v n xs) (news : List Value) (hx : a.eval x = .slice (some ⟨w0.heap.size, 0, none⟩) 1 1) (hl : news.length = size) (h1 : ∀ u ∈ news, u.oneCell' = true)
    (h63 : n + 1 ≤ maxLen) (hbytes : (n + 1) * bytes ≤ 140737488355328) (hbase : base ≤ w0.heap.size) {B : Nat} {W : World} (hbel : Below B W w0) (hB : B ≤ base)
    (h : ∀ v' w', w'.ownsRow base e size v' (n + 1) (xs ++ news) → w0.grownBy w' v.ownBlock → Below B W w' → (v'.ownBlock = v.ownBlock ∨ ∃ g, v'.ownBlock = some g ∧ w0.heap.size ≤ g) → wpList P ops Q rest (a.put o.dst v') w') :
    wpList P ops Q (o :: rest) a (w0.alloc (.cells news.toArray e)) := by
  refine wpList_plain hgd fun K hK => ?_
  obtain ⟨v', w', hr, h2, h3, h4, h5⟩ := push_step P w0 t o.type base e z size bytes ht hinfo hzs hsz v n xs hown news hl h1 h63 hbytes hbase hbel hB
  unfold Oper.wp execOp
  simp only [ho, resolve, invoke, builtin, Sem.run_bind, Sem.run_pure, Result.andThen_ok, List.map_toArray, List.map_cons, List.map_nil, hs, hx, hr]
  exact hK _ _ (h v' w' h2 h3 h4 h5)

/-! ### append onto a row of the call's own, of whatever -/
theorem run_append_src_own {P : Program} (w : World) (base : Nat) (t tx ty e : TypeId) (z : Value) (size bytes : Nat) (ht : P.underlying t = some (.slice e))
    (hinfo : (P.info? e).map (fun i => (i.zero, i.size, i.bytes)) = some (some z, size, bytes)) (hzs : z.cells.size = size) (hsz : 0 < size)
    (v : Value) (n : Nat) (xs : List Value) (hown : w.ownsRow base e size v n xs) (x : Value) (m : Nat) (news : List Value) (hs : Src P size tx x m news w)
    (h63 : n + m ≤ maxLen) (hbytes : (n + m) * bytes ≤ 140737488355328) (hbase : base ≤ w.heap.size) :
    ∃ v' w', (Builtin.append_ #[t, tx] ty #[v, x]).run P w = .ok v' w' ∧ w'.ownsRow base e size v' (n + m) (xs ++ news) ∧ w.grownBy w' v.ownBlock ∧ (v'.ownBlock = v.ownBlock ∨ v'.ownBlock = some w.heap.size) := by
  obtain ⟨i, hi, hz, rfl, rfl⟩ := info_parts hinfo
  have hsmall : n + m ≤ 9223372036854775807 := by simp only [maxLen] at h63; omega
  have hlen : (xs ++ news).length = (n + m) * i.size := by rw [List.length_append, hown.1, hs.newsLen, Nat.add_mul]
  have grown : ∀ (old : Nat), old < n + m → ∀ (row : Option Nat),
      (w.drew.alloc (.cells ((xs ++ news).toArray ++ Builtin.zeroCells z.cells (grownCap w (n + m) old e - (n + m))) e)).ownsRow base e i.size
        (.slice (some ⟨w.heap.size, 0, none⟩) (n + m) (grownCap w (n + m) old e)) (n + m) (xs ++ news) ∧
      w.grownBy (w.drew.alloc (.cells ((xs ++ news).toArray ++ Builtin.zeroCells z.cells (grownCap w (n + m) old e - (n + m))) e)) row := by
    intro old ho row
    have hge := grownCap_ge w (n + m) old e
    have hcm : grownCap w (n + m) old e ≤ maxLen := grownCap_le_maxLen w (n + m) old e h63
    refine ⟨⟨hlen, .inr ⟨w.heap.size, _, _, rfl, hbase, heap_alloc_new w.drew _, hge, hcm, ?_, ?_⟩⟩, ⟨rfl, rfl, rfl, by simp, fun k hk _ => Below.heap_alloc w.drew _ k hk⟩⟩
    · rw [Array.size_append, List.size_toArray, size_zeroCells, hzs, hlen, ← Nat.add_mul]
      congr 1
      omega
    · simp only [Array.toList_append, ← hlen]
      exact List.take_left
  rcases hown.2 with ⟨rfl, rfl⟩ | ⟨g, cap, cur, rfl, hbg, hg, hnc, hcm, hcs, htake⟩
  · have hx : xs = [] := List.eq_nil_of_length_eq_zero (by simpa using hown.1)
    subst hx
    by_cases hm : m = 0
    · subst hm
      have hn : news = [] := List.eq_nil_of_length_eq_zero (by simpa using hs.newsLen)
      subst hn
      refine ⟨.slice none 0 0, w, ?_, World.ownsRow_nil w base e i.size, ⟨rfl, rfl, rfl, Nat.le_refl _, fun _ _ _ => rfl⟩, Or.inl rfl⟩
      have hc := hs.cells
      rcases hs.kind with ⟨e', hk⟩ | hk <;> simp [Builtin.append_, run_underlying ht, run_underlying hk, sizeOf, typeInfo, hi, hs.len, hc]
    · have hr := run_append_grow_src (P := P) w t tx ty e i z ht hi hz none 0 0 [] (by simp [Builtin.firstCells]) x m news hs (by omega) (by omega) (growslice_fits (by omega) hbytes)
      have hgr := grown 0 (by omega) (Value.ownBlock (.slice none 0 0))
      exact ⟨_, _, hr, hgr.1, hgr.2, Or.inr rfl⟩
  · by_cases hroom : n + m ≤ cap
    · have hfit : n * i.size + news.length ≤ cur.size := by rw [hs.newsLen, hcs, ← Nat.add_mul]; exact Nat.mul_le_mul_right _ hroom
      have hst := run_storeCells_at P g (n * i.size) e news 0 cur w hg (by simpa using hfit) hs.one
      simp only [Nat.add_zero] at hst
      have hc := hs.cells
      have hr : (Builtin.append_ #[t, tx] ty #[.slice (some ⟨g, 0, none⟩) n cap, x]).run P w =
          .ok (.slice (some ⟨g, 0, none⟩) (n + m) cap) (w.setRow g (cur.toList.take (n * i.size) ++ news ++ cur.toList.drop (n * i.size + news.length)).toArray) := by
        rcases hs.kind with ⟨e', hk⟩ | hk <;> simp [Builtin.append_, run_underlying ht, run_underlying hk, sizeOf, typeInfo, hi, hs.len, hc, hroom, Addr.add_lit, hst]
      refine ⟨_, _, hr, ⟨hlen, .inr ⟨g, cap, _, rfl, hbg, setRow_heap w g cur _ e _ hg, hroom, hcm, ?_, ?_⟩⟩, ⟨rfl, rfl, rfl, by simp, fun k _ hk => setRow_other w g k _ (fun e => hk (by simp [Value.ownBlock, e]))⟩, Or.inl rfl⟩
      · simp only [List.size_toArray, List.length_append, List.length_take, List.length_drop, Array.length_toList]
        omega
      · rw [htake, ← hlen]
        exact List.take_left
    · have holds : ∀ j u, xs[j]? = some u → w.cell? ((⟨g, 0, none⟩ : Addr).add j) = some u := hown.cells (g := g) rfl
      have hold : (Builtin.firstCells i.size n (.slice (some ⟨g, 0, none⟩) n cap)).run P w.drew = .ok xs.toArray w.drew := run_firstCells_some (P := P) w.drew i.size n ⟨g, 0, none⟩ n cap xs hown.1 (by simpa using holds)
      have hr := run_append_grow_src (P := P) w t tx ty e i z ht hi hz (some ⟨g, 0, none⟩) n cap xs hold x m news hs (by omega) (by omega) (growslice_fits (by omega) hbytes)
      have hgr := grown cap (by omega) (Value.ownBlock (.slice (some ⟨g, 0, none⟩) n cap))
      exact ⟨_, _, hr, hgr.1, hgr.2, Or.inr rfl⟩

theorem wpList_append_src {P : Program} {ops : Array Oper} {rest : List Oper} {o : Oper} {a : Act} {Q : Exit → Act → World → Prop} {w : World} (hgd : o.guard = none) (s x : Operand) (t tx : TypeId)
    (ho : o.op = .call { callee := .builtin .append, args := #[s, x], argTypes := #[t, tx] })
    (base : Nat) (e : TypeId) (z : Value) (size bytes : Nat) (ht : P.underlying t = some (.slice e))
    (hinfo : (P.info? e).map (fun i => (i.zero, i.size, i.bytes)) = some (some z, size, bytes)) (hzs : z.cells.size = size) (hsz : 0 < size)
    (v : Value) (n : Nat) (xs : List Value) (hs : a.eval s = v) (hown : w.ownsRow base e size v n xs) (vx : Value) (hx : a.eval x = vx) (m : Nat) (news : List Value) (hsrc : Src P size tx vx m news w)
    (h63 : n + m ≤ maxLen) (hbytes : (n + m) * bytes ≤ 140737488355328) (hbase : base ≤ w.heap.size) {B : Nat} {W : World} (hbel : Below B W w) (hB : B ≤ base)
    (h : ∀ v' w', w'.ownsRow base e size v' (n + m) (xs ++ news) → w.grownBy w' v.ownBlock → Below B W w' → (v'.ownBlock = v.ownBlock ∨ v'.ownBlock = some w.heap.size) → wpList P ops Q rest (a.put o.dst v') w') :
    wpList P ops Q (o :: rest) a w := by
  refine wpList_plain hgd fun K hK => ?_
  obtain ⟨v', w', hr, h2, h3, h5⟩ := run_append_src_own (P := P) w base t tx o.type e z size bytes ht hinfo hzs hsz v n xs hown vx m news hsrc h63 hbytes hbase
  unfold Oper.wp execOp
  simp only [ho, resolve, invoke, builtin, Sem.run_bind, Sem.run_pure, Result.andThen_ok, List.map_toArray, List.map_cons, List.map_nil, hs, hx, hr]
  exact hK _ _ (h v' w' h2 h3 (hbel.grown h3 (by omega) (fun k hk => by have := (hown.lt k hk).1; omega)) h5)

/-- A slice that is read, as what is appended. -/
theorem Src.of_sl {P : Program} {α : Type} {E : Elt α} {F : Nat → Prop} {w : World} {A : Option Addr} {c : Nat} {l : List α} {tx e' : TypeId} (h : SlA E F w A c l) (hk : P.underlying tx = some (.slice e')) (f : α → List Value)
    (hf : ∀ cs x, E.R F w cs x → cs = f x) (hlen : ∀ x, (f x).length = E.sz) (h1 : ∀ x, ∀ u ∈ f x, u.oneCell' = true) : Src P E.sz tx (.slice A l.length c) l.length (l.flatMap f) w := by
  have hl : (l.flatMap f).length = l.length * E.sz := by
    clear h
    induction l with
    | nil => simp
    | cons x l ih => rw [List.flatMap_cons, List.length_append, hlen, ih, List.length_cons, Nat.succ_mul, Nat.add_comm]
  rcases A with _ | ad
  · have h0 : l = [] := by
      cases l with
      | nil => rfl
      | cons x l => obtain ⟨b, off, cs, e, _⟩ := h.2.2 0 x rfl; cases e
    subst h0
    exact Src.ofNil w hk c
  · refine Src.ofSlice w hk ad l.length c _ hl (fun j u hu => ?_) (fun u hu => ?_)
    · have key : ∀ (l : List α) (j : Nat) (u : Value), (l.flatMap f)[j]? = some u → ∃ i r x, l[i]? = some x ∧ (f x)[r]? = some u ∧ j = i * E.sz + r := by
        intro l
        induction l with
        | nil => intro j u h; simp at h
        | cons x l ih =>
          intro j u h
          rw [List.flatMap_cons] at h
          by_cases hj : j < (f x).length
          · rw [List.getElem?_append_left hj] at h
            exact ⟨0, j, x, rfl, h, by omega⟩
          · rw [List.getElem?_append_right (by omega)] at h
            obtain ⟨i, r, y, h1, h2, h3⟩ := ih _ _ h
            refine ⟨i + 1, r, y, by simpa using h1, h2, ?_⟩
            rw [hlen] at h3
            have := hlen x
            rw [Nat.succ_mul]; omega
      obtain ⟨i, r, x, hx, hr, rfl⟩ := key l j u hu
      obtain ⟨b, off, cs, e, _, hc, hR⟩ := h.2.2 i x hx
      injection e with e
      subst e
      rw [add_plain]
      exact hc r u (by rw [hf cs x hR]; exact hr)
    · obtain ⟨x, _, hu'⟩ := List.mem_flatMap.1 hu
      exact h1 x u hu'

/-! ### Bytes -/
def bcells (l : List UInt8) : List Value := l.map fun b => Value.int .u8 (b.toNat : Int)
theorem bcells_length (l : List UInt8) : (bcells l).length = l.length := by simp [bcells]
theorem bcells_append (l r : List UInt8) : bcells (l ++ r) = bcells l ++ bcells r := by simp [bcells]
theorem bcells_one (l : List UInt8) : ∀ u ∈ bcells l, u.oneCell' = true := by
  intro u hu; obtain ⟨_, _, rfl⟩ := List.mem_map.1 hu; rfl
theorem bcells_string (s : ByteArray) : Go.byteCells s = bcells s.data.toList := rfl

/-- A row of the call's own, read: one cell an element. -/
theorem own_sl1 {α : Type} {E : Elt α} {w : World} {base : Nat} {e : TypeId} {v : Value} {n : Nat} {l : List α} (f : α → Value) (hE : E.sz = 1) (hR : ∀ x ∈ l, ∀ F, E.R F w [f x] x) (h : w.ownsRow base e 1 v n (l.map f)) :
    n = l.length ∧ Sl E (fun k => base ≤ k ∧ k < w.heap.size) w v l := by
  have hn : n = l.length := by have := h.1; simpa using this.symm
  refine ⟨hn, ?_⟩
  rcases h.2 with ⟨rfl, h0⟩ | ⟨g, cap, cur, rfl, hb, hh, hnc, hcm, hcs, ht⟩
  · have : l = [] := List.eq_nil_of_length_eq_zero (by omega)
    subst this
    exact Sl.nil E _ w
  · subst hn
    refine ⟨_, cap, rfl, hnc, hcm, fun i x hx => ⟨g, 0, [f x], rfl, ⟨hb, ?_⟩, ?_, hR x (List.mem_of_getElem? hx) _⟩⟩
    · rcases Nat.lt_or_ge g w.heap.size with hlt | hge
      · exact hlt
      · rw [Array.getElem?_eq_none hge] at hh; cases hh
    · intro j u hj
      match j, hj with
      | 0, hj =>
        simp at hj; subst hj
        have := h.cells (g := g) rfl i (f x) (by simp [hx])
        rw [add_plain] at this
        rw [hE]; simpa using this

/-- 'string(b)'. -/
theorem conv_string {P : Program} {F : Nat → Prop} {w : World} {A : Option Addr} {c : Nat} {l : List UInt8} {src dst e : TypeId} (h : SlA bytE F w A c l) (hs : P.underlying src = some (.slice e)) (he : P.underlying e = some (.int .u8)) (hd : P.underlying dst = some .string) :
    (convert src dst (.slice A l.length c)).run P w = .ok (.string ⟨l.toArray⟩) w := by
  rcases A with _ | ad
  · have h0 : l = [] := by
      cases l with
      | nil => rfl
      | cons x l => obtain ⟨b, off, cs, e, _⟩ := h.2.2 0 x rfl; cases e
    subst h0
    show (convert src dst (.slice none 0 c)).run P w = _
    rw [run_convert_bytes_string w src dst e none 0 c hs he hd]
    simp [Conv.bytesToString]
    rfl
  · refine run_convert_bytes_back w src dst e ad c l hs he hd (fun j hj => ?_)
    obtain ⟨b, off, e, _, hc⟩ := h.byt_ hj
    injection e with e
    subst e
    rw [add_plain]; exact hc

/-- A slice's tail, and its head. -/
theorem SlA.cut {α : Type} {E : Elt α} {F : Nat → Prop} {w : World} {b off c : Nat} {l : List α} {k : Nat} (h : SlA E F w (some ⟨b, off, none⟩) c l) (hk : k ≤ l.length) : SlA E F w (some ⟨b, off + k * E.sz, none⟩) (c - k) (l.drop k) := by
  refine ⟨by rw [List.length_drop]; have := h.1; omega, by have := h.2.1; omega, fun i x hx => ?_⟩
  rw [List.getElem?_drop] at hx
  obtain ⟨b', off', cs, e, hF, hc, hR⟩ := h.2.2 (k + i) x hx
  injection e with e
  injection e with e1 e2
  subst e1; subst e2
  refine ⟨b, _, cs, rfl, hF, fun j u hu => ?_, hR⟩
  have := hc j u hu
  rw [Nat.add_mul] at this
  rw [← this]
  congr 2
  omega
theorem SlA.head {α : Type} {E : Elt α} {F : Nat → Prop} {w : World} {A : Option Addr} {c : Nat} {l : List α} {k : Nat} (h : SlA E F w A c l) (hk : k ≤ l.length) : SlA E F w A c (l.take k) := by
  refine ⟨by rw [List.length_take]; have := h.1; omega, h.2.1, fun i x hx => ?_⟩
  rw [List.getElem?_take] at hx
  split at hx
  · exact h.2.2 i x hx
  · cases hx
theorem string_eq (s : ByteArray) : (⟨s.data.toList.toArray⟩ : ByteArray) = s := by simp

theorem bdrewN {B : Nat} {a w : World} (h : Below B a w) (q : Nat) : Below B a (w.drewN q) := ⟨h.os, h.tape, h.output, h.size, h.block⟩
theorem bundrewN {B q : Nat} {a w : World} (h : Below B (a.drewN q) w) : Below B a w := ⟨h.os, h.tape, h.output, h.size, h.block⟩
theorem SlA.below {α : Type} {E : Elt α} {w w' : World} {A : Option Addr} {c : Nat} {l : List α} (h : SlA E (· < w.heap.size) w A c l) (hb : Below w.heap.size w w') : SlA E (· < w'.heap.size) w' A c l :=
  (h.keep (Same.below hb)).more fun k hk => by have := hb.size; have hk' : k < w.heap.size := hk; show k < w'.heap.size; omega
theorem SlA.drew {α : Type} {E : Elt α} {F : Nat → Prop} {w : World} {A : Option Addr} {c : Nat} {l : List α} (h : SlA E F w A c l) : SlA E F w.drew A c l := h.keep fun _ _ => rfl
theorem SlA.drewN {α : Type} {E : Elt α} {F : Nat → Prop} {w : World} {A : Option Addr} {c : Nat} {l : List α} (h : SlA E F w A c l) (n : Nat) : SlA E F (w.drewN n) A c l := h.keep fun _ _ => rfl

/-- Cell j of element i, in the cells laid end to end. -/
theorem flat_get {α : Type} (f : α → List Value) (sz : Nat) (hf : ∀ x, (f x).length = sz) (l : List α) {i j : Nat} {x : α} (hx : l[i]? = some x) (hj : j < sz) : (l.flatMap f)[i * sz + j]? = (f x)[j]? := by
  induction l generalizing i with
  | nil => simp at hx
  | cons y l ih =>
    rw [List.flatMap_cons]
    match i, hx with
    | 0, hx =>
      simp at hx; subst hx
      rw [List.getElem?_append_left (by rw [hf]; omega)]
      simp
    | i + 1, hx =>
      rw [List.getElem?_append_right (by rw [hf, Nat.succ_mul]; omega), hf]
      rw [show (i + 1) * sz + j - sz = i * sz + j by rw [Nat.succ_mul]; omega]
      exact ih (by simpa using hx)

/-- A row of the call's own, read: so many cells an element. -/
theorem own_sl {α : Type} {E : Elt α} {w : World} {base : Nat} {e : TypeId} {v : Value} {n : Nat} {l : List α} (f : α → List Value) (hf : ∀ x, (f x).length = E.sz) (hpos : 0 < E.sz) (h : w.ownsRow base e E.sz v n (l.flatMap f))
    (hR : ∀ x ∈ l, E.R (· < w.heap.size) w (f x) x) : ∃ A c, v = .slice A n c ∧ n = l.length ∧ SlA E (· < w.heap.size) w A c l := by
  have hfl : (l.flatMap f).length = l.length * E.sz := by
    clear h hR
    induction l with
    | nil => simp
    | cons x l ih => rw [List.flatMap_cons, List.length_append, hf, ih, List.length_cons, Nat.succ_mul, Nat.add_comm]
  have hn : n = l.length := by
    have := h.1; rw [hfl] at this
    exact (Nat.eq_of_mul_eq_mul_right hpos this).symm
  rcases h.2 with ⟨rfl, h0⟩ | ⟨g, cap, cur, rfl, hb, hh, hnc, hcm, hcs, ht⟩
  · have : l = [] := List.eq_nil_of_length_eq_zero (by omega)
    subst this
    exact ⟨none, 0, by rw [h0], hn, SlA.nil E _ w _ _ (by unfold maxLen; omega)⟩
  · have hlt : g < w.heap.size := by
      rcases Nat.lt_or_ge g w.heap.size with hlt | hge
      · exact hlt
      · rw [Array.getElem?_eq_none hge] at hh; cases hh
    refine ⟨_, cap, rfl, hn, by omega, hcm, fun i x hx => ⟨g, 0, f x, rfl, hlt, ?_, hR x (List.mem_of_getElem? hx)⟩⟩
    intro j u hj
    have hjl : j < E.sz := by
      rcases Nat.lt_or_ge j (f x).length with h | h
      · rw [hf] at h; exact h
      · rw [List.getElem?_eq_none h] at hj; cases hj
    have := h.cells (g := g) rfl (i * E.sz + j) u (by rw [flat_get f E.sz hf l hx hjl]; exact hj)
    rw [add_plain] at this
    simpa using this

/-! ### A slice of slices, each a row of the call's own -/
structure Nest (w : World) (B g : Nat) (t e : TypeId) (size : Nat) (vs : List Value) (xss : List (List Value)) (ns : List Nat) : Prop where
  blk : w.heap[g]? = some (.cells vs.toArray t (0, 0))
  base : B ≤ g
  ne : t ≠ e
  len : vs.length = xss.length
  lenN : ns.length = xss.length
  own : ∀ (j : Nat) (v : Value) (xs : List Value) (n : Nat), vs[j]? = some v → xss[j]? = some xs → ns[j]? = some n → w.ownsRow B e size v n xs
  apart : ∀ (i j : Nat) (v u : Value), i ≠ j → vs[i]? = some v → vs[j]? = some u → v.ownBlock = none ∨ v.ownBlock ≠ u.ownBlock

theorem ownBlock_cases {w : World} {B : Nat} {e : TypeId} {size n : Nat} {v : Value} {xs : List Value} (h : w.ownsRow B e size v n xs) : v.ownBlock = none ∨ ∃ g cur, v.ownBlock = some g ∧ g < w.heap.size ∧ w.heap[g]? = some (.cells cur e (0, 0)) := by
  rcases h.2 with ⟨rfl, _⟩ | ⟨g, cap, cur, rfl, _, hh, _⟩
  · exact .inl rfl
  · refine .inr ⟨g, cur, rfl, ?_, hh⟩
    rcases Nat.lt_or_ge g w.heap.size with hlt | hge
    · exact hlt
    · rw [Array.getElem?_eq_none hge] at hh; cases hh

theorem Nest.lt {w : World} {B g : Nat} {t e : TypeId} {size : Nat} {vs : List Value} {xss : List (List Value)} {ns : List Nat} (h : Nest w B g t e size vs xss ns) : g < w.heap.size := by
  rcases Nat.lt_or_ge g w.heap.size with hlt | hge
  · exact hlt
  · have := h.blk; rw [Array.getElem?_eq_none hge] at this; cases this
theorem Nest.row_ne {w : World} {B g : Nat} {t e : TypeId} {size : Nat} {vs : List Value} {xss : List (List Value)} {ns : List Nat} (h : Nest w B g t e size vs xss ns) {j : Nat} {v : Value} (hv : vs[j]? = some v) : v.ownBlock ≠ some g := by
  have hj : j < vs.length := by
    rcases Nat.lt_or_ge j vs.length with h | h
    · exact h
    · rw [List.getElem?_eq_none h] at hv; cases hv
  have ho := h.own j v _ _ hv (List.getElem?_eq_getElem (by rw [← h.len]; exact hj)) (List.getElem?_eq_getElem (by rw [h.lenN, ← h.len]; exact hj))
  rcases ownBlock_cases ho with h0 | ⟨g', cur, h1, _, h2⟩
  · rw [h0]; simp
  · rw [h1]
    intro e1
    injection e1 with e1
    subst e1
    have := h.blk
    rw [h2] at this
    injection this with this
    injection this with _ this _
    exact h.ne this.symm
/-- The whole block's cell. -/
theorem Nest.cell {w : World} {B g : Nat} {t e : TypeId} {size : Nat} {vs : List Value} {xss : List (List Value)} {ns : List Nat} (h : Nest w B g t e size vs xss ns) (j : Nat) : w.cell? ⟨g, j, none⟩ = vs[j]? := by
  have := cell_of_row w g j vs.toArray t (0, 0) h.blk
  simpa using this
theorem Nest.frozen {w : World} {B g : Nat} {t e : TypeId} {size : Nat} {vs : List Value} {xss : List (List Value)} {ns : List Nat} (h : Nest w B g t e size vs xss ns) (j : Nat) : w.frozen? ⟨g, j, none⟩ = false := by
  have := h.blk
  simp [World.frozen?, this]
/-- Kept where other blocks turn. -/
theorem Nest.keep {w w' : World} {B g : Nat} {t e : TypeId} {size : Nat} {vs : List Value} {xss : List (List Value)} {ns : List Nat} (h : Nest w B g t e size vs xss ns) {row : Option Nat} (hg : w.grownBy w' row) (h1 : row ≠ some g) (h2 : ∀ v ∈ vs, v.ownBlock = none ∨ v.ownBlock ≠ row) : Nest w' B g t e size vs xss ns :=
  ⟨(hg.block g h.lt (fun e => h1 e.symm)).trans h.blk, h.base, h.ne, h.len, h.lenN, fun j v xs n hv hx hn => (h.own j v xs n hv hx hn).kept hg (h2 v (List.mem_of_getElem? hv)), h.apart⟩
theorem Nest.alloc {w : World} {B g : Nat} {t e : TypeId} {size : Nat} {vs : List Value} {xss : List (List Value)} {ns : List Nat} (h : Nest w B g t e size vs xss ns) (o : Obj) : Nest (w.alloc o) B g t e size vs xss ns :=
  h.keep (World.grownBy_alloc w o none) (by simp) (fun v hv => by
    obtain ⟨j, hj⟩ := List.getElem?_of_mem hv
    cases hb : v.ownBlock with
    | none => exact .inl rfl
    | some k => exact .inr (by simp))
theorem Nest.drewN {w : World} {B g : Nat} {t e : TypeId} {size : Nat} {vs : List Value} {xss : List (List Value)} {ns : List Nat} (h : Nest w B g t e size vs xss ns) (q : Nat) : Nest (w.drewN q) B g t e size vs xss ns :=
  ⟨h.blk, h.base, h.ne, h.len, h.lenN, h.own, h.apart⟩
/-- Row j grown by an append, and stored back. -/
theorem Nest.push {w w' : World} {B g : Nat} {t e : TypeId} {size : Nat} {vs : List Value} {xss : List (List Value)} {ns : List Nat} (h : Nest w B g t e size vs xss ns) {j : Nat} {v v' : Value} {xs : List Value} {n' : Nat} (hv : vs[j]? = some v)
    (hown : w'.ownsRow B e size v' n' xs) (hg : w.grownBy w' v.ownBlock) (hat : v'.ownBlock = v.ownBlock ∨ v'.ownBlock = none ∨ ∃ k, v'.ownBlock = some k ∧ w.heap.size ≤ k) :
    Nest (w'.setCell ⟨g, j, none⟩ v') B g t e size (vs.set j v') (xss.set j xs) (ns.set j n') := by
  have hj : j < vs.length := by
    rcases Nat.lt_or_ge j vs.length with h | h
    · exact h
    · rw [List.getElem?_eq_none h] at hv; cases hv
  have hb1 : w'.heap[g]? = some (.cells vs.toArray t (0, 0)) := (hg.block g h.lt (fun e => h.row_ne hv e.symm)).trans h.blk
  have old : ∀ (i : Nat) (u : Value) (ys : List Value) (m : Nat), i ≠ j → vs[i]? = some u → xss[i]? = some ys → ns[i]? = some m → w'.ownsRow B e size u m ys := fun i u ys m hij hu hy hm =>
    (h.own i u ys m hu hy hm).kept hg (h.apart i j u v hij hu hv)
  have set_ : ∀ {u : Value} {m : Nat} {ys : List Value}, w'.ownsRow B e size u m ys → (w'.setCell ⟨g, j, none⟩ v').ownsRow B e size u m ys := fun {u m ys} ho => by
    obtain ⟨h1, h2⟩ := ho
    refine ⟨h1, ?_⟩
    rcases h2 with h2 | ⟨g', cap, cur, hv', hg', hh, r⟩
    · exact .inl h2
    · refine .inr ⟨g', cap, cur, hv', hg', ?_, r⟩
      rw [Below.heap_setCell _ _ _ _ (by
        intro e1
        have e1 : g' = g := e1
        subst e1
        rw [hh] at hb1
        injection hb1 with hb1
        injection hb1 with _ hb1 _
        exact h.ne hb1.symm)]
      exact hh
  refine ⟨?_, h.base, h.ne, by simp [h.len], by simp [h.lenN], ?_, ?_⟩
  · have e1 : (w'.setCell ⟨g, j, none⟩ v').heap[g]? = some (.cells (vs.toArray.setIfInBounds j v') t (0, 0)) := by
      simp [World.setCell, Array.getElem?_modify, hb1]
    rw [e1]
    simp
  · intro i u ys m hu hy hm
    apply set_
    by_cases hij : j = i
    · subst hij
      have hx : j < xss.length := by rw [← h.len]; exact hj
      have hn : j < ns.length := by rw [h.lenN]; exact hx
      rw [List.getElem?_set_self hj] at hu
      rw [List.getElem?_set_self hx] at hy
      rw [List.getElem?_set_self hn] at hm
      injection hu with hu; injection hy with hy; injection hm with hm
      subst hu; subst hy; subst hm
      exact hown
    · rw [List.getElem?_set_ne hij] at hu hy hm
      exact old i u ys m (fun e => hij e.symm) hu hy hm
  · intro a b u1 u2 hab h1 h2
    have lt_ : ∀ (i : Nat) (u : Value) (k : Nat), vs[i]? = some u → u.ownBlock = some k → k < w.heap.size := by
      intro i u k hu hk
      have hi : i < vs.length := by
        rcases Nat.lt_or_ge i vs.length with h | h
        · exact h
        · rw [List.getElem?_eq_none h] at hu; cases hu
      have ho := h.own i u _ _ hu (List.getElem?_eq_getElem (by rw [← h.len]; exact hi)) (List.getElem?_eq_getElem (by rw [h.lenN, ← h.len]; exact hi))
      exact (ho.lt k hk).2
    by_cases ha : j = a
    · subst ha
      rw [List.getElem?_set_self hj] at h1
      rw [List.getElem?_set_ne hab] at h2
      injection h1 with h1; subst h1
      rcases hat with e1 | e1 | ⟨k, e1, hk⟩
      · rw [e1]; exact h.apart j b v u2 hab hv h2
      · exact .inl e1
      · right
        rw [e1]
        intro e2
        have := lt_ b u2 k h2 e2.symm
        omega
    · rw [List.getElem?_set_ne ha] at h1
      by_cases hb : j = b
      · subst hb
        rw [List.getElem?_set_self hj] at h2
        injection h2 with h2; subst h2
        rcases hat with e1 | e1 | ⟨k, e1, hk⟩
        · rw [e1]; exact h.apart a j u1 v hab h1 hv
        · rw [e1]
          cases hu : u1.ownBlock with
          | none => exact .inl rfl
          | some k => exact .inr (by simp)
        · rw [e1]
          cases hu : u1.ownBlock with
          | none => exact .inl rfl
          | some k' =>
            right
            intro e2
            injection e2 with e2
            have := lt_ a u1 k' h1 hu
            omega
      · rw [List.getElem?_set_ne hb] at h2
        exact h.apart a b u1 u2 hab h1 h2
/-- The block's own cell behind an append onto row j. -/
theorem Nest.after {w w' : World} {B g : Nat} {t e : TypeId} {size : Nat} {vs : List Value} {xss : List (List Value)} {ns : List Nat} (h : Nest w B g t e size vs xss ns) {j : Nat} {v : Value} (hv : vs[j]? = some v) (hg : w.grownBy w' v.ownBlock) (i : Nat) :
    w'.cell? ⟨g, i, none⟩ = vs[i]? ∧ w'.frozen? ⟨g, i, none⟩ = false := by
  have hb1 := hg.block g h.lt (fun e => h.row_ne hv e.symm)
  exact ⟨(World.cell?_of_block (a := ⟨g, i, none⟩) hb1).trans (h.cell i), (World.frozen?_of_block (a := ⟨g, i, none⟩) hb1).trans (h.frozen i)⟩
/-- At the start: all nil. -/
theorem Nest.made (w : World) (B : Nat) (t e : TypeId) (size p : Nat) (hB : B ≤ w.heap.size) (hne : t ≠ e) :
    Nest (w.alloc (.cells (madeCells #[.slice none 0 0] p) t)) B w.heap.size t e size (List.replicate p (.slice none 0 0)) (List.replicate p []) (List.replicate p 0) := by
  refine ⟨?_, hB, hne, by simp, by simp, ?_, ?_⟩
  · rw [heap_alloc_new w _]
    congr 2
    apply Array.ext'
    rw [toList_madeCells_one]
  · intro j v xs m hv hx hn
    rw [List.getElem?_replicate] at hv hx hn
    split at hv <;> simp_all
    subst hv; subst hx; subst hn
    exact World.ownsRow_nil _ _ _ _
  · intro i j v u _ hv _
    rw [List.getElem?_replicate] at hv
    split at hv <;> simp_all
    subst hv
    exact .inl rfl
/-- At the end: it reads as a list of lists. -/
theorem Nest.sl {α : Type} {E : Elt α} {w : World} {B g : Nat} {t e : TypeId} {vs : List Value} {ls : List (List α)} {cap : Nat} (f : α → List Value) (hf : ∀ x, (f x).length = E.sz) (hpos : 0 < E.sz) (hR : ∀ l ∈ ls, ∀ x ∈ l, ∀ F w, E.R F w (f x) x)
    (h : Nest w B g t e E.sz vs (ls.map fun l => l.flatMap f) (ls.map (·.length))) (hcap : ls.length ≤ cap) (hm : cap ≤ maxLen) : SlA (slE E) (· < w.heap.size) w (some ⟨g, 0, none⟩) cap ls := by
  refine ⟨hcap, hm, fun i l hl => ?_⟩
  have hi : i < ls.length := by
    rcases Nat.lt_or_ge i ls.length with h | h
    · exact h
    · rw [List.getElem?_eq_none h] at hl; cases hl
  have hlen : vs.length = ls.length := by rw [h.len, List.length_map]
  obtain ⟨v, hv⟩ : ∃ v, vs[i]? = some v := ⟨vs[i], List.getElem?_eq_getElem (by omega)⟩
  have ho := h.own i v _ _ hv (by rw [List.getElem?_map, hl]; rfl) (by rw [List.getElem?_map, hl]; rfl)
  obtain ⟨A, c, rfl, _, hs⟩ := own_sl f hf hpos ho (fun x hx => hR l (List.mem_of_getElem? hl) x hx _ _)
  refine ⟨g, 0, [_], rfl, h.lt, fun j u hj => ?_, _, rfl, A, c, rfl, hs⟩
  match j, hj with
  | 0, hj =>
    simp at hj; subst hj
    have := h.cell i
    rw [hv] at this
    simpa [slE] using this

/-- 's[:k]', whatever the address. -/
theorem run_head (P : Program) (t e : TypeId) (A : Option Addr) (n c k : Nat) (ht : P.underlying t = some (.slice e)) (hi : ∃ i, P.info? e = some i) (hk : k ≤ c) (w : World) :
    (Instr.slice t (.slice A n c) none (some (.int .i64 (k : Int))) none).run P w = .ok (.slice A k c) w := by
  obtain ⟨i, hi⟩ := hi
  have e1 : (0 : Int) ≤ (k : Int) ∧ (k : Int) ≤ (c : Int) := by omega
  simp [Instr.slice, Instr.sliceBounds, Instr.sliceBound, run_underlying ht, asIntOf, sizeOf, typeInfo, hi, hk]
  cases A <;> simp [Addr.add]

/-! ### Literals -/
theorem block_lt {w : World} {g : Nat} {o : Obj} (h : w.heap[g]? = some o) : g < w.heap.size := by
  rcases Nat.lt_or_ge g w.heap.size with hlt | hge
  · exact hlt
  · rw [Array.getElem?_eq_none hge] at h; cases h
theorem lit_sl {α : Type} {E : Elt α} {w : World} {g : Nat} {cs : Array Value} {t : TypeId} {fr : Nat × Nat} {l : List α} {c : Nat} (f : α → List Value) (hf : ∀ x, (f x).length = E.sz) (hg : w.heap[g]? = some (.cells cs t fr)) (hcs : cs.toList = l.flatMap f)
    (hR : ∀ x ∈ l, E.R (· < w.heap.size) w (f x) x) (hc : l.length ≤ c) (hm : c ≤ maxLen) : SlA E (· < w.heap.size) w (some ⟨g, 0, none⟩) c l := by
  refine ⟨hc, hm, fun i x hx => ⟨g, 0, f x, rfl, block_lt hg, ?_, hR x (List.mem_of_getElem? hx)⟩⟩
  intro j u hj
  have hjl : j < E.sz := by
    rcases Nat.lt_or_ge j (f x).length with h | h
    · rw [hf] at h; exact h
    · rw [List.getElem?_eq_none h] at hj; cases hj
  have h1 := cell_of_row w g (0 + (i * E.sz + j)) cs t fr hg
  rw [h1, Nat.zero_add, ← Array.getElem?_toList, hcs, flat_get f E.sz hf l hx hjl]
  exact hj
theorem lit_one {α : Type} {E : Elt α} {w : World} {g : Nat} {cs : Array Value} {t : TypeId} {fr : Nat × Nat} {x : α} {c : Nat} (hg : w.heap[g]? = some (.cells cs t fr)) 
    (hR : E.R (· < w.heap.size) w cs.toList x) (hc : 1 ≤ c) (hm : c ≤ maxLen) : SlA E (· < w.heap.size) w (some ⟨g, 0, none⟩) c [x] := by
  refine ⟨hc, hm, fun i y hy => ?_⟩
  match i, hy with
  | 0, hy =>
    simp at hy; subst hy
    refine ⟨g, 0, cs.toList, rfl, block_lt hg, fun j u hj => ?_, hR⟩
    have h1 := cell_of_row w g (0 + (0 * E.sz + j)) cs t fr hg
    rw [h1, Nat.zero_mul, Nat.zero_add, Nat.zero_add, ← Array.getElem?_toList]
    exact hj
end Go.Proofs.YthanjafbgcljgaaGreatDoor
