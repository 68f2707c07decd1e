/-
  Several texts of this claim in one, in build order; each begins with its own remark, which says what it proves and under which conditions.
-/
import Derived.Test.YtfndhfekbbbliaaGreatDoorRows
import Derived.WalkKit
import Derived.ProofKit
import Derived.Deep.Slices
import Derived.Deep.Strs
import Derived.Lib.SmallJoins
import Derived.Lib.Hide
import Derived.SizedLaws
import Derived.Maps.AppendAt
import Derived.Deep.AppendLies
import Derived.Deep.AppendSrc
import Derived.Laws.CopyRow
import Derived.Laws.IdiomStrings
import Derived.OpenShut

/-
  Words of my own for memory, over any program: what a slice that is read holds ('SlA', 'Sl'), element by element ('Elt'), and that it is kept where the blocks it lies in are kept. No condition: plain definitions and lemmas.
-/
namespace Go.Proofs.YtfndhfekbbbliaaGreatDoor
open Go.RowKit Go.ChangeShapes Go.WideShapes
set_option linter.unusedVariables false

/-- The blocks F are in w' as in w. -/
def Same (F : Nat → Prop) (w w' : World) : Prop := ∀ k, F k → w'.heap[k]? = w.heap[k]?
theorem Same.refl (F : Nat → Prop) (w : World) : Same F w w := fun _ _ => rfl
theorem Same.trans {F : Nat → Prop} {a b c : World} (h : Same F a b) (h' : Same F b c) : Same F a c := fun k hk => (h' k hk).trans (h k hk)
theorem Same.less {F F' : Nat → Prop} {a b : World} (h : Same F a b) (hF : ∀ k, F' k → F k) : Same F' a b := fun k hk => h k (hF k hk)
theorem Same.below {B : Nat} {a b : World} (h : Below B a b) : Same (· < B) a b := fun k hk => h.block k hk
theorem Same.cell {F : Nat → Prop} {a b : World} (h : Same F a b) {p : Addr} (hp : F p.block) : b.cell? p = a.cell? p := World.cell?_of_block (h _ hp)

/-- How one element lies in its cells. -/
structure Elt (α : Type) where
  sz : Nat
  bulk : α → Nat
  R : (Nat → Prop) → World → List Value → α → Prop
  len : ∀ F w cs x, R F w cs x → cs.length = sz
  keep : ∀ F w w' cs x, R F w cs x → Same F w w' → R F w' cs x
  more : ∀ F F' w cs x, R F w cs x → (∀ k, F k → F' k) → R F' w cs x

def sumBulk {α : Type} (f : α → Nat) : List α → Nat
  | [] => 0
  | x :: r => f x + sumBulk f r

section
variable {α β : Type}
/-- The slice value at A, of capacity c, holds l. -/
def SlA (E : Elt α) (F : Nat → Prop) (w : World) (A : Option Addr) (c : Nat) (l : List α) : Prop :=
  l.length ≤ c ∧ c ≤ maxLen ∧ ∀ i x, l[i]? = some x → ∃ b off cs, A = some ⟨b, off, none⟩ ∧ F b ∧ (∀ j u, cs[j]? = some u → w.cell? ⟨b, off + (i * E.sz + j), none⟩ = some u) ∧ E.R F w cs x
def Sl (E : Elt α) (F : Nat → Prop) (w : World) (v : Value) (l : List α) : Prop := ∃ A c, v = .slice A l.length c ∧ SlA E F w A c l

theorem SlA.keep {E : Elt α} {F : Nat → Prop} {w w' : World} {A : Option Addr} {c : Nat} {l : List α} (h : SlA E F w A c l) (hs : Same F w w') : SlA E F w' A c l :=
  ⟨h.1, h.2.1, fun i x hx => by
    obtain ⟨b, off, cs, rfl, hb, hc, hr⟩ := h.2.2 i x hx
    exact ⟨b, off, cs, rfl, hb, fun j u hu => (hs.cell (p := ⟨b, _, none⟩) hb).trans (hc j u hu), E.keep _ _ _ _ _ hr hs⟩⟩
theorem SlA.more {E : Elt α} {F F' : Nat → Prop} {w : World} {A : Option Addr} {c : Nat} {l : List α} (h : SlA E F w A c l) (hF : ∀ k, F k → F' k) : SlA E F' w A c l :=
  ⟨h.1, h.2.1, fun i x hx => by
    obtain ⟨b, off, cs, rfl, hb, hc, hr⟩ := h.2.2 i x hx
    exact ⟨b, off, cs, rfl, hF _ hb, hc, E.more _ _ _ _ _ hr hF⟩⟩
theorem SlA.le {E : Elt α} {F : Nat → Prop} {w : World} {A : Option Addr} {c : Nat} {l : List α} (h : SlA E F w A c l) : l.length ≤ 9223372036854775807 := by
  have h1 := h.1; have h2 := h.2.1; unfold maxLen at h2; omega
theorem SlA.nil (E : Elt α) (F : Nat → Prop) (w : World) (A : Option Addr) (c : Nat) (hc : c ≤ maxLen) : SlA E F w A c [] := ⟨by simp, hc, fun i x hx => by simp at hx⟩
theorem Sl.keep {E : Elt α} {F : Nat → Prop} {w w' : World} {v : Value} {l : List α} (h : Sl E F w v l) (hs : Same F w w') : Sl E F w' v l := by
  obtain ⟨A, c, rfl, h⟩ := h; exact ⟨A, c, rfl, h.keep hs⟩
theorem Sl.more {E : Elt α} {F F' : Nat → Prop} {w : World} {v : Value} {l : List α} (h : Sl E F w v l) (hF : ∀ k, F k → F' k) : Sl E F' w v l := by
  obtain ⟨A, c, rfl, h⟩ := h; exact ⟨A, c, rfl, h.more hF⟩
theorem Sl.nil (E : Elt α) (F : Nat → Prop) (w : World) : Sl E F w (.slice none 0 0) [] := ⟨none, 0, rfl, SlA.nil E F w _ _ (by unfold maxLen; omega)⟩

/-! ### Elements -/
def intE (k : IntKind) : Elt Int where
  sz := 1
  bulk := fun _ => 1
  R := fun _ _ cs n => cs = [.int k n] ∧ (Lit.int k n).wf = true
  len := fun _ _ _ _ h => by rw [h.1]; rfl
  keep := fun _ _ _ _ _ h _ => h
  more := fun _ _ _ _ _ h _ => h
def strE : Elt ByteArray where
  sz := 1
  bulk := fun s => s.size + 1
  R := fun _ _ cs s => cs = [.string s] ∧ s.size ≤ maxLen
  len := fun _ _ _ _ h => by rw [h.1]; rfl
  keep := fun _ _ _ _ _ h _ => h
  more := fun _ _ _ _ _ h _ => h
def bytE : Elt UInt8 where
  sz := 1
  bulk := fun _ => 1
  R := fun _ _ cs b => cs = [.int .u8 (b.toNat : Int)]
  len := fun _ _ _ _ h => by rw [h]; rfl
  keep := fun _ _ _ _ _ h _ => h
  more := fun _ _ _ _ _ h _ => h
def boolE : Elt Bool where
  sz := 1
  bulk := fun _ => 1
  R := fun _ _ cs n => cs = [.bool n]
  len := fun _ _ _ _ h => by rw [h]; rfl
  keep := fun _ _ _ _ _ h _ => h
  more := fun _ _ _ _ _ h _ => h
def slE (E : Elt α) : Elt (List α) where
  sz := 1
  bulk := fun l => sumBulk E.bulk l + 1
  R := fun F w cs l => ∃ v, cs = [v] ∧ Sl E F w v l
  len := fun _ _ _ _ h => by obtain ⟨v, rfl, _⟩ := h; rfl
  keep := fun _ _ _ _ _ h hs => by obtain ⟨v, rfl, h⟩ := h; exact ⟨v, rfl, h.keep hs⟩
  more := fun _ _ _ _ _ h hF => by obtain ⟨v, rfl, h⟩ := h; exact ⟨v, rfl, h.more hF⟩

/-- An element's cells, at its index. -/
theorem SlA.at_ {E : Elt α} {F : Nat → Prop} {w : World} {A : Option Addr} {c : Nat} {l : List α} (h : SlA E F w A c l) {k : Nat} (hk : k < l.length) :
    ∃ b off cs, A = some ⟨b, off, none⟩ ∧ F b ∧ (∀ j u, cs[j]? = some u → w.cell? ⟨b, off + (k * E.sz + j), none⟩ = some u) ∧ E.R F w cs l[k] :=
  h.2.2 k l[k] (List.getElem?_eq_getElem hk)
theorem SlA.int_ {q : IntKind} {F : Nat → Prop} {w : World} {A : Option Addr} {c : Nat} {l : List Int} (h : SlA (intE q) F w A c l) {k : Nat} (hk : k < l.length) :
    ∃ b off, A = some ⟨b, off, none⟩ ∧ F b ∧ w.cell? ⟨b, off + k, none⟩ = some (.int q l[k]) ∧ (Lit.int q l[k]).wf = true := by
  obtain ⟨b, off, cs, rfl, hb, hc, he, hw⟩ := h.at_ hk
  refine ⟨b, off, rfl, hb, ?_, hw⟩
  have := hc 0 (.int q l[k]) (by rw [he]; rfl)
  simpa [intE] using this
theorem SlA.byt_ {F : Nat → Prop} {w : World} {A : Option Addr} {c : Nat} {l : List UInt8} (h : SlA bytE F w A c l) {k : Nat} (hk : k < l.length) :
    ∃ b off, A = some ⟨b, off, none⟩ ∧ F b ∧ w.cell? ⟨b, off + k, none⟩ = some (.int .u8 (l[k].toNat : Int)) := by
  obtain ⟨b, off, cs, rfl, hb, hc, he⟩ := h.at_ hk
  refine ⟨b, off, rfl, hb, ?_⟩
  have := hc 0 _ (by rw [he]; rfl)
  simpa [bytE] using this
theorem SlA.str_ {F : Nat → Prop} {w : World} {A : Option Addr} {c : Nat} {l : List ByteArray} (h : SlA strE F w A c l) {k : Nat} (hk : k < l.length) :
    ∃ b off, A = some ⟨b, off, none⟩ ∧ F b ∧ w.cell? ⟨b, off + k, none⟩ = some (.string l[k]) ∧ l[k].size ≤ maxLen := by
  obtain ⟨b, off, cs, rfl, hb, hc, he, hw⟩ := h.at_ hk
  refine ⟨b, off, rfl, hb, ?_, hw⟩
  have := hc 0 (.string l[k]) (by rw [he]; rfl)
  simpa [strE] using this
theorem SlA.sl_ {E : Elt α} {F : Nat → Prop} {w : World} {A : Option Addr} {c : Nat} {l : List (List α)} (h : SlA (slE E) F w A c l) {k : Nat} (hk : k < l.length) :
    ∃ b off A' c', A = some ⟨b, off, none⟩ ∧ F b ∧ w.cell? ⟨b, off + k, none⟩ = some (.slice A' l[k].length c') ∧ SlA E F w A' c' l[k] := by
  obtain ⟨b, off, cs, rfl, hb, hc, v, he, A', c', rfl, hw⟩ := h.at_ hk
  refine ⟨b, off, A', c', rfl, hb, ?_, hw⟩
  have := hc 0 _ (by rw [he]; rfl)
  simpa [slE] using this

/-! ### From the form's reading -/
theorem cell_lt {w : World} {a : Addr} {v : Value} (h : w.cell? a = some v) : a.block < w.heap.size := by
  unfold World.cell? at h
  rcases Nat.lt_or_ge a.block w.heap.size with hlt | hge
  · exact hlt
  · rw [Array.getElem?_eq_none hge] at h; simp at h

/-- Type t's cells hold an element E. -/
structure OfT (P : Program) (t : TypeId) (E : Elt α) : Prop where
  cells : P.cellsOf t = E.sz
  pos : 0 < E.sz
  of : ∀ {H : Type} (enc : TypeId × Value → H) (w : World) (fuel : Nat) (cs : List Value) (x : DataW H × List MemPlace), DataW.trod enc P w 0 (fun _ => true) true fuel t cs = some x → ∃ y, E.R (· < w.heap.size) w cs y ∧ E.bulk y ≤ Rows.uptoBulk x.1

theorem ofInt {P : Program} {t : TypeId} {k : IntKind} (ht : P.underlying t = some (.int k)) (hc : P.cellsOf t = 1) : OfT P t (intE k) :=
  ⟨hc, Nat.one_pos, fun enc w fuel cs x h => by
    obtain ⟨n, rfl, rfl, hw⟩ := DataW.trod_int ht h
    exact ⟨n, ⟨rfl, hw⟩, by simp [intE, Rows.uptoBulk]⟩⟩
theorem ofByte {P : Program} {t : TypeId} (ht : P.underlying t = some (.int .u8)) (hc : P.cellsOf t = 1) : OfT P t bytE :=
  ⟨hc, Nat.one_pos, fun enc w fuel cs x h => by
    obtain ⟨n, rfl, rfl, hw⟩ := DataW.trod_int ht h
    have hb : 0 ≤ n ∧ n < 256 := by
      have h2 := bounds_u8 hw
      omega
    refine ⟨UInt8.ofNat n.toNat, ?_, by simp [bytE, Rows.uptoBulk]⟩
    have e : ((UInt8.ofNat n.toNat).toNat : Int) = n := by rw [UInt8.toNat_ofNat']; omega
    show [Value.int .u8 n] = [Value.int .u8 _]
    rw [e]⟩
theorem ofStr {P : Program} {t : TypeId} (ht : P.underlying t = some .string) (hc : P.cellsOf t = 1) : OfT P t strE :=
  ⟨hc, Nat.one_pos, fun enc w fuel cs x h => by
    obtain ⟨n, rfl, rfl, hw⟩ := DataW.trod_string ht h
    exact ⟨n, ⟨rfl, hw⟩, by simp [strE, Rows.uptoBulk]⟩⟩
theorem ofBool {P : Program} {t : TypeId} (ht : P.underlying t = some .bool) (hc : P.cellsOf t = 1) : OfT P t boolE :=
  ⟨hc, Nat.one_pos, fun enc w fuel cs x h => by
    obtain ⟨n, rfl, rfl⟩ := DataW.trod_bool ht h
    exact ⟨n, rfl, by simp [boolE, Rows.uptoBulk]⟩⟩

theorem sumBulk_le {H : Type} {f : β → Nat} {l : List β} {D : Nat → DataW H} (h : ∀ i x, l[i]? = some x → f x ≤ Rows.uptoBulk (D i)) : sumBulk f l ≤ Rows.uptoBulkAll ((List.range l.length).map D) := by
  induction l generalizing D with
  | nil => simp [sumBulk]
  | cons x l ih =>
    have h0 := h 0 x rfl
    have := ih (D := fun i => D (i + 1)) (fun i y hy => h (i + 1) y (by simpa using hy))
    rw [List.length_cons, List.range_succ_eq_map, List.map_cons, List.map_map]
    simp only [sumBulk, Rows.uptoBulkAll]
    have e : (List.range l.length).map (D ∘ Nat.succ) = (List.range l.length).map fun i => D (i + 1) := rfl
    rw [e]; omega

theorem cells_add {w : World} {a : Addr} {n : Nat} {cs : List Value} (h : w.cells? 0 a n = some cs) : cs.length = n ∧ ∀ j u, cs[j]? = some u → w.cell? (a.add j) = some u := by
  obtain ⟨_, hl, hc⟩ := World.cells?_some h
  refine ⟨hl, fun j u hu => ?_⟩
  have hj : j < cs.length := by
    rcases Nat.lt_or_ge j cs.length with h | h
    · exact h
    · rw [List.getElem?_eq_none h] at hu; cases hu
  rw [hc j (by omega)]; exact hu

theorem ofSl {P : Program} {t e : TypeId} {E : Elt α} (ht : P.underlying t = some (.slice e)) (hc : P.cellsOf t = 1) (hE : OfT P e E) : OfT P t (slE E) :=
  ⟨hc, Nat.one_pos, fun enc w fuel cs x h => by
    classical
    rcases Go.Deep.open_slice ht h with ⟨rfl, rfl⟩ | ⟨a, len, cap, m, n, D, Pl, rfl, hb, hl, hm, hmm, rfl, hx⟩
    · exact ⟨[], ⟨_, rfl, Sl.nil E _ w⟩, by simp [slE, sumBulk, Rows.uptoBulk]⟩
    · simp only [if_true] at hmm
      subst hmm
      have hall : ∀ i, i < len → ∃ y, (∃ cs', cs'.length = E.sz ∧ (∀ j u, cs'[j]? = some u → w.cell? ((a.add (i * E.sz)).add j) = some u) ∧ E.R (· < w.heap.size) w cs' y) ∧ E.bulk y ≤ Rows.uptoBulk (D i) := by
        intro i hi
        obtain ⟨cs', h1, h2⟩ := hx i (by omega)
        rw [hE.cells] at h1
        obtain ⟨hl', hc'⟩ := cells_add h1
        obtain ⟨y, hy, hbk⟩ := hE.of enc w n cs' _ h2
        exact ⟨y, ⟨cs', hl', hc', hy⟩, hbk⟩
      let f : Fin len → α := fun i => Classical.choose (hall i.1 i.2)
      have hf : ∀ i : Fin len, (∃ cs', cs'.length = E.sz ∧ (∀ j u, cs'[j]? = some u → w.cell? ((a.add (i.1 * E.sz)).add j) = some u) ∧ E.R (· < w.heap.size) w cs' (f i)) ∧ E.bulk (f i) ≤ Rows.uptoBulk (D i.1) := fun i => Classical.choose_spec (hall i.1 i.2)
      have hlen : (List.ofFn f).length = len := List.length_ofFn
      refine ⟨List.ofFn f, ⟨_, rfl, some a, m, by rw [hlen], by rw [hlen]; exact hl, hm, ?_⟩, ?_⟩
      · intro i x hx'
        have hi : i < len := by
          rcases Nat.lt_or_ge i len with h | h
          · exact h
          · rw [List.getElem?_eq_none (by rw [hlen]; exact h)] at hx'; cases hx'
        rw [List.getElem?_eq_getElem (by rw [hlen]; exact hi), List.getElem_ofFn] at hx'
        injection hx' with hx'
        obtain ⟨⟨cs', h1, h2, h3⟩, _⟩ := hf ⟨i, hi⟩
        subst hx'
        obtain ⟨b, off, spot⟩ := a
        have hpos := hE.pos
        have hspot : spot = none := by
          obtain ⟨⟨cs0, g1, g2, g3⟩, _⟩ := hf ⟨0, by omega⟩
          obtain ⟨u, hu⟩ : ∃ u, cs0[0]? = some u := ⟨cs0[0], List.getElem?_eq_getElem (by omega)⟩
          have := g2 0 u hu
          simp only [Nat.zero_mul] at this
          simpa [Addr.add] using World.cell?_spot this
        subst hspot
        refine ⟨b, off, cs', rfl, ?_, ?_, h3⟩
        · obtain ⟨u, hu⟩ : ∃ u, cs'[0]? = some u := ⟨cs'[0], List.getElem?_eq_getElem (by omega)⟩
          have := cell_lt (h2 0 u hu)
          rwa [Go.Deep.add_add, add_plain] at this
        · intro j u hu
          have := h2 j u hu
          rwa [Go.Deep.add_add, add_plain] at this
      · show sumBulk E.bulk (List.ofFn f) + 1 ≤ _
        have := sumBulk_le (H := _) (f := E.bulk) (l := List.ofFn f) (D := D) (fun i x hx' => by
          have hi : i < len := by
            rcases Nat.lt_or_ge i len with h | h
            · exact h
            · rw [List.getElem?_eq_none (by rw [hlen]; exact h)] at hx'; cases hx'
          rw [List.getElem?_eq_getElem (by rw [hlen]; exact hi), List.getElem_ofFn] at hx'
          injection hx' with hx'
          subst hx'
          exact (hf ⟨i, hi⟩).2)
        rw [hlen] at this
        simp only [Rows.uptoBulk]
        omega⟩

/-- A slice argument's bytes, by the form's own reach. -/
theorem capOfTrod {H : Type} {P : Program} {ts : List TypeId} {ds : List (DataW H)} {enc : TypeId × Value → H} {w : World} {t e : TypeId} (ht : P.underlying t = some (.slice e))
    (h : (DataW.weightsEach P ts ds).all (· ≤ reachBytes) = true) {j : Nat} (hj : ts[j]? = some t) {A : Option Addr} {n c : Nat} {d : DataW H} (hd : ds[j]? = some d) {ps : List MemPlace}
    (hr : DataW.Trod enc P w 0 (fun _ => true) true t (.slice A n c) d ps) : c * P.bytesOf e ≤ 140737488351232 := by
  obtain ⟨fuel, hf⟩ := hr
  rcases Go.Deep.open_slice ht hf with ⟨hcs, _⟩ | ⟨a, len, cap, m, k, D, Pl, hcs, hb, hl, hm, hmm, hx, _⟩
  · simp [Value.cells] at hcs
    obtain ⟨_, _, rfl⟩ := hcs
    simp
  · simp [Value.cells] at hcs
    obtain ⟨_, rfl, rfl⟩ := hcs
    injection hx with hx _
    subst hx
    have := sized_slice h hj hd ht
    simp only [List.length_map, List.length_range, if_true] at this hmm
    subst hmm
    have e : ∀ a b : Nat, a ≤ b → a + (b - a) = b := fun _ _ _ => by omega
    rw [e _ _ hl] at this
    exact this

/-- An argument that is a slice. -/
theorem slOfTrod {P : Program} {t : TypeId} {E : Elt α} (h : OfT P t (slE E)) {H : Type} {enc : TypeId × Value → H} {w : World} {A : Option Addr} {n c : Nat} {d : DataW H} {ps : List MemPlace}
    (hd : DataW.Trod enc P w 0 (fun _ => true) true t (.slice A n c) d ps) : ∃ l : List α, n = l.length ∧ SlA E (· < w.heap.size) w A c l ∧ sumBulk E.bulk l + 1 ≤ Rows.uptoBulk d := by
  obtain ⟨fuel, hf⟩ := hd
  obtain ⟨l, ⟨v, hv, A', c', he, hs⟩, hb⟩ := h.of enc w fuel _ _ hf
  have e : v = .slice A n c := by simpa [Value.cells] using hv.symm
  rw [e] at he
  injection he with e1 e2 e3
  subst e1; subst e3
  exact ⟨l, e2, hs, hb⟩
end

/-! ### append of one element onto a row of the call's own -/
theorem cells_new (w : World) (news : List Value) (t : TypeId) : ∀ j u, news[j]? = some u → (w.alloc (.cells news.toArray t)).cell? ((⟨w.heap.size, 0, none⟩ : Addr).add j) = some u := by
  intro j u hj
  have e1 : (w.alloc (.cells news.toArray t)).heap[w.heap.size]? = some (.cells news.toArray t) := heap_alloc_new w _
  rw [add_plain]
  simp only [World.cell?]
  rw [e1]
  simpa using hj

theorem push_step (P : Program) (w0 : World) (t ty : TypeId) (base : Nat) (e : TypeId) (z : Value) (size bytes : Nat) (ht : P.underlying t = some (.slice e))
    (hinfo : (P.info? e).map (fun i => (i.zero, i.size, i.bytes)) = some (some z, size, bytes)) (hzs : z.cells.size = size) (hsz : 0 < size)
    (v : Value) (n : Nat) (xs : List Value) (hown : w0.ownsRow base e size v n xs) (news : List Value) (hl : news.length = size) (h1 : ∀ u ∈ news, u.oneCell' = true)
    (h63 : n + 1 ≤ maxLen) (hbytes : (n + 1) * bytes ≤ 140737488355328) (hbase : base ≤ w0.heap.size) {B : Nat} {W : World} (hbel : Below B W w0) (hB : B ≤ base) :
    ∃ v' w', (Builtin.append_ #[t, t] ty #[v, .slice (some ⟨w0.heap.size, 0, none⟩) 1 1]).run P (w0.alloc (.cells news.toArray e)) = .ok v' w' ∧ w'.ownsRow base e size v' (n + 1) (xs ++ news) ∧ w0.grownBy w' v.ownBlock ∧ Below B W w' ∧
      (v'.ownBlock = v.ownBlock ∨ ∃ g, v'.ownBlock = some g ∧ w0.heap.size ≤ g) := by
  obtain ⟨i, hi, hz0, hz1, hz2⟩ := info_parts hinfo
  obtain ⟨v', w', hr, h2, h3, _, h5⟩ := run_append_own_at (P := P) (w0.alloc (.cells news.toArray e)) base t ty e i z size bytes ht hi hz0 hz1 hz2 hzs hsz v n xs (hown.alloc _) ⟨w0.heap.size, 0, none⟩ 1 1 news (by rw [hl, Nat.one_mul]) (cells_new w0 news e) h1 h63 hbytes (by simp; omega)
  refine ⟨v', w', hr, h2, (World.grownBy_alloc w0 _ _).trans h3, (hbel.alloc (by omega) _).grown h3 (by simp; omega) (fun k hk => ?_), ?_⟩
  · have := (hown.lt k hk).1; omega
  · rcases h5 with h5 | h5
    · exact .inl h5
    · exact .inr ⟨_, h5, by simp⟩

/-- The same, as a step of a region that draws its order (behind the draw). -/
theorem step_push {P : Program} {ops : Array Oper} {o : Oper} {a : Act} {K : Act → World → Prop} {Q : Exit → Act → World → Prop} {E : Prop} {w0 : World} (hgd : o.guard = none) (s x : Operand) (t : TypeId)
    (ho : o.op = .call { callee := .builtin .append, args := #[s, x], argTypes := #[t, t] })
    (base : Nat) (e : TypeId) (z : Value) (size bytes : Nat) (ht : P.underlying t = some (.slice e))
    (hinfo : (P.info? e).map (fun i => (i.zero, i.size, i.bytes)) = some (some z, size, bytes)) (hzs : z.cells.size = size) (hsz : 0 < size)
    (v : Value) (n : Nat) (xs : List Value) (hs : a.eval s = v) (hown : w0.ownsRow base e size v n xs) (news : List Value) (hx : a.eval x = .slice (some ⟨w0.heap.size, 0, none⟩) 1 1) (hl : news.length = size) (h1 : ∀ u ∈ news, u.oneCell' = true)
    (h63 : n + 1 ≤ maxLen) (hbytes : (n + 1) * bytes ≤ 140737488355328) (hbase : base ≤ w0.heap.size) {B : Nat} {W : World} (hbel : Below B W w0) (hB : B ≤ base)
    (h : ∀ v' w', w'.ownsRow base e size v' (n + 1) (xs ++ news) → w0.grownBy w' v.ownBlock → Below B W w' → (v'.ownBlock = v.ownBlock ∨ ∃ g, v'.ownBlock = some g ∧ w0.heap.size ≤ g) → K (a.put o.dst v') w') :
    if Region.wanted o (yielded ops a.tmps) = true then Oper.wp P o a (w0.alloc (.cells news.toArray e)).drew K Q else E := by
  have hw : Region.wanted o (yielded ops a.tmps) = true := by simp [Region.wanted, hgd]
  rw [if_pos hw]
  obtain ⟨v', w', hr, h2, h3, h4, h5⟩ := push_step P w0.drew t o.type base e z size bytes ht hinfo hzs hsz v n xs hown news hl h1 h63 hbytes hbase hbel.drew hB
  have hr' : (Builtin.append_ #[t, t] o.type #[v, .slice (some ⟨w0.heap.size, 0, none⟩) 1 1]).run P (w0.alloc (.cells news.toArray e)).drew = .ok v' w' := hr
  unfold Oper.wp execOp
  simp only [ho, resolve, invoke, builtin, Sem.run_bind, Sem.run_pure, Result.andThen_ok, List.map_toArray, List.map_cons, List.map_nil, hs, hx, hr']
  exact h v' w' h2 ⟨h3.os, h3.tape, h3.output, h3.size, h3.block⟩ h4 h5

theorem wpList_push {P : Program} {ops : Array Oper} {rest : List Oper} {o : Oper} {a : Act} {Q : Exit → Act → World → Prop} {w0 : World} (hgd : o.guard = none) (s x : Operand) (t : TypeId)
    (ho : o.op = .call { callee := .builtin .append, args := #[s, x], argTypes := #[t, t] })
    (base : Nat) (e : TypeId) (z : Value) (size bytes : Nat) (ht : P.underlying t = some (.slice e))
    (hinfo : (P.info? e).map (fun i => (i.zero, i.size, i.bytes)) = some (some z, size, bytes)) (hzs : z.cells.size = size) (hsz : 0 < size)
    (v : Value) (n : Nat) (xs : List Value) (hs : a.eval s = v) (hown : w0.ownsRow base e size v n xs) (news : List Value) (hx : a.eval x = .slice (some ⟨w0.heap.size, 0, none⟩) 1 1) (hl : news.length = size) (h1 : ∀ u ∈ news, u.oneCell' = true)
    (h63 : n + 1 ≤ maxLen) (hbytes : (n + 1) * bytes ≤ 140737488355328) (hbase : base ≤ w0.heap.size) {B : Nat} {W : World} (hbel : Below B W w0) (hB : B ≤ base)
    (h : ∀ v' w', w'.ownsRow base e size v' (n + 1) (xs ++ news) → w0.grownBy w' v.ownBlock → Below B W w' → (v'.ownBlock = v.ownBlock ∨ ∃ g, v'.ownBlock = some g ∧ w0.heap.size ≤ g) → wpList P ops Q rest (a.put o.dst v') w') :
    wpList P ops Q (o :: rest) a (w0.alloc (.cells news.toArray e)) := by
  refine wpList_plain hgd fun K hK => ?_
  obtain ⟨v', w', hr, h2, h3, h4, h5⟩ := push_step P w0 t o.type base e z size bytes ht hinfo hzs hsz v n xs hown news hl h1 h63 hbytes hbase hbel hB
  unfold Oper.wp execOp
  simp only [ho, resolve, invoke, builtin, Sem.run_bind, Sem.run_pure, Result.andThen_ok, List.map_toArray, List.map_cons, List.map_nil, hs, hx, hr]
  exact hK _ _ (h v' w' h2 h3 h4 h5)

/-! ### append onto a row of the call's own, of whatever -/
theorem run_append_src_own {P : Program} (w : World) (base : Nat) (t tx ty e : TypeId) (z : Value) (size bytes : Nat) (ht : P.underlying t = some (.slice e))
    (hinfo : (P.info? e).map (fun i => (i.zero, i.size, i.bytes)) = some (some z, size, bytes)) (hzs : z.cells.size = size) (hsz : 0 < size)
    (v : Value) (n : Nat) (xs : List Value) (hown : w.ownsRow base e size v n xs) (x : Value) (m : Nat) (news : List Value) (hs : Src P size tx x m news w)
    (h63 : n + m ≤ maxLen) (hbytes : (n + m) * bytes ≤ 140737488355328) (hbase : base ≤ w.heap.size) :
    ∃ v' w', (Builtin.append_ #[t, tx] ty #[v, x]).run P w = .ok v' w' ∧ w'.ownsRow base e size v' (n + m) (xs ++ news) ∧ w.grownBy w' v.ownBlock ∧ (v'.ownBlock = v.ownBlock ∨ v'.ownBlock = some w.heap.size) := by
  obtain ⟨i, hi, hz, rfl, rfl⟩ := info_parts hinfo
  have hsmall : n + m ≤ 9223372036854775807 := by simp only [maxLen] at h63; omega
  have hlen : (xs ++ news).length = (n + m) * i.size := by rw [List.length_append, hown.1, hs.newsLen, Nat.add_mul]
  have grown : ∀ (old : Nat), old < n + m → ∀ (row : Option Nat),
      (w.drew.alloc (.cells ((xs ++ news).toArray ++ Builtin.zeroCells z.cells (grownCap w (n + m) old e - (n + m))) e)).ownsRow base e i.size
        (.slice (some ⟨w.heap.size, 0, none⟩) (n + m) (grownCap w (n + m) old e)) (n + m) (xs ++ news) ∧
      w.grownBy (w.drew.alloc (.cells ((xs ++ news).toArray ++ Builtin.zeroCells z.cells (grownCap w (n + m) old e - (n + m))) e)) row := by
    intro old ho row
    have hge := grownCap_ge w (n + m) old e
    have hcm : grownCap w (n + m) old e ≤ maxLen := grownCap_le_maxLen w (n + m) old e h63
    refine ⟨⟨hlen, .inr ⟨w.heap.size, _, _, rfl, hbase, heap_alloc_new w.drew _, hge, hcm, ?_, ?_⟩⟩, ⟨rfl, rfl, rfl, by simp, fun k hk _ => Below.heap_alloc w.drew _ k hk⟩⟩
    · rw [Array.size_append, List.size_toArray, size_zeroCells, hzs, hlen, ← Nat.add_mul]
      congr 1
      omega
    · simp only [Array.toList_append, ← hlen]
      exact List.take_left
  rcases hown.2 with ⟨rfl, rfl⟩ | ⟨g, cap, cur, rfl, hbg, hg, hnc, hcm, hcs, htake⟩
  · have hx : xs = [] := List.eq_nil_of_length_eq_zero (by simpa using hown.1)
    subst hx
    by_cases hm : m = 0
    · subst hm
      have hn : news = [] := List.eq_nil_of_length_eq_zero (by simpa using hs.newsLen)
      subst hn
      refine ⟨.slice none 0 0, w, ?_, World.ownsRow_nil w base e i.size, ⟨rfl, rfl, rfl, Nat.le_refl _, fun _ _ _ => rfl⟩, Or.inl rfl⟩
      have hc := hs.cells
      rcases hs.kind with ⟨e', hk⟩ | hk <;> simp [Builtin.append_, run_underlying ht, run_underlying hk, sizeOf, typeInfo, hi, hs.len, hc]
    · have hr := run_append_grow_src (P := P) w t tx ty e i z ht hi hz none 0 0 [] (by simp [Builtin.firstCells]) x m news hs (by omega) (by omega) (growslice_fits (by omega) hbytes)
      have hgr := grown 0 (by omega) (Value.ownBlock (.slice none 0 0))
      exact ⟨_, _, hr, hgr.1, hgr.2, Or.inr rfl⟩
  · by_cases hroom : n + m ≤ cap
    · have hfit : n * i.size + news.length ≤ cur.size := by rw [hs.newsLen, hcs, ← Nat.add_mul]; exact Nat.mul_le_mul_right _ hroom
      have hst := run_storeCells_at P g (n * i.size) e news 0 cur w hg (by simpa using hfit) hs.one
      simp only [Nat.add_zero] at hst
      have hc := hs.cells
      have hr : (Builtin.append_ #[t, tx] ty #[.slice (some ⟨g, 0, none⟩) n cap, x]).run P w =
          .ok (.slice (some ⟨g, 0, none⟩) (n + m) cap) (w.setRow g (cur.toList.take (n * i.size) ++ news ++ cur.toList.drop (n * i.size + news.length)).toArray) := by
        rcases hs.kind with ⟨e', hk⟩ | hk <;> simp [Builtin.append_, run_underlying ht, run_underlying hk, sizeOf, typeInfo, hi, hs.len, hc, hroom, Addr.add_lit, hst]
      refine ⟨_, _, hr, ⟨hlen, .inr ⟨g, cap, _, rfl, hbg, setRow_heap w g cur _ e _ hg, hroom, hcm, ?_, ?_⟩⟩, ⟨rfl, rfl, rfl, by simp, fun k _ hk => setRow_other w g k _ (fun e => hk (by simp [Value.ownBlock, e]))⟩, Or.inl rfl⟩
      · simp only [List.size_toArray, List.length_append, List.length_take, List.length_drop, Array.length_toList]
        omega
      · rw [htake, ← hlen]
        exact List.take_left
    · have holds : ∀ j u, xs[j]? = some u → w.cell? ((⟨g, 0, none⟩ : Addr).add j) = some u := hown.cells (g := g) rfl
      have hold : (Builtin.firstCells i.size n (.slice (some ⟨g, 0, none⟩) n cap)).run P w.drew = .ok xs.toArray w.drew := run_firstCells_some (P := P) w.drew i.size n ⟨g, 0, none⟩ n cap xs hown.1 (by simpa using holds)
      have hr := run_append_grow_src (P := P) w t tx ty e i z ht hi hz (some ⟨g, 0, none⟩) n cap xs hold x m news hs (by omega) (by omega) (growslice_fits (by omega) hbytes)
      have hgr := grown cap (by omega) (Value.ownBlock (.slice (some ⟨g, 0, none⟩) n cap))
      exact ⟨_, _, hr, hgr.1, hgr.2, Or.inr rfl⟩

theorem wpList_append_src {P : Program} {ops : Array Oper} {rest : List Oper} {o : Oper} {a : Act} {Q : Exit → Act → World → Prop} {w : World} (hgd : o.guard = none) (s x : Operand) (t tx : TypeId)
    (ho : o.op = .call { callee := .builtin .append, args := #[s, x], argTypes := #[t, tx] })
    (base : Nat) (e : TypeId) (z : Value) (size bytes : Nat) (ht : P.underlying t = some (.slice e))
    (hinfo : (P.info? e).map (fun i => (i.zero, i.size, i.bytes)) = some (some z, size, bytes)) (hzs : z.cells.size = size) (hsz : 0 < size)
    (v : Value) (n : Nat) (xs : List Value) (hs : a.eval s = v) (hown : w.ownsRow base e size v n xs) (vx : Value) (hx : a.eval x = vx) (m : Nat) (news : List Value) (hsrc : Src P size tx vx m news w)
    (h63 : n + m ≤ maxLen) (hbytes : (n + m) * bytes ≤ 140737488355328) (hbase : base ≤ w.heap.size) {B : Nat} {W : World} (hbel : Below B W w) (hB : B ≤ base)
    (h : ∀ v' w', w'.ownsRow base e size v' (n + m) (xs ++ news) → w.grownBy w' v.ownBlock → Below B W w' → (v'.ownBlock = v.ownBlock ∨ v'.ownBlock = some w.heap.size) → wpList P ops Q rest (a.put o.dst v') w') :
    wpList P ops Q (o :: rest) a w := by
  refine wpList_plain hgd fun K hK => ?_
  obtain ⟨v', w', hr, h2, h3, h5⟩ := run_append_src_own (P := P) w base t tx o.type e z size bytes ht hinfo hzs hsz v n xs hown vx m news hsrc h63 hbytes hbase
  unfold Oper.wp execOp
  simp only [ho, resolve, invoke, builtin, Sem.run_bind, Sem.run_pure, Result.andThen_ok, List.map_toArray, List.map_cons, List.map_nil, hs, hx, hr]
  exact hK _ _ (h v' w' h2 h3 (hbel.grown h3 (by omega) (fun k hk => by have := (hown.lt k hk).1; omega)) h5)

/-- A slice that is read, as what is appended. -/
theorem Src.of_sl {P : Program} {α : Type} {E : Elt α} {F : Nat → Prop} {w : World} {A : Option Addr} {c : Nat} {l : List α} {tx e' : TypeId} (h : SlA E F w A c l) (hk : P.underlying tx = some (.slice e')) (f : α → List Value)
    (hf : ∀ cs x, E.R F w cs x → cs = f x) (hlen : ∀ x, (f x).length = E.sz) (h1 : ∀ x, ∀ u ∈ f x, u.oneCell' = true) : Src P E.sz tx (.slice A l.length c) l.length (l.flatMap f) w := by
  have hl : (l.flatMap f).length = l.length * E.sz := by
    clear h
    induction l with
    | nil => simp
    | cons x l ih => rw [List.flatMap_cons, List.length_append, hlen, ih, List.length_cons, Nat.succ_mul, Nat.add_comm]
  rcases A with _ | ad
  · have h0 : l = [] := by
      cases l with
      | nil => rfl
      | cons x l => obtain ⟨b, off, cs, e, _⟩ := h.2.2 0 x rfl; cases e
    subst h0
    exact Src.ofNil w hk c
  · refine Src.ofSlice w hk ad l.length c _ hl (fun j u hu => ?_) (fun u hu => ?_)
    · have key : ∀ (l : List α) (j : Nat) (u : Value), (l.flatMap f)[j]? = some u → ∃ i r x, l[i]? = some x ∧ (f x)[r]? = some u ∧ j = i * E.sz + r := by
        intro l
        induction l with
        | nil => intro j u h; simp at h
        | cons x l ih =>
          intro j u h
          rw [List.flatMap_cons] at h
          by_cases hj : j < (f x).length
          · rw [List.getElem?_append_left hj] at h
            exact ⟨0, j, x, rfl, h, by omega⟩
          · rw [List.getElem?_append_right (by omega)] at h
            obtain ⟨i, r, y, h1, h2, h3⟩ := ih _ _ h
            refine ⟨i + 1, r, y, by simpa using h1, h2, ?_⟩
            rw [hlen] at h3
            have := hlen x
            rw [Nat.succ_mul]; omega
      obtain ⟨i, r, x, hx, hr, rfl⟩ := key l j u hu
      obtain ⟨b, off, cs, e, _, hc, hR⟩ := h.2.2 i x hx
      injection e with e
      subst e
      rw [add_plain]
      exact hc r u (by rw [hf cs x hR]; exact hr)
    · obtain ⟨x, _, hu'⟩ := List.mem_flatMap.1 hu
      exact h1 x u hu'

/-! ### Bytes -/
def bcells (l : List UInt8) : List Value := l.map fun b => Value.int .u8 (b.toNat : Int)
theorem bcells_length (l : List UInt8) : (bcells l).length = l.length := by simp [bcells]
theorem bcells_append (l r : List UInt8) : bcells (l ++ r) = bcells l ++ bcells r := by simp [bcells]
theorem bcells_one (l : List UInt8) : ∀ u ∈ bcells l, u.oneCell' = true := by
  intro u hu; obtain ⟨_, _, rfl⟩ := List.mem_map.1 hu; rfl
theorem bcells_string (s : ByteArray) : Go.byteCells s = bcells s.data.toList := rfl

/-- A row of the call's own, read: one cell an element. -/
theorem own_sl1 {α : Type} {E : Elt α} {w : World} {base : Nat} {e : TypeId} {v : Value} {n : Nat} {l : List α} (f : α → Value) (hE : E.sz = 1) (hR : ∀ x ∈ l, ∀ F, E.R F w [f x] x) (h : w.ownsRow base e 1 v n (l.map f)) :
    n = l.length ∧ Sl E (fun k => base ≤ k ∧ k < w.heap.size) w v l := by
  have hn : n = l.length := by have := h.1; simpa using this.symm
  refine ⟨hn, ?_⟩
  rcases h.2 with ⟨rfl, h0⟩ | ⟨g, cap, cur, rfl, hb, hh, hnc, hcm, hcs, ht⟩
  · have : l = [] := List.eq_nil_of_length_eq_zero (by omega)
    subst this
    exact Sl.nil E _ w
  · subst hn
    refine ⟨_, cap, rfl, hnc, hcm, fun i x hx => ⟨g, 0, [f x], rfl, ⟨hb, ?_⟩, ?_, hR x (List.mem_of_getElem? hx) _⟩⟩
    · rcases Nat.lt_or_ge g w.heap.size with hlt | hge
      · exact hlt
      · rw [Array.getElem?_eq_none hge] at hh; cases hh
    · intro j u hj
      match j, hj with
      | 0, hj =>
        simp at hj; subst hj
        have := h.cells (g := g) rfl i (f x) (by simp [hx])
        rw [add_plain] at this
        rw [hE]; simpa using this

/-- 'string(b)'. -/
theorem conv_string {P : Program} {F : Nat → Prop} {w : World} {A : Option Addr} {c : Nat} {l : List UInt8} {src dst e : TypeId} (h : SlA bytE F w A c l) (hs : P.underlying src = some (.slice e)) (he : P.underlying e = some (.int .u8)) (hd : P.underlying dst = some .string) :
    (convert src dst (.slice A l.length c)).run P w = .ok (.string ⟨l.toArray⟩) w := by
  rcases A with _ | ad
  · have h0 : l = [] := by
      cases l with
      | nil => rfl
      | cons x l => obtain ⟨b, off, cs, e, _⟩ := h.2.2 0 x rfl; cases e
    subst h0
    show (convert src dst (.slice none 0 c)).run P w = _
    rw [run_convert_bytes_string w src dst e none 0 c hs he hd]
    simp [Conv.bytesToString]
    rfl
  · refine run_convert_bytes_back w src dst e ad c l hs he hd (fun j hj => ?_)
    obtain ⟨b, off, e, _, hc⟩ := h.byt_ hj
    injection e with e
    subst e
    rw [add_plain]; exact hc

/-- A slice's tail, and its head. -/
theorem SlA.cut {α : Type} {E : Elt α} {F : Nat → Prop} {w : World} {b off c : Nat} {l : List α} {k : Nat} (h : SlA E F w (some ⟨b, off, none⟩) c l) (hk : k ≤ l.length) : SlA E F w (some ⟨b, off + k * E.sz, none⟩) (c - k) (l.drop k) := by
  refine ⟨by rw [List.length_drop]; have := h.1; omega, by have := h.2.1; omega, fun i x hx => ?_⟩
  rw [List.getElem?_drop] at hx
  obtain ⟨b', off', cs, e, hF, hc, hR⟩ := h.2.2 (k + i) x hx
  injection e with e
  injection e with e1 e2
  subst e1; subst e2
  refine ⟨b, _, cs, rfl, hF, fun j u hu => ?_, hR⟩
  have := hc j u hu
  rw [Nat.add_mul] at this
  rw [← this]
  congr 2
  omega
theorem SlA.head {α : Type} {E : Elt α} {F : Nat → Prop} {w : World} {A : Option Addr} {c : Nat} {l : List α} {k : Nat} (h : SlA E F w A c l) (hk : k ≤ l.length) : SlA E F w A c (l.take k) := by
  refine ⟨by rw [List.length_take]; have := h.1; omega, h.2.1, fun i x hx => ?_⟩
  rw [List.getElem?_take] at hx
  split at hx
  · exact h.2.2 i x hx
  · cases hx
theorem string_eq (s : ByteArray) : (⟨s.data.toList.toArray⟩ : ByteArray) = s := by simp

theorem bdrewN {B : Nat} {a w : World} (h : Below B a w) (q : Nat) : Below B a (w.drewN q) := ⟨h.os, h.tape, h.output, h.size, h.block⟩
theorem bundrewN {B q : Nat} {a w : World} (h : Below B (a.drewN q) w) : Below B a w := ⟨h.os, h.tape, h.output, h.size, h.block⟩
theorem SlA.below {α : Type} {E : Elt α} {w w' : World} {A : Option Addr} {c : Nat} {l : List α} (h : SlA E (· < w.heap.size) w A c l) (hb : Below w.heap.size w w') : SlA E (· < w'.heap.size) w' A c l :=
  (h.keep (Same.below hb)).more fun k hk => by have := hb.size; have hk' : k < w.heap.size := hk; show k < w'.heap.size; omega
theorem SlA.drew {α : Type} {E : Elt α} {F : Nat → Prop} {w : World} {A : Option Addr} {c : Nat} {l : List α} (h : SlA E F w A c l) : SlA E F w.drew A c l := h.keep fun _ _ => rfl
theorem SlA.drewN {α : Type} {E : Elt α} {F : Nat → Prop} {w : World} {A : Option Addr} {c : Nat} {l : List α} (h : SlA E F w A c l) (n : Nat) : SlA E F (w.drewN n) A c l := h.keep fun _ _ => rfl

/-- Cell j of element i, in the cells laid end to end. -/
theorem flat_get {α : Type} (f : α → List Value) (sz : Nat) (hf : ∀ x, (f x).length = sz) (l : List α) {i j : Nat} {x : α} (hx : l[i]? = some x) (hj : j < sz) : (l.flatMap f)[i * sz + j]? = (f x)[j]? := by
  induction l generalizing i with
  | nil => simp at hx
  | cons y l ih =>
    rw [List.flatMap_cons]
    match i, hx with
    | 0, hx =>
      simp at hx; subst hx
      rw [List.getElem?_append_left (by rw [hf]; omega)]
      simp
    | i + 1, hx =>
      rw [List.getElem?_append_right (by rw [hf, Nat.succ_mul]; omega), hf]
      rw [show (i + 1) * sz + j - sz = i * sz + j by rw [Nat.succ_mul]; omega]
      exact ih (by simpa using hx)

/-- A row of the call's own, read: so many cells an element. -/
theorem own_sl {α : Type} {E : Elt α} {w : World} {base : Nat} {e : TypeId} {v : Value} {n : Nat} {l : List α} (f : α → List Value) (hf : ∀ x, (f x).length = E.sz) (hpos : 0 < E.sz) (h : w.ownsRow base e E.sz v n (l.flatMap f))
    (hR : ∀ x ∈ l, E.R (· < w.heap.size) w (f x) x) : ∃ A c, v = .slice A n c ∧ n = l.length ∧ SlA E (· < w.heap.size) w A c l := by
  have hfl : (l.flatMap f).length = l.length * E.sz := by
    clear h hR
    induction l with
    | nil => simp
    | cons x l ih => rw [List.flatMap_cons, List.length_append, hf, ih, List.length_cons, Nat.succ_mul, Nat.add_comm]
  have hn : n = l.length := by
    have := h.1; rw [hfl] at this
    exact (Nat.eq_of_mul_eq_mul_right hpos this).symm
  rcases h.2 with ⟨rfl, h0⟩ | ⟨g, cap, cur, rfl, hb, hh, hnc, hcm, hcs, ht⟩
  · have : l = [] := List.eq_nil_of_length_eq_zero (by omega)
    subst this
    exact ⟨none, 0, by rw [h0], hn, SlA.nil E _ w _ _ (by unfold maxLen; omega)⟩
  · have hlt : g < w.heap.size := by
      rcases Nat.lt_or_ge g w.heap.size with hlt | hge
      · exact hlt
      · rw [Array.getElem?_eq_none hge] at hh; cases hh
    refine ⟨_, cap, rfl, hn, by omega, hcm, fun i x hx => ⟨g, 0, f x, rfl, hlt, ?_, hR x (List.mem_of_getElem? hx)⟩⟩
    intro j u hj
    have hjl : j < E.sz := by
      rcases Nat.lt_or_ge j (f x).length with h | h
      · rw [hf] at h; exact h
      · rw [List.getElem?_eq_none h] at hj; cases hj
    have := h.cells (g := g) rfl (i * E.sz + j) u (by rw [flat_get f E.sz hf l hx hjl]; exact hj)
    rw [add_plain] at this
    simpa using this

/-! ### A slice of slices, each a row of the call's own -/
structure Nest (w : World) (B g : Nat) (t e : TypeId) (size : Nat) (vs : List Value) (xss : List (List Value)) (ns : List Nat) : Prop where
  blk : w.heap[g]? = some (.cells vs.toArray t (0, 0))
  base : B ≤ g
  ne : t ≠ e
  len : vs.length = xss.length
  lenN : ns.length = xss.length
  own : ∀ (j : Nat) (v : Value) (xs : List Value) (n : Nat), vs[j]? = some v → xss[j]? = some xs → ns[j]? = some n → w.ownsRow B e size v n xs
  apart : ∀ (i j : Nat) (v u : Value), i ≠ j → vs[i]? = some v → vs[j]? = some u → v.ownBlock = none ∨ v.ownBlock ≠ u.ownBlock

theorem ownBlock_cases {w : World} {B : Nat} {e : TypeId} {size n : Nat} {v : Value} {xs : List Value} (h : w.ownsRow B e size v n xs) : v.ownBlock = none ∨ ∃ g cur, v.ownBlock = some g ∧ g < w.heap.size ∧ w.heap[g]? = some (.cells cur e (0, 0)) := by
  rcases h.2 with ⟨rfl, _⟩ | ⟨g, cap, cur, rfl, _, hh, _⟩
  · exact .inl rfl
  · refine .inr ⟨g, cur, rfl, ?_, hh⟩
    rcases Nat.lt_or_ge g w.heap.size with hlt | hge
    · exact hlt
    · rw [Array.getElem?_eq_none hge] at hh; cases hh

theorem Nest.lt {w : World} {B g : Nat} {t e : TypeId} {size : Nat} {vs : List Value} {xss : List (List Value)} {ns : List Nat} (h : Nest w B g t e size vs xss ns) : g < w.heap.size := by
  rcases Nat.lt_or_ge g w.heap.size with hlt | hge
  · exact hlt
  · have := h.blk; rw [Array.getElem?_eq_none hge] at this; cases this
theorem Nest.row_ne {w : World} {B g : Nat} {t e : TypeId} {size : Nat} {vs : List Value} {xss : List (List Value)} {ns : List Nat} (h : Nest w B g t e size vs xss ns) {j : Nat} {v : Value} (hv : vs[j]? = some v) : v.ownBlock ≠ some g := by
  have hj : j < vs.length := by
    rcases Nat.lt_or_ge j vs.length with h | h
    · exact h
    · rw [List.getElem?_eq_none h] at hv; cases hv
  have ho := h.own j v _ _ hv (List.getElem?_eq_getElem (by rw [← h.len]; exact hj)) (List.getElem?_eq_getElem (by rw [h.lenN, ← h.len]; exact hj))
  rcases ownBlock_cases ho with h0 | ⟨g', cur, h1, _, h2⟩
  · rw [h0]; simp
  · rw [h1]
    intro e1
    injection e1 with e1
    subst e1
    have := h.blk
    rw [h2] at this
    injection this with this
    injection this with _ this _
    exact h.ne this.symm
/-- The whole block's cell. -/
theorem Nest.cell {w : World} {B g : Nat} {t e : TypeId} {size : Nat} {vs : List Value} {xss : List (List Value)} {ns : List Nat} (h : Nest w B g t e size vs xss ns) (j : Nat) : w.cell? ⟨g, j, none⟩ = vs[j]? := by
  have := cell_of_row w g j vs.toArray t (0, 0) h.blk
  simpa using this
theorem Nest.frozen {w : World} {B g : Nat} {t e : TypeId} {size : Nat} {vs : List Value} {xss : List (List Value)} {ns : List Nat} (h : Nest w B g t e size vs xss ns) (j : Nat) : w.frozen? ⟨g, j, none⟩ = false := by
  have := h.blk
  simp [World.frozen?, this]
/-- Kept where other blocks turn. -/
theorem Nest.keep {w w' : World} {B g : Nat} {t e : TypeId} {size : Nat} {vs : List Value} {xss : List (List Value)} {ns : List Nat} (h : Nest w B g t e size vs xss ns) {row : Option Nat} (hg : w.grownBy w' row) (h1 : row ≠ some g) (h2 : ∀ v ∈ vs, v.ownBlock = none ∨ v.ownBlock ≠ row) : Nest w' B g t e size vs xss ns :=
  ⟨(hg.block g h.lt (fun e => h1 e.symm)).trans h.blk, h.base, h.ne, h.len, h.lenN, fun j v xs n hv hx hn => (h.own j v xs n hv hx hn).kept hg (h2 v (List.mem_of_getElem? hv)), h.apart⟩
theorem Nest.alloc {w : World} {B g : Nat} {t e : TypeId} {size : Nat} {vs : List Value} {xss : List (List Value)} {ns : List Nat} (h : Nest w B g t e size vs xss ns) (o : Obj) : Nest (w.alloc o) B g t e size vs xss ns :=
  h.keep (World.grownBy_alloc w o none) (by simp) (fun v hv => by
    obtain ⟨j, hj⟩ := List.getElem?_of_mem hv
    cases hb : v.ownBlock with
    | none => exact .inl rfl
    | some k => exact .inr (by simp))
theorem Nest.drewN {w : World} {B g : Nat} {t e : TypeId} {size : Nat} {vs : List Value} {xss : List (List Value)} {ns : List Nat} (h : Nest w B g t e size vs xss ns) (q : Nat) : Nest (w.drewN q) B g t e size vs xss ns :=
  ⟨h.blk, h.base, h.ne, h.len, h.lenN, h.own, h.apart⟩
/-- Row j grown by an append, and stored back. -/
theorem Nest.push {w w' : World} {B g : Nat} {t e : TypeId} {size : Nat} {vs : List Value} {xss : List (List Value)} {ns : List Nat} (h : Nest w B g t e size vs xss ns) {j : Nat} {v v' : Value} {xs : List Value} {n' : Nat} (hv : vs[j]? = some v)
    (hown : w'.ownsRow B e size v' n' xs) (hg : w.grownBy w' v.ownBlock) (hat : v'.ownBlock = v.ownBlock ∨ v'.ownBlock = none ∨ ∃ k, v'.ownBlock = some k ∧ w.heap.size ≤ k) :
    Nest (w'.setCell ⟨g, j, none⟩ v') B g t e size (vs.set j v') (xss.set j xs) (ns.set j n') := by
  have hj : j < vs.length := by
    rcases Nat.lt_or_ge j vs.length with h | h
    · exact h
    · rw [List.getElem?_eq_none h] at hv; cases hv
  have hb1 : w'.heap[g]? = some (.cells vs.toArray t (0, 0)) := (hg.block g h.lt (fun e => h.row_ne hv e.symm)).trans h.blk
  have old : ∀ (i : Nat) (u : Value) (ys : List Value) (m : Nat), i ≠ j → vs[i]? = some u → xss[i]? = some ys → ns[i]? = some m → w'.ownsRow B e size u m ys := fun i u ys m hij hu hy hm =>
    (h.own i u ys m hu hy hm).kept hg (h.apart i j u v hij hu hv)
  have set_ : ∀ {u : Value} {m : Nat} {ys : List Value}, w'.ownsRow B e size u m ys → (w'.setCell ⟨g, j, none⟩ v').ownsRow B e size u m ys := fun {u m ys} ho => by
    obtain ⟨h1, h2⟩ := ho
    refine ⟨h1, ?_⟩
    rcases h2 with h2 | ⟨g', cap, cur, hv', hg', hh, r⟩
    · exact .inl h2
    · refine .inr ⟨g', cap, cur, hv', hg', ?_, r⟩
      rw [Below.heap_setCell _ _ _ _ (by
        intro e1
        have e1 : g' = g := e1
        subst e1
        rw [hh] at hb1
        injection hb1 with hb1
        injection hb1 with _ hb1 _
        exact h.ne hb1.symm)]
      exact hh
  refine ⟨?_, h.base, h.ne, by simp [h.len], by simp [h.lenN], ?_, ?_⟩
  · have e1 : (w'.setCell ⟨g, j, none⟩ v').heap[g]? = some (.cells (vs.toArray.setIfInBounds j v') t (0, 0)) := by
      simp [World.setCell, Array.getElem?_modify, hb1]
    rw [e1]
    simp
  · intro i u ys m hu hy hm
    apply set_
    by_cases hij : j = i
    · subst hij
      have hx : j < xss.length := by rw [← h.len]; exact hj
      have hn : j < ns.length := by rw [h.lenN]; exact hx
      rw [List.getElem?_set_self hj] at hu
      rw [List.getElem?_set_self hx] at hy
      rw [List.getElem?_set_self hn] at hm
      injection hu with hu; injection hy with hy; injection hm with hm
      subst hu; subst hy; subst hm
      exact hown
    · rw [List.getElem?_set_ne hij] at hu hy hm
      exact old i u ys m (fun e => hij e.symm) hu hy hm
  · intro a b u1 u2 hab h1 h2
    have lt_ : ∀ (i : Nat) (u : Value) (k : Nat), vs[i]? = some u → u.ownBlock = some k → k < w.heap.size := by
      intro i u k hu hk
      have hi : i < vs.length := by
        rcases Nat.lt_or_ge i vs.length with h | h
        · exact h
        · rw [List.getElem?_eq_none h] at hu; cases hu
      have ho := h.own i u _ _ hu (List.getElem?_eq_getElem (by rw [← h.len]; exact hi)) (List.getElem?_eq_getElem (by rw [h.lenN, ← h.len]; exact hi))
      exact (ho.lt k hk).2
    by_cases ha : j = a
    · subst ha
      rw [List.getElem?_set_self hj] at h1
      rw [List.getElem?_set_ne hab] at h2
      injection h1 with h1; subst h1
      rcases hat with e1 | e1 | ⟨k, e1, hk⟩
      · rw [e1]; exact h.apart j b v u2 hab hv h2
      · exact .inl e1
      · right
        rw [e1]
        intro e2
        have := lt_ b u2 k h2 e2.symm
        omega
    · rw [List.getElem?_set_ne ha] at h1
      by_cases hb : j = b
      · subst hb
        rw [List.getElem?_set_self hj] at h2
        injection h2 with h2; subst h2
        rcases hat with e1 | e1 | ⟨k, e1, hk⟩
        · rw [e1]; exact h.apart a j u1 v hab h1 hv
        · rw [e1]
          cases hu : u1.ownBlock with
          | none => exact .inl rfl
          | some k => exact .inr (by simp)
        · rw [e1]
          cases hu : u1.ownBlock with
          | none => exact .inl rfl
          | some k' =>
            right
            intro e2
            injection e2 with e2
            have := lt_ a u1 k' h1 hu
            omega
      · rw [List.getElem?_set_ne hb] at h2
        exact h.apart a b u1 u2 hab h1 h2
/-- The block's own cell behind an append onto row j. -/
theorem Nest.after {w w' : World} {B g : Nat} {t e : TypeId} {size : Nat} {vs : List Value} {xss : List (List Value)} {ns : List Nat} (h : Nest w B g t e size vs xss ns) {j : Nat} {v : Value} (hv : vs[j]? = some v) (hg : w.grownBy w' v.ownBlock) (i : Nat) :
    w'.cell? ⟨g, i, none⟩ = vs[i]? ∧ w'.frozen? ⟨g, i, none⟩ = false := by
  have hb1 := hg.block g h.lt (fun e => h.row_ne hv e.symm)
  exact ⟨(World.cell?_of_block (a := ⟨g, i, none⟩) hb1).trans (h.cell i), (World.frozen?_of_block (a := ⟨g, i, none⟩) hb1).trans (h.frozen i)⟩
/-- At the start: all nil. -/
theorem Nest.made (w : World) (B : Nat) (t e : TypeId) (size p : Nat) (hB : B ≤ w.heap.size) (hne : t ≠ e) :
    Nest (w.alloc (.cells (madeCells #[.slice none 0 0] p) t)) B w.heap.size t e size (List.replicate p (.slice none 0 0)) (List.replicate p []) (List.replicate p 0) := by
  refine ⟨?_, hB, hne, by simp, by simp, ?_, ?_⟩
  · rw [heap_alloc_new w _]
    congr 2
    apply Array.ext'
    rw [toList_madeCells_one]
  · intro j v xs m hv hx hn
    rw [List.getElem?_replicate] at hv hx hn
    split at hv <;> simp_all
    subst hv; subst hx; subst hn
    exact World.ownsRow_nil _ _ _ _
  · intro i j v u _ hv _
    rw [List.getElem?_replicate] at hv
    split at hv <;> simp_all
    subst hv
    exact .inl rfl
/-- At the end: it reads as a list of lists. -/
theorem Nest.sl {α : Type} {E : Elt α} {w : World} {B g : Nat} {t e : TypeId} {vs : List Value} {ls : List (List α)} {cap : Nat} (f : α → List Value) (hf : ∀ x, (f x).length = E.sz) (hpos : 0 < E.sz) (hR : ∀ l ∈ ls, ∀ x ∈ l, ∀ F w, E.R F w (f x) x)
    (h : Nest w B g t e E.sz vs (ls.map fun l => l.flatMap f) (ls.map (·.length))) (hcap : ls.length ≤ cap) (hm : cap ≤ maxLen) : SlA (slE E) (· < w.heap.size) w (some ⟨g, 0, none⟩) cap ls := by
  refine ⟨hcap, hm, fun i l hl => ?_⟩
  have hi : i < ls.length := by
    rcases Nat.lt_or_ge i ls.length with h | h
    · exact h
    · rw [List.getElem?_eq_none h] at hl; cases hl
  have hlen : vs.length = ls.length := by rw [h.len, List.length_map]
  obtain ⟨v, hv⟩ : ∃ v, vs[i]? = some v := ⟨vs[i], List.getElem?_eq_getElem (by omega)⟩
  have ho := h.own i v _ _ hv (by rw [List.getElem?_map, hl]; rfl) (by rw [List.getElem?_map, hl]; rfl)
  obtain ⟨A, c, rfl, _, hs⟩ := own_sl f hf hpos ho (fun x hx => hR l (List.mem_of_getElem? hl) x hx _ _)
  refine ⟨g, 0, [_], rfl, h.lt, fun j u hj => ?_, _, rfl, A, c, rfl, hs⟩
  match j, hj with
  | 0, hj =>
    simp at hj; subst hj
    have := h.cell i
    rw [hv] at this
    simpa [slE] using this

/-- 's[:k]', whatever the address. -/
theorem run_head (P : Program) (t e : TypeId) (A : Option Addr) (n c k : Nat) (ht : P.underlying t = some (.slice e)) (hi : ∃ i, P.info? e = some i) (hk : k ≤ c) (w : World) :
    (Instr.slice t (.slice A n c) none (some (.int .i64 (k : Int))) none).run P w = .ok (.slice A k c) w := by
  obtain ⟨i, hi⟩ := hi
  have e1 : (0 : Int) ≤ (k : Int) ∧ (k : Int) ≤ (c : Int) := by omega
  simp [Instr.slice, Instr.sliceBounds, Instr.sliceBound, run_underlying ht, asIntOf, sizeOf, typeInfo, hi, hk]
  cases A <;> simp [Addr.add]

/-! ### Literals -/
theorem block_lt {w : World} {g : Nat} {o : Obj} (h : w.heap[g]? = some o) : g < w.heap.size := by
  rcases Nat.lt_or_ge g w.heap.size with hlt | hge
  · exact hlt
  · rw [Array.getElem?_eq_none hge] at h; cases h
theorem lit_sl {α : Type} {E : Elt α} {w : World} {g : Nat} {cs : Array Value} {t : TypeId} {fr : Nat × Nat} {l : List α} {c : Nat} (f : α → List Value) (hf : ∀ x, (f x).length = E.sz) (hg : w.heap[g]? = some (.cells cs t fr)) (hcs : cs.toList = l.flatMap f)
    (hR : ∀ x ∈ l, E.R (· < w.heap.size) w (f x) x) (hc : l.length ≤ c) (hm : c ≤ maxLen) : SlA E (· < w.heap.size) w (some ⟨g, 0, none⟩) c l := by
  refine ⟨hc, hm, fun i x hx => ⟨g, 0, f x, rfl, block_lt hg, ?_, hR x (List.mem_of_getElem? hx)⟩⟩
  intro j u hj
  have hjl : j < E.sz := by
    rcases Nat.lt_or_ge j (f x).length with h | h
    · rw [hf] at h; exact h
    · rw [List.getElem?_eq_none h] at hj; cases hj
  have h1 := cell_of_row w g (0 + (i * E.sz + j)) cs t fr hg
  rw [h1, Nat.zero_add, ← Array.getElem?_toList, hcs, flat_get f E.sz hf l hx hjl]
  exact hj
theorem lit_one {α : Type} {E : Elt α} {w : World} {g : Nat} {cs : Array Value} {t : TypeId} {fr : Nat × Nat} {x : α} {c : Nat} (hg : w.heap[g]? = some (.cells cs t fr)) 
    (hR : E.R (· < w.heap.size) w cs.toList x) (hc : 1 ≤ c) (hm : c ≤ maxLen) : SlA E (· < w.heap.size) w (some ⟨g, 0, none⟩) c [x] := by
  refine ⟨hc, hm, fun i y hy => ?_⟩
  match i, hy with
  | 0, hy =>
    simp at hy; subst hy
    refine ⟨g, 0, cs.toList, rfl, block_lt hg, fun j u hj => ?_, hR⟩
    have h1 := cell_of_row w g (0 + (0 * E.sz + j)) cs t fr hg
    rw [h1, Nat.zero_mul, Nat.zero_add, Nat.zero_add, ← Array.getElem?_toList]
    exact hj
end Go.Proofs.YtfndhfekbbbliaaGreatDoor

/-
  The document's records, as plain data and as they lie in memory, over this seat's table of types. No condition: definitions and lemmas.
-/
namespace Go.Proofs.YtfndhfekbbbliaaGreatDoor
open Go.RowKit Go.ChangeShapes Go.WideShapes

structure Rec where
  key : ByteArray
  num : Int
  time : Int
structure Lin where
  key : ByteArray
  nums : List Int

def I64 (n : Int) : Prop := (Lit.int .i64 n).wf = true

def recE : Elt Rec where
  sz := 3
  bulk := fun r => r.key.size + 4
  R := fun _ _ cs r => cs = [.string r.key, .int .i64 r.num, .int .i64 r.time] ∧ r.key.size ≤ maxLen ∧ I64 r.num ∧ I64 r.time
  len := fun _ _ _ _ h => by rw [h.1]; rfl
  keep := fun _ _ _ _ _ h _ => h
  more := fun _ _ _ _ _ h _ => h
def linE : Elt Lin where
  sz := 2
  bulk := fun r => r.key.size + sumBulk (fun _ => 1) r.nums + 3
  R := fun F w cs r => ∃ v, cs = [.string r.key, v] ∧ r.key.size ≤ maxLen ∧ Sl (intE .i64) F w v r.nums
  len := fun _ _ _ _ h => by obtain ⟨v, rfl, _⟩ := h; rfl
  keep := fun _ _ _ _ _ h hs => by obtain ⟨v, rfl, h1, h⟩ := h; exact ⟨v, rfl, h1, h.keep hs⟩
  more := fun _ _ _ _ _ h hF => by obtain ⟨v, rfl, h1, h⟩ := h; exact ⟨v, rfl, h1, h.more hF⟩

theorem SlA.rec_ {F : Nat → Prop} {w : World} {A : Option Addr} {c : Nat} {l : List Rec} (h : SlA recE F w A c l) {k : Nat} (hk : k < l.length) :
    ∃ b off, A = some ⟨b, off, none⟩ ∧ F b ∧ w.cell? ⟨b, off + k * 3, none⟩ = some (.string l[k].key) ∧ w.cell? ⟨b, off + k * 3 + 1, none⟩ = some (.int .i64 l[k].num) ∧ w.cell? ⟨b, off + k * 3 + 2, none⟩ = some (.int .i64 l[k].time) ∧
      l[k].key.size ≤ maxLen ∧ I64 l[k].num ∧ I64 l[k].time := by
  obtain ⟨b, off, cs, rfl, hb, hc, he, h1, h2, h3⟩ := h.at_ hk
  have c0 := hc 0 _ (by rw [he]; rfl)
  have c1 := hc 1 _ (by rw [he]; rfl)
  have c2 := hc 2 _ (by rw [he]; rfl)
  simp only [recE, Nat.add_zero] at c0 c1 c2
  exact ⟨b, off, rfl, hb, c0, by rw [Nat.add_assoc]; exact c1, by rw [Nat.add_assoc]; exact c2, h1, h2, h3⟩
theorem SlA.lin_ {F : Nat → Prop} {w : World} {A : Option Addr} {c : Nat} {l : List Lin} (h : SlA linE F w A c l) {k : Nat} (hk : k < l.length) :
    ∃ b off A' c', A = some ⟨b, off, none⟩ ∧ F b ∧ w.cell? ⟨b, off + k * 2, none⟩ = some (.string l[k].key) ∧ w.cell? ⟨b, off + k * 2 + 1, none⟩ = some (.slice A' l[k].nums.length c') ∧
      l[k].key.size ≤ maxLen ∧ SlA (intE .i64) F w A' c' l[k].nums := by
  obtain ⟨b, off, cs, rfl, hb, hc, v, he, h1, A', c', rfl, h2⟩ := h.at_ hk
  have c0 := hc 0 _ (by rw [he]; rfl)
  have c1 := hc 1 _ (by rw [he]; rfl)
  simp only [linE, Nat.add_zero] at c0 c1
  exact ⟨b, off, A', c', rfl, hb, c0, by rw [Nat.add_assoc]; exact c1, h1, h2⟩

structure Hld where
  node : Int
  key : ByteArray
  a : Int
  b : Int
structure Ent where
  key : ByteArray
  value : ByteArray
  dead : Bool
def hldE : Elt Hld where
  sz := 4
  bulk := fun r => r.key.size + 5
  R := fun _ _ cs r => cs = [.int .i64 r.node, .string r.key, .int .i64 r.a, .int .i64 r.b] ∧ r.key.size ≤ maxLen ∧ I64 r.node ∧ I64 r.a ∧ I64 r.b
  len := fun _ _ _ _ h => by rw [h.1]; rfl
  keep := fun _ _ _ _ _ h _ => h
  more := fun _ _ _ _ _ h _ => h
def entE : Elt Ent where
  sz := 3
  bulk := fun r => r.key.size + r.value.size + 4
  R := fun _ _ cs r => cs = [.string r.key, .string r.value, .bool r.dead] ∧ r.key.size ≤ maxLen ∧ r.value.size ≤ maxLen
  len := fun _ _ _ _ h => by rw [h.1]; rfl
  keep := fun _ _ _ _ _ h _ => h
  more := fun _ _ _ _ _ h _ => h
theorem SlA.hld_ {F : Nat → Prop} {w : World} {A : Option Addr} {c : Nat} {l : List Hld} (h : SlA hldE F w A c l) {k : Nat} (hk : k < l.length) :
    ∃ b off, A = some ⟨b, off, none⟩ ∧ F b ∧ w.cell? ⟨b, off + k * 4, none⟩ = some (.int .i64 l[k].node) ∧ w.cell? ⟨b, off + k * 4 + 1, none⟩ = some (.string l[k].key) ∧ w.cell? ⟨b, off + k * 4 + 2, none⟩ = some (.int .i64 l[k].a) ∧ w.cell? ⟨b, off + k * 4 + 3, none⟩ = some (.int .i64 l[k].b) ∧
      l[k].key.size ≤ maxLen ∧ I64 l[k].node ∧ I64 l[k].a ∧ I64 l[k].b := by
  obtain ⟨b, off, cs, rfl, hb, hc, he, h1, h2, h3, h4⟩ := h.at_ hk
  have c0 := hc 0 _ (by rw [he]; rfl)
  have c1 := hc 1 _ (by rw [he]; rfl)
  have c2 := hc 2 _ (by rw [he]; rfl)
  have c3 := hc 3 _ (by rw [he]; rfl)
  simp only [hldE, Nat.add_zero] at c0 c1 c2 c3
  exact ⟨b, off, rfl, hb, c0, by rw [Nat.add_assoc]; exact c1, by rw [Nat.add_assoc]; exact c2, by rw [Nat.add_assoc]; exact c3, h1, h2, h3, h4⟩
theorem SlA.ent_ {F : Nat → Prop} {w : World} {A : Option Addr} {c : Nat} {l : List Ent} (h : SlA entE F w A c l) {k : Nat} (hk : k < l.length) :
    ∃ b off, A = some ⟨b, off, none⟩ ∧ F b ∧ w.cell? ⟨b, off + k * 3, none⟩ = some (.string l[k].key) ∧ w.cell? ⟨b, off + k * 3 + 1, none⟩ = some (.string l[k].value) ∧ w.cell? ⟨b, off + k * 3 + 2, none⟩ = some (.bool l[k].dead) ∧
      l[k].key.size ≤ maxLen ∧ l[k].value.size ≤ maxLen := by
  obtain ⟨b, off, cs, rfl, hb, hc, he, h1, h2⟩ := h.at_ hk
  have c0 := hc 0 _ (by rw [he]; rfl)
  have c1 := hc 1 _ (by rw [he]; rfl)
  have c2 := hc 2 _ (by rw [he]; rfl)
  simp only [entE, Nat.add_zero] at c0 c1 c2
  exact ⟨b, off, rfl, hb, c0, by rw [Nat.add_assoc]; exact c1, by rw [Nat.add_assoc]; exact c2, h1, h2⟩

/-! ### The types of this seat -/
theorem ofInts : OfT Tryz.prog 38 (slE (intE .i64)) := ofSl Tryz.underlying38 (by kernel_rfl) (ofInt Tryz.underlying3 (by kernel_rfl))
theorem ofIntss : OfT Tryz.prog 59 (slE (slE (intE .i64))) := ofSl Tryz.underlying59 (by kernel_rfl) ofInts
theorem ofBytes : OfT Tryz.prog 94 (slE bytE) := ofSl Tryz.underlying94 (by kernel_rfl) (ofByte Tryz.underlying5 (by kernel_rfl))
theorem ofStrs : OfT Tryz.prog 109 (slE strE) := ofSl Tryz.underlying109 (by kernel_rfl) (ofStr Tryz.underlying9 (by kernel_rfl))
theorem ofRec : OfT Tryz.prog 44 recE := ⟨by kernel_rfl, by decide, fun enc w fuel cs x h => by
  obtain ⟨y0, y1, y2, n, rfl, hl, h0, h1, h2⟩ := Go.Deep.trod_struct3 Tryz.underlying44 h
  have e1 : Tryz.prog.cellsOf 44 = 3 := by kernel_rfl
  have e2 : Tryz.prog.cellsOf 9 = 1 := by kernel_rfl
  have e3 : Tryz.prog.cellsOf 3 = 1 := by kernel_rfl
  rw [e1] at hl
  rw [e2] at h0; rw [e3] at h1 h2
  obtain ⟨k, g0, rfl, hk⟩ := DataW.trod_string Tryz.underlying9 h0
  obtain ⟨a, g1, rfl, ha⟩ := DataW.trod_int Tryz.underlying3 h1
  obtain ⟨b, g2, rfl, hb⟩ := DataW.trod_int Tryz.underlying3 h2
  match cs, hl with
  | [c0, c1, c2], _ =>
    simp at g0 g1 g2
    subst g0; subst g1; subst g2
    exact ⟨⟨k, a, b⟩, ⟨rfl, hk, ha, hb⟩, by simp [recE, Rows.uptoBulk, Rows.uptoBulkAll]⟩⟩
theorem ofRecs : OfT Tryz.prog 47 (slE recE) := ofSl Tryz.underlying47 (by kernel_rfl) ofRec
theorem ofRecss : OfT Tryz.prog 71 (slE (slE recE)) := ofSl Tryz.underlying71 (by kernel_rfl) ofRecs
theorem ofLin : OfT Tryz.prog 178 linE := ⟨by kernel_rfl, by decide, fun enc w fuel cs x h => by
  obtain ⟨y0, y1, n, rfl, hl, h0, h1⟩ := trod_struct2 Tryz.underlying178 h
  have e1 : Tryz.prog.cellsOf 178 = 2 := by kernel_rfl
  have e2 : Tryz.prog.cellsOf 9 = 1 := by kernel_rfl
  have e3 : Tryz.prog.cellsOf 38 = 1 := by kernel_rfl
  rw [e1] at hl
  rw [e2] at h0; rw [e3] at h1
  obtain ⟨k, g0, rfl, hk⟩ := DataW.trod_string Tryz.underlying9 h0
  obtain ⟨a, ⟨v, g1, hv⟩, hbk⟩ := ofInts.of enc w n _ _ h1
  match cs, hl with
  | [c0, c1], _ =>
    simp at g0 g1
    subst g0; subst g1
    refine ⟨⟨k, a⟩, ⟨_, rfl, hk, hv⟩, ?_⟩
    have hbk' : sumBulk (fun _ => 1) a + 1 ≤ Rows.uptoBulk y1.1 := hbk
    simp [linE, Rows.uptoBulk, Rows.uptoBulkAll]; have : k.data.size = k.size := rfl; omega⟩
theorem ofLins : OfT Tryz.prog 130 (slE linE) := ofSl Tryz.underlying130 (by kernel_rfl) ofLin
theorem ofHld : OfT Tryz.prog 42 hldE := ⟨by kernel_rfl, by decide, fun enc w fuel cs x h => by
  obtain ⟨y0, y1, y2, y3, n, rfl, hl, h0, h1, h2, h3⟩ := Go.Joins.trod_struct4 Tryz.underlying42 h
  have e1 : Tryz.prog.cellsOf 42 = 4 := by kernel_rfl
  have e2 : Tryz.prog.cellsOf 9 = 1 := by kernel_rfl
  have e3 : Tryz.prog.cellsOf 3 = 1 := by kernel_rfl
  rw [e1] at hl
  rw [e2] at h1; rw [e3] at h0 h2 h3
  obtain ⟨a, g0, rfl, ha⟩ := DataW.trod_int Tryz.underlying3 h0
  obtain ⟨k, g1, rfl, hk⟩ := DataW.trod_string Tryz.underlying9 h1
  obtain ⟨b, g2, rfl, hb⟩ := DataW.trod_int Tryz.underlying3 h2
  obtain ⟨c, g3, rfl, hc⟩ := DataW.trod_int Tryz.underlying3 h3
  match cs, hl with
  | [c0, c1, c2, c3], _ =>
    simp at g0 g1 g2 g3
    subst g0; subst g1; subst g2; subst g3
    exact ⟨⟨a, k, b, c⟩, ⟨rfl, hk, ha, hb, hc⟩, by simp [hldE, Rows.uptoBulk, Rows.uptoBulkAll]; have : k.data.size = k.size := rfl; omega⟩⟩
theorem ofHlds : OfT Tryz.prog 176 (slE hldE) := ofSl Tryz.underlying176 (by kernel_rfl) ofHld
end Go.Proofs.YtfndhfekbbbliaaGreatDoor

/-
  A node of a job, as plain data and as it lies in memory, over this seat's table of types. No condition: definitions and lemmas.
-/
namespace Go.Proofs.YtfndhfekbbbliaaGreatDoor
open Go.RowKit Go.ChangeShapes Go.WideShapes
set_option linter.unusedVariables false

structure Nod where
  kind : Int
  from_ : List Int
  text : ByteArray
  n : Int
def nodE : Elt Nod where
  sz := 4
  bulk := fun r => r.text.size + sumBulk (fun _ => 1) r.from_ + 5
  R := fun F w cs r => ∃ v, cs = [.int .i64 r.kind, v, .string r.text, .int .i64 r.n] ∧ I64 r.kind ∧ r.text.size ≤ maxLen ∧ I64 r.n ∧ Sl (intE .i64) F w v r.from_
  len := fun _ _ _ _ h => by obtain ⟨v, rfl, _⟩ := h; rfl
  keep := fun _ _ _ _ _ h hs => by obtain ⟨v, rfl, h1, h2, h3, h⟩ := h; exact ⟨v, rfl, h1, h2, h3, h.keep hs⟩
  more := fun _ _ _ _ _ h hF => by obtain ⟨v, rfl, h1, h2, h3, h⟩ := h; exact ⟨v, rfl, h1, h2, h3, h.more hF⟩
theorem SlA.nod_ {F : Nat → Prop} {w : World} {A : Option Addr} {c : Nat} {l : List Nod} (h : SlA nodE F w A c l) {k : Nat} (hk : k < l.length) :
    ∃ b off A' c', A = some ⟨b, off, none⟩ ∧ F b ∧ w.cell? ⟨b, off + k * 4, none⟩ = some (.int .i64 l[k].kind) ∧ w.cell? ⟨b, off + k * 4 + 1, none⟩ = some (.slice A' l[k].from_.length c') ∧ w.cell? ⟨b, off + k * 4 + 2, none⟩ = some (.string l[k].text) ∧ w.cell? ⟨b, off + k * 4 + 3, none⟩ = some (.int .i64 l[k].n) ∧
      l[k].text.size ≤ maxLen ∧ I64 l[k].kind ∧ I64 l[k].n ∧ SlA (intE .i64) F w A' c' l[k].from_ := by
  obtain ⟨b, off, cs, rfl, hb, hc, v, he, h1, h2, h3, A', c', rfl, h4⟩ := h.at_ hk
  have c0 := hc 0 _ (by rw [he]; rfl)
  have c1 := hc 1 _ (by rw [he]; rfl)
  have c2 := hc 2 _ (by rw [he]; rfl)
  have c3 := hc 3 _ (by rw [he]; rfl)
  simp only [nodE, Nat.add_zero] at c0 c1 c2 c3
  exact ⟨b, off, A', c', rfl, hb, c0, by rw [Nat.add_assoc]; exact c1, by rw [Nat.add_assoc]; exact c2, by rw [Nat.add_assoc]; exact c3, h2, h1, h3, h4⟩
theorem ofNod : OfT Tryz.prog 40 nodE := ⟨by kernel_rfl, by decide, fun enc w fuel cs x h => by
  obtain ⟨y0, y1, y2, y3, n, rfl, hl, h0, h1, h2, h3⟩ := Go.Joins.trod_struct4 Tryz.underlying40 h
  have e1 : Tryz.prog.cellsOf 40 = 4 := by kernel_rfl
  have e2 : Tryz.prog.cellsOf 9 = 1 := by kernel_rfl
  have e3 : Tryz.prog.cellsOf 3 = 1 := by kernel_rfl
  have e4 : Tryz.prog.cellsOf 38 = 1 := by kernel_rfl
  rw [e1] at hl
  rw [e3] at h0 h3; rw [e4] at h1; rw [e2] at h2
  obtain ⟨a, g0, rfl, ha⟩ := DataW.trod_int Tryz.underlying3 h0
  obtain ⟨l, ⟨v, g1, hv⟩, hbk⟩ := ofInts.of enc w n _ _ h1
  obtain ⟨k, g2, rfl, hk⟩ := DataW.trod_string Tryz.underlying9 h2
  obtain ⟨c, g3, rfl, hc⟩ := DataW.trod_int Tryz.underlying3 h3
  match cs, hl with
  | [c0, c1, c2, c3], _ =>
    simp at g0 g1 g2 g3
    subst g0; subst g1; subst g2; subst g3
    refine ⟨⟨a, l, k, c⟩, ⟨_, rfl, ha, hk, hc, hv⟩, ?_⟩
    have hbk' : sumBulk (fun _ => 1) l + 1 ≤ Rows.uptoBulk y1.1 := hbk
    simp [nodE, Rows.uptoBulk, Rows.uptoBulkAll]; have : k.data.size = k.size := rfl; omega⟩
theorem ofNods : OfT Tryz.prog 45 (slE nodE) := ofSl Tryz.underlying45 (by kernel_rfl) ofNod
end Go.Proofs.YtfndhfekbbbliaaGreatDoor

/-
  A struct that came in as an argument, as plain data. No condition: a lemma.
-/
namespace Go.Proofs.YtfndhfekbbbliaaGreatDoor
open Go.RowKit Go.ChangeShapes Go.WideShapes
set_option linter.unusedVariables false

theorem aggOfTrod {α : Type} {P : Program} {t : TypeId} {E : Elt α} (h : OfT P t E) {H : Type} {enc : TypeId × Value → H} {w : World} {cs : Array Value} {d : DataW H} {ps : List MemPlace}
    (hd : DataW.Trod enc P w 0 (fun _ => true) true t (.agg cs) d ps) : ∃ l : α, E.R (· < w.heap.size) w cs.toList l ∧ E.bulk l ≤ Rows.uptoBulk d := by
  obtain ⟨fuel, hf⟩ := hd
  exact h.of enc w fuel _ _ hf
theorem okWide_agg_form {P : Program} {w : World} {r : Reach} {base : Nat} {t : TypeId} {v : Value} {fs : Array Field} (ht : P.underlying t = some (.struct fs)) (h : Value.okWide P w r base t v) : ∃ cs, v = .agg cs := by
  unfold Value.okWide at h
  rw [ht] at h
  obtain ⟨cs, rfl, _⟩ := h
  exact ⟨cs, rfl⟩
end Go.Proofs.YtfndhfekbbbliaaGreatDoor

/-
  Words of my own for memory that a call's own objects own: which blocks may have turned ('Frm'); a slice whose backing row is owned, wherever it begins ('OwnS'), and append onto it. No condition: plain definitions and lemmas over any program.
-/
namespace Go.Proofs.YtfndhfekbbbliaaGreatDoor
open Go.RowKit Go.ChangeShapes Go.WideShapes
set_option linter.unusedVariables false

/-- From w to w' only blocks in F, and new ones, have turned. -/
structure Frm (F : Nat → Prop) (w w' : World) : Prop where
  os : w'.os = w.os
  tape : w'.tape = w.tape
  output : w'.output = w.output
  size : w.heap.size ≤ w'.heap.size
  block : ∀ k, k < w.heap.size → ¬ F k → w'.heap[k]? = w.heap[k]?
theorem Frm.refl (F : Nat → Prop) (w : World) : Frm F w w := ⟨rfl, rfl, rfl, Nat.le_refl _, fun _ _ _ => rfl⟩
theorem Frm.trans {F F' G : Nat → Prop} {a b c : World} (h : Frm F a b) (h' : Frm F' b c) (h1 : ∀ k, F k → G k) (h2 : ∀ k, F' k → G k ∨ a.heap.size ≤ k) : Frm G a c :=
  ⟨h'.os.trans h.os, h'.tape.trans h.tape, h'.output.trans h.output, Nat.le_trans h.size h'.size, fun k hk hn => (h'.block k (Nat.lt_of_lt_of_le hk h.size) (fun hf => by rcases h2 k hf with h3 | h3; exact hn h3; omega)).trans (h.block k hk (fun hf => hn (h1 k hf)))⟩
theorem Frm.less {F G : Nat → Prop} {a b : World} (h : Frm F a b) (h1 : ∀ k, F k → G k ∨ a.heap.size ≤ k) : Frm G a b :=
  ⟨h.os, h.tape, h.output, h.size, fun k hk hn => h.block k hk (fun hf => by rcases h1 k hf with h3 | h3; exact hn h3; omega)⟩
theorem Frm.ofBelow {F : Nat → Prop} {w w' : World} (h : Below w.heap.size w w') : Frm F w w' := ⟨h.os, h.tape, h.output, h.size, fun k hk _ => h.block k hk⟩
theorem Frm.below {F : Nat → Prop} {w w' : World} {B : Nat} (h : Frm F w w') (hB : B ≤ w.heap.size) (hF : ∀ k, F k → B ≤ k) : Below B w w' := ⟨h.os, h.tape, h.output, h.size, fun k hk => h.block k (by omega) (fun hf => by have := hF k hf; omega)⟩
theorem Frm.same {F G : Nat → Prop} {w w' : World} (h : Frm F w w') (hlt : ∀ k, G k → k < w.heap.size) (hd : ∀ k, G k → ¬ F k) : Same G w w' := fun k hk => h.block k (hlt k hk) (hd k hk)
theorem Frm.ofGrown {F : Nat → Prop} {w w' : World} {row : Option Nat} (h : w.grownBy w' row) (hr : ∀ k, row = some k → F k) : Frm F w w' := ⟨h.os, h.tape, h.output, h.size, fun k hk hn => h.block k hk (fun e => hn (hr k e.symm))⟩
theorem Frm.setCell {F : Nat → Prop} {a w : World} (h : Frm F a w) {p : Addr} (hp : F p.block ∨ a.heap.size ≤ p.block) (u : Value) : Frm F a (w.setCell p u) :=
  ⟨h.os, h.tape, h.output, by show _ ≤ (w.setCell p u).heap.size; simp [World.setCell]; exact h.size, fun k hk hn => (Below.heap_setCell w p u k (fun e => by subst e; rcases hp with h3 | h3; exact hn h3; omega)).trans (h.block k hk hn)⟩
theorem Frm.alloc {F : Nat → Prop} {a w : World} (h : Frm F a w) (o : Obj) : Frm F a (w.alloc o) :=
  ⟨h.os, h.tape, h.output, by have := h.size; simp; omega, fun k hk hn => (Below.heap_alloc w o k (Nat.lt_of_lt_of_le hk h.size)).trans (h.block k hk hn)⟩
theorem Frm.drew {F : Nat → Prop} {a w : World} (h : Frm F a w) : Frm F a w.drew := ⟨h.os, h.tape, h.output, h.size, h.block⟩
theorem Frm.drewN {F : Nat → Prop} {a w : World} (h : Frm F a w) (q : Nat) : Frm F a (w.drewN q) := ⟨h.os, h.tape, h.output, h.size, h.block⟩

/-- The block that a slice lies in. -/
def blk (A : Option Addr) : Option Nat := A.map (·.block)

/-- The slice value '.slice A n cap' holds the cells xs, and its backing row is a whole block of elements e that may be written. -/
def OwnS (w : World) (e : TypeId) (size : Nat) (A : Option Addr) (cap n : Nat) (xs : List Value) : Prop :=
  xs.length = n * size ∧ n ≤ cap ∧ cap ≤ maxLen ∧
  ((A = none ∧ cap = 0) ∨ ∃ g off cur, A = some ⟨g, off, none⟩ ∧ w.heap[g]? = some (.cells cur e (0, 0)) ∧ off + cap * size ≤ cur.size ∧ ∀ j u, xs[j]? = some u → cur[off + j]? = some u)

theorem OwnS.nil (w : World) (e : TypeId) (size : Nat) : OwnS w e size none 0 0 [] := ⟨by simp, Nat.le_refl _, Nat.zero_le _, .inl ⟨rfl, rfl⟩⟩
theorem OwnS.lt {w : World} {e : TypeId} {size cap n : Nat} {A : Option Addr} {xs : List Value} (h : OwnS w e size A cap n xs) : ∀ k, blk A = some k → k < w.heap.size := by
  intro k hk
  rcases h.2.2.2 with ⟨rfl, _⟩ | ⟨g, off, cur, rfl, hh, _⟩
  · cases hk
  · injection hk with hk; subst hk; exact block_lt hh
theorem OwnS.keep {w w' : World} {e : TypeId} {size cap n : Nat} {A : Option Addr} {xs : List Value} (h : OwnS w e size A cap n xs) (hk : ∀ k, blk A = some k → w'.heap[k]? = w.heap[k]?) : OwnS w' e size A cap n xs := by
  obtain ⟨h1, h2, h3, h4⟩ := h
  refine ⟨h1, h2, h3, ?_⟩
  rcases h4 with h4 | ⟨g, off, cur, rfl, hh, r⟩
  · exact .inl h4
  · exact .inr ⟨g, off, cur, rfl, (hk g rfl).trans hh, r⟩
theorem OwnS.grown {w w' : World} {e : TypeId} {size cap n : Nat} {A : Option Addr} {xs : List Value} (h : OwnS w e size A cap n xs) {row : Option Nat} (hg : w.grownBy w' row) (hne : ∀ k, blk A = some k → row ≠ some k) : OwnS w' e size A cap n xs :=
  h.keep fun k hk => hg.block k (h.lt k hk) (fun e => hne k hk e.symm)
/-- The elements read. -/
theorem OwnS.sl {α : Type} {E : Elt α} {w : World} {e : TypeId} {A : Option Addr} {cap n : Nat} {l : List α} (f : α → List Value) (hf : ∀ x, (f x).length = E.sz) (h : OwnS w e E.sz A cap n (l.flatMap f)) (hn : n = l.length)
    {F : Nat → Prop} (hF : ∀ k, blk A = some k → F k) (hR : ∀ x ∈ l, E.R F w (f x) x) : SlA E F w A cap l := by
  obtain ⟨h1, h2, h3, h4⟩ := h
  refine ⟨by omega, h3, fun i x hx => ?_⟩
  have hi : i < l.length := by
    rcases Nat.lt_or_ge i l.length with h | h
    · exact h
    · rw [List.getElem?_eq_none h] at hx; cases hx
  rcases h4 with ⟨rfl, h0⟩ | ⟨g, off, cur, rfl, hh, hc, hr⟩
  · omega
  · refine ⟨g, off, f x, rfl, hF g rfl, fun j u hj => ?_, hR x (List.mem_of_getElem? hx)⟩
    have hjl : j < E.sz := by
      rcases Nat.lt_or_ge j (f x).length with h | h
      · rw [hf] at h; exact h
      · rw [List.getElem?_eq_none h] at hj; cases hj
    have h5 := cell_of_row w g (off + (i * E.sz + j)) cur e (0, 0) hh
    rw [h5]
    exact hr _ u (by rw [flat_get f E.sz hf l hx hjl]; exact hj)
theorem OwnS.of_row {w : World} {base : Nat} {e : TypeId} {size n : Nat} {v : Value} {xs : List Value} (h : w.ownsRow base e size v n xs) : ∃ A cap, v = .slice A n cap ∧ OwnS w e size A cap n xs ∧ ∀ k, blk A = some k → base ≤ k := by
  obtain ⟨h1, h2⟩ := h
  rcases h2 with ⟨rfl, rfl⟩ | ⟨g, cap, cur, rfl, hb, hh, hnc, hcm, hcs, ht⟩
  · exact ⟨none, 0, rfl, ⟨h1, Nat.le_refl _, Nat.zero_le _, .inl ⟨rfl, rfl⟩⟩, fun k hk => by cases hk⟩
  · refine ⟨_, cap, rfl, ⟨h1, hnc, hcm, .inr ⟨g, 0, cur, rfl, hh, by omega, fun j u hj => ?_⟩⟩, fun k hk => by simp [blk] at hk; omega⟩
    rw [← ht] at hj
    rw [List.getElem?_take] at hj
    split at hj
    · rw [Nat.zero_add]; simpa using hj
    · cases hj

/-- append, of whatever. -/
theorem run_append_S {P : Program} (w : World) (t tx ty e : TypeId) (z : Value) (size bytes : Nat) (ht : P.underlying t = some (.slice e))
    (hinfo : (P.info? e).map (fun i => (i.zero, i.size, i.bytes)) = some (some z, size, bytes)) (hzs : z.cells.size = size) (hsz : 0 < size)
    (A : Option Addr) (cap n : Nat) (xs : List Value) (hown : OwnS w e size A cap n xs) (x : Value) (m : Nat) (news : List Value) (hs : Src P size tx x m news w)
    (h63 : n + m ≤ maxLen) (hbytes : (n + m) * bytes ≤ 140737488355328) :
    ∃ A' cap' w', (Builtin.append_ #[t, tx] ty #[.slice A n cap, x]).run P w = .ok (.slice A' (n + m) cap') w' ∧ OwnS w' e size A' cap' (n + m) (xs ++ news) ∧ w.grownBy w' (blk A) ∧ (blk A' = blk A ∨ blk A' = some w.heap.size) := by
  obtain ⟨i, hi, hz, rfl, rfl⟩ := info_parts hinfo
  have hsmall : n + m ≤ 9223372036854775807 := by simp only [maxLen] at h63; omega
  obtain ⟨h1, h2, h3, h4⟩ := hown
  have hlen : (xs ++ news).length = (n + m) * i.size := by rw [List.length_append, h1, hs.newsLen, Nat.add_mul]
  by_cases hroom : n + m ≤ cap
  · rcases h4 with ⟨rfl, h0⟩ | ⟨g, off, cur, rfl, hh, hcs, hr⟩
    · have hn0 : n = 0 := by omega
      have hm0 : m = 0 := by omega
      subst hn0; subst hm0; subst h0
      have hx : xs = [] := List.eq_nil_of_length_eq_zero (by simpa using h1)
      have hnw : news = [] := List.eq_nil_of_length_eq_zero (by simpa using hs.newsLen)
      subst hx; subst hnw
      refine ⟨none, 0, w, ?_, OwnS.nil w e i.size, ⟨rfl, rfl, rfl, Nat.le_refl _, fun _ _ _ => rfl⟩, Or.inl rfl⟩
      have hc := hs.cells
      rcases hs.kind with ⟨e', hk⟩ | hk <;> simp [Builtin.append_, run_underlying ht, run_underlying hk, sizeOf, typeInfo, hi, hs.len, hc]
    · have hfit : off + n * i.size + news.length ≤ cur.size := by
        rw [hs.newsLen]
        have := Nat.mul_le_mul_right i.size hroom
        rw [Nat.add_mul] at this
        omega
      have hst := run_storeCells_at P g (off + n * i.size) e news 0 cur w hh (by simpa using hfit) hs.one
      simp only [Nat.add_zero] at hst
      have hc := hs.cells
      have hrun : (Builtin.append_ #[t, tx] ty #[.slice (some ⟨g, off, none⟩) n cap, x]).run P w =
          .ok (.slice (some ⟨g, off, none⟩) (n + m) cap) (w.setRow g (cur.toList.take (off + n * i.size) ++ news ++ cur.toList.drop (off + n * i.size + news.length)).toArray) := by
        have ha : (⟨g, off, none⟩ : Addr).add (n * i.size) = ⟨g, off + n * i.size, none⟩ := add_plain _ _ _
        rcases hs.kind with ⟨e', hk⟩ | hk <;> simp [Builtin.append_, run_underlying ht, run_underlying hk, sizeOf, typeInfo, hi, hs.len, hc, hroom, ha, hst]
      refine ⟨_, cap, _, hrun, ⟨hlen, hroom, h3, .inr ⟨g, off, _, rfl, setRow_heap w g cur _ e _ hh, ?_, ?_⟩⟩, ⟨rfl, rfl, rfl, by simp, fun k _ hk => setRow_other w g k _ (fun e => hk (by simp [blk, e]))⟩, Or.inl rfl⟩
      · simp only [List.size_toArray, List.length_append, List.length_take, List.length_drop, Array.length_toList]
        omega
      · intro j u hj
        simp only [List.getElem?_toArray]
        have hl1 : (cur.toList.take (off + n * i.size)).length = off + n * i.size := by rw [List.length_take, Array.length_toList]; omega
        by_cases hjx : j < xs.length
        · rw [List.getElem?_append_left hjx] at hj
          rw [List.append_assoc, List.getElem?_append_left (by rw [hl1]; omega), List.getElem?_take, if_pos (by omega)]
          have := hr j u hj
          simpa using this
        · rw [List.getElem?_append_right (by omega)] at hj
          rw [List.append_assoc, List.getElem?_append_right (by rw [hl1]; omega), hl1, show off + j - (off + n * i.size) = j - xs.length by omega]
          have hjl : j - xs.length < news.length := by
            rcases Nat.lt_or_ge (j - xs.length) news.length with h | h
            · exact h
            · rw [List.getElem?_eq_none h] at hj; cases hj
          rw [List.getElem?_append_left hjl]
          exact hj
  · have hge := grownCap_ge w (n + m) cap e
    have hcm : grownCap w (n + m) cap e ≤ maxLen := grownCap_le_maxLen w (n + m) cap e h63
    have hold : (Builtin.firstCells i.size n (.slice A n cap)).run P w.drew = .ok xs.toArray w.drew := by
      rcases h4 with ⟨rfl, h0⟩ | ⟨g, off, cur, rfl, hh, hcs, hr⟩
      · have hn0 : n = 0 := by omega
        subst hn0; subst h0
        have hx : xs = [] := List.eq_nil_of_length_eq_zero (by simpa using h1)
        subst hx
        simp [Builtin.firstCells]
      · refine run_firstCells_some (P := P) w.drew i.size n ⟨g, off, none⟩ n cap xs h1 (fun j u hj => ?_)
        rw [add_plain]
        exact (cell_of_row w g (off + j) cur e (0, 0) hh).trans (hr j u hj)
    have hr := run_append_grow_src (P := P) w t tx ty e i z ht hi hz A n cap xs hold x m news hs (by omega) (by omega) (growslice_fits (by omega) hbytes)
    refine ⟨_, _, _, hr, ⟨hlen, hge, hcm, .inr ⟨w.heap.size, 0, _, rfl, heap_alloc_new w.drew _, ?_, ?_⟩⟩, ⟨rfl, rfl, rfl, by simp, fun k hk _ => Below.heap_alloc w.drew _ k hk⟩, Or.inr rfl⟩
    · rw [Array.size_append, List.size_toArray, size_zeroCells, hzs, hlen, ← Nat.add_mul, Nat.zero_add]
      exact Nat.mul_le_mul_right _ (by omega)
    · intro j u hj
      have hjl : j < (xs ++ news).length := by
        rcases Nat.lt_or_ge j (xs ++ news).length with h | h
        · exact h
        · rw [List.getElem?_eq_none h] at hj; cases hj
      rw [Nat.zero_add, Array.getElem?_append_left (by simpa using hjl)]
      simpa using hj

/-- One element, laid in a new block first. -/
theorem run_push_S {P : Program} (w0 : World) (t ty e : TypeId) (z : Value) (size bytes : Nat) (ht : P.underlying t = some (.slice e))
    (hinfo : (P.info? e).map (fun i => (i.zero, i.size, i.bytes)) = some (some z, size, bytes)) (hzs : z.cells.size = size) (hsz : 0 < size)
    (A : Option Addr) (cap n : Nat) (xs : List Value) (hown : OwnS w0 e size A cap n xs) (news : List Value) (hl : news.length = size) (h1 : ∀ u ∈ news, u.oneCell' = true)
    (h63 : n + 1 ≤ maxLen) (hbytes : (n + 1) * bytes ≤ 140737488355328) :
    ∃ A' cap' w', (Builtin.append_ #[t, t] ty #[.slice A n cap, .slice (some ⟨w0.heap.size, 0, none⟩) 1 1]).run P (w0.alloc (.cells news.toArray e)) = .ok (.slice A' (n + 1) cap') w' ∧ OwnS w' e size A' cap' (n + 1) (xs ++ news) ∧ w0.grownBy w' (blk A) ∧
      (blk A' = blk A ∨ ∃ k, blk A' = some k ∧ w0.heap.size ≤ k) := by
  have hsrc : Src P size t (.slice (some ⟨w0.heap.size, 0, none⟩) 1 1) 1 news (w0.alloc (.cells news.toArray e)) := Src.ofSlice _ ht _ 1 1 news (by rw [hl, Nat.one_mul]) (cells_new w0 news e) h1
  obtain ⟨A', cap', w', hr, h2, h3, h5⟩ := run_append_S (P := P) (w0.alloc (.cells news.toArray e)) t t ty e z size bytes ht hinfo hzs hsz A cap n xs (hown.grown (World.grownBy_alloc w0 _ none) (fun _ _ => by simp)) _ 1 news hsrc h63 hbytes
  refine ⟨A', cap', w', hr, h2, (World.grownBy_alloc w0 _ _).trans h3, ?_⟩
  rcases h5 with h5 | h5
  · exact .inl h5
  · exact .inr ⟨_, h5, by simp⟩

theorem step_push_S {P : Program} {ops : Array Oper} {o : Oper} {a : Act} {K : Act → World → Prop} {Q : Exit → Act → World → Prop} {E : Prop} {w0 : World} (hgd : o.guard = none) (s x : Operand) (t : TypeId)
    (ho : o.op = .call { callee := .builtin .append, args := #[s, x], argTypes := #[t, t] })
    (e : TypeId) (z : Value) (size bytes : Nat) (ht : P.underlying t = some (.slice e))
    (hinfo : (P.info? e).map (fun i => (i.zero, i.size, i.bytes)) = some (some z, size, bytes)) (hzs : z.cells.size = size) (hsz : 0 < size)
    (A : Option Addr) (cap n : Nat) (xs : List Value) (hs : a.eval s = .slice A n cap) (hown : OwnS w0 e size A cap n xs) (news : List Value) (hx : a.eval x = .slice (some ⟨w0.heap.size, 0, none⟩) 1 1) (hl : news.length = size) (h1 : ∀ u ∈ news, u.oneCell' = true)
    (h63 : n + 1 ≤ maxLen) (hbytes : (n + 1) * bytes ≤ 140737488355328)
    (h : ∀ A' cap' w', OwnS w' e size A' cap' (n + 1) (xs ++ news) → w0.grownBy w' (blk A) → (blk A' = blk A ∨ ∃ k, blk A' = some k ∧ w0.heap.size ≤ k) → K (a.put o.dst (.slice A' (n + 1) cap')) w') :
    if Region.wanted o (yielded ops a.tmps) = true then Oper.wp P o a (w0.alloc (.cells news.toArray e)).drew K Q else E := by
  have hw : Region.wanted o (yielded ops a.tmps) = true := by simp [Region.wanted, hgd]
  rw [if_pos hw]
  obtain ⟨A', cap', w', hr, h2, h3, h5⟩ := run_push_S (P := P) w0.drew t o.type e z size bytes ht hinfo hzs hsz A cap n xs hown news hl h1 h63 hbytes
  have hr' : (Builtin.append_ #[t, t] o.type #[.slice A n cap, .slice (some ⟨w0.heap.size, 0, none⟩) 1 1]).run P (w0.alloc (.cells news.toArray e)).drew = .ok (.slice A' (n + 1) cap') w' := hr
  unfold Oper.wp execOp
  simp only [ho, resolve, invoke, builtin, Sem.run_bind, Sem.run_pure, Result.andThen_ok, List.map_toArray, List.map_cons, List.map_nil, hs, hx, hr']
  exact h A' cap' w' h2 ⟨h3.os, h3.tape, h3.output, h3.size, h3.block⟩ h5
theorem step_append_S {P : Program} {ops : Array Oper} {o : Oper} {a : Act} {K : Act → World → Prop} {Q : Exit → Act → World → Prop} {E : Prop} {w : World} (hgd : o.guard = none) (s x : Operand) (t tx : TypeId)
    (ho : o.op = .call { callee := .builtin .append, args := #[s, x], argTypes := #[t, tx] })
    (e : TypeId) (z : Value) (size bytes : Nat) (ht : P.underlying t = some (.slice e))
    (hinfo : (P.info? e).map (fun i => (i.zero, i.size, i.bytes)) = some (some z, size, bytes)) (hzs : z.cells.size = size) (hsz : 0 < size)
    (A : Option Addr) (cap n : Nat) (xs : List Value) (hs : a.eval s = .slice A n cap) (hown : OwnS w e size A cap n xs) (vx : Value) (hx : a.eval x = vx) (m : Nat) (news : List Value) (hsrc : Src P size tx vx m news w)
    (h63 : n + m ≤ maxLen) (hbytes : (n + m) * bytes ≤ 140737488355328)
    (h : ∀ A' cap' w', OwnS w' e size A' cap' (n + m) (xs ++ news) → w.grownBy w' (blk A) → (blk A' = blk A ∨ blk A' = some w.heap.size) → K (a.put o.dst (.slice A' (n + m) cap')) w') :
    if Region.wanted o (yielded ops a.tmps) = true then Oper.wp P o a w K Q else E := by
  have hw : Region.wanted o (yielded ops a.tmps) = true := by simp [Region.wanted, hgd]
  rw [if_pos hw]
  obtain ⟨A', cap', w', hr, h2, h3, h5⟩ := run_append_S (P := P) w t tx o.type e z size bytes ht hinfo hzs hsz A cap n xs hown vx m news hsrc h63 hbytes
  unfold Oper.wp execOp
  simp only [ho, resolve, invoke, builtin, Sem.run_bind, Sem.run_pure, Result.andThen_ok, List.map_toArray, List.map_cons, List.map_nil, hs, hx, hr]
  exact h A' cap' w' h2 h3 h5
theorem wpList_append_S {P : Program} {ops : Array Oper} {rest : List Oper} {o : Oper} {a : Act} {Q : Exit → Act → World → Prop} {w : World} (hgd : o.guard = none) (s x : Operand) (t tx : TypeId)
    (ho : o.op = .call { callee := .builtin .append, args := #[s, x], argTypes := #[t, tx] })
    (e : TypeId) (z : Value) (size bytes : Nat) (ht : P.underlying t = some (.slice e))
    (hinfo : (P.info? e).map (fun i => (i.zero, i.size, i.bytes)) = some (some z, size, bytes)) (hzs : z.cells.size = size) (hsz : 0 < size)
    (A : Option Addr) (cap n : Nat) (xs : List Value) (hs : a.eval s = .slice A n cap) (hown : OwnS w e size A cap n xs) (vx : Value) (hx : a.eval x = vx) (m : Nat) (news : List Value) (hsrc : Src P size tx vx m news w)
    (h63 : n + m ≤ maxLen) (hbytes : (n + m) * bytes ≤ 140737488355328)
    (h : ∀ A' cap' w', OwnS w' e size A' cap' (n + m) (xs ++ news) → w.grownBy w' (blk A) → (blk A' = blk A ∨ blk A' = some w.heap.size) → wpList P ops Q rest (a.put o.dst (.slice A' (n + m) cap')) w') :
    wpList P ops Q (o :: rest) a w := by
  refine wpList_plain hgd fun K hK => ?_
  obtain ⟨A', cap', w', hr, h2, h3, h5⟩ := run_append_S (P := P) w t tx o.type e z size bytes ht hinfo hzs hsz A cap n xs hown vx m news hsrc h63 hbytes
  unfold Oper.wp execOp
  simp only [ho, resolve, invoke, builtin, Sem.run_bind, Sem.run_pure, Result.andThen_ok, List.map_toArray, List.map_cons, List.map_nil, hs, hx, hr]
  exact hK _ _ (h A' cap' w' h2 h3 h5)

/-- A field stored behind an append: the object's block, and all others. -/
theorem field_store {w w1 : World} {g i : Nat} {cs : Array Value} {t : TypeId} {row : Option Nat} (hb : w.heap[g]? = some (.cells cs t (0, 0))) (hrow : row ≠ some g) (hg : w.grownBy w1 row) (v : Value) :
    (w1.setCell ⟨g, i, none⟩ v).heap[g]? = some (.cells (cs.setIfInBounds i v) t (0, 0)) ∧ ∀ k, k < w.heap.size → k ≠ g → row ≠ some k → (w1.setCell ⟨g, i, none⟩ v).heap[k]? = w.heap[k]? := by
  have h1 : w1.heap[g]? = some (.cells cs t (0, 0)) := (hg.block g (block_lt hb) (fun e => hrow e.symm)).trans hb
  refine ⟨by simp [World.setCell, Array.getElem?_modify, h1], fun k hk hkg hkr => ?_⟩
  rw [Below.heap_setCell _ _ _ _ (by simpa using hkg)]
  exact hg.block k hk (fun e => hkr e.symm)
theorem OwnS.setFar {w : World} {e : TypeId} {size cap n : Nat} {A : Option Addr} {xs : List Value} (h : OwnS w e size A cap n xs) {p : Addr} (hp : blk A ≠ some p.block) (u : Value) : OwnS (w.setCell p u) e size A cap n xs :=
  h.keep fun k hk => Below.heap_setCell _ _ _ _ (fun e => hp (by rw [hk, e]))
theorem size_setCell (w : World) (p : Addr) (u : Value) : (w.setCell p u).heap.size = w.heap.size := by simp [World.setCell]
theorem OwnS.cut {w : World} {e : TypeId} {size cap n g off k : Nat} {xs : List Value} (h : OwnS w e size (some ⟨g, off, none⟩) cap n xs) (hk : k ≤ n) : OwnS w e size (some ⟨g, off + k * size, none⟩) (cap - k) (n - k) (xs.drop (k * size)) := by
  obtain ⟨h1, h2, h3, h4⟩ := h
  refine ⟨by rw [List.length_drop, h1, Nat.sub_mul], by omega, by omega, ?_⟩
  rcases h4 with ⟨h4, _⟩ | ⟨g', off', cur, e1, hh, hc, hr⟩
  · cases h4
  · injection e1 with e1; injection e1 with e1 e2; subst e1; subst e2
    refine .inr ⟨g, _, cur, rfl, hh, ?_, fun j u hj => ?_⟩
    · rw [Nat.sub_mul]
      have := Nat.mul_le_mul_right size (Nat.le_trans hk h2)
      omega
    · rw [List.getElem?_drop] at hj
      rw [Nat.add_assoc]; exact hr _ u hj
theorem OwnS.head {w : World} {e : TypeId} {size cap n : Nat} {A : Option Addr} {xs : List Value} (h : OwnS w e size A cap n xs) (hn : 0 < n) (hs : 0 < size) : ∃ g off, A = some ⟨g, off, none⟩ ∧ g < w.heap.size ∧ ∀ j u, xs[j]? = some u → w.cell? ⟨g, off + j, none⟩ = some u := by
  obtain ⟨h1, h2, h3, h4⟩ := h
  rcases h4 with ⟨_, h4⟩ | ⟨g, off, cur, rfl, hh, hc, hr⟩
  · omega
  · exact ⟨g, off, rfl, block_lt hh, fun j u hj => (cell_of_row w g (off + j) cur e (0, 0) hh).trans (hr j u hj)⟩
theorem OwnS.empty {w : World} {e : TypeId} {size cap n : Nat} {A : Option Addr} {xs : List Value} (h : OwnS w e size A cap n xs) : OwnS w e size A 0 0 [] := by
  obtain ⟨h1, h2, h3, h4⟩ := h
  refine ⟨by simp, Nat.le_refl _, Nat.zero_le _, ?_⟩
  rcases h4 with ⟨rfl, _⟩ | ⟨g, off, cur, rfl, hh, hc, hr⟩
  · exact .inl ⟨rfl, rfl⟩
  · exact .inr ⟨g, off, cur, rfl, hh, by omega, fun j u hj => by simp at hj⟩
end Go.Proofs.YtfndhfekbbbliaaGreatDoor

/-
  Expressions, plain: trees, what a text is read as (a tree and what is left of the text; or where it is wrong, and how), what a tree comes to. No condition: plain definitions.
-/
namespace Go.Proofs.YtfndhfekbbbliaaGreatDoor
open Go.RowKit
set_option linter.unusedVariables false

/-- A tree: a number; n (true) or s; less; two with an operator's byte between (109 min, 77 max); one of two. -/
inductive Tr where
  | num (k : Int)
  | nam (n : Bool)
  | neg (a : Tr)
  | bin (op : UInt8) (a b : Tr)
  | sel (a b c : Tr)
/-- What is read: a tree, and what is left; or how much is left where it is wrong, and the fault. -/
inductive Rd where
  | ok (t : Tr) (rest : List UInt8)
  | bad (left : Nat) (e : Int)
def Rd.bind (r : Rd) (f : Tr → List UInt8 → Rd) : Rd := match r with
  | .ok t l => f t l
  | .bad k e => .bad k e
def isDig (c : UInt8) : Bool := decide (48 ≤ c.toNat) && decide (c.toNat ≤ 57)
def digsOf (l : List UInt8) : List UInt8 := l.takeWhile isDig
/-- The digits that count: a 0 stands alone. -/
def numOf (l : List UInt8) : List UInt8 := match digsOf l with
  | c :: d :: r => if c = 48 then [48] else c :: d :: r
  | d => d
def digVal (ds : List UInt8) : Nat := ds.foldl (fun a c => a * 10 + (c.toNat - 48)) 0
def numRd (l : List UInt8) : Rd :=
  if numOf l = [] ∨ digVal (numOf l) > 9223372036854775807 then .bad l.length 2 else .ok (.num (digVal (numOf l))) (l.drop (numOf l).length)
def wantRd (c : UInt8) (l : List UInt8) (f : List UInt8 → Rd) : Rd := match l with
  | x :: r => if x = c then f r else .bad l.length 2
  | [] => .bad 0 2
/-- One level deeper: what is left at the place where it is too deep. -/
def deepRd (d k : Nat) (f : Rd) : Rd := if d = 20 then .bad k 4 else f
abbrev Reads := Nat → List UInt8 → Rd
def twoRd (W : Reads) (op : UInt8) (d : Nat) (l : List UInt8) : Rd :=
  (W d l).bind fun a l1 => wantRd 44 l1 fun l2 => (W d l2).bind fun b l3 => wantRd 41 l3 fun l4 => .ok (.bin op a b) l4
def oneRd (W : Reads) (d : Nat) (l : List UInt8) : Rd := match l with
  | 109 :: 105 :: 110 :: 40 :: r => deepRd d l.length (twoRd W 109 (d + 1) r)
  | 109 :: 97 :: 120 :: 40 :: r => deepRd d l.length (twoRd W 77 (d + 1) r)
  | 110 :: r => .ok (.nam true) r
  | 115 :: r => .ok (.nam false) r
  | 40 :: r => deepRd d l.length ((W (d + 1) r).bind fun a l1 => wantRd 41 l1 fun l2 => .ok a l2)
  | l => numRd l
def lessRd (W : Reads) (d : Nat) (l : List UInt8) : Rd := match l with
  | 45 :: r => deepRd d l.length ((lessRd W (d + 1) r).bind fun a l1 => .ok (.neg a) l1)
  | l => oneRd W d l
/-- Operands with operators between, from the left: what follows the first. -/
def loopRd (next : List UInt8 → Rd) (ops : List UInt8) : Nat → Tr → List UInt8 → Rd
  | 0, a, l => .ok a l
  | k + 1, a, l => match l with
    | c :: r => if c ∈ ops then (next r).bind fun b l1 => loopRd next ops k (.bin c a b) l1 else .ok a l
    | [] => .ok a []
def rowRd (next : List UInt8 → Rd) (ops : List UInt8) (l : List UInt8) : Rd := (next l).bind fun a l1 => loopRd next ops l1.length a l1
def mulRd (W : Reads) (d : Nat) (l : List UInt8) : Rd := rowRd (lessRd W d) [42, 47, 37] l
def addRd (W : Reads) (d : Nat) (l : List UInt8) : Rd := rowRd (mulRd W d) [43, 45] l
/-- What follows the first operand of a comparison. -/
def cmpTl (W : Reads) (d : Nat) (a : Tr) (l : List UInt8) : Rd := match l with
  | c :: r => if c ∈ [61, 60, 62] then (addRd W d r).bind fun b l2 => .ok (.bin c a b) l2 else .ok a (c :: r)
  | [] => .ok a []
def cmpRd (W : Reads) (d : Nat) (l : List UInt8) : Rd := (addRd W d l).bind (cmpTl W d)
/-- What follows what is asked. -/
def selRd (W : Reads) (d : Nat) (a : Tr) (l : List UInt8) : Rd := match l with
  | x :: r => if x = 63 then deepRd d (r.length + 1) ((W (d + 1) r).bind fun b l2 => wantRd 58 l2 fun l3 => (W (d + 1) l3).bind fun c l4 => .ok (.sel a b c) l4) else .ok a (x :: r)
  | [] => .ok a []
def wholeStep (W : Reads) (d : Nat) (l : List UInt8) : Rd := (cmpRd W d l).bind (selRd W d)
/-- A whole expression, of at most k bytes. -/
def wholeRd : Nat → Reads
  | 0 => wholeStep fun _ l => .bad l.length 2
  | k + 1 => wholeStep (wholeRd k)
/-- A text: its tree; or where it is wrong, and how. -/
inductive Parsed where
  | tree (t : Tr)
  | fault (at_ : Nat) (e : Int)
def parseT (s : List UInt8) : Parsed :=
  if 120 < s.length then .fault 0 4 else match wholeRd s.length 0 s with
  | .ok t [] => .tree t
  | .ok _ (_ :: r) => .fault (s.length - (r.length + 1)) 2
  | .bad k e => .fault (s.length - k) e

/-! ### What a tree comes to -/
def b2i (b : Bool) : Int := if b then 1 else 0
def opVal (op : UInt8) (a b : Int) : Int :=
  if op = 109 then min a b else if op = 77 then max a b else if op = 43 then wrap64 (a + b) else if op = 45 then wrap64 (a - b) else if op = 42 then wrap64 (a * b)
  else if op = 61 then b2i (a == b) else if op = 60 then b2i (decide (a < b)) else if op = 62 then b2i (decide (b < a))
  else if b = 0 then 0 else if b = -1 then (if op = 37 then 0 else wrap64 (-a)) else if op = 47 then a.tdiv b else a.tmod b
def Tr.val (n s : Int) : Tr → Int
  | .num k => k
  | .nam x => if x then n else s
  | .neg a => wrap64 (-(a.val n s))
  | .bin op a b => opVal op (a.val n s) (b.val n s)
  | .sel a b c => if a.val n s = 0 then c.val n s else b.val n s
end Go.Proofs.YtfndhfekbbbliaaGreatDoor

/-
  Jobs, plain: what is wrong with one; who uses whom; which are of a kind. No condition: plain definitions and lemmas.
-/
namespace Go.Proofs.YtfndhfekbbbliaaGreatDoor
open Go.RowKit
set_option linter.unusedVariables false

def texted (k : Int) : Bool := k == 2 || k == 3 || k == 4 || k == 7
def counted (k : Int) : Bool := k == 1 || k == 5 || k == 8
def inLow (k : Int) : Int := if k = 1 then 0 else 1
def inHigh (k : Int) : Int := if k = 1 then 0 else if k = 6 then 4 else 1
def numLow (k : Int) : Int := if k = 1 then 1 else if k = 5 then 0 else if k = 8 then 1 else 0
def numHigh (k : Int) : Int := if k = 1 then 8 else if k = 5 then 3 else if k = 8 then 400 else 0
/-- What is wrong with a text. -/
def textErr (s : List UInt8) : Int := match parseT s with
  | .tree _ => 0
  | .fault _ e => e
/-- What is wrong with whom a node has ahead. -/
def fromErr (l : List Nod) (i : Nat) : List Int → Int
  | [] => 0
  | f :: r => if f < 0 ∨ (i : Int) ≤ f then 1 else if (l[f.toNat]?.map (·.kind)) = some 10 then 7 else fromErr l i r
def nodeErr (l : List Nod) (i : Nat) (n : Nod) : Int :=
  if n.kind < 1 ∨ 10 < n.kind then 1
  else if (n.from_.length : Int) < inLow n.kind ∨ inHigh n.kind < (n.from_.length : Int) then 3
  else if fromErr l i n.from_ ≠ 0 then fromErr l i n.from_
  else if (n.text.size ≠ 0 ∧ texted n.kind = false) ∨ (n.n ≠ 0 ∧ counted n.kind = false) then 3
  else if n.n < numLow n.kind ∨ numHigh n.kind < n.n then 1
  else if texted n.kind then textErr n.text.data.toList
  else 0
def nodesErr (l : List Nod) : Nat → List Nod → Int
  | _, [] => 0
  | i, n :: r => if nodeErr l i n ≠ 0 then nodeErr l i n else nodesErr l (i + 1) r
theorem nodes_cons (l : List Nod) (i : Nat) (n : Nod) (r : List Nod) : nodesErr l i (n :: r) = if nodeErr l i n ≠ 0 then nodeErr l i n else nodesErr l (i + 1) r := rfl
def hasKind (l : List Nod) (k : Int) : Bool := l.any fun n => n.kind == k
def endsErr (l : List Nod) : Int := if hasKind l 1 = true ∧ hasKind l 10 = true then 0 else 6
def jobErr (l : List Nod) : Int := if 12 < l.length then 4 else if nodesErr l 0 l ≠ 0 then nodesErr l 0 l else endsErr l
def ofKind (l : List Nod) (k : Int) : List Int := (l.zipIdx.filter fun p => p.1.kind == k).map fun p => (p.2 : Int)
/-- Who uses node f. -/
def usesOf (l : List Nod) (f : Int) : List Int := (l.zipIdx.filter fun p => p.1.from_.contains f).map fun p => (p.2 : Int)
def usesAll (l : List Nod) : List (List Int) := (List.range l.length).map fun (f : Nat) => usesOf l (f : Int)

/-! ### A Sink more -/
theorem fromErr_app {l r : List Nod} {i : Nat} (hi : i ≤ l.length) (fs : List Int) : fromErr (l ++ r) i fs = fromErr l i fs := by
  induction fs with
  | nil => rfl
  | cons f fs ih =>
    unfold fromErr
    by_cases h : f < 0 ∨ (i : Int) ≤ f
    · rw [if_pos h, if_pos h]
    · rw [if_neg h, if_neg h, List.getElem?_append_left (by omega), ih]
theorem nodeErr_app {l r : List Nod} {i : Nat} (hi : i ≤ l.length) (n : Nod) : nodeErr (l ++ r) i n = nodeErr l i n := by
  unfold nodeErr; rw [fromErr_app hi]
theorem nodesErr_app {l : List Nod} (r : List Nod) (s : List Nod) : ∀ i, i + s.length ≤ l.length → nodesErr (l ++ r) i s = nodesErr l i s := by
  induction s with
  | nil => intro i _; rfl
  | cons n s ih =>
    intro i hi
    simp only [List.length_cons] at hi
    rw [nodes_cons, nodes_cons, nodeErr_app (by omega), ih (i + 1) (by omega)]
theorem nodesErr_cat (l : List Nod) (s t : List Nod) : ∀ i, nodesErr l i (s ++ t) = if nodesErr l i s ≠ 0 then nodesErr l i s else nodesErr l (i + s.length) t := by
  induction s with
  | nil => intro i; simp [nodesErr]
  | cons n s ih =>
    intro i
    simp only [List.cons_append, List.length_cons]
    rw [nodes_cons, nodes_cons]
    by_cases h : nodeErr l i n ≠ 0
    · rw [if_pos h, if_pos h, if_pos h]
    · rw [if_neg h, if_neg h, ih (i + 1), show i + 1 + s.length = i + (s.length + 1) from by omega]
def sinkN (at_ : Int) : Nod := ⟨10, [at_], ⟨#[]⟩, 0⟩
theorem hasKind_app (l r : List Nod) (k : Int) : hasKind (l ++ r) k = (hasKind l k || hasKind r k) := by simp [hasKind]
theorem job_parts {l : List Nod} (h : jobErr l = 0) : l.length ≤ 12 ∧ nodesErr l 0 l = 0 ∧ hasKind l 1 = true ∧ hasKind l 10 = true := by
  unfold jobErr at h
  split at h
  · cases h
  · split at h
    · rename_i h1; exact absurd h h1
    · rename_i h0 h1
      unfold endsErr at h
      split at h
      · rename_i h2; exact ⟨by omega, by simpa using h1, h2.1, h2.2⟩
      · cases h
theorem grow_job {l : List Nod} {at_ : Nat} (h : jobErr l = 0) (hl : l.length ≤ 11) (hat : at_ < l.length) (hk : l[at_].kind ≠ 10) : jobErr (l ++ [sinkN at_]) = 0 := by
  obtain ⟨_, h1, h2, h3⟩ := job_parts h
  have hlast : nodeErr (l ++ [sinkN at_]) l.length (sinkN at_) = 0 := by
    have hf : fromErr (l ++ [sinkN at_]) l.length [(at_ : Int)] = 0 := by
      unfold fromErr
      rw [if_neg (by omega), Int.toNat_natCast, List.getElem?_append_left hat, List.getElem?_eq_getElem hat]
      rw [if_neg (by simpa using hk)]; rfl
    unfold nodeErr
    have e1 : ¬ ((sinkN at_).kind < 1 ∨ 10 < (sinkN at_).kind) := by simp [sinkN]
    have e2 : ¬ (((sinkN at_).from_.length : Int) < inLow (sinkN at_).kind ∨ inHigh (sinkN at_).kind < ((sinkN at_).from_.length : Int)) := by simp [sinkN, inLow, inHigh]
    have e3 : ¬ fromErr (l ++ [sinkN at_]) l.length (sinkN at_).from_ ≠ 0 := by simpa [sinkN] using hf
    have e4 : ¬ (((sinkN at_).text.size ≠ 0 ∧ texted (sinkN at_).kind = false) ∨ ((sinkN at_).n ≠ 0 ∧ counted (sinkN at_).kind = false)) := by simp [sinkN, ByteArray.size]
    have e5 : ¬ ((sinkN at_).n < numLow (sinkN at_).kind ∨ numHigh (sinkN at_).kind < (sinkN at_).n) := by simp [sinkN, numLow, numHigh]
    have e6 : ¬ texted (sinkN at_).kind = true := by simp [sinkN, texted]
    rw [if_neg e1, if_neg e2, if_neg e3, if_neg e4, if_neg e5, if_neg e6]
  unfold jobErr
  rw [if_neg (by simp; omega)]
  have hn : nodesErr (l ++ [sinkN at_]) 0 (l ++ [sinkN at_]) = 0 := by
    rw [nodesErr_cat, nodesErr_app _ _ 0 (by omega), if_neg (by simp [h1]), Nat.zero_add]
    unfold nodesErr
    rw [if_neg (by simp [hlast])]; rfl
  rw [if_neg (by simp [hn])]
  unfold endsErr
  rw [hasKind_app, hasKind_app, h2, h3]
  rfl
theorem grow_of (l : List Nod) (at_ : Int) : ofKind (l ++ [sinkN at_]) 10 = ofKind l 10 ++ [(l.length : Int)] := by
  unfold ofKind
  rw [List.zipIdx_append, List.filter_append, List.map_append]
  simp [sinkN]
theorem grow_uses (l : List Nod) (at_ f : Int) : usesOf (l ++ [sinkN at_]) f = usesOf l f ++ if f = at_ then [(l.length : Int)] else [] := by
  unfold usesOf
  rw [List.zipIdx_append, List.filter_append, List.map_append]
  congr 1
  by_cases h : f = at_
  · subst h; simp [sinkN]
  · simp [sinkN, h]
end Go.Proofs.YtfndhfekbbbliaaGreatDoor
