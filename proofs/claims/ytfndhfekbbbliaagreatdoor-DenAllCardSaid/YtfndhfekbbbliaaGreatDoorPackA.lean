/-
  Several texts of this claim in one, in build order; each begins with its own remark, which says what it proves and under which conditions.
-/
import Derived.Test.YtfndhfekbbbliaaGreatDoorRows
import Derived.WalkKit
import Derived.ProofKit
import Derived.Deep.Slices
import Derived.Deep.Strs
import Derived.Lib.SmallJoins
import Derived.Lib.Hide
import Derived.SizedLaws
import Derived.Maps.AppendAt
import Derived.Deep.AppendLies
import Derived.Deep.AppendSrc
import Derived.Laws.CopyRow
import Derived.Laws.IdiomStrings
import Derived.OpenShut
import Derived.Shelf.SlGeneric
import Derived.Shelf.SlSortCmp.WholeK
import Derived.Ground.SlsfProg
import Derived.Shelf.Strconv.Itoa3
import Derived.Ground.NamesProg
import Derived.Shelf.Strconv.AtoiErr
import Derived.Shelf.Strconv.Atoi
import Derived.Shelf.Strings.SlTrimAscii
import Derived.Shelf.Strings.Prefix
import Derived.Shelf.Small.Strs
import Derived.Shelf.Strings.BuilderK
import Derived.Test.YtfndhfekbbbliaaGreatDoorProg
import Derived.BigQuiet
import Derived.Defers
import Derived.Recover

/-
  Words of my own for memory, over any program: what a slice that is read holds ('SlA', 'Sl'), element by element ('Elt'), and that it is kept where the blocks it lies in are kept. No condition: plain definitions and lemmas.
-/
namespace Go.Proofs.YtfndhfekbbbliaaGreatDoor
open Go.RowKit Go.ChangeShapes Go.WideShapes
set_option linter.unusedVariables false
def Same (F : Nat → Prop) (w w' : World) : Prop := ∀ k, F k → w'.heap[k]? = w.heap[k]?
theorem Same.cell {F : Nat → Prop} {a b : World} (h : Same F a b) {p : Addr} (hp : F p.block) : b.cell? p = a.cell? p := World.cell?_of_block (h _ hp)
structure Elt (α : Type) where
 sz : Nat
 bulk : α → Nat
 R : (Nat → Prop) → World → List Value → α → Prop
 len : ∀ F w cs x, R F w cs x → cs.length = sz
 keep : ∀ F w w' cs x, R F w cs x → Same F w w' → R F w' cs x
 more : ∀ F F' w cs x, R F w cs x → (∀ k, F k → F' k) → R F' w cs x
def sumBulk {α : Type} (f : α → Nat) : List α → Nat
 | [] => 0
 | x :: r => f x + sumBulk f r
section
variable {α β : Type}
def SlA (E : Elt α) (F : Nat → Prop) (w : World) (A : Option Addr) (c : Nat) (l : List α) : Prop :=
 l.length ≤ c ∧ c ≤ maxLen ∧ ∀ i x, l[i]? = some x → ∃ b off cs, A = some ⟨b, off, none⟩ ∧ F b ∧ (∀ j u, cs[j]? = some u → w.cell? ⟨b, off + (i * E.sz + j), none⟩ = some u) ∧ E.R F w cs x
def Sl (E : Elt α) (F : Nat → Prop) (w : World) (v : Value) (l : List α) : Prop := ∃ A c, v = .slice A l.length c ∧ SlA E F w A c l
theorem SlA.keep {E : Elt α} {F : Nat → Prop} {w w' : World} {A : Option Addr} {c : Nat} {l : List α} (h : SlA E F w A c l) (hs : Same F w w') : SlA E F w' A c l :=
 ⟨h.1, h.2.1, fun i x hx => by
  obtain ⟨b, off, cs, rfl, hb, hc, hr⟩ := h.2.2 i x hx
  exact ⟨b, off, cs, rfl, hb, fun j u hu => (hs.cell (p := ⟨b, _, none⟩) hb).trans (hc j u hu), E.keep _ _ _ _ _ hr hs⟩⟩
theorem SlA.more {E : Elt α} {F F' : Nat → Prop} {w : World} {A : Option Addr} {c : Nat} {l : List α} (h : SlA E F w A c l) (hF : ∀ k, F k → F' k) : SlA E F' w A c l :=
 ⟨h.1, h.2.1, fun i x hx => by
  obtain ⟨b, off, cs, rfl, hb, hc, hr⟩ := h.2.2 i x hx
  exact ⟨b, off, cs, rfl, hF _ hb, hc, E.more _ _ _ _ _ hr hF⟩⟩
theorem SlA.le {E : Elt α} {F : Nat → Prop} {w : World} {A : Option Addr} {c : Nat} {l : List α} (h : SlA E F w A c l) : l.length ≤ 9223372036854775807 := by
 have h1 := h.1; have h2 := h.2.1; unfold maxLen at h2; omega
theorem SlA.nil (E : Elt α) (F : Nat → Prop) (w : World) (A : Option Addr) (c : Nat) (hc : c ≤ maxLen) : SlA E F w A c [] := ⟨by simp, hc, fun i x hx => by simp at hx⟩
theorem Sl.keep {E : Elt α} {F : Nat → Prop} {w w' : World} {v : Value} {l : List α} (h : Sl E F w v l) (hs : Same F w w') : Sl E F w' v l := by
 obtain ⟨A, c, rfl, h⟩ := h; exact ⟨A, c, rfl, h.keep hs⟩
theorem Sl.more {E : Elt α} {F F' : Nat → Prop} {w : World} {v : Value} {l : List α} (h : Sl E F w v l) (hF : ∀ k, F k → F' k) : Sl E F' w v l := by
 obtain ⟨A, c, rfl, h⟩ := h; exact ⟨A, c, rfl, h.more hF⟩
theorem Sl.nil (E : Elt α) (F : Nat → Prop) (w : World) : Sl E F w (.slice none 0 0) [] := ⟨none, 0, rfl, SlA.nil E F w _ _ (by unfold maxLen; omega)⟩
def intE (k : IntKind) : Elt Int where
 sz := 1
 bulk := fun _ => 1
 R := fun _ _ cs n => cs = [.int k n] ∧ (Lit.int k n).wf = true
 len := fun _ _ _ _ h => by rw [h.1]; rfl
 keep := fun _ _ _ _ _ h _ => h
 more := fun _ _ _ _ _ h _ => h
def bytE : Elt UInt8 where
 sz := 1
 bulk := fun _ => 1
 R := fun _ _ cs b => cs = [.int .u8 (b.toNat : Int)]
 len := fun _ _ _ _ h => by rw [h]; rfl
 keep := fun _ _ _ _ _ h _ => h
 more := fun _ _ _ _ _ h _ => h
def slE (E : Elt α) : Elt (List α) where
 sz := 1
 bulk := fun l => sumBulk E.bulk l + 1
 R := fun F w cs l => ∃ v, cs = [v] ∧ Sl E F w v l
 len := fun _ _ _ _ h => by obtain ⟨v, rfl, _⟩ := h; rfl
 keep := fun _ _ _ _ _ h hs => by obtain ⟨v, rfl, h⟩ := h; exact ⟨v, rfl, h.keep hs⟩
 more := fun _ _ _ _ _ h hF => by obtain ⟨v, rfl, h⟩ := h; exact ⟨v, rfl, h.more hF⟩
theorem SlA.at_ {E : Elt α} {F : Nat → Prop} {w : World} {A : Option Addr} {c : Nat} {l : List α} (h : SlA E F w A c l) {k : Nat} (hk : k < l.length) :
  ∃ b off cs, A = some ⟨b, off, none⟩ ∧ F b ∧ (∀ j u, cs[j]? = some u → w.cell? ⟨b, off + (k * E.sz + j), none⟩ = some u) ∧ E.R F w cs l[k] :=
 h.2.2 k l[k] (List.getElem?_eq_getElem hk)
theorem SlA.int_ {q : IntKind} {F : Nat → Prop} {w : World} {A : Option Addr} {c : Nat} {l : List Int} (h : SlA (intE q) F w A c l) {k : Nat} (hk : k < l.length) :
  ∃ b off, A = some ⟨b, off, none⟩ ∧ F b ∧ w.cell? ⟨b, off + k, none⟩ = some (.int q l[k]) ∧ (Lit.int q l[k]).wf = true := by
 obtain ⟨b, off, cs, rfl, hb, hc, he, hw⟩ := h.at_ hk
 refine ⟨b, off, rfl, hb, ?_, hw⟩
 have := hc 0 (.int q l[k]) (by rw [he]; rfl)
 simpa [intE] using this
theorem SlA.byt_ {F : Nat → Prop} {w : World} {A : Option Addr} {c : Nat} {l : List UInt8} (h : SlA bytE F w A c l) {k : Nat} (hk : k < l.length) :
  ∃ b off, A = some ⟨b, off, none⟩ ∧ F b ∧ w.cell? ⟨b, off + k, none⟩ = some (.int .u8 (l[k].toNat : Int)) := by
 obtain ⟨b, off, cs, rfl, hb, hc, he⟩ := h.at_ hk
 refine ⟨b, off, rfl, hb, ?_⟩
 have := hc 0 _ (by rw [he]; rfl)
 simpa [bytE] using this
theorem SlA.sl_ {E : Elt α} {F : Nat → Prop} {w : World} {A : Option Addr} {c : Nat} {l : List (List α)} (h : SlA (slE E) F w A c l) {k : Nat} (hk : k < l.length) :
  ∃ b off A' c', A = some ⟨b, off, none⟩ ∧ F b ∧ w.cell? ⟨b, off + k, none⟩ = some (.slice A' l[k].length c') ∧ SlA E F w A' c' l[k] := by
 obtain ⟨b, off, cs, rfl, hb, hc, v, he, A', c', rfl, hw⟩ := h.at_ hk
 refine ⟨b, off, A', c', rfl, hb, ?_, hw⟩
 have := hc 0 _ (by rw [he]; rfl)
 simpa [slE] using this
theorem cell_lt {w : World} {a : Addr} {v : Value} (h : w.cell? a = some v) : a.block < w.heap.size := by
 unfold World.cell? at h
 rcases Nat.lt_or_ge a.block w.heap.size with hlt | hge
 ·exact hlt
 ·rw [Array.getElem?_eq_none hge] at h; simp at h
structure OfT (P : Program) (t : TypeId) (E : Elt α) : Prop where
 cells : P.cellsOf t = E.sz
 pos : 0 < E.sz
 of : ∀ {H : Type} (enc : TypeId × Value → H) (w : World) (fuel : Nat) (cs : List Value) (x : DataW H × List MemPlace), DataW.trod enc P w 0 (fun _ => true) true fuel t cs = some x → ∃ y, E.R (· < w.heap.size) w cs y ∧ E.bulk y ≤ Rows.uptoBulk x.1
theorem ofInt {P : Program} {t : TypeId} {k : IntKind} (ht : P.underlying t = some (.int k)) (hc : P.cellsOf t = 1) : OfT P t (intE k) :=
 ⟨hc, Nat.one_pos, fun enc w fuel cs x h => by
  obtain ⟨n, rfl, rfl, hw⟩ := DataW.trod_int ht h
  exact ⟨n, ⟨rfl, hw⟩, by simp [intE, Rows.uptoBulk]⟩⟩
theorem sumBulk_le {H : Type} {f : β → Nat} {l : List β} {D : Nat → DataW H} (h : ∀ i x, l[i]? = some x → f x ≤ Rows.uptoBulk (D i)) : sumBulk f l ≤ Rows.uptoBulkAll ((List.range l.length).map D) := by
 induction l generalizing D with
 | nil => simp [sumBulk]
 | cons x l ih =>
  have h0 := h 0 x rfl
  have := ih (D := fun i => D (i + 1)) (fun i y hy => h (i + 1) y (by simpa using hy))
  rw [List.length_cons, List.range_succ_eq_map, List.map_cons, List.map_map]
  simp only [sumBulk, Rows.uptoBulkAll]
  have e : (List.range l.length).map (D ∘ Nat.succ) = (List.range l.length).map fun i => D (i + 1) := rfl
  rw [e]; omega
theorem cells_add {w : World} {a : Addr} {n : Nat} {cs : List Value} (h : w.cells? 0 a n = some cs) : cs.length = n ∧ ∀ j u, cs[j]? = some u → w.cell? (a.add j) = some u := by
 obtain ⟨_, hl, hc⟩ := World.cells?_some h
 refine ⟨hl, fun j u hu => ?_⟩
 have hj : j < cs.length := by
  rcases Nat.lt_or_ge j cs.length with h | h
  ·exact h
  ·rw [List.getElem?_eq_none h] at hu; cases hu
 rw [hc j (by omega)]; exact hu
theorem ofSl {P : Program} {t e : TypeId} {E : Elt α} (ht : P.underlying t = some (.slice e)) (hc : P.cellsOf t = 1) (hE : OfT P e E) : OfT P t (slE E) :=
 ⟨hc, Nat.one_pos, fun enc w fuel cs x h => by
  classical
  rcases Go.Deep.open_slice ht h with ⟨rfl, rfl⟩ | ⟨a, len, cap, m, n, D, Pl, rfl, hb, hl, hm, hmm, rfl, hx⟩
  ·exact ⟨[], ⟨_, rfl, Sl.nil E _ w⟩, by simp [slE, sumBulk, Rows.uptoBulk]⟩
  ·simp only [if_true] at hmm
   subst hmm
   have hall : ∀ i, i < len → ∃ y, (∃ cs', cs'.length = E.sz ∧ (∀ j u, cs'[j]? = some u → w.cell? ((a.add (i * E.sz)).add j) = some u) ∧ E.R (· < w.heap.size) w cs' y) ∧ E.bulk y ≤ Rows.uptoBulk (D i) := by
    intro i hi
    obtain ⟨cs', h1, h2⟩ := hx i (by omega)
    rw [hE.cells] at h1
    obtain ⟨hl', hc'⟩ := cells_add h1
    obtain ⟨y, hy, hbk⟩ := hE.of enc w n cs' _ h2
    exact ⟨y, ⟨cs', hl', hc', hy⟩, hbk⟩
   let f : Fin len → α := fun i => Classical.choose (hall i.1 i.2)
   have hf : ∀ i : Fin len, (∃ cs', cs'.length = E.sz ∧ (∀ j u, cs'[j]? = some u → w.cell? ((a.add (i.1 * E.sz)).add j) = some u) ∧ E.R (· < w.heap.size) w cs' (f i)) ∧ E.bulk (f i) ≤ Rows.uptoBulk (D i.1) := fun i => Classical.choose_spec (hall i.1 i.2)
   have hlen : (List.ofFn f).length = len := List.length_ofFn
   refine ⟨List.ofFn f, ⟨_, rfl, some a, m, by rw [hlen], by rw [hlen]; exact hl, hm, ?_⟩, ?_⟩
   ·intro i x hx'
    have hi : i < len := by
     rcases Nat.lt_or_ge i len with h | h
     ·exact h
     ·rw [List.getElem?_eq_none (by rw [hlen]; exact h)] at hx'; cases hx'
    rw [List.getElem?_eq_getElem (by rw [hlen]; exact hi), List.getElem_ofFn] at hx'
    injection hx' with hx'
    obtain ⟨⟨cs', h1, h2, h3⟩, _⟩ := hf ⟨i, hi⟩
    subst hx'
    obtain ⟨b, off, spot⟩ := a
    have hpos := hE.pos
    have hspot : spot = none := by
     obtain ⟨⟨cs0, g1, g2, g3⟩, _⟩ := hf ⟨0, by omega⟩
     obtain ⟨u, hu⟩ : ∃ u, cs0[0]? = some u := ⟨cs0[0], List.getElem?_eq_getElem (by omega)⟩
     have := g2 0 u hu
     simp only [Nat.zero_mul] at this
     simpa [Addr.add] using World.cell?_spot this
    subst hspot
    refine ⟨b, off, cs', rfl, ?_, ?_, h3⟩
    ·obtain ⟨u, hu⟩ : ∃ u, cs'[0]? = some u := ⟨cs'[0], List.getElem?_eq_getElem (by omega)⟩
     have := cell_lt (h2 0 u hu)
     rwa [Go.Deep.add_add, add_plain] at this
    ·intro j u hu
     have := h2 j u hu
     rwa [Go.Deep.add_add, add_plain] at this
   ·show sumBulk E.bulk (List.ofFn f) + 1 ≤ _
    have := sumBulk_le (H := _) (f := E.bulk) (l := List.ofFn f) (D := D) (fun i x hx' => by
     have hi : i < len := by
      rcases Nat.lt_or_ge i len with h | h
      ·exact h
      ·rw [List.getElem?_eq_none (by rw [hlen]; exact h)] at hx'; cases hx'
     rw [List.getElem?_eq_getElem (by rw [hlen]; exact hi), List.getElem_ofFn] at hx'
     injection hx' with hx'
     subst hx'
     exact (hf ⟨i, hi⟩).2)
    rw [hlen] at this
    simp only [Rows.uptoBulk]
    omega⟩
theorem capOfTrod {H : Type} {P : Program} {ts : List TypeId} {ds : List (DataW H)} {enc : TypeId × Value → H} {w : World} {t e : TypeId} (ht : P.underlying t = some (.slice e))
  (h : (DataW.weightsEach P ts ds).all (· ≤ reachBytes) = true) {j : Nat} (hj : ts[j]? = some t) {A : Option Addr} {n c : Nat} {d : DataW H} (hd : ds[j]? = some d) {ps : List MemPlace}
  (hr : DataW.Trod enc P w 0 (fun _ => true) true t (.slice A n c) d ps) : c * P.bytesOf e ≤ 140737488351232 := by
 obtain ⟨fuel, hf⟩ := hr
 rcases Go.Deep.open_slice ht hf with ⟨hcs, _⟩ | ⟨a, len, cap, m, k, D, Pl, hcs, hb, hl, hm, hmm, hx, _⟩
 ·simp [Value.cells] at hcs
  obtain ⟨_, _, rfl⟩ := hcs
  simp
 ·simp [Value.cells] at hcs
  obtain ⟨_, rfl, rfl⟩ := hcs
  injection hx with hx _
  subst hx
  have := sized_slice h hj hd ht
  simp only [List.length_map, List.length_range, if_true] at this hmm
  subst hmm
  have e : ∀ a b : Nat, a ≤ b → a + (b - a) = b := fun _ _ _ => by omega
  rw [e _ _ hl] at this
  exact this
theorem slOfTrod {P : Program} {t : TypeId} {E : Elt α} (h : OfT P t (slE E)) {H : Type} {enc : TypeId × Value → H} {w : World} {A : Option Addr} {n c : Nat} {d : DataW H} {ps : List MemPlace}
  (hd : DataW.Trod enc P w 0 (fun _ => true) true t (.slice A n c) d ps) : ∃ l : List α, n = l.length ∧ SlA E (· < w.heap.size) w A c l ∧ sumBulk E.bulk l + 1 ≤ Rows.uptoBulk d := by
 obtain ⟨fuel, hf⟩ := hd
 obtain ⟨l, ⟨v, hv, A', c', he, hs⟩, hb⟩ := h.of enc w fuel _ _ hf
 have e : v = .slice A n c := by simpa [Value.cells] using hv.symm
 rw [e] at he
 injection he with e1 e2 e3
 subst e1; subst e3
 exact ⟨l, e2, hs, hb⟩
end
theorem cells_new (w : World) (news : List Value) (t : TypeId) : ∀ j u, news[j]? = some u → (w.alloc (.cells news.toArray t)).cell? ((⟨w.heap.size, 0, none⟩ : Addr).add j) = some u := by
 intro j u hj
 have e1 : (w.alloc (.cells news.toArray t)).heap[w.heap.size]? = some (.cells news.toArray t) := heap_alloc_new w _
 rw [add_plain]
 simp only [World.cell?]
 rw [e1]
 simpa using hj
theorem push_step (P : Program) (w0 : World) (t ty : TypeId) (base : Nat) (e : TypeId) (z : Value) (size bytes : Nat) (ht : P.underlying t = some (.slice e))
  (hinfo : (P.info? e).map (fun i => (i.zero, i.size, i.bytes)) = some (some z, size, bytes)) (hzs : z.cells.size = size) (hsz : 0 < size)
  (v : Value) (n : Nat) (xs : List Value) (hown : w0.ownsRow base e size v n xs) (news : List Value) (hl : news.length = size) (h1 : ∀ u ∈ news, u.oneCell' = true)
  (h63 : n + 1 ≤ maxLen) (hbytes : (n + 1) * bytes ≤ 140737488355328) (hbase : base ≤ w0.heap.size) {B : Nat} {W : World} (hbel : Below B W w0) (hB : B ≤ base) :
  ∃ v' w', (Builtin.append_ #[t, t] ty #[v, .slice (some ⟨w0.heap.size, 0, none⟩) 1 1]).run P (w0.alloc (.cells news.toArray e)) = .ok v' w' ∧ w'.ownsRow base e size v' (n + 1) (xs ++ news) ∧ w0.grownBy w' v.ownBlock ∧ Below B W w' ∧
   (v'.ownBlock = v.ownBlock ∨ ∃ g, v'.ownBlock = some g ∧ w0.heap.size ≤ g) := by
 obtain ⟨i, hi, hz0, hz1, hz2⟩ := info_parts hinfo
 obtain ⟨v', w', hr, h2, h3, _, h5⟩ := run_append_own_at (P := P) (w0.alloc (.cells news.toArray e)) base t ty e i z size bytes ht hi hz0 hz1 hz2 hzs hsz v n xs (hown.alloc _) ⟨w0.heap.size, 0, none⟩ 1 1 news (by rw [hl, Nat.one_mul]) (cells_new w0 news e) h1 h63 hbytes (by simp; omega)
 refine ⟨v', w', hr, h2, (World.grownBy_alloc w0 _ _).trans h3, (hbel.alloc (by omega) _).grown h3 (by simp; omega) (fun k hk => ?_), ?_⟩
 ·have := (hown.lt k hk).1; omega
 ·rcases h5 with h5 | h5
  ·exact .inl h5
  ·exact .inr ⟨_, h5, by simp⟩
theorem wpList_push {P : Program} {ops : Array Oper} {rest : List Oper} {o : Oper} {a : Act} {Q : Exit → Act → World → Prop} {w0 : World} (hgd : o.guard = none) (s x : Operand) (t : TypeId)
  (ho : o.op = .call { callee := .builtin .append, args := #[s, x], argTypes := #[t, t] })
  (base : Nat) (e : TypeId) (z : Value) (size bytes : Nat) (ht : P.underlying t = some (.slice e))
  (hinfo : (P.info? e).map (fun i => (i.zero, i.size, i.bytes)) = some (some z, size, bytes)) (hzs : z.cells.size = size) (hsz : 0 < size)
  (v : Value) (n : Nat) (xs : List Value) (hs : a.eval s = v) (hown : w0.ownsRow base e size v n xs) (news : List Value) (hx : a.eval x = .slice (some ⟨w0.heap.size, 0, none⟩) 1 1) (hl : news.length = size) (h1 : ∀ u ∈ news, u.oneCell' = true)
  (h63 : n + 1 ≤ maxLen) (hbytes : (n + 1) * bytes ≤ 140737488355328) (hbase : base ≤ w0.heap.size) {B : Nat} {W : World} (hbel : Below B W w0) (hB : B ≤ base)
  (h : ∀ v' w', w'.ownsRow base e size v' (n + 1) (xs ++ news) → w0.grownBy w' v.ownBlock → Below B W w' → (v'.ownBlock = v.ownBlock ∨ ∃ g, v'.ownBlock = some g ∧ w0.heap.size ≤ g) → wpList P ops Q rest (a.put o.dst v') w') :
  wpList P ops Q (o :: rest) a (w0.alloc (.cells news.toArray e)) := by
 refine wpList_plain hgd fun K hK => ?_
 obtain ⟨v', w', hr, h2, h3, h4, h5⟩ := push_step P w0 t o.type base e z size bytes ht hinfo hzs hsz v n xs hown news hl h1 h63 hbytes hbase hbel hB
 unfold Oper.wp execOp
 simp only [ho, resolve, invoke, builtin, Sem.run_bind, Sem.run_pure, Result.andThen_ok, List.map_toArray, List.map_cons, List.map_nil, hs, hx, hr]
 exact hK _ _ (h v' w' h2 h3 h4 h5)
theorem run_append_src_own {P : Program} (w : World) (base : Nat) (t tx ty e : TypeId) (z : Value) (size bytes : Nat) (ht : P.underlying t = some (.slice e))
  (hinfo : (P.info? e).map (fun i => (i.zero, i.size, i.bytes)) = some (some z, size, bytes)) (hzs : z.cells.size = size) (hsz : 0 < size)
  (v : Value) (n : Nat) (xs : List Value) (hown : w.ownsRow base e size v n xs) (x : Value) (m : Nat) (news : List Value) (hs : Src P size tx x m news w)
  (h63 : n + m ≤ maxLen) (hbytes : (n + m) * bytes ≤ 140737488355328) (hbase : base ≤ w.heap.size) :
  ∃ v' w', (Builtin.append_ #[t, tx] ty #[v, x]).run P w = .ok v' w' ∧ w'.ownsRow base e size v' (n + m) (xs ++ news) ∧ w.grownBy w' v.ownBlock ∧ (v'.ownBlock = v.ownBlock ∨ v'.ownBlock = some w.heap.size) := by
 obtain ⟨i, hi, hz, rfl, rfl⟩ := info_parts hinfo
 have hsmall : n + m ≤ 9223372036854775807 := by simp only [maxLen] at h63; omega
 have hlen : (xs ++ news).length = (n + m) * i.size := by rw [List.length_append, hown.1, hs.newsLen, Nat.add_mul]
 have grown : ∀ (old : Nat), old < n + m → ∀ (row : Option Nat),
   (w.drew.alloc (.cells ((xs ++ news).toArray ++ Builtin.zeroCells z.cells (grownCap w (n + m) old e - (n + m))) e)).ownsRow base e i.size
    (.slice (some ⟨w.heap.size, 0, none⟩) (n + m) (grownCap w (n + m) old e)) (n + m) (xs ++ news) ∧
   w.grownBy (w.drew.alloc (.cells ((xs ++ news).toArray ++ Builtin.zeroCells z.cells (grownCap w (n + m) old e - (n + m))) e)) row := by
  intro old ho row
  have hge := grownCap_ge w (n + m) old e
  have hcm : grownCap w (n + m) old e ≤ maxLen := grownCap_le_maxLen w (n + m) old e h63
  refine ⟨⟨hlen, .inr ⟨w.heap.size, _, _, rfl, hbase, heap_alloc_new w.drew _, hge, hcm, ?_, ?_⟩⟩, ⟨rfl, rfl, rfl, by simp, fun k hk _ => Below.heap_alloc w.drew _ k hk⟩⟩
  ·rw [Array.size_append, List.size_toArray, size_zeroCells, hzs, hlen, ← Nat.add_mul]
   congr 1
   omega
  ·simp only [Array.toList_append, ← hlen]
   exact List.take_left
 rcases hown.2 with ⟨rfl, rfl⟩ | ⟨g, cap, cur, rfl, hbg, hg, hnc, hcm, hcs, htake⟩
 ·have hx : xs = [] := List.eq_nil_of_length_eq_zero (by simpa using hown.1)
  subst hx
  by_cases hm : m = 0
  ·subst hm
   have hn : news = [] := List.eq_nil_of_length_eq_zero (by simpa using hs.newsLen)
   subst hn
   refine ⟨.slice none 0 0, w, ?_, World.ownsRow_nil w base e i.size, ⟨rfl, rfl, rfl, Nat.le_refl _, fun _ _ _ => rfl⟩, Or.inl rfl⟩
   have hc := hs.cells
   rcases hs.kind with ⟨e', hk⟩ | hk <;> simp [Builtin.append_, run_underlying ht, run_underlying hk, sizeOf, typeInfo, hi, hs.len, hc]
  ·have hr := run_append_grow_src (P := P) w t tx ty e i z ht hi hz none 0 0 [] (by simp [Builtin.firstCells]) x m news hs (by omega) (by omega) (growslice_fits (by omega) hbytes)
   have hgr := grown 0 (by omega) (Value.ownBlock (.slice none 0 0))
   exact ⟨_, _, hr, hgr.1, hgr.2, Or.inr rfl⟩
 ·by_cases hroom : n + m ≤ cap
  ·have hfit : n * i.size + news.length ≤ cur.size := by rw [hs.newsLen, hcs, ← Nat.add_mul]; exact Nat.mul_le_mul_right _ hroom
   have hst := run_storeCells_at P g (n * i.size) e news 0 cur w hg (by simpa using hfit) hs.one
   simp only [Nat.add_zero] at hst
   have hc := hs.cells
   have hr : (Builtin.append_ #[t, tx] ty #[.slice (some ⟨g, 0, none⟩) n cap, x]).run P w =
     .ok (.slice (some ⟨g, 0, none⟩) (n + m) cap) (w.setRow g (cur.toList.take (n * i.size) ++ news ++ cur.toList.drop (n * i.size + news.length)).toArray) := by
    rcases hs.kind with ⟨e', hk⟩ | hk <;> simp [Builtin.append_, run_underlying ht, run_underlying hk, sizeOf, typeInfo, hi, hs.len, hc, hroom, Addr.add_lit, hst]
   refine ⟨_, _, hr, ⟨hlen, .inr ⟨g, cap, _, rfl, hbg, setRow_heap w g cur _ e _ hg, hroom, hcm, ?_, ?_⟩⟩, ⟨rfl, rfl, rfl, by simp, fun k _ hk => setRow_other w g k _ (fun e => hk (by simp [Value.ownBlock, e]))⟩, Or.inl rfl⟩
   ·simp only [List.size_toArray, List.length_append, List.length_take, List.length_drop, Array.length_toList]
    omega
   ·rw [htake, ← hlen]
    exact List.take_left
  ·have holds : ∀ j u, xs[j]? = some u → w.cell? ((⟨g, 0, none⟩ : Addr).add j) = some u := hown.cells (g := g) rfl
   have hold : (Builtin.firstCells i.size n (.slice (some ⟨g, 0, none⟩) n cap)).run P w.drew = .ok xs.toArray w.drew := run_firstCells_some (P := P) w.drew i.size n ⟨g, 0, none⟩ n cap xs hown.1 (by simpa using holds)
   have hr := run_append_grow_src (P := P) w t tx ty e i z ht hi hz (some ⟨g, 0, none⟩) n cap xs hold x m news hs (by omega) (by omega) (growslice_fits (by omega) hbytes)
   have hgr := grown cap (by omega) (Value.ownBlock (.slice (some ⟨g, 0, none⟩) n cap))
   exact ⟨_, _, hr, hgr.1, hgr.2, Or.inr rfl⟩
theorem wpList_append_src {P : Program} {ops : Array Oper} {rest : List Oper} {o : Oper} {a : Act} {Q : Exit → Act → World → Prop} {w : World} (hgd : o.guard = none) (s x : Operand) (t tx : TypeId)
  (ho : o.op = .call { callee := .builtin .append, args := #[s, x], argTypes := #[t, tx] })
  (base : Nat) (e : TypeId) (z : Value) (size bytes : Nat) (ht : P.underlying t = some (.slice e))
  (hinfo : (P.info? e).map (fun i => (i.zero, i.size, i.bytes)) = some (some z, size, bytes)) (hzs : z.cells.size = size) (hsz : 0 < size)
  (v : Value) (n : Nat) (xs : List Value) (hs : a.eval s = v) (hown : w.ownsRow base e size v n xs) (vx : Value) (hx : a.eval x = vx) (m : Nat) (news : List Value) (hsrc : Src P size tx vx m news w)
  (h63 : n + m ≤ maxLen) (hbytes : (n + m) * bytes ≤ 140737488355328) (hbase : base ≤ w.heap.size) {B : Nat} {W : World} (hbel : Below B W w) (hB : B ≤ base)
  (h : ∀ v' w', w'.ownsRow base e size v' (n + m) (xs ++ news) → w.grownBy w' v.ownBlock → Below B W w' → (v'.ownBlock = v.ownBlock ∨ v'.ownBlock = some w.heap.size) → wpList P ops Q rest (a.put o.dst v') w') :
  wpList P ops Q (o :: rest) a w := by
 refine wpList_plain hgd fun K hK => ?_
 obtain ⟨v', w', hr, h2, h3, h5⟩ := run_append_src_own (P := P) w base t tx o.type e z size bytes ht hinfo hzs hsz v n xs hown vx m news hsrc h63 hbytes hbase
 unfold Oper.wp execOp
 simp only [ho, resolve, invoke, builtin, Sem.run_bind, Sem.run_pure, Result.andThen_ok, List.map_toArray, List.map_cons, List.map_nil, hs, hx, hr]
 exact hK _ _ (h v' w' h2 h3 (hbel.grown h3 (by omega) (fun k hk => by have := (hown.lt k hk).1; omega)) h5)
theorem Src.of_sl {P : Program} {α : Type} {E : Elt α} {F : Nat → Prop} {w : World} {A : Option Addr} {c : Nat} {l : List α} {tx e' : TypeId} (h : SlA E F w A c l) (hk : P.underlying tx = some (.slice e')) (f : α → List Value)
  (hf : ∀ cs x, E.R F w cs x → cs = f x) (hlen : ∀ x, (f x).length = E.sz) (h1 : ∀ x, ∀ u ∈ f x, u.oneCell' = true) : Src P E.sz tx (.slice A l.length c) l.length (l.flatMap f) w := by
 have hl : (l.flatMap f).length = l.length * E.sz := by
  clear h
  induction l with
  | nil => simp
  | cons x l ih => rw [List.flatMap_cons, List.length_append, hlen, ih, List.length_cons, Nat.succ_mul, Nat.add_comm]
 rcases A with _ | ad
 ·have h0 : l = [] := by
   cases l with
   | nil => rfl
   | cons x l => obtain ⟨b, off, cs, e, _⟩ := h.2.2 0 x rfl; cases e
  subst h0
  exact Src.ofNil w hk c
 ·refine Src.ofSlice w hk ad l.length c _ hl (fun j u hu => ?_) (fun u hu => ?_)
  ·have key : ∀ (l : List α) (j : Nat) (u : Value), (l.flatMap f)[j]? = some u → ∃ i r x, l[i]? = some x ∧ (f x)[r]? = some u ∧ j = i * E.sz + r := by
    intro l
    induction l with
    | nil => intro j u h; simp at h
    | cons x l ih =>
     intro j u h
     rw [List.flatMap_cons] at h
     by_cases hj : j < (f x).length
     ·rw [List.getElem?_append_left hj] at h
      exact ⟨0, j, x, rfl, h, by omega⟩
     ·rw [List.getElem?_append_right (by omega)] at h
      obtain ⟨i, r, y, h1, h2, h3⟩ := ih _ _ h
      refine ⟨i + 1, r, y, by simpa using h1, h2, ?_⟩
      rw [hlen] at h3
      have := hlen x
      rw [Nat.succ_mul]; omega
   obtain ⟨i, r, x, hx, hr, rfl⟩ := key l j u hu
   obtain ⟨b, off, cs, e, _, hc, hR⟩ := h.2.2 i x hx
   injection e with e
   subst e
   rw [add_plain]
   exact hc r u (by rw [hf cs x hR]; exact hr)
  ·obtain ⟨x, _, hu'⟩ := List.mem_flatMap.1 hu
   exact h1 x u hu'
theorem conv_string {P : Program} {F : Nat → Prop} {w : World} {A : Option Addr} {c : Nat} {l : List UInt8} {src dst e : TypeId} (h : SlA bytE F w A c l) (hs : P.underlying src = some (.slice e)) (he : P.underlying e = some (.int .u8)) (hd : P.underlying dst = some .string) :
  (convert src dst (.slice A l.length c)).run P w = .ok (.string ⟨l.toArray⟩) w := by
 rcases A with _ | ad
 ·have h0 : l = [] := by
   cases l with
   | nil => rfl
   | cons x l => obtain ⟨b, off, cs, e, _⟩ := h.2.2 0 x rfl; cases e
  subst h0
  show (convert src dst (.slice none 0 c)).run P w = _
  rw [run_convert_bytes_string w src dst e none 0 c hs he hd]
  simp [Conv.bytesToString]
  rfl
 ·refine run_convert_bytes_back w src dst e ad c l hs he hd (fun j hj => ?_)
  obtain ⟨b, off, e, _, hc⟩ := h.byt_ hj
  injection e with e
  subst e
  rw [add_plain]; exact hc
theorem SlA.cut {α : Type} {E : Elt α} {F : Nat → Prop} {w : World} {b off c : Nat} {l : List α} {k : Nat} (h : SlA E F w (some ⟨b, off, none⟩) c l) (hk : k ≤ l.length) : SlA E F w (some ⟨b, off + k * E.sz, none⟩) (c - k) (l.drop k) := by
 refine ⟨by rw [List.length_drop]; have := h.1; omega, by have := h.2.1; omega, fun i x hx => ?_⟩
 rw [List.getElem?_drop] at hx
 obtain ⟨b', off', cs, e, hF, hc, hR⟩ := h.2.2 (k + i) x hx
 injection e with e
 injection e with e1 e2
 subst e1; subst e2
 refine ⟨b, _, cs, rfl, hF, fun j u hu => ?_, hR⟩
 have := hc j u hu
 rw [Nat.add_mul] at this
 rw [← this]
 congr 2
 omega
theorem SlA.head {α : Type} {E : Elt α} {F : Nat → Prop} {w : World} {A : Option Addr} {c : Nat} {l : List α} {k : Nat} (h : SlA E F w A c l) (hk : k ≤ l.length) : SlA E F w A c (l.take k) := by
 refine ⟨by rw [List.length_take]; have := h.1; omega, h.2.1, fun i x hx => ?_⟩
 rw [List.getElem?_take] at hx
 split at hx
 ·exact h.2.2 i x hx
 ·cases hx
theorem bdrewN {B : Nat} {a w : World} (h : Below B a w) (q : Nat) : Below B a (w.drewN q) := ⟨h.os, h.tape, h.output, h.size, h.block⟩
theorem SlA.drewN {α : Type} {E : Elt α} {F : Nat → Prop} {w : World} {A : Option Addr} {c : Nat} {l : List α} (h : SlA E F w A c l) (n : Nat) : SlA E F (w.drewN n) A c l := h.keep fun _ _ => rfl
theorem flat_get {α : Type} (f : α → List Value) (sz : Nat) (hf : ∀ x, (f x).length = sz) (l : List α) {i j : Nat} {x : α} (hx : l[i]? = some x) (hj : j < sz) : (l.flatMap f)[i * sz + j]? = (f x)[j]? := by
 induction l generalizing i with
 | nil => simp at hx
 | cons y l ih =>
  rw [List.flatMap_cons]
  match i, hx with
  | 0, hx =>
   simp at hx; subst hx
   rw [List.getElem?_append_left (by rw [hf]; omega)]
   simp
  | i + 1, hx =>
   rw [List.getElem?_append_right (by rw [hf, Nat.succ_mul]; omega), hf]
   rw [show (i + 1) * sz + j - sz = i * sz + j by rw [Nat.succ_mul]; omega]
   exact ih (by simpa using hx)
theorem own_sl {α : Type} {E : Elt α} {w : World} {base : Nat} {e : TypeId} {v : Value} {n : Nat} {l : List α} (f : α → List Value) (hf : ∀ x, (f x).length = E.sz) (hpos : 0 < E.sz) (h : w.ownsRow base e E.sz v n (l.flatMap f))
  (hR : ∀ x ∈ l, E.R (· < w.heap.size) w (f x) x) : ∃ A c, v = .slice A n c ∧ n = l.length ∧ SlA E (· < w.heap.size) w A c l := by
 have hfl : (l.flatMap f).length = l.length * E.sz := by
  clear h hR
  induction l with
  | nil => simp
  | cons x l ih => rw [List.flatMap_cons, List.length_append, hf, ih, List.length_cons, Nat.succ_mul, Nat.add_comm]
 have hn : n = l.length := by
  have := h.1; rw [hfl] at this
  exact (Nat.eq_of_mul_eq_mul_right hpos this).symm
 rcases h.2 with ⟨rfl, h0⟩ | ⟨g, cap, cur, rfl, hb, hh, hnc, hcm, hcs, ht⟩
 ·have : l = [] := List.eq_nil_of_length_eq_zero (by omega)
  subst this
  exact ⟨none, 0, by rw [h0], hn, SlA.nil E _ w _ _ (by unfold maxLen; omega)⟩
 ·have hlt : g < w.heap.size := by
   rcases Nat.lt_or_ge g w.heap.size with hlt | hge
   ·exact hlt
   ·rw [Array.getElem?_eq_none hge] at hh; cases hh
  refine ⟨_, cap, rfl, hn, by omega, hcm, fun i x hx => ⟨g, 0, f x, rfl, hlt, ?_, hR x (List.mem_of_getElem? hx)⟩⟩
  intro j u hj
  have hjl : j < E.sz := by
   rcases Nat.lt_or_ge j (f x).length with h | h
   ·rw [hf] at h; exact h
   ·rw [List.getElem?_eq_none h] at hj; cases hj
  have := h.cells (g := g) rfl (i * E.sz + j) u (by rw [flat_get f E.sz hf l hx hjl]; exact hj)
  rw [add_plain] at this
  simpa using this
structure Nest (w : World) (B g : Nat) (t e : TypeId) (size : Nat) (vs : List Value) (xss : List (List Value)) (ns : List Nat) : Prop where
 blk : w.heap[g]? = some (.cells vs.toArray t (0, 0))
 base : B ≤ g
 ne : t ≠ e
 len : vs.length = xss.length
 lenN : ns.length = xss.length
 own : ∀ (j : Nat) (v : Value) (xs : List Value) (n : Nat), vs[j]? = some v → xss[j]? = some xs → ns[j]? = some n → w.ownsRow B e size v n xs
 apart : ∀ (i j : Nat) (v u : Value), i ≠ j → vs[i]? = some v → vs[j]? = some u → v.ownBlock = none ∨ v.ownBlock ≠ u.ownBlock
theorem ownBlock_cases {w : World} {B : Nat} {e : TypeId} {size n : Nat} {v : Value} {xs : List Value} (h : w.ownsRow B e size v n xs) : v.ownBlock = none ∨ ∃ g cur, v.ownBlock = some g ∧ g < w.heap.size ∧ w.heap[g]? = some (.cells cur e (0, 0)) := by
 rcases h.2 with ⟨rfl, _⟩ | ⟨g, cap, cur, rfl, _, hh, _⟩
 ·exact .inl rfl
 ·refine .inr ⟨g, cur, rfl, ?_, hh⟩
  rcases Nat.lt_or_ge g w.heap.size with hlt | hge
  ·exact hlt
  ·rw [Array.getElem?_eq_none hge] at hh; cases hh
theorem Nest.lt {w : World} {B g : Nat} {t e : TypeId} {size : Nat} {vs : List Value} {xss : List (List Value)} {ns : List Nat} (h : Nest w B g t e size vs xss ns) : g < w.heap.size := by
 rcases Nat.lt_or_ge g w.heap.size with hlt | hge
 ·exact hlt
 ·have := h.blk; rw [Array.getElem?_eq_none hge] at this; cases this
theorem Nest.row_ne {w : World} {B g : Nat} {t e : TypeId} {size : Nat} {vs : List Value} {xss : List (List Value)} {ns : List Nat} (h : Nest w B g t e size vs xss ns) {j : Nat} {v : Value} (hv : vs[j]? = some v) : v.ownBlock ≠ some g := by
 have hj : j < vs.length := by
  rcases Nat.lt_or_ge j vs.length with h | h
  ·exact h
  ·rw [List.getElem?_eq_none h] at hv; cases hv
 have ho := h.own j v _ _ hv (List.getElem?_eq_getElem (by rw [← h.len]; exact hj)) (List.getElem?_eq_getElem (by rw [h.lenN, ← h.len]; exact hj))
 rcases ownBlock_cases ho with h0 | ⟨g', cur, h1, _, h2⟩
 ·rw [h0]; simp
 ·rw [h1]
  intro e1
  injection e1 with e1
  subst e1
  have := h.blk
  rw [h2] at this
  injection this with this
  injection this with _ this _
  exact h.ne this.symm
theorem Nest.cell {w : World} {B g : Nat} {t e : TypeId} {size : Nat} {vs : List Value} {xss : List (List Value)} {ns : List Nat} (h : Nest w B g t e size vs xss ns) (j : Nat) : w.cell? ⟨g, j, none⟩ = vs[j]? := by
 have := cell_of_row w g j vs.toArray t (0, 0) h.blk
 simpa using this
theorem Nest.frozen {w : World} {B g : Nat} {t e : TypeId} {size : Nat} {vs : List Value} {xss : List (List Value)} {ns : List Nat} (h : Nest w B g t e size vs xss ns) (j : Nat) : w.frozen? ⟨g, j, none⟩ = false := by
 have := h.blk
 simp [World.frozen?, this]
theorem Nest.keep {w w' : World} {B g : Nat} {t e : TypeId} {size : Nat} {vs : List Value} {xss : List (List Value)} {ns : List Nat} (h : Nest w B g t e size vs xss ns) {row : Option Nat} (hg : w.grownBy w' row) (h1 : row ≠ some g) (h2 : ∀ v ∈ vs, v.ownBlock = none ∨ v.ownBlock ≠ row) : Nest w' B g t e size vs xss ns :=
 ⟨(hg.block g h.lt (fun e => h1 e.symm)).trans h.blk, h.base, h.ne, h.len, h.lenN, fun j v xs n hv hx hn => (h.own j v xs n hv hx hn).kept hg (h2 v (List.mem_of_getElem? hv)), h.apart⟩
theorem Nest.alloc {w : World} {B g : Nat} {t e : TypeId} {size : Nat} {vs : List Value} {xss : List (List Value)} {ns : List Nat} (h : Nest w B g t e size vs xss ns) (o : Obj) : Nest (w.alloc o) B g t e size vs xss ns :=
 h.keep (World.grownBy_alloc w o none) (by simp) (fun v hv => by
  obtain ⟨j, hj⟩ := List.getElem?_of_mem hv
  cases hb : v.ownBlock with
  | none => exact .inl rfl
  | some k => exact .inr (by simp))
theorem Nest.push {w w' : World} {B g : Nat} {t e : TypeId} {size : Nat} {vs : List Value} {xss : List (List Value)} {ns : List Nat} (h : Nest w B g t e size vs xss ns) {j : Nat} {v v' : Value} {xs : List Value} {n' : Nat} (hv : vs[j]? = some v)
  (hown : w'.ownsRow B e size v' n' xs) (hg : w.grownBy w' v.ownBlock) (hat : v'.ownBlock = v.ownBlock ∨ v'.ownBlock = none ∨ ∃ k, v'.ownBlock = some k ∧ w.heap.size ≤ k) :
  Nest (w'.setCell ⟨g, j, none⟩ v') B g t e size (vs.set j v') (xss.set j xs) (ns.set j n') := by
 have hj : j < vs.length := by
  rcases Nat.lt_or_ge j vs.length with h | h
  ·exact h
  ·rw [List.getElem?_eq_none h] at hv; cases hv
 have hb1 : w'.heap[g]? = some (.cells vs.toArray t (0, 0)) := (hg.block g h.lt (fun e => h.row_ne hv e.symm)).trans h.blk
 have old : ∀ (i : Nat) (u : Value) (ys : List Value) (m : Nat), i ≠ j → vs[i]? = some u → xss[i]? = some ys → ns[i]? = some m → w'.ownsRow B e size u m ys := fun i u ys m hij hu hy hm =>
  (h.own i u ys m hu hy hm).kept hg (h.apart i j u v hij hu hv)
 have set_ : ∀ {u : Value} {m : Nat} {ys : List Value}, w'.ownsRow B e size u m ys → (w'.setCell ⟨g, j, none⟩ v').ownsRow B e size u m ys := fun {u m ys} ho => by
  obtain ⟨h1, h2⟩ := ho
  refine ⟨h1, ?_⟩
  rcases h2 with h2 | ⟨g', cap, cur, hv', hg', hh, r⟩
  ·exact .inl h2
  ·refine .inr ⟨g', cap, cur, hv', hg', ?_, r⟩
   rw [Below.heap_setCell _ _ _ _ (by
    intro e1
    have e1 : g' = g := e1
    subst e1
    rw [hh] at hb1
    injection hb1 with hb1
    injection hb1 with _ hb1 _
    exact h.ne hb1.symm)]
   exact hh
 refine ⟨?_, h.base, h.ne, by simp [h.len], by simp [h.lenN], ?_, ?_⟩
 ·have e1 : (w'.setCell ⟨g, j, none⟩ v').heap[g]? = some (.cells (vs.toArray.setIfInBounds j v') t (0, 0)) := by
   simp [World.setCell, Array.getElem?_modify, hb1]
  rw [e1]
  simp
 ·intro i u ys m hu hy hm
  apply set_
  by_cases hij : j = i
  ·subst hij
   have hx : j < xss.length := by rw [← h.len]; exact hj
   have hn : j < ns.length := by rw [h.lenN]; exact hx
   rw [List.getElem?_set_self hj] at hu
   rw [List.getElem?_set_self hx] at hy
   rw [List.getElem?_set_self hn] at hm
   injection hu with hu; injection hy with hy; injection hm with hm
   subst hu; subst hy; subst hm
   exact hown
  ·rw [List.getElem?_set_ne hij] at hu hy hm
   exact old i u ys m (fun e => hij e.symm) hu hy hm
 ·intro a b u1 u2 hab h1 h2
  have lt_ : ∀ (i : Nat) (u : Value) (k : Nat), vs[i]? = some u → u.ownBlock = some k → k < w.heap.size := by
   intro i u k hu hk
   have hi : i < vs.length := by
    rcases Nat.lt_or_ge i vs.length with h | h
    ·exact h
    ·rw [List.getElem?_eq_none h] at hu; cases hu
   have ho := h.own i u _ _ hu (List.getElem?_eq_getElem (by rw [← h.len]; exact hi)) (List.getElem?_eq_getElem (by rw [h.lenN, ← h.len]; exact hi))
   exact (ho.lt k hk).2
  by_cases ha : j = a
  ·subst ha
   rw [List.getElem?_set_self hj] at h1
   rw [List.getElem?_set_ne hab] at h2
   injection h1 with h1; subst h1
   rcases hat with e1 | e1 | ⟨k, e1, hk⟩
   ·rw [e1]; exact h.apart j b v u2 hab hv h2
   ·exact .inl e1
   ·right
    rw [e1]
    intro e2
    have := lt_ b u2 k h2 e2.symm
    omega
  ·rw [List.getElem?_set_ne ha] at h1
   by_cases hb : j = b
   ·subst hb
    rw [List.getElem?_set_self hj] at h2
    injection h2 with h2; subst h2
    rcases hat with e1 | e1 | ⟨k, e1, hk⟩
    ·rw [e1]; exact h.apart a j u1 v hab h1 hv
    ·rw [e1]
     cases hu : u1.ownBlock with
     | none => exact .inl rfl
     | some k => exact .inr (by simp)
    ·rw [e1]
     cases hu : u1.ownBlock with
     | none => exact .inl rfl
     | some k' =>
      right
      intro e2
      injection e2 with e2
      have := lt_ a u1 k' h1 hu
      omega
   ·rw [List.getElem?_set_ne hb] at h2
    exact h.apart a b u1 u2 hab h1 h2
theorem Nest.after {w w' : World} {B g : Nat} {t e : TypeId} {size : Nat} {vs : List Value} {xss : List (List Value)} {ns : List Nat} (h : Nest w B g t e size vs xss ns) {j : Nat} {v : Value} (hv : vs[j]? = some v) (hg : w.grownBy w' v.ownBlock) (i : Nat) :
  w'.cell? ⟨g, i, none⟩ = vs[i]? ∧ w'.frozen? ⟨g, i, none⟩ = false := by
 have hb1 := hg.block g h.lt (fun e => h.row_ne hv e.symm)
 exact ⟨(World.cell?_of_block (a := ⟨g, i, none⟩) hb1).trans (h.cell i), (World.frozen?_of_block (a := ⟨g, i, none⟩) hb1).trans (h.frozen i)⟩
theorem Nest.made (w : World) (B : Nat) (t e : TypeId) (size p : Nat) (hB : B ≤ w.heap.size) (hne : t ≠ e) :
  Nest (w.alloc (.cells (madeCells #[.slice none 0 0] p) t)) B w.heap.size t e size (List.replicate p (.slice none 0 0)) (List.replicate p []) (List.replicate p 0) := by
 refine ⟨?_, hB, hne, by simp, by simp, ?_, ?_⟩
 ·rw [heap_alloc_new w _]
  congr 2
  apply Array.ext'
  rw [toList_madeCells_one]
 ·intro j v xs m hv hx hn
  rw [List.getElem?_replicate] at hv hx hn
  split at hv <;> simp_all
  subst hv; subst hx; subst hn
  exact World.ownsRow_nil _ _ _ _
 ·intro i j v u _ hv _
  rw [List.getElem?_replicate] at hv
  split at hv <;> simp_all
  subst hv
  exact .inl rfl
theorem Nest.sl {α : Type} {E : Elt α} {w : World} {B g : Nat} {t e : TypeId} {vs : List Value} {ls : List (List α)} {cap : Nat} (f : α → List Value) (hf : ∀ x, (f x).length = E.sz) (hpos : 0 < E.sz) (hR : ∀ l ∈ ls, ∀ x ∈ l, ∀ F w, E.R F w (f x) x)
  (h : Nest w B g t e E.sz vs (ls.map fun l => l.flatMap f) (ls.map (·.length))) (hcap : ls.length ≤ cap) (hm : cap ≤ maxLen) : SlA (slE E) (· < w.heap.size) w (some ⟨g, 0, none⟩) cap ls := by
 refine ⟨hcap, hm, fun i l hl => ?_⟩
 have hi : i < ls.length := by
  rcases Nat.lt_or_ge i ls.length with h | h
  ·exact h
  ·rw [List.getElem?_eq_none h] at hl; cases hl
 have hlen : vs.length = ls.length := by rw [h.len, List.length_map]
 obtain ⟨v, hv⟩ : ∃ v, vs[i]? = some v := ⟨vs[i], List.getElem?_eq_getElem (by omega)⟩
 have ho := h.own i v _ _ hv (by rw [List.getElem?_map, hl]; rfl) (by rw [List.getElem?_map, hl]; rfl)
 obtain ⟨A, c, rfl, _, hs⟩ := own_sl f hf hpos ho (fun x hx => hR l (List.mem_of_getElem? hl) x hx _ _)
 refine ⟨g, 0, [_], rfl, h.lt, fun j u hj => ?_, _, rfl, A, c, rfl, hs⟩
 match j, hj with
 | 0, hj =>
  simp at hj; subst hj
  have := h.cell i
  rw [hv] at this
  simpa [slE] using this
theorem block_lt {w : World} {g : Nat} {o : Obj} (h : w.heap[g]? = some o) : g < w.heap.size := by
 rcases Nat.lt_or_ge g w.heap.size with hlt | hge
 ·exact hlt
 ·rw [Array.getElem?_eq_none hge] at h; cases h
end Go.Proofs.YtfndhfekbbbliaaGreatDoor

/-
  Words of my own for memory that a call's own objects own: which blocks may have turned ('Frm'); a slice whose backing row is owned, wherever it begins ('OwnS'), and append onto it. No condition: plain definitions and lemmas over any program.
-/
namespace Go.Proofs.YtfndhfekbbbliaaGreatDoor
open Go.RowKit Go.ChangeShapes Go.WideShapes
set_option linter.unusedVariables false
structure Frm (F : Nat → Prop) (w w' : World) : Prop where
 os : w'.os = w.os
 tape : w'.tape = w.tape
 output : w'.output = w.output
 size : w.heap.size ≤ w'.heap.size
 block : ∀ k, k < w.heap.size → ¬ F k → w'.heap[k]? = w.heap[k]?
theorem Frm.refl (F : Nat → Prop) (w : World) : Frm F w w := ⟨rfl, rfl, rfl, Nat.le_refl _, fun _ _ _ => rfl⟩
theorem Frm.trans {F F' G : Nat → Prop} {a b c : World} (h : Frm F a b) (h' : Frm F' b c) (h1 : ∀ k, F k → G k) (h2 : ∀ k, F' k → G k ∨ a.heap.size ≤ k) : Frm G a c :=
 ⟨h'.os.trans h.os, h'.tape.trans h.tape, h'.output.trans h.output, Nat.le_trans h.size h'.size, fun k hk hn => (h'.block k (Nat.lt_of_lt_of_le hk h.size) (fun hf => by rcases h2 k hf with h3 | h3; exact hn h3; omega)).trans (h.block k hk (fun hf => hn (h1 k hf)))⟩
theorem Frm.ofBelow {F : Nat → Prop} {w w' : World} (h : Below w.heap.size w w') : Frm F w w' := ⟨h.os, h.tape, h.output, h.size, fun k hk _ => h.block k hk⟩
theorem Frm.below {F : Nat → Prop} {w w' : World} {B : Nat} (h : Frm F w w') (hB : B ≤ w.heap.size) (hF : ∀ k, F k → B ≤ k) : Below B w w' := ⟨h.os, h.tape, h.output, h.size, fun k hk => h.block k (by omega) (fun hf => by have := hF k hf; omega)⟩
theorem Frm.same {F G : Nat → Prop} {w w' : World} (h : Frm F w w') (hlt : ∀ k, G k → k < w.heap.size) (hd : ∀ k, G k → ¬ F k) : Same G w w' := fun k hk => h.block k (hlt k hk) (hd k hk)
theorem Frm.ofGrown {F : Nat → Prop} {w w' : World} {row : Option Nat} (h : w.grownBy w' row) (hr : ∀ k, row = some k → F k) : Frm F w w' := ⟨h.os, h.tape, h.output, h.size, fun k hk hn => h.block k hk (fun e => hn (hr k e.symm))⟩
theorem Frm.setCell {F : Nat → Prop} {a w : World} (h : Frm F a w) {p : Addr} (hp : F p.block ∨ a.heap.size ≤ p.block) (u : Value) : Frm F a (w.setCell p u) :=
 ⟨h.os, h.tape, h.output, by show _ ≤ (w.setCell p u).heap.size; simp [World.setCell]; exact h.size, fun k hk hn => (Below.heap_setCell w p u k (fun e => by subst e; rcases hp with h3 | h3; exact hn h3; omega)).trans (h.block k hk hn)⟩
theorem Frm.alloc {F : Nat → Prop} {a w : World} (h : Frm F a w) (o : Obj) : Frm F a (w.alloc o) :=
 ⟨h.os, h.tape, h.output, by have := h.size; simp; omega, fun k hk hn => (Below.heap_alloc w o k (Nat.lt_of_lt_of_le hk h.size)).trans (h.block k hk hn)⟩
theorem Frm.drew {F : Nat → Prop} {a w : World} (h : Frm F a w) : Frm F a w.drew := ⟨h.os, h.tape, h.output, h.size, h.block⟩
theorem Frm.drewN {F : Nat → Prop} {a w : World} (h : Frm F a w) (q : Nat) : Frm F a (w.drewN q) := ⟨h.os, h.tape, h.output, h.size, h.block⟩
def blk (A : Option Addr) : Option Nat := A.map (·.block)
def OwnS (w : World) (e : TypeId) (size : Nat) (A : Option Addr) (cap n : Nat) (xs : List Value) : Prop :=
 xs.length = n * size ∧ n ≤ cap ∧ cap ≤ maxLen ∧
 ((A = none ∧ cap = 0) ∨ ∃ g off cur, A = some ⟨g, off, none⟩ ∧ w.heap[g]? = some (.cells cur e (0, 0)) ∧ off + cap * size ≤ cur.size ∧ ∀ j u, xs[j]? = some u → cur[off + j]? = some u)
theorem OwnS.nil (w : World) (e : TypeId) (size : Nat) : OwnS w e size none 0 0 [] := ⟨by simp, Nat.le_refl _, Nat.zero_le _, .inl ⟨rfl, rfl⟩⟩
theorem OwnS.lt {w : World} {e : TypeId} {size cap n : Nat} {A : Option Addr} {xs : List Value} (h : OwnS w e size A cap n xs) : ∀ k, blk A = some k → k < w.heap.size := by
 intro k hk
 rcases h.2.2.2 with ⟨rfl, _⟩ | ⟨g, off, cur, rfl, hh, _⟩
 ·cases hk
 ·injection hk with hk; subst hk; exact block_lt hh
theorem OwnS.keep {w w' : World} {e : TypeId} {size cap n : Nat} {A : Option Addr} {xs : List Value} (h : OwnS w e size A cap n xs) (hk : ∀ k, blk A = some k → w'.heap[k]? = w.heap[k]?) : OwnS w' e size A cap n xs := by
 obtain ⟨h1, h2, h3, h4⟩ := h
 refine ⟨h1, h2, h3, ?_⟩
 rcases h4 with h4 | ⟨g, off, cur, rfl, hh, r⟩
 ·exact .inl h4
 ·exact .inr ⟨g, off, cur, rfl, (hk g rfl).trans hh, r⟩
theorem OwnS.grown {w w' : World} {e : TypeId} {size cap n : Nat} {A : Option Addr} {xs : List Value} (h : OwnS w e size A cap n xs) {row : Option Nat} (hg : w.grownBy w' row) (hne : ∀ k, blk A = some k → row ≠ some k) : OwnS w' e size A cap n xs :=
 h.keep fun k hk => hg.block k (h.lt k hk) (fun e => hne k hk e.symm)
theorem OwnS.sl {α : Type} {E : Elt α} {w : World} {e : TypeId} {A : Option Addr} {cap n : Nat} {l : List α} (f : α → List Value) (hf : ∀ x, (f x).length = E.sz) (h : OwnS w e E.sz A cap n (l.flatMap f)) (hn : n = l.length)
  {F : Nat → Prop} (hF : ∀ k, blk A = some k → F k) (hR : ∀ x ∈ l, E.R F w (f x) x) : SlA E F w A cap l := by
 obtain ⟨h1, h2, h3, h4⟩ := h
 refine ⟨by omega, h3, fun i x hx => ?_⟩
 have hi : i < l.length := by
  rcases Nat.lt_or_ge i l.length with h | h
  ·exact h
  ·rw [List.getElem?_eq_none h] at hx; cases hx
 rcases h4 with ⟨rfl, h0⟩ | ⟨g, off, cur, rfl, hh, hc, hr⟩
 ·omega
 ·refine ⟨g, off, f x, rfl, hF g rfl, fun j u hj => ?_, hR x (List.mem_of_getElem? hx)⟩
  have hjl : j < E.sz := by
   rcases Nat.lt_or_ge j (f x).length with h | h
   ·rw [hf] at h; exact h
   ·rw [List.getElem?_eq_none h] at hj; cases hj
  have h5 := cell_of_row w g (off + (i * E.sz + j)) cur e (0, 0) hh
  rw [h5]
  exact hr _ u (by rw [flat_get f E.sz hf l hx hjl]; exact hj)
theorem OwnS.of_row {w : World} {base : Nat} {e : TypeId} {size n : Nat} {v : Value} {xs : List Value} (h : w.ownsRow base e size v n xs) : ∃ A cap, v = .slice A n cap ∧ OwnS w e size A cap n xs ∧ ∀ k, blk A = some k → base ≤ k := by
 obtain ⟨h1, h2⟩ := h
 rcases h2 with ⟨rfl, rfl⟩ | ⟨g, cap, cur, rfl, hb, hh, hnc, hcm, hcs, ht⟩
 ·exact ⟨none, 0, rfl, ⟨h1, Nat.le_refl _, Nat.zero_le _, .inl ⟨rfl, rfl⟩⟩, fun k hk => by cases hk⟩
 ·refine ⟨_, cap, rfl, ⟨h1, hnc, hcm, .inr ⟨g, 0, cur, rfl, hh, by omega, fun j u hj => ?_⟩⟩, fun k hk => by simp [blk] at hk; omega⟩
  rw [← ht] at hj
  rw [List.getElem?_take] at hj
  split at hj
  ·rw [Nat.zero_add]; simpa using hj
  ·cases hj
theorem run_append_S {P : Program} (w : World) (t tx ty e : TypeId) (z : Value) (size bytes : Nat) (ht : P.underlying t = some (.slice e))
  (hinfo : (P.info? e).map (fun i => (i.zero, i.size, i.bytes)) = some (some z, size, bytes)) (hzs : z.cells.size = size) (hsz : 0 < size)
  (A : Option Addr) (cap n : Nat) (xs : List Value) (hown : OwnS w e size A cap n xs) (x : Value) (m : Nat) (news : List Value) (hs : Src P size tx x m news w)
  (h63 : n + m ≤ maxLen) (hbytes : (n + m) * bytes ≤ 140737488355328) :
  ∃ A' cap' w', (Builtin.append_ #[t, tx] ty #[.slice A n cap, x]).run P w = .ok (.slice A' (n + m) cap') w' ∧ OwnS w' e size A' cap' (n + m) (xs ++ news) ∧ w.grownBy w' (blk A) ∧ (blk A' = blk A ∨ blk A' = some w.heap.size) := by
 obtain ⟨i, hi, hz, rfl, rfl⟩ := info_parts hinfo
 have hsmall : n + m ≤ 9223372036854775807 := by simp only [maxLen] at h63; omega
 obtain ⟨h1, h2, h3, h4⟩ := hown
 have hlen : (xs ++ news).length = (n + m) * i.size := by rw [List.length_append, h1, hs.newsLen, Nat.add_mul]
 by_cases hroom : n + m ≤ cap
 ·rcases h4 with ⟨rfl, h0⟩ | ⟨g, off, cur, rfl, hh, hcs, hr⟩
  ·have hn0 : n = 0 := by omega
   have hm0 : m = 0 := by omega
   subst hn0; subst hm0; subst h0
   have hx : xs = [] := List.eq_nil_of_length_eq_zero (by simpa using h1)
   have hnw : news = [] := List.eq_nil_of_length_eq_zero (by simpa using hs.newsLen)
   subst hx; subst hnw
   refine ⟨none, 0, w, ?_, OwnS.nil w e i.size, ⟨rfl, rfl, rfl, Nat.le_refl _, fun _ _ _ => rfl⟩, Or.inl rfl⟩
   have hc := hs.cells
   rcases hs.kind with ⟨e', hk⟩ | hk <;> simp [Builtin.append_, run_underlying ht, run_underlying hk, sizeOf, typeInfo, hi, hs.len, hc]
  ·have hfit : off + n * i.size + news.length ≤ cur.size := by
    rw [hs.newsLen]
    have := Nat.mul_le_mul_right i.size hroom
    rw [Nat.add_mul] at this
    omega
   have hst := run_storeCells_at P g (off + n * i.size) e news 0 cur w hh (by simpa using hfit) hs.one
   simp only [Nat.add_zero] at hst
   have hc := hs.cells
   have hrun : (Builtin.append_ #[t, tx] ty #[.slice (some ⟨g, off, none⟩) n cap, x]).run P w =
     .ok (.slice (some ⟨g, off, none⟩) (n + m) cap) (w.setRow g (cur.toList.take (off + n * i.size) ++ news ++ cur.toList.drop (off + n * i.size + news.length)).toArray) := by
    have ha : (⟨g, off, none⟩ : Addr).add (n * i.size) = ⟨g, off + n * i.size, none⟩ := add_plain _ _ _
    rcases hs.kind with ⟨e', hk⟩ | hk <;> simp [Builtin.append_, run_underlying ht, run_underlying hk, sizeOf, typeInfo, hi, hs.len, hc, hroom, ha, hst]
   refine ⟨_, cap, _, hrun, ⟨hlen, hroom, h3, .inr ⟨g, off, _, rfl, setRow_heap w g cur _ e _ hh, ?_, ?_⟩⟩, ⟨rfl, rfl, rfl, by simp, fun k _ hk => setRow_other w g k _ (fun e => hk (by simp [blk, e]))⟩, Or.inl rfl⟩
   ·simp only [List.size_toArray, List.length_append, List.length_take, List.length_drop, Array.length_toList]
    omega
   ·intro j u hj
    simp only [List.getElem?_toArray]
    have hl1 : (cur.toList.take (off + n * i.size)).length = off + n * i.size := by rw [List.length_take, Array.length_toList]; omega
    by_cases hjx : j < xs.length
    ·rw [List.getElem?_append_left hjx] at hj
     rw [List.append_assoc, List.getElem?_append_left (by rw [hl1]; omega), List.getElem?_take, if_pos (by omega)]
     have := hr j u hj
     simpa using this
    ·rw [List.getElem?_append_right (by omega)] at hj
     rw [List.append_assoc, List.getElem?_append_right (by rw [hl1]; omega), hl1, show off + j - (off + n * i.size) = j - xs.length by omega]
     have hjl : j - xs.length < news.length := by
      rcases Nat.lt_or_ge (j - xs.length) news.length with h | h
      ·exact h
      ·rw [List.getElem?_eq_none h] at hj; cases hj
     rw [List.getElem?_append_left hjl]
     exact hj
 ·have hge := grownCap_ge w (n + m) cap e
  have hcm : grownCap w (n + m) cap e ≤ maxLen := grownCap_le_maxLen w (n + m) cap e h63
  have hold : (Builtin.firstCells i.size n (.slice A n cap)).run P w.drew = .ok xs.toArray w.drew := by
   rcases h4 with ⟨rfl, h0⟩ | ⟨g, off, cur, rfl, hh, hcs, hr⟩
   ·have hn0 : n = 0 := by omega
    subst hn0; subst h0
    have hx : xs = [] := List.eq_nil_of_length_eq_zero (by simpa using h1)
    subst hx
    simp [Builtin.firstCells]
   ·refine run_firstCells_some (P := P) w.drew i.size n ⟨g, off, none⟩ n cap xs h1 (fun j u hj => ?_)
    rw [add_plain]
    exact (cell_of_row w g (off + j) cur e (0, 0) hh).trans (hr j u hj)
  have hr := run_append_grow_src (P := P) w t tx ty e i z ht hi hz A n cap xs hold x m news hs (by omega) (by omega) (growslice_fits (by omega) hbytes)
  refine ⟨_, _, _, hr, ⟨hlen, hge, hcm, .inr ⟨w.heap.size, 0, _, rfl, heap_alloc_new w.drew _, ?_, ?_⟩⟩, ⟨rfl, rfl, rfl, by simp, fun k hk _ => Below.heap_alloc w.drew _ k hk⟩, Or.inr rfl⟩
  ·rw [Array.size_append, List.size_toArray, size_zeroCells, hzs, hlen, ← Nat.add_mul, Nat.zero_add]
   exact Nat.mul_le_mul_right _ (by omega)
  ·intro j u hj
   have hjl : j < (xs ++ news).length := by
    rcases Nat.lt_or_ge j (xs ++ news).length with h | h
    ·exact h
    ·rw [List.getElem?_eq_none h] at hj; cases hj
   rw [Nat.zero_add, Array.getElem?_append_left (by simpa using hjl)]
   simpa using hj
theorem run_push_S {P : Program} (w0 : World) (t ty e : TypeId) (z : Value) (size bytes : Nat) (ht : P.underlying t = some (.slice e))
  (hinfo : (P.info? e).map (fun i => (i.zero, i.size, i.bytes)) = some (some z, size, bytes)) (hzs : z.cells.size = size) (hsz : 0 < size)
  (A : Option Addr) (cap n : Nat) (xs : List Value) (hown : OwnS w0 e size A cap n xs) (news : List Value) (hl : news.length = size) (h1 : ∀ u ∈ news, u.oneCell' = true)
  (h63 : n + 1 ≤ maxLen) (hbytes : (n + 1) * bytes ≤ 140737488355328) :
  ∃ A' cap' w', (Builtin.append_ #[t, t] ty #[.slice A n cap, .slice (some ⟨w0.heap.size, 0, none⟩) 1 1]).run P (w0.alloc (.cells news.toArray e)) = .ok (.slice A' (n + 1) cap') w' ∧ OwnS w' e size A' cap' (n + 1) (xs ++ news) ∧ w0.grownBy w' (blk A) ∧
   (blk A' = blk A ∨ ∃ k, blk A' = some k ∧ w0.heap.size ≤ k) := by
 have hsrc : Src P size t (.slice (some ⟨w0.heap.size, 0, none⟩) 1 1) 1 news (w0.alloc (.cells news.toArray e)) := Src.ofSlice _ ht _ 1 1 news (by rw [hl, Nat.one_mul]) (cells_new w0 news e) h1
 obtain ⟨A', cap', w', hr, h2, h3, h5⟩ := run_append_S (P := P) (w0.alloc (.cells news.toArray e)) t t ty e z size bytes ht hinfo hzs hsz A cap n xs (hown.grown (World.grownBy_alloc w0 _ none) (fun _ _ => by simp)) _ 1 news hsrc h63 hbytes
 refine ⟨A', cap', w', hr, h2, (World.grownBy_alloc w0 _ _).trans h3, ?_⟩
 rcases h5 with h5 | h5
 ·exact .inl h5
 ·exact .inr ⟨_, h5, by simp⟩
theorem step_push_S {P : Program} {ops : Array Oper} {o : Oper} {a : Act} {K : Act → World → Prop} {Q : Exit → Act → World → Prop} {E : Prop} {w0 : World} (hgd : o.guard = none) (s x : Operand) (t : TypeId)
  (ho : o.op = .call { callee := .builtin .append, args := #[s, x], argTypes := #[t, t] })
  (e : TypeId) (z : Value) (size bytes : Nat) (ht : P.underlying t = some (.slice e))
  (hinfo : (P.info? e).map (fun i => (i.zero, i.size, i.bytes)) = some (some z, size, bytes)) (hzs : z.cells.size = size) (hsz : 0 < size)
  (A : Option Addr) (cap n : Nat) (xs : List Value) (hs : a.eval s = .slice A n cap) (hown : OwnS w0 e size A cap n xs) (news : List Value) (hx : a.eval x = .slice (some ⟨w0.heap.size, 0, none⟩) 1 1) (hl : news.length = size) (h1 : ∀ u ∈ news, u.oneCell' = true)
  (h63 : n + 1 ≤ maxLen) (hbytes : (n + 1) * bytes ≤ 140737488355328)
  (h : ∀ A' cap' w', OwnS w' e size A' cap' (n + 1) (xs ++ news) → w0.grownBy w' (blk A) → (blk A' = blk A ∨ ∃ k, blk A' = some k ∧ w0.heap.size ≤ k) → K (a.put o.dst (.slice A' (n + 1) cap')) w') :
  if Region.wanted o (yielded ops a.tmps) = true then Oper.wp P o a (w0.alloc (.cells news.toArray e)).drew K Q else E := by
 have hw : Region.wanted o (yielded ops a.tmps) = true := by simp [Region.wanted, hgd]
 rw [if_pos hw]
 obtain ⟨A', cap', w', hr, h2, h3, h5⟩ := run_push_S (P := P) w0.drew t o.type e z size bytes ht hinfo hzs hsz A cap n xs hown news hl h1 h63 hbytes
 have hr' : (Builtin.append_ #[t, t] o.type #[.slice A n cap, .slice (some ⟨w0.heap.size, 0, none⟩) 1 1]).run P (w0.alloc (.cells news.toArray e)).drew = .ok (.slice A' (n + 1) cap') w' := hr
 unfold Oper.wp execOp
 simp only [ho, resolve, invoke, builtin, Sem.run_bind, Sem.run_pure, Result.andThen_ok, List.map_toArray, List.map_cons, List.map_nil, hs, hx, hr']
 exact h A' cap' w' h2 ⟨h3.os, h3.tape, h3.output, h3.size, h3.block⟩ h5
theorem wpList_append_S {P : Program} {ops : Array Oper} {rest : List Oper} {o : Oper} {a : Act} {Q : Exit → Act → World → Prop} {w : World} (hgd : o.guard = none) (s x : Operand) (t tx : TypeId)
  (ho : o.op = .call { callee := .builtin .append, args := #[s, x], argTypes := #[t, tx] })
  (e : TypeId) (z : Value) (size bytes : Nat) (ht : P.underlying t = some (.slice e))
  (hinfo : (P.info? e).map (fun i => (i.zero, i.size, i.bytes)) = some (some z, size, bytes)) (hzs : z.cells.size = size) (hsz : 0 < size)
  (A : Option Addr) (cap n : Nat) (xs : List Value) (hs : a.eval s = .slice A n cap) (hown : OwnS w e size A cap n xs) (vx : Value) (hx : a.eval x = vx) (m : Nat) (news : List Value) (hsrc : Src P size tx vx m news w)
  (h63 : n + m ≤ maxLen) (hbytes : (n + m) * bytes ≤ 140737488355328)
  (h : ∀ A' cap' w', OwnS w' e size A' cap' (n + m) (xs ++ news) → w.grownBy w' (blk A) → (blk A' = blk A ∨ blk A' = some w.heap.size) → wpList P ops Q rest (a.put o.dst (.slice A' (n + m) cap')) w') :
  wpList P ops Q (o :: rest) a w := by
 refine wpList_plain hgd fun K hK => ?_
 obtain ⟨A', cap', w', hr, h2, h3, h5⟩ := run_append_S (P := P) w t tx o.type e z size bytes ht hinfo hzs hsz A cap n xs hown vx m news hsrc h63 hbytes
 unfold Oper.wp execOp
 simp only [ho, resolve, invoke, builtin, Sem.run_bind, Sem.run_pure, Result.andThen_ok, List.map_toArray, List.map_cons, List.map_nil, hs, hx, hr]
 exact hK _ _ (h A' cap' w' h2 h3 h5)
theorem OwnS.setFar {w : World} {e : TypeId} {size cap n : Nat} {A : Option Addr} {xs : List Value} (h : OwnS w e size A cap n xs) {p : Addr} (hp : blk A ≠ some p.block) (u : Value) : OwnS (w.setCell p u) e size A cap n xs :=
 h.keep fun k hk => Below.heap_setCell _ _ _ _ (fun e => hp (by rw [hk, e]))
theorem size_setCell (w : World) (p : Addr) (u : Value) : (w.setCell p u).heap.size = w.heap.size := by simp [World.setCell]
theorem OwnS.head {w : World} {e : TypeId} {size cap n : Nat} {A : Option Addr} {xs : List Value} (h : OwnS w e size A cap n xs) (hn : 0 < n) (hs : 0 < size) : ∃ g off, A = some ⟨g, off, none⟩ ∧ g < w.heap.size ∧ ∀ j u, xs[j]? = some u → w.cell? ⟨g, off + j, none⟩ = some u := by
 obtain ⟨h1, h2, h3, h4⟩ := h
 rcases h4 with ⟨_, h4⟩ | ⟨g, off, cur, rfl, hh, hc, hr⟩
 ·omega
 ·exact ⟨g, off, rfl, block_lt hh, fun j u hj => (cell_of_row w g (off + j) cur e (0, 0) hh).trans (hr j u hj)⟩
end Go.Proofs.YtfndhfekbbbliaaGreatDoor

/-
  Expressions, plain: trees, what a text is read as (a tree and what is left of the text; or where it is wrong, and how), what a tree comes to. No condition: plain definitions.
-/
namespace Go.Proofs.YtfndhfekbbbliaaGreatDoor
open Go.RowKit
set_option linter.unusedVariables false
inductive Tr where
 | num (k : Int)
 | nam (n : Bool)
 | neg (a : Tr)
 | bin (op : UInt8) (a b : Tr)
 | sel (a b c : Tr)
inductive Rd where
 | ok (t : Tr) (rest : List UInt8)
 | bad (left : Nat) (e : Int)
def Rd.bind (r : Rd) (f : Tr → List UInt8 → Rd) : Rd := match r with
 | .ok t l => f t l
 | .bad k e => .bad k e
def isDig (c : UInt8) : Bool := decide (48 ≤ c.toNat) && decide (c.toNat ≤ 57)
def digsOf (l : List UInt8) : List UInt8 := l.takeWhile isDig
def numOf (l : List UInt8) : List UInt8 := match digsOf l with
 | c :: d :: r => if c = 48 then [48] else c :: d :: r
 | d => d
def digVal (ds : List UInt8) : Nat := ds.foldl (fun a c => a * 10 + (c.toNat - 48)) 0
def numRd (l : List UInt8) : Rd :=
 if numOf l = [] ∨ digVal (numOf l) > 9223372036854775807 then .bad l.length 2 else .ok (.num (digVal (numOf l))) (l.drop (numOf l).length)
def wantRd (c : UInt8) (l : List UInt8) (f : List UInt8 → Rd) : Rd := match l with
 | x :: r => if x = c then f r else .bad l.length 2
 | [] => .bad 0 2
def deepRd (d k : Nat) (f : Rd) : Rd := if d = 20 then .bad k 4 else f
abbrev Reads := Nat → List UInt8 → Rd
def twoRd (W : Reads) (op : UInt8) (d : Nat) (l : List UInt8) : Rd :=
 (W d l).bind fun a l1 => wantRd 44 l1 fun l2 => (W d l2).bind fun b l3 => wantRd 41 l3 fun l4 => .ok (.bin op a b) l4
def oneRd (W : Reads) (d : Nat) (l : List UInt8) : Rd := match l with
 | 109 :: 105 :: 110 :: 40 :: r => deepRd d l.length (twoRd W 109 (d + 1) r)
 | 109 :: 97 :: 120 :: 40 :: r => deepRd d l.length (twoRd W 77 (d + 1) r)
 | 110 :: r => .ok (.nam true) r
 | 115 :: r => .ok (.nam false) r
 | 40 :: r => deepRd d l.length ((W (d + 1) r).bind fun a l1 => wantRd 41 l1 fun l2 => .ok a l2)
 | l => numRd l
def lessRd (W : Reads) (d : Nat) (l : List UInt8) : Rd := match l with
 | 45 :: r => deepRd d l.length ((lessRd W (d + 1) r).bind fun a l1 => .ok (.neg a) l1)
 | l => oneRd W d l
def loopRd (next : List UInt8 → Rd) (ops : List UInt8) : Nat → Tr → List UInt8 → Rd
 | 0, a, l => .ok a l
 | k + 1, a, l => match l with
  | c :: r => if c ∈ ops then (next r).bind fun b l1 => loopRd next ops k (.bin c a b) l1 else .ok a l
  | [] => .ok a []
def rowRd (next : List UInt8 → Rd) (ops : List UInt8) (l : List UInt8) : Rd := (next l).bind fun a l1 => loopRd next ops l1.length a l1
def mulRd (W : Reads) (d : Nat) (l : List UInt8) : Rd := rowRd (lessRd W d) [42, 47, 37] l
def addRd (W : Reads) (d : Nat) (l : List UInt8) : Rd := rowRd (mulRd W d) [43, 45] l
def cmpTl (W : Reads) (d : Nat) (a : Tr) (l : List UInt8) : Rd := match l with
 | c :: r => if c ∈ [61, 60, 62] then (addRd W d r).bind fun b l2 => .ok (.bin c a b) l2 else .ok a (c :: r)
 | [] => .ok a []
def cmpRd (W : Reads) (d : Nat) (l : List UInt8) : Rd := (addRd W d l).bind (cmpTl W d)
def selRd (W : Reads) (d : Nat) (a : Tr) (l : List UInt8) : Rd := match l with
 | x :: r => if x = 63 then deepRd d (r.length + 1) ((W (d + 1) r).bind fun b l2 => wantRd 58 l2 fun l3 => (W (d + 1) l3).bind fun c l4 => .ok (.sel a b c) l4) else .ok a (x :: r)
 | [] => .ok a []
def wholeStep (W : Reads) (d : Nat) (l : List UInt8) : Rd := (cmpRd W d l).bind (selRd W d)
def wholeRd : Nat → Reads
 | 0 => wholeStep fun _ l => .bad l.length 2
 | k + 1 => wholeStep (wholeRd k)
inductive Parsed where
 | tree (t : Tr)
 | fault (at_ : Nat) (e : Int)
def parseT (s : List UInt8) : Parsed :=
 if 120 < s.length then .fault 0 4 else match wholeRd s.length 0 s with
 | .ok t [] => .tree t
 | .ok _ (_ :: r) => .fault (s.length - (r.length + 1)) 2
 | .bad k e => .fault (s.length - k) e
def b2i (b : Bool) : Int := if b then 1 else 0
def opVal (op : UInt8) (a b : Int) : Int :=
 if op = 109 then min a b else if op = 77 then max a b else if op = 43 then wrap64 (a + b) else if op = 45 then wrap64 (a - b) else if op = 42 then wrap64 (a * b)
 else if op = 61 then b2i (a == b) else if op = 60 then b2i (decide (a < b)) else if op = 62 then b2i (decide (b < a))
 else if b = 0 then 0 else if b = -1 then (if op = 37 then 0 else wrap64 (-a)) else if op = 47 then a.tdiv b else a.tmod b
def Tr.val (n s : Int) : Tr → Int
 | .num k => k
 | .nam x => if x then n else s
 | .neg a => wrap64 (-(a.val n s))
 | .bin op a b => opVal op (a.val n s) (b.val n s)
 | .sel a b c => if a.val n s = 0 then c.val n s else b.val n s
end Go.Proofs.YtfndhfekbbbliaaGreatDoor

/-
  DERIVED: THE SHELF's CONTRACTS AT THIS DUMP, IN PLAIN WORDS (tools/lay-plain.mjs out of 'YtfndhfekbbbliaaGreatDoorLays0.lean', which tools/lay-shelf.mjs wrote): THE SAME DECLARATIONS UNDER THE SAME NAMES: 'import', 'namespace', 'open', 'def', 'theorem' AND NOTHING ELSE: no command of the shelf's: FOR A HAND-IN. Each laying: the table of numbers ('.._ren') and one theorem, a field a fact of the dump's own or the kernel's comparison; each contract: ONE APPLICATION.
-/
namespace Go.Proofs
open Go.Shelf
def Tryz.sort_Line_ren : Go.Shelf.Ren := ⟨fun | 6 => 112 | 15 => 137 | 14 => 136 | 28 => 174 | 29 => 175 | 20 => 166 | 21 => 167 | 22 => 168 | 23 => 169 | 24 => 170 | 25 => 171 | 26 => 172 | 27 => 173 | 46 => 192 | 47 => 193 | 48 => 194 | 49 => 195 | 50 => 196 | 57 => 210 | n => n, fun | 22 => 130 | 24 => 178 | 25 => 183 | 3 => 3 | 39 => 159 | 0 => 0 | 53 => 202 | 55 => 161 | 4 => 4 | 46 => 244 | 45 => 243 | 50 => 173 | 5 => 5 | 9 => 9 | 66 => 261 | 70 => 264 | 76 => 275 | 77 => 164 | n => n, fun | n => n⟩
theorem Tryz.sort_Line : Go.Proofs.SlLaysF0.n6 Tryz.prog Tryz.sort_Line_ren := {
  mixed := by kernel_rfl
  f6 := ⟨Tryz.f112.name, by decide, Tryz.func112.trans (congrArg some (by kernel_rfl))⟩
  f14 := ⟨Tryz.f136.name, by decide, Tryz.func136.trans (congrArg some (by kernel_rfl))⟩
  f15 := Tryz.func137.trans (congrArg some (by kernel_rfl))
  f20 := ⟨Tryz.f166.name, by decide, Tryz.func166.trans (congrArg some (by kernel_rfl))⟩
  f21 := ⟨Tryz.f167.name, by decide, Tryz.func167.trans (congrArg some (by kernel_rfl))⟩
  f22 := ⟨Tryz.f168.name, by decide, Tryz.func168.trans (congrArg some (by kernel_rfl))⟩
  f23 := ⟨Tryz.f169.name, by decide, Tryz.func169.trans (congrArg some (by kernel_rfl))⟩
  f24 := ⟨Tryz.f170.name, by decide, Tryz.func170.trans (congrArg some (by kernel_rfl))⟩
  f25 := ⟨Tryz.f171.name, by decide, Tryz.func171.trans (congrArg some (by kernel_rfl))⟩
  f26 := ⟨Tryz.f172.name, by decide, Tryz.func172.trans (congrArg some (by kernel_rfl))⟩
  f27 := ⟨Tryz.f173.name, by decide, Tryz.func173.trans (congrArg some (by kernel_rfl))⟩
  f28 := Tryz.func174.trans (congrArg some (by kernel_rfl))
  f29 := Tryz.func175.trans (congrArg some (by kernel_rfl))
  f46 := ⟨Tryz.f192.name, by decide, Tryz.func192.trans (congrArg some (by kernel_rfl))⟩
  f47 := Tryz.func193.trans (congrArg some (by kernel_rfl))
  f48 := Tryz.func194.trans (congrArg some (by kernel_rfl))
  f49 := ⟨Tryz.f195.name, by decide, Tryz.func195.trans (congrArg some (by kernel_rfl))⟩
  f50 := ⟨Tryz.f196.name, by decide, Tryz.func196.trans (congrArg some (by kernel_rfl))⟩
  f57 := ⟨Tryz.f210.name, by decide, Tryz.func210.trans (congrArg some (by kernel_rfl))⟩
  t0 := Tryz.underlying0
  a0 := Tryz.isAgg0
  z0 := Tryz.sizeOf0
  v0 := Tryz.zeroValue0
  t3 := Tryz.underlying3
  a3 := Tryz.isAgg3
  z3 := Tryz.sizeOf3
  v3 := Tryz.zeroValue3
  t4 := Tryz.underlying4
  a4 := Tryz.isAgg4
  z4 := Tryz.sizeOf4
  v4 := Tryz.zeroValue4
  t5 := Tryz.underlying5
  a5 := Tryz.isAgg5
  z5 := Tryz.sizeOf5
  v5 := Tryz.zeroValue5
  t9 := Tryz.underlying9
  a9 := Tryz.isAgg9
  z9 := Tryz.sizeOf9
  v9 := Tryz.zeroValue9
  t22 := Tryz.underlying130
  a22 := Tryz.isAgg130
  z22 := Tryz.sizeOf130
  v22 := Tryz.zeroValue130
  t25 := Tryz.underlying183
  a25 := Tryz.isAgg183
  z25 := Tryz.sizeOf183
  v25 := Tryz.zeroValue183
  t39 := Tryz.underlying159
  a39 := Tryz.isAgg159
  z39 := Tryz.sizeOf159
  v39 := Tryz.zeroValue159
  t45 := Tryz.underlying243
  a45 := Tryz.isAgg243
  z45 := Tryz.sizeOf243
  v45 := Tryz.zeroValue243
  t46 := Tryz.underlying244
  a46 := Tryz.isAgg244
  z46 := Tryz.sizeOf244
  v46 := Tryz.zeroValue244
  t50 := Tryz.underlying173
  a50 := Tryz.isAgg173
  z50 := Tryz.sizeOf173
  v50 := Tryz.zeroValue173
  t53 := Tryz.underlying202
  a53 := Tryz.isAgg202
  z53 := Tryz.sizeOf202
  v53 := Tryz.zeroValue202
  t55 := Tryz.underlying161
  a55 := Tryz.isAgg161
  z55 := Tryz.sizeOf161
  v55 := Tryz.zeroValue161
  t66 := Tryz.underlying261
  a66 := Tryz.isAgg261
  z66 := Tryz.sizeOf261
  v66 := Tryz.zeroValue261
  t70 := Tryz.underlying264
  a70 := Tryz.isAgg264
  z70 := Tryz.sizeOf264
  v70 := Tryz.zeroValue264
  t76 := Tryz.underlying275
  a76 := Tryz.isAgg275
  z76 := Tryz.sizeOf275
  v76 := Tryz.zeroValue275
  t77 := Tryz.underlying164
  a77 := Tryz.isAgg164
  z77 := Tryz.sizeOf164
  v77 := Tryz.zeroValue164 }
def Tryz.itoa_ren : Go.Shelf.Ren := ⟨fun | 171 => 53 | 243 => 96 | 246 => 129 | 283 => 156 | 284 => 157 | 285 => 158 | 286 => 159 | 129 => 175 | 317 => 179 | 318 => 180 | 319 => 181 | 320 => 182 | 337 => 201 | 338 => 202 | n => n, fun | 3 => 3 | 9 => 9 | 2 => 2 | 4 => 4 | 171 => 234 | 0 => 0 | 53 => 161 | 37 => 94 | 5 => 5 | 173 => 237 | 212 => 251 | 51 => 202 | 20 => 20 | 213 => 252 | 46 => 159 | 232 => 285 | 233 => 286 | n => n, fun | 17 => 1 | 18 => 5 | 19 => 6 | n => n⟩
theorem Tryz.itoa : Go.Proofs.LaysM.n171 Tryz.prog Tryz.itoa_ren := {
  mixed := by kernel_rfl
  f129 := Tryz.func175.trans (congrArg some (by kernel_rfl))
  f171 := Tryz.func53.trans (congrArg some (by kernel_rfl))
  f243 := Tryz.func96.trans (congrArg some (by kernel_rfl))
  f246 := Tryz.func129.trans (congrArg some (by kernel_rfl))
  f283 := Tryz.func156.trans (congrArg some (by kernel_rfl))
  f284 := Tryz.func157.trans (congrArg some (by kernel_rfl))
  f285 := Tryz.func158.trans (congrArg some (by kernel_rfl))
  f286 := Tryz.func159.trans (congrArg some (by kernel_rfl))
  f317 := Tryz.func179.trans (congrArg some (by kernel_rfl))
  f318 := Tryz.func180.trans (congrArg some (by kernel_rfl))
  f319 := Tryz.func181.trans (congrArg some (by kernel_rfl))
  f320 := Tryz.func182.trans (congrArg some (by kernel_rfl))
  f337 := Tryz.func201.trans (congrArg some (by kernel_rfl))
  f338 := Tryz.func202.trans (congrArg some (by kernel_rfl))
  t0 := Tryz.underlying0
  a0 := Tryz.isAgg0
  z0 := Tryz.sizeOf0
  v0 := Tryz.zeroValue0
  t2 := Tryz.underlying2
  a2 := Tryz.isAgg2
  z2 := Tryz.sizeOf2
  v2 := Tryz.zeroValue2
  t3 := Tryz.underlying3
  a3 := Tryz.isAgg3
  z3 := Tryz.sizeOf3
  v3 := Tryz.zeroValue3
  t4 := Tryz.underlying4
  a4 := Tryz.isAgg4
  z4 := Tryz.sizeOf4
  v4 := Tryz.zeroValue4
  t5 := Tryz.underlying5
  a5 := Tryz.isAgg5
  z5 := Tryz.sizeOf5
  v5 := Tryz.zeroValue5
  t9 := Tryz.underlying9
  a9 := Tryz.isAgg9
  z9 := Tryz.sizeOf9
  v9 := Tryz.zeroValue9
  t20 := Tryz.underlying20
  a20 := Tryz.isAgg20
  z20 := Tryz.sizeOf20
  v20 := Tryz.zeroValue20
  t37 := Tryz.underlying94
  a37 := Tryz.isAgg94
  z37 := Tryz.sizeOf94
  v37 := Tryz.zeroValue94
  t46 := Tryz.underlying159
  a46 := Tryz.isAgg159
  z46 := Tryz.sizeOf159
  v46 := Tryz.zeroValue159
  t51 := Tryz.underlying202
  a51 := Tryz.isAgg202
  z51 := Tryz.sizeOf202
  v51 := Tryz.zeroValue202
  t53 := Tryz.underlying161
  a53 := Tryz.isAgg161
  z53 := Tryz.sizeOf161
  v53 := Tryz.zeroValue161
  t171 := Tryz.underlying234
  a171 := Tryz.isAgg234
  z171 := Tryz.sizeOf234
  v171 := Tryz.zeroValue234
  t173 := Tryz.underlying237
  a173 := Tryz.isAgg237
  z173 := Tryz.sizeOf237
  v173 := Tryz.zeroValue237
  t212 := Tryz.underlying251
  a212 := Tryz.isAgg251
  z212 := Tryz.sizeOf251
  v212 := Tryz.zeroValue251
  t213 := Tryz.underlying252
  a213 := Tryz.isAgg252
  z213 := Tryz.sizeOf252
  t232 := Tryz.underlying285
  a232 := Tryz.isAgg285
  z232 := Tryz.sizeOf285
  v232 := Tryz.zeroValue285
  t233 := Tryz.underlying286
  a233 := Tryz.isAgg286
  z233 := Tryz.sizeOf286
  v233 := Tryz.zeroValue286
  g17 := by kernel_rfl
  g18 := by kernel_rfl
  g19 := by kernel_rfl
  i0 := by kernel_rfl
  i2 := by kernel_rfl
  i3 := by kernel_rfl
  i4 := by kernel_rfl
  i5 := by kernel_rfl
  i9 := by kernel_rfl
  i20 := by kernel_rfl
  i37 := by kernel_rfl
  i46 := by kernel_rfl
  i51 := by kernel_rfl
  i53 := by kernel_rfl
  i171 := by kernel_rfl
  i173 := by kernel_rfl
  i212 := by kernel_rfl
  i232 := by kernel_rfl
  i233 := by kernel_rfl
  m17 := by kernel_rfl
  m18 := by kernel_rfl
  m19 := by kernel_rfl }
def Tryz.atoi_ren : Go.Shelf.Ren := ⟨fun | 172 => 135 | 244 => 164 | 245 => 165 | 247 => 187 | 279 => 188 | 280 => 189 | 281 => 190 | 282 => 191 | 287 => 207 | 316 => 208 | 171 => 53 | 205 => 209 | 321 => 218 | 322 => 219 | 243 => 96 | 246 => 129 | 283 => 156 | 284 => 157 | 285 => 158 | 286 => 159 | 129 => 175 | 317 => 179 | 318 => 180 | 319 => 181 | 320 => 182 | 337 => 201 | 338 => 202 | n => n, fun | 9 => 9 | 3 => 3 | 75 => 28 | 76 => 29 | 4 => 4 | 5 => 5 | 167 => 255 | 37 => 94 | 0 => 0 | 85 => 256 | 2 => 2 | 168 => 258 | 53 => 161 | 175 => 269 | 46 => 159 | 210 => 273 | 127 => 168 | 145 => 296 | 143 => 294 | 21 => 21 | 171 => 234 | 173 => 237 | 212 => 251 | 51 => 202 | 20 => 20 | 213 => 252 | 232 => 285 | 233 => 286 | 80 => 103 | n => n, fun | 15 => 3 | 16 => 4 | 17 => 1 | 18 => 5 | 19 => 6 | n => n⟩
theorem Tryz.atoi : Go.Proofs.LaysC.n172 Tryz.prog Tryz.atoi_ren := {
  mixed := by kernel_rfl
  f129 := Tryz.func175.trans (congrArg some (by kernel_rfl))
  f171 := Tryz.func53.trans (congrArg some (by kernel_rfl))
  f172 := Tryz.func135.trans (congrArg some (by kernel_rfl))
  f205 := Tryz.func209.trans (congrArg some (by kernel_rfl))
  f243 := Tryz.func96.trans (congrArg some (by kernel_rfl))
  f244 := Tryz.func164.trans (congrArg some (by kernel_rfl))
  f245 := Tryz.func165.trans (congrArg some (by kernel_rfl))
  f246 := Tryz.func129.trans (congrArg some (by kernel_rfl))
  f247 := Tryz.func187.trans (congrArg some (by kernel_rfl))
  f279 := Tryz.func188.trans (congrArg some (by kernel_rfl))
  f280 := Tryz.func189.trans (congrArg some (by kernel_rfl))
  f281 := Tryz.func190.trans (congrArg some (by kernel_rfl))
  f282 := Tryz.func191.trans (congrArg some (by kernel_rfl))
  f283 := Tryz.func156.trans (congrArg some (by kernel_rfl))
  f284 := Tryz.func157.trans (congrArg some (by kernel_rfl))
  f285 := Tryz.func158.trans (congrArg some (by kernel_rfl))
  f286 := Tryz.func159.trans (congrArg some (by kernel_rfl))
  f287 := Tryz.func207.trans (congrArg some (by kernel_rfl))
  f316 := Tryz.func208.trans (congrArg some (by kernel_rfl))
  f317 := Tryz.func179.trans (congrArg some (by kernel_rfl))
  f318 := Tryz.func180.trans (congrArg some (by kernel_rfl))
  f319 := Tryz.func181.trans (congrArg some (by kernel_rfl))
  f320 := Tryz.func182.trans (congrArg some (by kernel_rfl))
  f321 := Tryz.func218.trans (congrArg some (by kernel_rfl))
  f322 := Tryz.func219.trans (congrArg some (by kernel_rfl))
  f337 := Tryz.func201.trans (congrArg some (by kernel_rfl))
  f338 := Tryz.func202.trans (congrArg some (by kernel_rfl))
  t0 := Tryz.underlying0
  a0 := Tryz.isAgg0
  z0 := Tryz.sizeOf0
  v0 := Tryz.zeroValue0
  t2 := Tryz.underlying2
  a2 := Tryz.isAgg2
  z2 := Tryz.sizeOf2
  v2 := Tryz.zeroValue2
  t3 := Tryz.underlying3
  a3 := Tryz.isAgg3
  z3 := Tryz.sizeOf3
  v3 := Tryz.zeroValue3
  t4 := Tryz.underlying4
  a4 := Tryz.isAgg4
  z4 := Tryz.sizeOf4
  v4 := Tryz.zeroValue4
  t5 := Tryz.underlying5
  a5 := Tryz.isAgg5
  z5 := Tryz.sizeOf5
  v5 := Tryz.zeroValue5
  t9 := Tryz.underlying9
  a9 := Tryz.isAgg9
  z9 := Tryz.sizeOf9
  v9 := Tryz.zeroValue9
  t20 := Tryz.underlying20
  a20 := Tryz.isAgg20
  z20 := Tryz.sizeOf20
  v20 := Tryz.zeroValue20
  t21 := Tryz.underlying21
  a21 := Tryz.isAgg21
  z21 := Tryz.sizeOf21
  v21 := Tryz.zeroValue21
  t37 := Tryz.underlying94
  a37 := Tryz.isAgg94
  z37 := Tryz.sizeOf94
  v37 := Tryz.zeroValue94
  t46 := Tryz.underlying159
  a46 := Tryz.isAgg159
  z46 := Tryz.sizeOf159
  v46 := Tryz.zeroValue159
  t51 := Tryz.underlying202
  a51 := Tryz.isAgg202
  z51 := Tryz.sizeOf202
  v51 := Tryz.zeroValue202
  t53 := Tryz.underlying161
  a53 := Tryz.isAgg161
  z53 := Tryz.sizeOf161
  v53 := Tryz.zeroValue161
  t75 := Tryz.underlying28
  a75 := Tryz.isAgg28
  z75 := Tryz.sizeOf28
  v75 := Tryz.zeroValue28
  t76 := Tryz.underlying29
  a76 := Tryz.isAgg29
  z76 := Tryz.sizeOf29
  v76 := Tryz.zeroValue29
  t85 := Tryz.underlying256
  a85 := Tryz.isAgg256
  z85 := Tryz.sizeOf256
  v85 := Tryz.zeroValue256
  t127 := Tryz.underlying168
  a127 := Tryz.isAgg168
  z127 := Tryz.sizeOf168
  v127 := Tryz.zeroValue168
  t143 := Tryz.underlying294
  a143 := Tryz.isAgg294
  z143 := Tryz.sizeOf294
  v143 := Tryz.zeroValue294
  t145 := Tryz.underlying296
  a145 := Tryz.isAgg296
  z145 := Tryz.sizeOf296
  v145 := Tryz.zeroValue296
  t167 := Tryz.underlying255
  a167 := Tryz.isAgg255
  z167 := Tryz.sizeOf255
  v167 := Tryz.zeroValue255
  t168 := Tryz.underlying258
  a168 := Tryz.isAgg258
  z168 := Tryz.sizeOf258
  v168 := Tryz.zeroValue258
  t171 := Tryz.underlying234
  a171 := Tryz.isAgg234
  z171 := Tryz.sizeOf234
  v171 := Tryz.zeroValue234
  t173 := Tryz.underlying237
  a173 := Tryz.isAgg237
  z173 := Tryz.sizeOf237
  v173 := Tryz.zeroValue237
  t175 := Tryz.underlying269
  a175 := Tryz.isAgg269
  z175 := Tryz.sizeOf269
  v175 := Tryz.zeroValue269
  t210 := Tryz.underlying273
  a210 := Tryz.isAgg273
  z210 := Tryz.sizeOf273
  v210 := Tryz.zeroValue273
  t212 := Tryz.underlying251
  a212 := Tryz.isAgg251
  z212 := Tryz.sizeOf251
  v212 := Tryz.zeroValue251
  t213 := Tryz.underlying252
  a213 := Tryz.isAgg252
  z213 := Tryz.sizeOf252
  t232 := Tryz.underlying285
  a232 := Tryz.isAgg285
  z232 := Tryz.sizeOf285
  v232 := Tryz.zeroValue285
  t233 := Tryz.underlying286
  a233 := Tryz.isAgg286
  z233 := Tryz.sizeOf286
  v233 := Tryz.zeroValue286
  g15 := by kernel_rfl
  g16 := by kernel_rfl
  g17 := by kernel_rfl
  g18 := by kernel_rfl
  g19 := by kernel_rfl
  t80 := Tryz.underlying103
  a80 := Tryz.isAgg103
  z80 := Tryz.sizeOf103
  v80 := Tryz.zeroValue103
  i0 := by kernel_rfl
  i2 := by kernel_rfl
  i3 := by kernel_rfl
  i4 := by kernel_rfl
  i5 := by kernel_rfl
  i9 := by kernel_rfl
  i20 := by kernel_rfl
  i21 := by kernel_rfl
  i37 := by kernel_rfl
  i46 := by kernel_rfl
  i51 := by kernel_rfl
  i53 := by kernel_rfl
  i75 := by kernel_rfl
  i76 := by kernel_rfl
  i80 := by kernel_rfl
  i85 := by kernel_rfl
  i127 := by kernel_rfl
  i143 := by kernel_rfl
  i145 := by kernel_rfl
  i167 := by kernel_rfl
  i168 := by kernel_rfl
  i171 := by kernel_rfl
  i173 := by kernel_rfl
  i175 := by kernel_rfl
  i210 := by kernel_rfl
  i212 := by kernel_rfl
  i232 := by kernel_rfl
  i233 := by kernel_rfl
  m15 := by kernel_rfl
  m16 := by kernel_rfl
  m17 := by kernel_rfl
  m18 := by kernel_rfl
  m19 := by kernel_rfl
  c0 := by kernel_rfl
  c2 := by kernel_rfl
  c3 := by kernel_rfl
  c4 := by kernel_rfl
  c5 := by kernel_rfl
  c9 := by kernel_rfl
  c20 := by kernel_rfl
  c21 := by kernel_rfl
  c37 := by kernel_rfl
  c46 := by kernel_rfl
  c51 := by kernel_rfl
  c53 := by kernel_rfl
  c75 := by kernel_rfl
  c76 := by kernel_rfl
  c80 := by kernel_rfl
  c85 := by kernel_rfl
  c127 := by kernel_rfl
  c143 := by kernel_rfl
  c145 := by kernel_rfl
  c167 := by kernel_rfl
  c168 := by kernel_rfl
  c171 := by kernel_rfl
  c173 := by kernel_rfl
  c175 := by kernel_rfl
  c210 := by kernel_rfl
  c212 := by kernel_rfl
  c213 := by kernel_rfl
  c232 := by kernel_rfl
  c233 := by kernel_rfl }
def Tryz.triml_ren : Go.Shelf.Ren := ⟨fun | 161 => 200 | 231 => 213 | 227 => 214 | 233 => 215 | 235 => 216 | 228 => 220 | 197 => 184 | 151 => 221 | 260 => 203 | 152 => 222 | 137 => 105 | 119 => 223 | 224 => 205 | 225 => 204 | 217 => 132 | 266 => 160 | n => n, fun | 9 => 9 | 4 => 4 | 3 => 3 | 5 => 5 | 117 => 281 | 116 => 280 | 0 => 0 | 124 => 284 | 105 => 253 | 21 => 21 | 119 => 287 | 46 => 159 | 139 => 290 | 138 => 289 | n => n, fun | 3 => 7 | 4 => 8 | n => n⟩
theorem Tryz.triml : Go.Proofs.Lays.n161 Tryz.prog Tryz.triml_ren := {
  mixed := by kernel_rfl
  f119 := Tryz.func223.trans (congrArg some (by kernel_rfl))
  f137 := Tryz.func105.trans (congrArg some (by kernel_rfl))
  f151 := Tryz.func221.trans (congrArg some (by kernel_rfl))
  f152 := Tryz.func222.trans (congrArg some (by kernel_rfl))
  f161 := Tryz.func200.trans (congrArg some (by kernel_rfl))
  f197 := Tryz.func184.trans (congrArg some (by kernel_rfl))
  f217 := Tryz.func132.trans (congrArg some (by kernel_rfl))
  f224 := Tryz.func205.trans (congrArg some (by kernel_rfl))
  f225 := Tryz.func204.trans (congrArg some (by kernel_rfl))
  f227 := Tryz.func214.trans (congrArg some (by kernel_rfl))
  f228 := Tryz.func220.trans (congrArg some (by kernel_rfl))
  f231 := Tryz.func213.trans (congrArg some (by kernel_rfl))
  f233 := Tryz.func215.trans (congrArg some (by kernel_rfl))
  f235 := Tryz.func216.trans (congrArg some (by kernel_rfl))
  f260 := Tryz.func203.trans (congrArg some (by kernel_rfl))
  f266 := Tryz.func160.trans (congrArg some (by kernel_rfl))
  t0 := Tryz.underlying0
  a0 := Tryz.isAgg0
  z0 := Tryz.sizeOf0
  v0 := Tryz.zeroValue0
  t3 := Tryz.underlying3
  a3 := Tryz.isAgg3
  z3 := Tryz.sizeOf3
  v3 := Tryz.zeroValue3
  t4 := Tryz.underlying4
  a4 := Tryz.isAgg4
  z4 := Tryz.sizeOf4
  v4 := Tryz.zeroValue4
  t5 := Tryz.underlying5
  a5 := Tryz.isAgg5
  z5 := Tryz.sizeOf5
  v5 := Tryz.zeroValue5
  t9 := Tryz.underlying9
  a9 := Tryz.isAgg9
  z9 := Tryz.sizeOf9
  v9 := Tryz.zeroValue9
  t21 := Tryz.underlying21
  a21 := Tryz.isAgg21
  z21 := Tryz.sizeOf21
  v21 := Tryz.zeroValue21
  t46 := Tryz.underlying159
  a46 := Tryz.isAgg159
  z46 := Tryz.sizeOf159
  v46 := Tryz.zeroValue159
  t105 := Tryz.underlying253
  a105 := Tryz.isAgg253
  z105 := Tryz.sizeOf253
  v105 := Tryz.zeroValue253
  t116 := Tryz.underlying280
  a116 := Tryz.isAgg280
  z116 := Tryz.sizeOf280
  t117 := Tryz.underlying281
  a117 := Tryz.isAgg281
  z117 := Tryz.sizeOf281
  v117 := Tryz.zeroValue281
  t119 := Tryz.underlying287
  a119 := Tryz.isAgg287
  z119 := Tryz.sizeOf287
  t124 := Tryz.underlying284
  a124 := Tryz.isAgg284
  z124 := Tryz.sizeOf284
  v124 := Tryz.zeroValue284
  t138 := Tryz.underlying289
  a138 := Tryz.isAgg289
  z138 := Tryz.sizeOf289
  v138 := Tryz.zeroValue289
  t139 := Tryz.underlying290
  a139 := Tryz.isAgg290
  z139 := Tryz.sizeOf290
  v139 := Tryz.zeroValue290
  g3 := by kernel_rfl
  g4 := by kernel_rfl }
def Tryz.hasp_ren : Go.Shelf.Ren := ⟨fun | 99 => 144 | 206 => 178 | n => n, fun | 9 => 9 | 4 => 4 | 3 => 3 | n => n, fun | n => n⟩
theorem Tryz.hasp : Go.Proofs.Lays.n99 Tryz.prog Tryz.hasp_ren := {
  mixed := by kernel_rfl
  f99 := Tryz.func144.trans (congrArg some (by kernel_rfl))
  f206 := Tryz.func178.trans (congrArg some (by kernel_rfl))
  t3 := Tryz.underlying3
  a3 := Tryz.isAgg3
  z3 := Tryz.sizeOf3
  v3 := Tryz.zeroValue3
  t4 := Tryz.underlying4
  a4 := Tryz.isAgg4
  z4 := Tryz.sizeOf4
  v4 := Tryz.zeroValue4
  t9 := Tryz.underlying9
  a9 := Tryz.isAgg9
  z9 := Tryz.sizeOf9
  v9 := Tryz.zeroValue9 }
def Tryz.indexb_ren : Go.Shelf.Ren := ⟨fun | 137 => 105 | 217 => 132 | 266 => 160 | n => n, fun | 9 => 9 | 5 => 5 | 3 => 3 | n => n, fun | n => n⟩
theorem Tryz.indexb : Go.Proofs.Lays.n137 Tryz.prog Tryz.indexb_ren := {
  mixed := by kernel_rfl
  f137 := Tryz.func105.trans (congrArg some (by kernel_rfl))
  f217 := Tryz.func132.trans (congrArg some (by kernel_rfl))
  f266 := Tryz.func160.trans (congrArg some (by kernel_rfl))
  t3 := Tryz.underlying3
  a3 := Tryz.isAgg3
  z3 := Tryz.sizeOf3
  v3 := Tryz.zeroValue3
  t5 := Tryz.underlying5
  a5 := Tryz.isAgg5
  z5 := Tryz.sizeOf5
  v5 := Tryz.zeroValue5
  t9 := Tryz.underlying9
  a9 := Tryz.isAgg9
  z9 := Tryz.sizeOf9
  v9 := Tryz.zeroValue9 }
def Tryz.bstring_ren : Go.Shelf.Ren := ⟨fun | 169 => 64 | n => n, fun | 70 => 111 | 9 => 9 | 0 => 0 | 72 => 113 | 37 => 94 | 127 => 168 | 3 => 3 | 5 => 5 | n => n, fun | n => n⟩
theorem Tryz.bstring : Go.Proofs.Lays.n169 Tryz.prog Tryz.bstring_ren := {
  mixed := by kernel_rfl
  f169 := Tryz.func64.trans (congrArg some (by kernel_rfl))
  t0 := Tryz.underlying0
  a0 := Tryz.isAgg0
  z0 := Tryz.sizeOf0
  v0 := Tryz.zeroValue0
  t3 := Tryz.underlying3
  a3 := Tryz.isAgg3
  z3 := Tryz.sizeOf3
  v3 := Tryz.zeroValue3
  t9 := Tryz.underlying9
  a9 := Tryz.isAgg9
  z9 := Tryz.sizeOf9
  v9 := Tryz.zeroValue9
  t37 := Tryz.underlying94
  a37 := Tryz.isAgg94
  z37 := Tryz.sizeOf94
  v37 := Tryz.zeroValue94
  t70 := Tryz.underlying111
  a70 := Tryz.isAgg111
  z70 := Tryz.sizeOf111
  v70 := Tryz.zeroValue111
  t72 := Tryz.underlying113
  a72 := Tryz.isAgg113
  z72 := Tryz.sizeOf113
  v72 := Tryz.zeroValue113
  t127 := Tryz.underlying168
  a127 := Tryz.isAgg168
  z127 := Tryz.sizeOf168
  v127 := Tryz.zeroValue168 }
end Go.Proofs

/-
  Package expr: how a tree and a reader lie in memory; the contracts of the reader's small methods. No condition of ours.
-/
namespace Go.Proofs.YtfndhfekbbbliaaGreatDoor
open Go.RowKit Go.Shelf
set_option linter.unusedVariables false
def RdAt (w : World) (R : Nat) (s : ByteArray) (p d : Nat) : Prop := w.heap[R]? = some (.cells #[.string s, .int .i64 p, .int .i64 d] 151 (0, 0))
theorem RdAt.lt {w : World} {R : Nat} {s : ByteArray} {p d : Nat} (h : RdAt w R s p d) : R < w.heap.size := block_lt h
theorem RdAt.cells {w : World} {R : Nat} {s : ByteArray} {p d : Nat} (h : RdAt w R s p d) : w.cell? ⟨R, 0, none⟩ = some (.string s) ∧ w.cell? ⟨R, 1, none⟩ = some (.int .i64 p) ∧ w.cell? ⟨R, 2, none⟩ = some (.int .i64 d) ∧ (∀ i, w.frozen? ⟨R, i, none⟩ = false) :=
 ⟨(cell_of_row w R 0 _ _ _ h).trans rfl, (cell_of_row w R 1 _ _ _ h).trans rfl, (cell_of_row w R 2 _ _ _ h).trans rfl, fun i => by simp [World.frozen?, RdAt] at h ⊢; simp [h]⟩
theorem RdAt.keep {w w' : World} {R : Nat} {s : ByteArray} {p d : Nat} (h : RdAt w R s p d) (hs : w'.heap[R]? = w.heap[R]?) : RdAt w' R s p d := hs.trans h
theorem RdAt.moved {w : World} {R : Nat} {s : ByteArray} {p d : Nat} (h : RdAt w R s p d) (q : Nat) : RdAt (w.setCell ⟨R, 1, none⟩ (.int .i64 q)) R s q d := by
 unfold RdAt at h ⊢
 simp [World.setCell, Array.getElem?_modify, h]
theorem RdAt.deeper {w : World} {R : Nat} {s : ByteArray} {p d : Nat} (h : RdAt w R s p d) (q : Nat) : RdAt (w.setCell ⟨R, 2, none⟩ (.int .i64 q)) R s p q := by
 unfold RdAt at h ⊢
 simp [World.setCell, Array.getElem?_modify, h]
def headB (l : List UInt8) : Int := match l with
 | [] => 0
 | c :: _ => (c.toNat : Int)
theorem drop_head {s : ByteArray} {p : Nat} (h : p < s.size) : s.data.toList.drop p = s.data[p]'h :: s.data.toList.drop (p + 1) := by
 rw [List.drop_eq_getElem_cons (by simpa using h)]; simp
set_option maxRecDepth 100000 in
theorem peek_ok (R : Nat) (s : ByteArray) (p d : Nat) (w : World) (h : RdAt w R s p d) (hp : p ≤ s.size) :
  Calls Tryz.prog 142 #[.pointer (some ⟨R, 0, none⟩)] w fun e w' => e = .returned (.int .u8 (headB (s.data.toList.drop p))) ∧ ∃ q, w' = w.drewN q := by
 obtain ⟨c0, c1, c2, cf⟩ := h.cells
 by_cases hlt : p < s.size
 ·have d1 : decide ((p : Int) < (s.size : Int)) = true := decide_eq_true (by omega)
  rw [drop_head hlt]
  go_enter Tryz.func142, Tryz.ntmps142
  go_wp2
  go_quiet (fail)
  go_wp2
  go_quiet (fail)
  go_wp2
  go_ret
  exact ⟨rfl, _, World.drewN_drewN _ _ _⟩
 ·have d1 : decide ((p : Int) < (s.size : Int)) = false := decide_eq_false (by omega)
  have e : s.data.toList.drop p = [] := List.drop_eq_nil_of_le (by simpa using hlt)
  rw [e]
  go_enter Tryz.func142, Tryz.ntmps142
  go_wp2
  go_quiet (fail)
  go_wp2
  go_ret
  exact ⟨rfl, _, rfl⟩
def hasB (s : ByteArray) (p : Nat) (t : ByteArray) : Bool := Lib.hasPrefix (s.data.toList.drop p) t.data.toList
theorem slice_drop (s : ByteArray) (p : Nat) : (s.extract p s.size).data.toList = s.data.toList.drop p := by
 simp [ByteArray.data_extract]
 exact List.take_of_length_le (by simp)
theorem hasp_ok (s : ByteArray) (p : Nat) (t : ByteArray) (w : World) : Calls Tryz.prog 144 #[.string (s.extract p s.size), .string t] w fun e w' => e = .returned (.bool (hasB s p t)) ∧ w' = w := by
 have := Any.strings_HasPrefix Tryz.hasp (s.extract p s.size) t w
 rw [slice_drop] at this
 exact this
theorem hasp_b {s : ByteArray} {p : Nat} {t : ByteArray} {b : Bool} (h : hasB s p t = b) (w : World) : Calls Tryz.prog 144 #[.string (s.extract p s.size), .string t] w fun e w' => e = .returned (.bool b) ∧ w' = w := h ▸ hasp_ok s p t w
theorem has_le {s t : ByteArray} {p : Nat} (h : hasB s p t = true) (hp : p ≤ s.size) : p + t.size ≤ s.size := by
 have h1 := (List.isPrefixOf_iff_prefix.1 h).length_le
 rw [List.length_drop] at h1
 have e1 : s.data.toList.length = s.size := by simp
 have e2 : t.data.toList.length = t.size := by simp
 omega
set_option maxRecDepth 100000 in
theorem has_ok (R : Nat) (s t : ByteArray) (p d : Nat) (w : World) (h : RdAt w R s p d) (hp : p ≤ s.size) (hs : s.size ≤ 120) :
  Calls Tryz.prog 117 #[.pointer (some ⟨R, 0, none⟩), .string t] w fun e w' => e = .returned (.bool (hasB s p t)) ∧ RdAt w' R s (if hasB s p t then p + t.size else p) d ∧ Frm (· = R) w w' := by
 obtain ⟨c0, c1, c2, cf⟩ := h.cells
 have HH := Lib.hid h
 have hl := fun h => has_le (s := s) (t := t) (p := p) h hp
 have dp : ¬ s.size < p := by omega
 cases hb : hasB s p t with
 | true =>
  have hl2 := hl hb
  clear hl
  go_enter Tryz.func117, Tryz.ntmps117
  go_wp2_with fail
  go_quiet ((go_at_call 144; exact Calls.quiet_of_same (hasp_b hb _)))
  go_wp2_with fail
  go_ret
  rw [show ((p : Int) + (t.size : Int)) = ((p + t.size : Nat) : Int) from by omega]
  exact ⟨rfl, (HH.out.keep (w' := w.drewN nq) rfl).moved (p + t.size), ((Frm.refl (· = R) w).drewN nq).setCell (p := ⟨R, 1, none⟩) (.inl rfl) _⟩
 | false =>
  clear hl
  go_enter Tryz.func117, Tryz.ntmps117
  go_wp2_with fail
  go_quiet ((go_at_call 144; exact Calls.quiet_of_same (hasp_b hb _)))
  go_wp2_with fail
  go_ret
  exact ⟨rfl, HH.out.keep rfl, (Frm.refl _ _).drewN _⟩
def faultV (p : Nat) (k : Int) : Value := .iface 147 (.agg #[.int .i64 p, .iface 89 (.int .i64 k)])
def faultE (p : Nat) (k : Int) : Ending := .panicked [{ v := faultV p k, recovered := false }]
set_option maxRecDepth 100000 in
theorem fail_ok (R p : Nat) (k : Int) (w : World) : Calls Tryz.prog 85 #[.pointer (some ⟨R, 0, none⟩), .int .i64 p, .iface 89 (.int .i64 k)] w fun e w' => e = faultE p k ∧ w' = w := by
 have hpn : ∀ (t : TypeId) (v : Value) (w : World), (Instr.panic (.iface t v)).run Tryz.prog w = .halt (.panic (.iface t v)) w := fun _ _ _ => rfl
 go_enter Tryz.func85, Tryz.ntmps85
 go_wp2_with fail
 exact ⟨rfl, rfl, rfl⟩
set_option maxRecDepth 100000 in
theorem want_yes (R : Nat) (s t : ByteArray) (p d : Nat) (w : World) (h : RdAt w R s p d) (hp : p ≤ s.size) (hs : s.size ≤ 120) (hb : hasB s p t = true) :
  Calls Tryz.prog 119 #[.pointer (some ⟨R, 0, none⟩), .string t] w fun e w' => e = .returned (.tuple #[]) ∧ RdAt w' R s (p + t.size) d ∧ Frm (· = R) w w' := by
 have HAS := Lib.hid (has_ok R s t p d w h hp hs)
 rw [hb] at HAS
 go_enter Tryz.func119, Tryz.ntmps119
 go_wp2_with fail
 refine HAS.out.mono ?_
 rintro e w1 ⟨rfl, h1, f1⟩
 have H1 := Lib.hid h1
 have F1 := Lib.hid f1
 clear h1 f1
 go_wp2_with fail
 exact ⟨rfl, .tuple #[], by simp [results, Tryz.results119, go_sem], rfl, by simpa using H1.out, F1.out⟩
set_option maxRecDepth 100000 in
theorem want_no (R : Nat) (s t : ByteArray) (p d : Nat) (w : World) (h : RdAt w R s p d) (hp : p ≤ s.size) (hs : s.size ≤ 120) (hb : hasB s p t = false) :
  Calls Tryz.prog 119 #[.pointer (some ⟨R, 0, none⟩), .string t] w fun e w' => e = faultE p 2 ∧ RdAt w' R s p d ∧ Frm (· = R) w w' := by
 have HAS := Lib.hid (has_ok R s t p d w h hp hs)
 rw [hb] at HAS
 go_enter Tryz.func119, Tryz.ntmps119
 go_wp2_with fail
 refine HAS.out.mono ?_
 rintro e w1 ⟨rfl, h1, f1⟩
 obtain ⟨c0, c1, c2, cf⟩ := RdAt.cells h1
 have H1 := Lib.hid h1
 have F1 := Lib.hid f1
 clear h1 f1
 simp only [Bool.false_eq_true, if_false] at c1 H1
 go_wp2_with fail
 refine (fail_ok R p 2 w1).mono ?_
 rintro e w2 ⟨rfl, rfl⟩
 exact ⟨rfl, rfl, H1.out, F1.out⟩
end Go.Proofs.YtfndhfekbbbliaaGreatDoor

/-
  Package expr: how a tree lies in memory; what a reader's method leaves; the contract of within, whatever is read one level deeper. No condition of ours.
-/
namespace Go.Proofs.YtfndhfekbbbliaaGreatDoor
open Go.RowKit Go.Shelf
set_option linter.unusedVariables false
def KidsAt (F : Nat → Prop) (w : World) (g : Nat) (cs : List Value) : Prop := F g ∧ w.heap[g]? = some (.cells cs.toArray 86 (0, 0))
def TrC (F : Nat → Prop) (w : World) : Tr → List Value → Prop
 | .num k, cs => cs = [.int .u8 48, .int .i64 k, .slice none 0 0]
 | .nam n, cs => cs = [.int .u8 (if n then 110 else 115), .int .i64 0, .slice none 0 0]
 | .neg a, cs => ∃ g ca, cs = [.int .u8 126, .int .i64 0, .slice (some ⟨g, 0, none⟩) 1 1] ∧ KidsAt F w g ca ∧ TrC F w a ca
 | .bin op a b, cs => ∃ g ca cb, cs = [.int .u8 (op.toNat : Int), .int .i64 0, .slice (some ⟨g, 0, none⟩) 2 2] ∧ KidsAt F w g (ca ++ cb) ∧ TrC F w a ca ∧ TrC F w b cb
 | .sel a b c, cs => ∃ g ca cb cc, cs = [.int .u8 63, .int .i64 0, .slice (some ⟨g, 0, none⟩) 3 3] ∧ KidsAt F w g (ca ++ cb ++ cc) ∧ TrC F w a ca ∧ TrC F w b cb ∧ TrC F w c cc
def trL (o n : Int) (A : Option Addr) (c : Nat) : List Value := [.int .u8 o, .int .i64 n, .slice A c c]
def trA (o n : Int) (A : Option Addr) (c : Nat) : Array Value := #[.int .u8 o, .int .i64 n, .slice A c c]
theorem TrC.three {F : Nat → Prop} {w : World} {t : Tr} {cs : List Value} (h : TrC F w t cs) : ∃ o n A c, cs = trL o n A c := by
 cases t with
 | num k => exact ⟨_, _, _, _, h⟩
 | nam n => exact ⟨_, _, _, _, h⟩
 | neg a => obtain ⟨g, ca, h, _⟩ := h; exact ⟨_, _, _, _, h⟩
 | bin op a b => obtain ⟨g, ca, cb, h, _⟩ := h; exact ⟨_, _, _, _, h⟩
 | sel a b c => obtain ⟨g, ca, cb, cc, h, _⟩ := h; exact ⟨_, _, _, _, h⟩
theorem KidsAt.keep {F : Nat → Prop} {w w' : World} {g : Nat} {cs : List Value} (h : KidsAt F w g cs) (hs : Same F w w') : KidsAt F w' g cs := ⟨h.1, (hs g h.1).trans h.2⟩
theorem KidsAt.in_ {F G : Nat → Prop} {w : World} {g : Nat} {cs : List Value} (h : KidsAt F w g cs) (hF : ∀ k, F k → k < w.heap.size → G k) : KidsAt G w g cs := ⟨hF g h.1 (block_lt h.2), h.2⟩
theorem TrC.keep {F : Nat → Prop} {w w' : World} {t : Tr} {cs : List Value} (h : TrC F w t cs) (hs : Same F w w') : TrC F w' t cs := by
 induction t generalizing cs with
 | num k => exact h
 | nam n => exact h
 | neg a iha => obtain ⟨g, ca, h1, h2, h3⟩ := h; exact ⟨g, ca, h1, h2.keep hs, iha h3⟩
 | bin op a b iha ihb => obtain ⟨g, ca, cb, h1, h2, h3, h4⟩ := h; exact ⟨g, ca, cb, h1, h2.keep hs, iha h3, ihb h4⟩
 | sel a b c iha ihb ihc => obtain ⟨g, ca, cb, cc, h1, h2, h3, h4, h5⟩ := h; exact ⟨g, ca, cb, cc, h1, h2.keep hs, iha h3, ihb h4, ihc h5⟩
theorem TrC.in_ {F G : Nat → Prop} {w : World} {t : Tr} {cs : List Value} (h : TrC F w t cs) (hF : ∀ k, F k → k < w.heap.size → G k) : TrC G w t cs := by
 induction t generalizing cs with
 | num k => exact h
 | nam n => exact h
 | neg a iha => obtain ⟨g, ca, h1, h2, h3⟩ := h; exact ⟨g, ca, h1, h2.in_ hF, iha h3⟩
 | bin op a b iha ihb => obtain ⟨g, ca, cb, h1, h2, h3, h4⟩ := h; exact ⟨g, ca, cb, h1, h2.in_ hF, iha h3, ihb h4⟩
 | sel a b c iha ihb ihc => obtain ⟨g, ca, cb, cc, h1, h2, h3, h4, h5⟩ := h; exact ⟨g, ca, cb, cc, h1, h2.in_ hF, iha h3, ihb h4, ihc h5⟩
def RdL (w : World) (R : Nat) (s : ByteArray) (l : List UInt8) (d : Nat) : Prop := l.length ≤ s.size ∧ l = s.data.toList.drop (s.size - l.length) ∧ RdAt w R s (s.size - l.length) d
def NumVar (w : World) (R g : Nat) : Prop := g ≠ R ∧ ∃ ev, w.cell? ⟨g, 0, none⟩ = some ev ∧ (ev = .nilIface ∨ ∃ te pe, ev = .iface te pe)
def NumVars (w : World) (R : Nat) : Prop := NumVar w R (Tryz.atoi_ren.g 15) ∧ NumVar w R (Tryz.atoi_ren.g 16)
theorem NumVar.frm {w w' : World} {R g : Nat} (h : NumVar w R g) (hF : Frm (· = R) w w') : NumVar w' R g := by
 obtain ⟨h0, ev, h1, h2⟩ := h
 exact ⟨h0, ev, (World.cell?_of_block (a := ⟨g, 0, none⟩) (hF.block g (cell_lt h1) h0)).trans h1, h2⟩
theorem NumVars.frm {w w' : World} {R : Nat} (h : NumVars w R) (hF : Frm (· = R) w w') : NumVars w' R := ⟨h.1.frm hF, h.2.frm hF⟩
def Reads_ (R : Nat) (s : ByteArray) (d : Nat) (w : World) (r : Rd) (e : Ending) (w' : World) : Prop := match r with
 | .ok t l => ∃ o n A c, e = .returned (.agg (trA o n A c)) ∧ TrC (w.heap.size ≤ ·) w' t (trL o n A c) ∧ RdL w' R s l d ∧ Frm (· = R) w w'
 | .bad k j => e = faultE (s.size - k) j ∧ (∃ p, RdAt w' R s p d) ∧ Frm (· = R) w w'
theorem up_any (B R p d : Nat) (s : ByteArray) (u : FrameMode) (w : World) (hB : w.cell? ⟨B, 0, none⟩ = some (.pointer (some ⟨R, 0, none⟩))) (h : RdAt w R s p (d + 1)) (hd : d ≤ 1000) :
  CallsD Tryz.prog 145 #[.pointer (some ⟨B, 0, none⟩)] u w fun e u' w' => u' = u ∧ (e = .returned (.tuple #[]) ∧ w' = w.setCell ⟨R, 2, none⟩ (.int .i64 d)) := by
 obtain ⟨c0, c1, c2, cf⟩ := h.cells
 have e1 : ((d + 1 : Nat) : Int) - 1 = (d : Int) := by omega
 go_enter_d Tryz.func145, Tryz.ntmps145
 go_wp2_with fail
 exact ⟨rfl, .tuple #[], by simp [results, Tryz.results145, go_sem], rfl, rfl⟩
set_option maxRecDepth 100000 in
theorem within_full (R p at_ : Nat) (s : ByteArray) (fv : Value) (w : World) (h : RdAt w R s p 20) :
  Calls Tryz.prog 118 #[.pointer (some ⟨R, 0, none⟩), .int .i64 at_, fv] w fun e w' => e = faultE at_ 4 ∧ RdAt w' R s p 20 ∧ Frm (· = R) w w' := by
 have hlt := h.lt
 obtain ⟨c0, c1, c2, cf⟩ := h.cells
 have HH := Lib.hid h
 go_enter_defers Tryz.func118, Tryz.ntmps118
 go_wp2_with fail
 refine (fail_ok R at_ 4 _).mono ?_
 rintro e w1 ⟨rfl, rfl⟩
 have hF : Frm (· = R) w ((w.alloc (.cells #[.pointer (some ⟨R, 0, none⟩)] 149)).alloc (.cells #[.int .u8 0, .int .i64 0, .slice none 0 0] 86)) := ((Frm.refl _ _).alloc _).alloc _
 exact ⟨rfl, HH.out.keep ((heap_alloc_old _ _ (by simp; omega)).trans (heap_alloc_old _ _ hlt)), hF⟩
def TVar (w : World) (k : Nat) (x y z : Value) : Prop := w.heap[k]? = some (.cells #[x, y, z] 86 (0, 0))
theorem TVar.cells {w : World} {k : Nat} {x y z : Value} (h : TVar w k x y z) : w.cell? ⟨k, 0, none⟩ = some x ∧ w.cell? ⟨k, 1, none⟩ = some y ∧ w.cell? ⟨k, 2, none⟩ = some z ∧ (∀ i, w.frozen? ⟨k, i, none⟩ = false) :=
 ⟨(cell_of_row w k 0 _ _ _ h).trans rfl, (cell_of_row w k 1 _ _ _ h).trans rfl, (cell_of_row w k 2 _ _ _ h).trans rfl, fun i => by simp [World.frozen?, TVar] at h ⊢; simp [h]⟩
def tset (w : World) (k : Nat) (x y z : Value) : World := ((w.setCell ⟨k, 0, none⟩ x).setCell ⟨k, 1, none⟩ y).setCell ⟨k, 2, none⟩ z
theorem TVar.put {w : World} {k : Nat} {x y z : Value} (h : TVar w k x y z) (x' y' z' : Value) : TVar (tset w k x' y' z') k x' y' z' := by
 unfold TVar at h ⊢
 simp [tset, World.setCell, Array.getElem?_modify, h]
theorem tset_far (w : World) {k j : Nat} (h : j ≠ k) (x y z : Value) : (tset w k x y z).heap[j]? = w.heap[j]? := by
 unfold tset
 iterate 3 rw [Below.heap_setCell _ _ _ _ (by simpa using h)]
theorem tset_size (w : World) (k : Nat) (x y z : Value) : (tset w k x y z).heap.size = w.heap.size := by simp [tset]
theorem Frm.tset {F : Nat → Prop} {a w : World} (h : Frm F a w) {k : Nat} (hk : F k ∨ a.heap.size ≤ k) (x y z : Value) : Frm F a (Go.Proofs.YtfndhfekbbbliaaGreatDoor.tset w k x y z) := ((h.setCell (p := ⟨k, 0, none⟩) hk _).setCell (p := ⟨k, 1, none⟩) hk _).setCell (p := ⟨k, 2, none⟩) hk _
set_option maxRecDepth 100000 in
set_option maxHeartbeats 4000000 in
theorem within_ok (R p at_ d K : Nat) (s : ByteArray) (first cap : Array Value) (w : World) (r : Rd) (h : RdAt w R s p d) (hd : d ≠ 20) (hd2 : d ≤ 20)
  (hK : ∀ args w, (callFunc K args).run Tryz.prog w = .ok (.enter K args) w)
  (hC : ∀ W, RdAt W R s p (d + 1) → Frm (· = R) w W → Calls Tryz.prog K (first ++ cap) W (Reads_ R s (d + 1) W r)) :
  Calls Tryz.prog 118 #[.pointer (some ⟨R, 0, none⟩), .int .i64 at_, .func (.func K) first cap] w (Reads_ R s d w r) := by
 have hlt := h.lt
 obtain ⟨c0, c1, c2, cf⟩ := h.cells
 have HH := Lib.hid h
 have hne : ((d : Int) == 20) = false := beq_eq_false_iff_ne.2 (by omega)
 have hmf : ∀ (fn : Fn) (first cap : Array Value) (w : World), (Instr.makeFunc fn first cap).run Tryz.prog w = .ok (.func fn first cap) w := fun _ _ _ _ => rfl
 have HC := Lib.hid hC
 clear hC
 go_enter_defers Tryz.func118, Tryz.ntmps118
 go_wp2_with fail
 have ed : (d : Int) + 1 = ((d + 1 : Nat) : Int) := by omega
 obtain ⟨W, hW⟩ : ∃ W, W = ((w.setCell ⟨R, 2, none⟩ (.int .i64 ((d : Int) + 1))).alloc (.cells #[.pointer (some ⟨R, 0, none⟩)] 149)).alloc (.cells #[.int .u8 0, .int .i64 0, .slice none 0 0] 86) := ⟨_, rfl⟩
 have hWs : W.heap.size = w.heap.size + 2 := by rw [hW]; simp
 have hWR : RdAt W R s p (d + 1) := by
  rw [hW, ed]
  exact (HH.out.deeper (d + 1)).keep ((heap_alloc_old _ _ (by simp; omega)).trans (heap_alloc_old _ _ (by simpa using hlt)))
 have hWF : Frm (· = R) w W := by
  rw [hW]; exact ((((Frm.refl (· = R) w).setCell (p := ⟨R, 2, none⟩) (.inl rfl) _).alloc _).alloc _)
 have hWB : W.heap[w.heap.size]? = some (.cells #[.pointer (some ⟨R, 0, none⟩)] 149 (0, 0)) := by
  rw [hW]
  refine (heap_alloc_old _ _ (by simp)).trans ?_
  have := heap_alloc_new (w.setCell ⟨R, 2, none⟩ (.int .i64 ((d : Int) + 1))) (.cells #[.pointer (some ⟨R, 0, none⟩)] 149)
  simp only [World.size_setCell] at this
  exact this
 have hWT : TVar W (w.heap.size + 1) (.int .u8 0) (.int .i64 0) (.slice none 0 0) := by
  rw [hW]
  have := heap_alloc_new ((w.setCell ⟨R, 2, none⟩ (.int .i64 ((d : Int) + 1))).alloc (.cells #[.pointer (some ⟨R, 0, none⟩)] 149)) (.cells #[.int .u8 0, .int .i64 0, .slice none 0 0] 86)
  simpa [TVar] using this
 rw [← hW]
 have HWR := Lib.hid hWR
 have HWF := Lib.hid hWF
 have HWT := Lib.hid hWT
 have HWB := Lib.hid hWB
 have HWS := Lib.hid hWs
 have HRW := Lib.hid hlt
 clear hW hWR hWF hWT hWB hWs c0 c1 c2 cf h
 refine (HC.out W HWR.out HWF.out).mono ?_
 intro e w2 hr
 cases r with
 | ok t l =>
  obtain ⟨o, n, A, c, rfl, ht, hl, hf⟩ := hr
  have HT := Lib.hid ht
  have HL := Lib.hid hl
  have HF := Lib.hid hf
  have hv : TVar w2 (w.heap.size + 1) (.int .u8 0) (.int .i64 0) (.slice none 0 0) := (hf.block _ (by have := HWS.out; omega) (by have := HRW.out; omega)).trans HWT.out
  obtain ⟨v0, v1, v2, vf⟩ := hv.cells
  clear ht hl hf hv hlt
  simp only [trA]
  go_wp2_with fail
  obtain ⟨W3, hW3⟩ : ∃ W3, W3 = tset w2 (w.heap.size + 1) (.int .u8 o) (.int .i64 n) (.slice A c c) := ⟨_, rfl⟩
  have hsz : w.heap.size + 2 ≤ w2.heap.size := by have := HWS.out; have := HF.out.size; omega
  have h2F : Frm (· = R) w w2 := HWF.out.trans HF.out (fun _ h => h) (fun _ h => .inl h)
  have h3B : W3.heap[w.heap.size]? = some (.cells #[.pointer (some ⟨R, 0, none⟩)] 149 (0, 0)) := by
   rw [hW3, tset_far _ (by omega)]
   exact (HF.out.block _ (by have := HWS.out; omega) (by have := HRW.out; omega)).trans HWB.out
  have h3R : RdL W3 R s l (d + 1) := ⟨HL.out.1, HL.out.2.1, HL.out.2.2.keep (by rw [hW3, tset_far _ (by have := HRW.out; omega)])⟩
  have h3F : Frm (· = R) w W3 := by rw [hW3]; exact h2F.tset (.inr (by omega)) _ _ _
  have h3V : TVar W3 (w.heap.size + 1) (.int .u8 o) (.int .i64 n) (.slice A c c) := by
   rw [hW3]
   exact TVar.put (x := .int .u8 0) (y := .int .i64 0) (z := .slice none 0 0) ((HF.out.block _ (by have := HWS.out; omega) (by have := HRW.out; omega)).trans HWT.out) _ _ _
  have h3T : TrC (w.heap.size + 2 ≤ ·) W3 t (trL o n A c) := by
   refine TrC.keep (HT.out.in_ fun k hk _ => by have := HWS.out; omega) fun k hk => ?_
   rw [hW3, tset_far _ (by omega)]
  have hWd : (((w2.setCell ⟨w.heap.size + 1, 0, none⟩ (.int .u8 o)).setCell ⟨w.heap.size + 1, 1, none⟩ (.int .i64 n)).setCell ⟨w.heap.size + 1, 2, none⟩ (.slice A c c)) = W3 := hW3.symm
  rw [hWd]
  refine leaves_cons (f := 145) (args := #[.pointer (some ⟨w.heap.size, 0, none⟩)]) (by simp) (by simp [go_sem]) ?_
  refine (up_any w.heap.size R _ d s .returning W3 ((cell_of_row W3 w.heap.size 0 _ _ _ h3B).trans rfl) h3R.2.2 (by omega)).mono ?_
  rintro e u' w4 ⟨rfl, rfl, rfl⟩
  have h4V : TVar (W3.setCell ⟨R, 2, none⟩ (.int .i64 d)) (w.heap.size + 1) (.int .u8 o) (.int .i64 n) (.slice A c c) := (Below.heap_setCell _ _ _ _ (by have := HRW.out; simp; omega)).trans h3V
  obtain ⟨q0, q1, q2, qf⟩ := h4V.cells
  refine ⟨.agg (trA o n A c), ?_, o, n, A, c, rfl, ?_, ?_, ?_⟩
  ·simp only [results, Tryz.results118]
   simp [go_sem, q0, q1, q2, trA]
  ·exact (h3T.keep fun k hk => Below.heap_setCell _ _ _ _ (by have := HRW.out; simp; omega)).in_ fun k hk _ => by omega
  ·exact ⟨h3R.1, h3R.2.1, h3R.2.2.deeper d⟩
  ·exact h3F.setCell (p := ⟨R, 2, none⟩) (.inl rfl) _
 | bad k j =>
  obtain ⟨rfl, ⟨p2, hp2⟩, hf⟩ := hr
  simp only [faultE]
  refine leaves_cons (f := 145) (args := #[.pointer (some ⟨w.heap.size, 0, none⟩)]) (by simp) (by simp [go_sem]) ?_
  have h2B : w2.heap[w.heap.size]? = some (.cells #[.pointer (some ⟨R, 0, none⟩)] 149 (0, 0)) := (hf.block _ (by have := HWS.out; omega) (by have := HRW.out; omega)).trans HWB.out
  refine (up_any w.heap.size R _ d s _ w2 ((cell_of_row w2 w.heap.size 0 _ _ _ h2B).trans rfl) hp2 (by omega)).mono ?_
  rintro e u' w4 ⟨rfl, rfl, rfl⟩
  exact ⟨rfl, ⟨p2, hp2.deeper d⟩, (HWF.out.trans hf (fun _ h => h) (fun _ h => .inl h)).setCell (p := ⟨R, 2, none⟩) (.inl rfl) _⟩
end Go.Proofs.YtfndhfekbbbliaaGreatDoor
