/-
  Maps keyed by strings as lists of pairs, over any program: what is read, stored, taken away; and the keys, sorted. No condition: plain definitions and lemmas.
-/
import Derived.Test.YthanjafbgcljgaaGreatDoorMap
import Derived.Sort.KeysCollected
import Derived.Maps.OwnSet
namespace Go.Proofs.YthanjafbgcljgaaGreatDoor
open Go.RowKit Go.ChangeShapes Go.WideShapes Go.MapKept Go.ChangeMaps
set_option linter.unusedVariables false

/-- A map from strings, in the order in which its keys came. -/
abbrev SMap := List (ByteArray × Value)
def fv (p : ByteArray × Value) : Value × Value := (.string p.1, p.2)
def skeys (fs : SMap) : List ByteArray := fs.map (·.1)
def fgetD (z : Value) : SMap → ByteArray → Value
  | [], _ => z
  | p :: r, k => if p.1 = k then p.2 else fgetD z r k
def fset : SMap → ByteArray → Value → SMap
  | [], k, v => [(k, v)]
  | p :: r, k, v => if p.1 = k then (k, v) :: r else p :: fset r k v
def fdel (fs : SMap) (k : ByteArray) : SMap := fs.filter (fun p => decide (p.1 ≠ k))

def fhas (fs : SMap) (k : ByteArray) : Bool := fs.any (fun p => decide (p.1 = k))
theorem fhas_iff {fs : SMap} {k : ByteArray} : fhas fs k = true ↔ k ∈ skeys fs := by
  unfold fhas skeys
  rw [List.any_eq_true, List.mem_map]
  constructor
  · rintro ⟨p, hp, h⟩; exact ⟨p, hp, of_decide_eq_true h⟩
  · rintro ⟨p, hp, h⟩; exact ⟨p, hp, decide_eq_true h⟩
theorem fhas_yes {fs : SMap} {k : ByteArray} (h : k ∈ skeys fs) : fhas fs k = true := fhas_iff.2 h
theorem fhas_no {fs : SMap} {k : ByteArray} (h : k ∉ skeys fs) : fhas fs k = false := by
  cases e : fhas fs k with
  | false => rfl
  | true => exact absurd (fhas_iff.1 e) h
theorem split_key : ∀ {fs : SMap} {k : ByteArray}, k ∈ skeys fs → ∃ a v b, fs = a ++ (k, v) :: b ∧ k ∉ skeys a
  | [], k, h => by simp [skeys] at h
  | p :: r, k, h => by
    by_cases e : p.1 = k
    · exact ⟨[], p.2, r, by rw [← e]; rfl, by simp [skeys]⟩
    · have h2 : k ∈ skeys r := by
        simp only [skeys, List.map_cons, List.mem_cons] at h
        rcases h with h | h
        · exact absurd h.symm e
        · exact h
      obtain ⟨a, v, b, h3, h4⟩ := split_key h2
      refine ⟨p :: a, v, b, by rw [h3]; rfl, ?_⟩
      simp only [skeys, List.map_cons, List.mem_cons, not_or]
      exact ⟨fun e' => e e'.symm, h4⟩
theorem fgetD_split (z : Value) : ∀ {a : SMap} {k : ByteArray} {v : Value} {b : SMap}, k ∉ skeys a → fgetD z (a ++ (k, v) :: b) k = v
  | [], k, v, b, _ => by simp [fgetD]
  | p :: a, k, v, b, h => by
    simp only [skeys, List.map_cons, List.mem_cons, not_or] at h
    simp only [List.cons_append, fgetD]
    rw [if_neg (fun e => h.1 e.symm)]
    exact fgetD_split z h.2
theorem fgetD_none (z : Value) : ∀ {a : SMap} {k : ByteArray}, k ∉ skeys a → fgetD z a k = z
  | [], k, _ => rfl
  | p :: a, k, h => by
    simp only [skeys, List.map_cons, List.mem_cons, not_or] at h
    simp only [fgetD]
    rw [if_neg (fun e => h.1 e.symm)]
    exact fgetD_none z h.2
theorem fset_split : ∀ {a : SMap} {k : ByteArray} {v u : Value} {b : SMap}, k ∉ skeys a → fset (a ++ (k, v) :: b) k u = a ++ (k, u) :: b
  | [], k, v, u, b, _ => by simp [fset]
  | p :: a, k, v, u, b, h => by
    simp only [skeys, List.map_cons, List.mem_cons, not_or] at h
    simp only [List.cons_append, fset]
    rw [if_neg (fun e => h.1 e.symm), fset_split h.2]
theorem fset_none : ∀ {a : SMap} {k : ByteArray} {u : Value}, k ∉ skeys a → fset a k u = a ++ [(k, u)]
  | [], k, u, _ => rfl
  | p :: a, k, u, h => by
    simp only [skeys, List.map_cons, List.mem_cons, not_or] at h
    simp only [List.cons_append, fset]
    rw [if_neg (fun e => h.1 e.symm), fset_none h.2]
theorem fdel_none {a : SMap} {k : ByteArray} (h : k ∉ skeys a) : fdel a k = a := by
  unfold fdel
  rw [List.filter_eq_self]
  intro p hp
  exact decide_eq_true (fun e => h (List.mem_map.2 ⟨p, hp, e⟩))
theorem fdel_split {a b : SMap} {k : ByteArray} {v : Value} (h : k ∉ skeys a) (h2 : k ∉ skeys b) : fdel (a ++ (k, v) :: b) k = a ++ b := by
  have e1 := fdel_none h
  have e2 := fdel_none h2
  unfold fdel at *
  rw [List.filter_append, e1, List.filter_cons, e2]
  simp
theorem mem_fset {fs : SMap} {k : ByteArray} {v : Value} {p : ByteArray × Value} (h : p ∈ fset fs k v) : p = (k, v) ∨ p ∈ fs := by
  by_cases hk : k ∈ skeys fs
  · obtain ⟨a, v0, b, rfl, ha⟩ := split_key hk
    rw [fset_split ha] at h
    rcases List.mem_append.1 h with h | h
    · exact .inr (List.mem_append.2 (.inl h))
    · rcases List.mem_cons.1 h with h | h
      · exact .inl h
      · exact .inr (List.mem_append.2 (.inr (List.mem_cons_of_mem _ h)))
  · rw [fset_none hk] at h
    rcases List.mem_append.1 h with h | h
    · exact .inr h
    · exact .inl (List.mem_singleton.1 h)
theorem mem_fdel {fs : SMap} {k : ByteArray} {p : ByteArray × Value} (h : p ∈ fdel fs k) : p ∈ fs := (List.mem_filter.1 h).1
theorem mem_fgetD {z : Value} {fs : SMap} {k : ByteArray} : fgetD z fs k = z ∨ (k, fgetD z fs k) ∈ fs := by
  by_cases hk : k ∈ skeys fs
  · obtain ⟨a, v0, b, rfl, ha⟩ := split_key hk
    right
    rw [fgetD_split z ha]; simp
  · exact .inl (fgetD_none z hk)

def IsStrK (v : Value) : Prop := ∃ s : ByteArray, v = .string s ∧ s.size ≤ maxLen
theorem strK_of {P : Program} {k : TypeId} (hk : P.underlying k = some .string) (v : Value) (h : IsStrK v) : ∃ l, keyOf P k v = some l := by
  obtain ⟨s, rfl, hs⟩ := h
  simp [keyOf, hk, mapKey, hs]
theorem strT {P : Program} {k : TypeId} (hk : P.underlying k = some .string) : KeyT P k IsStrK := (KeyT.of (Maps.string_keyed hk)).less (strK_of hk)

/-- Block b is a map from strings that holds fs. -/
def SMapAt (w : World) (b : Nat) (fs : SMap) : Prop := MapAt IsStrK w b (fs.map fv)
theorem SMapAt.lt {w : World} {b : Nat} {fs : SMap} (h : SMapAt w b fs) : b < w.heap.size := MapAt.lt h
theorem SMapAt.keep {w w' : World} {b : Nat} {fs : SMap} (h : SMapAt w b fs) (hs : w'.heap[b]? = w.heap[b]?) : SMapAt w' b fs := MapAt.keep h hs
theorem SMapAt.made (w : World) : SMapAt (w.alloc (.map #[] 0)) w.heap.size [] := MapAt.made _ w
theorem fv_inj {p q : ByteArray × Value} (h : (fv p).1 = (fv q).1) : p.1 = q.1 := by simpa [fv] using h
theorem SMapAt.nodup {w : World} {b : Nat} {fs : SMap} (h : SMapAt w b fs) : (skeys fs).Nodup := by
  have h1 := MapAt.nodup h
  rw [List.map_map] at h1
  unfold skeys
  rw [List.Nodup, List.pairwise_map] at h1 ⊢
  exact h1.imp fun {p q} hpq e => hpq (by simp [fv, e])
theorem SMapAt.key_le {w : World} {b : Nat} {fs : SMap} (h : SMapAt w b fs) {k : ByteArray} (hk : k ∈ skeys fs) : k.size ≤ maxLen := by
  obtain ⟨p, hp, rfl⟩ := List.mem_map.1 hk
  obtain ⟨s, e, hs⟩ := MapAt.isK h (fv p) (List.mem_map.2 ⟨p, hp, rfl⟩)
  simp [fv] at e
  rw [e]; exact hs
theorem SMapAt.not_cells {w : World} {b : Nat} {fs : SMap} (h : SMapAt w b fs) {cs : Array Value} {t : TypeId} {fr : Nat × Nat} : w.heap[b]? ≠ some (.cells cs t fr) := by
  obtain ⟨es, clock, hb, _⟩ := h
  rw [hb]; simp
theorem SMapAt.clone {w : World} {b : Nat} {fs : SMap} (h : SMapAt w b fs) : ∃ es clock, w.heap[b]? = some (.map es clock) ∧ SMapAt (w.alloc (.map es clock)) w.heap.size fs := by
  obtain ⟨es, clock, hb, h1, h2, h3⟩ := h
  exact ⟨es, clock, hb, es, clock, heap_alloc_new w _, h1, h2, h3⟩
theorem ne_keys {fs : SMap} {k : ByteArray} (h : k ∉ skeys fs) : ∀ p ∈ fs.map fv, p.1 ≠ .string k := fun p hp e => by
  obtain ⟨q, hq, rfl⟩ := List.mem_map.1 hp
  simp only [fv] at e
  injection e with e
  exact h (List.mem_map.2 ⟨q, hq, e⟩)
theorem fv_split (a b : SMap) (k : ByteArray) (v : Value) : (a ++ (k, v) :: b).map fv = a.map fv ++ (.string k, v) :: b.map fv := by simp [fv]

section
variable {P : Program} {k t e : TypeId} {w : World} {b : Nat} {fs : SMap}
theorem SMapAt.get (h : SMapAt w b fs) (hk : P.underlying k = some .string) (ht : P.underlying t = some (.map k e)) {z : Value} (hz : (zeroValue e).run P w = .ok z w) {s : ByteArray} (hs : s.size ≤ maxLen) (c : Bool) :
    (Instr.lookup t (.map (some b)) (.string s) c).run P w = .ok (if c then .tuple #[fgetD z fs s, .bool (fhas fs s)] else fgetD z fs s) w := by
  by_cases hm : s ∈ skeys fs
  · obtain ⟨x, v, y, rfl, hx⟩ := split_key hm
    rw [fgetD_split z hx, fhas_yes hm]
    exact MapAt.look_hit (strT hk) h ht (by rw [fv_split]; simp) c
  · rw [fgetD_none z hm, fhas_no hm]
    exact MapAt.look_miss (strT hk) h ht hz ⟨s, rfl, hs⟩ (ne_keys hm) c
theorem SMapAt.set (h : SMapAt w b fs) (hk : P.underlying k = some .string) (ht : P.underlying t = some (.map k e)) {s : ByteArray} (hs : s.size ≤ maxLen) (v : Value) :
    ∃ w', (Instr.mapUpdate t (.map (some b)) (.string s) v).run P w = .ok () w' ∧ SMapAt w' b (fset fs s v) ∧ w.grownBy w' (some b) ∧ w'.heap.size = w.heap.size := by
  by_cases hm : s ∈ skeys fs
  · obtain ⟨x, v0, y, rfl, hx⟩ := split_key hm
    unfold SMapAt at h
    rw [fv_split] at h
    obtain ⟨w', h1, h2, h3⟩ := MapAt.store_hit (strT hk) h ht v
    refine ⟨w', h1, ?_, h3⟩
    rw [fset_split hx]; unfold SMapAt; rw [fv_split]; exact h2
  · obtain ⟨w', h1, h2, h3⟩ := MapAt.store_new (strT hk) h ht v ⟨s, rfl, hs⟩ (ne_keys hm)
    refine ⟨w', h1, ?_, h3⟩
    rw [fset_none hm]; unfold SMapAt; rw [List.map_append]; exact h2
theorem SMapAt.del {ty : TypeId} (h : SMapAt w b fs) (hk : P.underlying k = some .string) (ht : P.underlying t = some (.map k e)) {s : ByteArray} (hs : s.size ≤ maxLen) :
    ∃ w', (Builtin.delete_ #[t, k] ty #[.map (some b), .string s]).run P w = .ok (.tuple #[]) w' ∧ SMapAt w' b (fdel fs s) ∧ w.grownBy w' (some b) ∧ w'.heap.size = w.heap.size := by
  by_cases hm : s ∈ skeys fs
  · have hn := h.nodup
    obtain ⟨x, v0, y, rfl, hx⟩ := split_key hm
    have hy : s ∉ skeys y := by
      unfold skeys at hn
      rw [List.map_append, List.map_cons, List.nodup_append] at hn
      exact (List.nodup_cons.1 hn.2.1).1
    unfold SMapAt at h
    rw [fv_split] at h
    obtain ⟨w', h1, h2, h3⟩ := MapAt.del_hit (ty := ty) (strT hk) h ht
    refine ⟨w', h1, ?_, h3⟩
    rw [fdel_split hx hy]; unfold SMapAt; rw [List.map_append]; exact h2
  · obtain ⟨w', h1, h2, h3⟩ := MapAt.del_miss (ty := ty) (strT hk) h ht ⟨s, rfl, hs⟩ (ne_keys hm)
    exact ⟨w', h1, by rw [fdel_none hm]; exact h2, h3⟩
theorem SMapAt.len {ty : TypeId} (h : SMapAt w b fs) (ht : P.underlying t = some (.map k e)) : (Builtin.len_ #[t] ty #[.map (some b)]).run P w = .ok (.int .i64 (fs.length : Int)) w := by
  have := MapAt.len (ty := ty) h ht
  rw [List.length_map] at this
  exact this
end

/-! ### For the kit's own word on maps: the keys -/
def anyElem {H : Type} (_ : Value) : Option (DataW H × List MemPlace) := some (.lit (.bool true), [])
theorem SMapAt.owns {H : Type} {P : Program} {k : TypeId} {w : World} {b : Nat} {fs : SMap} (h : SMapAt w b fs) (hk : P.underlying k = some .string) (hl : fs.length ≤ maxLen) :
    ∃ D0 : DataW H, w.ownsMap P k anyElem b fs.length D0 ∧ (strKeys D0).Perm ((skeys fs).map fun s => s.data.toList) := by
  obtain ⟨es, clock, hb, hst, hm, hik⟩ := h
  have hsz : es.size = fs.length := by rw [← Array.length_toList, ← List.length_map (f := kv), hm, List.length_map]
  have hrd : ∀ x ∈ es.toList, ∃ s : ByteArray, x.key = .string s ∧ WideElems.rd P k (anyElem (H := H)) x = some (.string s.data.toList, .lit (.bool true)) := fun x hx => by
    have h1 : kv x ∈ fs.map fv := by rw [← hm]; exact List.mem_map.2 ⟨x, hx, rfl⟩
    obtain ⟨s, e, hs⟩ := hik _ h1
    have e : x.key = .string s := e
    refine ⟨s, e, ?_⟩
    have hko : keyOf P k x.key = some (.string s.data.toList) := by rw [e]; simp [keyOf, hk, mapKey, hs]
    simp [WideElems.rd, hko, anyElem]
  have F : WideElems.Fit P k (anyElem (H := H)) es clock := ⟨by rw [hsz]; exact hl, hst, fun x hx => by obtain ⟨s, _, h⟩ := hrd x hx; exact ⟨_, h⟩⟩
  refine ⟨_, ⟨es, clock, hb, F, by rw [hsz]; exact Nat.le_refl _, rfl⟩, ?_⟩
  have e1 : (es.toList.map (WideElems.rg P k (anyElem (H := H)))).map (fun p => strOf p.1) = (skeys fs).map fun s => s.data.toList := by
    have e2 : (skeys fs).map (fun s => s.data.toList) = (fs.map fv).map (fun p => match p.1 with | .string s => s.data.toList | _ => []) := by
      unfold skeys; rw [List.map_map, List.map_map]; rfl
    rw [e2, ← hm, List.map_map, List.map_map]
    refine List.map_congr_left fun x hx => ?_
    obtain ⟨s, e, h⟩ := hrd x hx
    simp only [Function.comp, WideElems.rg, h, Option.getD_some, strOf, kv, e]
  rw [← e1]
  exact (sorted_perm _).map _
end Go.Proofs.YthanjafbgcljgaaGreatDoor
