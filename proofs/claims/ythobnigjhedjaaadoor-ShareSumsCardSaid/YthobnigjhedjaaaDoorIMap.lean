/-
  Maps from whole numbers, and maps from strings to whole numbers, in memory. No condition: plain definitions and lemmas.
-/
import Derived.Test.YthobnigjhedjaaaDoorFiles
import Derived.Test.YthobnigjhedjaaaDoorKMapP
import Derived.Lib.SlKeysI
namespace Go.Proofs.YthobnigjhedjaaaDoor
open Go.RowKit Go.ChangeShapes Go.WideShapes Go.MapKept Go.ChangeMaps
set_option linter.unusedVariables false

def IsIntK (v : Value) : Prop := ∃ n : Int, v = .int .i64 n ∧ (Lit.int .i64 n).wf = true
theorem intK_of {P : Program} {k : TypeId} (hk : P.underlying k = some (.int .i64)) (v : Value) (h : IsIntK v) : ∃ l, keyOf P k v = some l := by
  obtain ⟨n, rfl, hn⟩ := h
  simp [keyOf, hk, mapKey, hn]
theorem intT {P : Program} {k : TypeId} (hk : P.underlying k = some (.int .i64)) : KeyT P k IsIntK := (KeyT.of (Maps.int_keyed hk)).less (intK_of hk)
abbrev IMap := List (Int × Value)
def ivp (p : Int × Value) : Value × Value := (.int .i64 p.1, p.2)
/-- Block b is a map from whole numbers that holds m. -/
def IMapAt (w : World) (b : Nat) (m : IMap) : Prop := MapAt IsIntK w b (m.map ivp)
theorem IMapAt.lt {w : World} {b : Nat} {m : IMap} (h : IMapAt w b m) : b < w.heap.size := MapAt.lt h
theorem IMapAt.keep {w w' : World} {b : Nat} {m : IMap} (h : IMapAt w b m) (hs : w'.heap[b]? = w.heap[b]?) : IMapAt w' b m := MapAt.keep h hs
theorem IMapAt.made (w : World) : IMapAt (w.alloc (.map #[] 0)) w.heap.size [] := MapAt.made _ w
theorem IMapAt.nodup {w : World} {b : Nat} {m : IMap} (h : IMapAt w b m) : (kkeys m).Nodup := by
  have h1 := MapAt.nodup h
  rw [List.map_map] at h1
  unfold kkeys
  rw [List.Nodup, List.pairwise_map] at h1 ⊢
  exact h1.imp fun {p q} hpq e => hpq (by simp [ivp, e])
theorem IMapAt.key {w : World} {b : Nat} {m : IMap} (h : IMapAt w b m) {k : Int} (hk : k ∈ kkeys m) : (Lit.int .i64 k).wf = true := by
  obtain ⟨p, hp, rfl⟩ := List.mem_map.1 hk
  obtain ⟨s, e, hs⟩ := MapAt.isK h (ivp p) (List.mem_map.2 ⟨p, hp, rfl⟩)
  simp [ivp] at e
  rw [e]; exact hs
theorem IMapAt.not_cells {w : World} {b : Nat} {m : IMap} (h : IMapAt w b m) {cs : Array Value} {t : TypeId} {fr : Nat × Nat} : w.heap[b]? ≠ some (.cells cs t fr) := by
  obtain ⟨es, clock, hb, _⟩ := h
  rw [hb]; simp
theorem ne_ikeys {m : IMap} {k : Int} (h : k ∉ kkeys m) : ∀ p ∈ m.map ivp, p.1 ≠ .int .i64 k := fun p hp e => by
  obtain ⟨q, hq, rfl⟩ := List.mem_map.1 hp
  simp only [ivp] at e
  injection e with _ e
  exact h (List.mem_map.2 ⟨q, hq, e⟩)
theorem ivp_split (a b : IMap) (k : Int) (v : Value) : (a ++ (k, v) :: b).map ivp = a.map ivp ++ (.int .i64 k, v) :: b.map ivp := by simp [ivp]
section
variable {P : Program} {k t e : TypeId} {w : World} {b : Nat} {m : IMap}
theorem IMapAt.get (h : IMapAt w b m) (hk : P.underlying k = some (.int .i64)) (ht : P.underlying t = some (.map k e)) {z : Value} (hz : (zeroValue e).run P w = .ok z w) {n : Int} (hn : (Lit.int .i64 n).wf = true) (c : Bool) :
    (Instr.lookup t (.map (some b)) (.int .i64 n) c).run P w = .ok (if c then .tuple #[(kget m n).getD z, .bool (khas m n)] else (kget m n).getD z) w := by
  by_cases hm : n ∈ kkeys m
  · have hh := (khas_iff m n).2 hm
    rw [hh]
    obtain ⟨x, v, y, rfl, hx⟩ := split_kkey hm
    rw [kget_split hx]
    exact MapAt.look_hit (intT hk) h ht (by rw [ivp_split]; simp) c
  · rw [kget_none hm, khas_no hm]
    exact MapAt.look_miss (intT hk) h ht hz ⟨n, rfl, hn⟩ (ne_ikeys hm) c
theorem IMapAt.set (h : IMapAt w b m) (hk : P.underlying k = some (.int .i64)) (ht : P.underlying t = some (.map k e)) {n : Int} (hn : (Lit.int .i64 n).wf = true) (v : Value) :
    ∃ w', (Instr.mapUpdate t (.map (some b)) (.int .i64 n) v).run P w = .ok () w' ∧ IMapAt w' b (kset m n v) ∧ w.grownBy w' (some b) ∧ w'.heap.size = w.heap.size := by
  by_cases hm : n ∈ kkeys m
  · obtain ⟨x, v0, y, rfl, hx⟩ := split_kkey hm
    unfold IMapAt at h
    rw [ivp_split] at h
    obtain ⟨w', h1, h2, h3⟩ := MapAt.store_hit (intT hk) h ht v
    refine ⟨w', h1, ?_, h3⟩
    rw [kset_split hx]; unfold IMapAt; rw [ivp_split]; exact h2
  · obtain ⟨w', h1, h2, h3⟩ := MapAt.store_new (intT hk) h ht v ⟨n, rfl, hn⟩ (ne_ikeys hm)
    refine ⟨w', h1, ?_, h3⟩
    rw [kset_none hm]; unfold IMapAt; rw [List.map_append]; exact h2
theorem IMapAt.del {ty : TypeId} (h : IMapAt w b m) (hk : P.underlying k = some (.int .i64)) (ht : P.underlying t = some (.map k e)) {n : Int} (hn : (Lit.int .i64 n).wf = true) :
    ∃ w', (Builtin.delete_ #[t, k] ty #[.map (some b), .int .i64 n]).run P w = .ok (.tuple #[]) w' ∧ IMapAt w' b (kdel m n) ∧ w.grownBy w' (some b) ∧ w'.heap.size = w.heap.size := by
  by_cases hm : n ∈ kkeys m
  · have hnd := h.nodup
    obtain ⟨x, v0, y, rfl, hx⟩ := split_kkey hm
    have hy : n ∉ kkeys y := by
      unfold kkeys at hnd
      rw [List.map_append, List.map_cons, List.nodup_append] at hnd
      exact (List.nodup_cons.1 hnd.2.1).1
    unfold IMapAt at h
    rw [ivp_split] at h
    obtain ⟨w', h1, h2, h3⟩ := MapAt.del_hit (ty := ty) (intT hk) h ht
    refine ⟨w', h1, ?_, h3⟩
    rw [kdel_split hx hy]; unfold IMapAt; rw [List.map_append]; exact h2
  · obtain ⟨w', h1, h2, h3⟩ := MapAt.del_miss (ty := ty) (intT hk) h ht ⟨n, rfl, hn⟩ (ne_ikeys hm)
    exact ⟨w', h1, by rw [kdel_none hm]; exact h2, h3⟩
theorem IMapAt.len {ty : TypeId} (h : IMapAt w b m) (ht : P.underlying t = some (.map k e)) : (Builtin.len_ #[t] ty #[.map (some b)]).run P w = .ok (.int .i64 (m.length : Int)) w := by
  have := MapAt.len (ty := ty) h ht
  rw [List.length_map] at this
  exact this
end
/-- For the kit's own word on maps: the keys. -/
theorem IMapAt.owns {H : Type} {P : Program} {k : TypeId} {w : World} {b : Nat} {m : IMap} (h : IMapAt w b m) (hk : P.underlying k = some (.int .i64)) (hl : m.length ≤ maxLen) :
    ∃ D0 : DataW H, w.ownsMap P k anyElem b m.length D0 ∧ (intKeys D0).Perm (kkeys m) := by
  obtain ⟨es, clock, hb, hst, hm, hik⟩ := h
  have hsz : es.size = m.length := by rw [← Array.length_toList, ← List.length_map (f := kv), hm, List.length_map]
  have hrd : ∀ x ∈ es.toList, ∃ n : Int, x.key = .int .i64 n ∧ WideElems.rd P k (anyElem (H := H)) x = some (.int .i64 n, .lit (.bool true)) := fun x hx => by
    have h1 : kv x ∈ m.map ivp := by rw [← hm]; exact List.mem_map.2 ⟨x, hx, rfl⟩
    obtain ⟨n, e, hn⟩ := hik _ h1
    have e : x.key = .int .i64 n := e
    refine ⟨n, e, ?_⟩
    have hko : keyOf P k x.key = some (.int .i64 n) := by rw [e]; simp [keyOf, hk, mapKey, hn]
    simp [WideElems.rd, hko, anyElem]
  have F : WideElems.Fit P k (anyElem (H := H)) es clock := ⟨by rw [hsz]; exact hl, hst, fun x hx => by obtain ⟨s, _, h⟩ := hrd x hx; exact ⟨_, h⟩⟩
  refine ⟨_, ⟨es, clock, hb, F, by rw [hsz]; exact Nat.le_refl _, rfl⟩, ?_⟩
  have e1 : (es.toList.map (WideElems.rg P k (anyElem (H := H)))).map (fun p => _root_.Go.intOf p.1) = kkeys m := by
    have e2 : kkeys m = (m.map ivp).map (fun p => match p.1 with | .int _ n => n | _ => 0) := by
      unfold kkeys; rw [List.map_map]; rfl
    rw [e2, ← hm, List.map_map, List.map_map]
    refine List.map_congr_left fun x hx => ?_
    obtain ⟨s, e, h⟩ := hrd x hx
    simp only [Function.comp, WideElems.rg, h, Option.getD_some, _root_.Go.intOf, kv, e]
  rw [← e1]
  exact (sorted_perm _).map _

/-! ### Strings to whole numbers -/
theorem fset_k (m : SMap) (k : ByteArray) (v : Value) : fset m k v = kset m k v := by
  induction m with
  | nil => rfl
  | cons p r ih => simp only [fset, kset, ih]
theorem fdel_k (m : SMap) (k : ByteArray) : fdel m k = kdel m k := rfl
theorem fgetD_k (z : Value) (m : SMap) (k : ByteArray) : fgetD z m k = (kget m k).getD z := by
  induction m with
  | nil => rfl
  | cons p r ih =>
    simp only [fgetD, kget]
    by_cases e : p.1 = k
    · rw [if_pos e, if_pos e]; rfl
    · rw [if_neg e, if_neg e, ih]
def numV (n : Int) : Value := .int .i64 n
/-- Block b is a map from strings to whole numbers that holds C. -/
def CAt (w : World) (b : Nat) (C : List (ByteArray × Int)) : Prop := SMapAt w b (kmap numV C)
theorem CAt.lt {w : World} {b : Nat} {C : List (ByteArray × Int)} (h : CAt w b C) : b < w.heap.size := SMapAt.lt h
theorem CAt.keep {w w' : World} {b : Nat} {C : List (ByteArray × Int)} (h : CAt w b C) (hs : w'.heap[b]? = w.heap[b]?) : CAt w' b C := SMapAt.keep h hs
theorem CAt.nodup {w : World} {b : Nat} {C : List (ByteArray × Int)} (h : CAt w b C) : (kkeys C).Nodup := by
  have h1 := SMapAt.nodup h
  have e : skeys (kmap numV C) = kkeys C := kmap_keys numV C
  rw [e] at h1; exact h1
section
variable {P : Program} {k t e : TypeId} {w : World} {b : Nat} {C : List (ByteArray × Int)}
theorem CAt.get (h : CAt w b C) (hk : P.underlying k = some .string) (ht : P.underlying t = some (.map k e)) (hz : (zeroValue e).run P w = .ok (.int .i64 0) w) {s : ByteArray} (hs : s.size ≤ maxLen) :
    (Instr.lookup t (.map (some b)) (.string s) false).run P w = .ok (.int .i64 ((kget C s).getD 0)) w := by
  rw [SMapAt.get h hk ht hz hs false, fgetD_k, kmap_get]
  cases kget C s <;> rfl
theorem CAt.set (h : CAt w b C) (hk : P.underlying k = some .string) (ht : P.underlying t = some (.map k e)) {s : ByteArray} (hs : s.size ≤ maxLen) (n : Int) :
    ∃ w', (Instr.mapUpdate t (.map (some b)) (.string s) (.int .i64 n)).run P w = .ok () w' ∧ CAt w' b (kset C s n) ∧ w.grownBy w' (some b) ∧ w'.heap.size = w.heap.size := by
  obtain ⟨w', h1, h2, h3⟩ := SMapAt.set h hk ht hs (.int .i64 n)
  refine ⟨w', h1, ?_, h3⟩
  unfold CAt
  rw [kmap_set, ← fset_k]; exact h2
theorem CAt.del {ty : TypeId} (h : CAt w b C) (hk : P.underlying k = some .string) (ht : P.underlying t = some (.map k e)) {s : ByteArray} (hs : s.size ≤ maxLen) :
    ∃ w', (Builtin.delete_ #[t, k] ty #[.map (some b), .string s]).run P w = .ok (.tuple #[]) w' ∧ CAt w' b (kdel C s) ∧ w.grownBy w' (some b) ∧ w'.heap.size = w.heap.size := by
  obtain ⟨w', h1, h2, h3⟩ := SMapAt.del (ty := ty) h hk ht hs
  refine ⟨w', h1, ?_, h3⟩
  unfold CAt
  rw [kmap_del, ← fdel_k]; exact h2
end
end Go.Proofs.YthobnigjhedjaaaDoor
