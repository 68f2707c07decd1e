/-
  Several texts of this claim in one, in build order; each begins with its own remark, which says what it proves and under which conditions.
-/
import Derived.Test.YtfndhfekbbbliaaGreatDoorPackA
import Derived.Maps.RangeWalk
import Derived.Maps.OwnSet
import Derived.Sort.KeysCollected
import Derived.Test.YtfndhfekbbbliaaGreatDoorPackD
import Derived.Test.YtfndhfekbbbliaaGreatDoorPackE

/-
  Words of my own for maps, over any program: what block b holds ('MapAt', a list of keys with elements, no key twice), what a range over it has still to hand out ('RangeAt'), and the laws at the operations. No condition: plain definitions and lemmas.
-/
namespace Go.Proofs.YtfndhfekbbbliaaGreatDoor
open Go.RowKit Go.ChangeShapes Go.WideShapes Go.MapKept Go.ChangeMaps
set_option linter.unusedVariables false
structure KeyT (P : Program) (k : TypeId) (isK : Value → Prop) : Prop where
 check : ∀ (w : World) (em : Bool) {v : Value}, isK v → (Instr.checkKey em 10000 k v).run P w = .ok () w
 find : ∀ (w : World) {x : Value}, isK x → ∀ es : List MapEntry, (∀ e ∈ es, isK e.key) →
  ((Instr.findKey k x es).run P w = .ok none w ∧ ∀ e ∈ es, e.key ≠ x) ∨ ∃ j e, (Instr.findKey k x es).run P w = .ok (some (j, e.val)) w ∧ es[j]? = some e ∧ e.key = x
 stays : ∀ (w : World) {v : Value}, isK v → (Instr.keyThatStays v v).run P w = .ok v w
theorem KeyT.of {P : Program} {k : TypeId} (K : Maps.Keyed P k) : KeyT P k (fun v => ∃ l, keyOf P k v = some l) :=
 ⟨fun w em _ ⟨_, h⟩ => K.check w em h, fun w _ ⟨_, h⟩ es hes => K.find w h es hes, fun w _ ⟨_, h⟩ => K.stays w h⟩
theorem KeyT.less {P : Program} {k : TypeId} {isK isK' : Value → Prop} (K : KeyT P k isK) (h : ∀ v, isK' v → isK v) : KeyT P k isK' :=
 ⟨fun w em _ h' => K.check w em (h _ h'), fun w _ h' es hes => K.find w (h _ h') es fun e he => h _ (hes e he), fun w _ h' => K.stays w (h _ h')⟩
def kv (e : MapEntry) : Value × Value := (e.key, e.val)
def MapAt (isK : Value → Prop) (w : World) (b : Nat) (m : List (Value × Value)) : Prop :=
 ∃ es clock, w.heap[b]? = some (.map es clock) ∧ Stamped es clock ∧ es.toList.map kv = m ∧ ∀ p ∈ m, isK p.1
theorem MapAt.lt {isK : Value → Prop} {w : World} {b : Nat} {m : List (Value × Value)} (h : MapAt isK w b m) : b < w.heap.size := by
 obtain ⟨es, clock, hb, _⟩ := h; exact block_lt hb
theorem MapAt.keep {isK : Value → Prop} {w w' : World} {b : Nat} {m : List (Value × Value)} (h : MapAt isK w b m) (hs : w'.heap[b]? = w.heap[b]?) : MapAt isK w' b m := by
 obtain ⟨es, clock, hb, r⟩ := h; exact ⟨es, clock, hs.trans hb, r⟩
theorem MapAt.made (isK : Value → Prop) (w : World) : MapAt isK (w.alloc (.map #[] 0)) w.heap.size [] := ⟨#[], 0, heap_alloc_new w _, stamped_empty 0, rfl, nofun⟩
theorem MapAt.nodup {isK : Value → Prop} {w : World} {b : Nat} {m : List (Value × Value)} (h : MapAt isK w b m) : (m.map (·.1)).Nodup := by
 obtain ⟨es, clock, hb, ⟨_, _, h3⟩, rfl, _⟩ := h
 rw [List.map_map]; exact h3
theorem MapAt.isK {isK : Value → Prop} {w : World} {b : Nat} {m : List (Value × Value)} (h : MapAt isK w b m) : ∀ p ∈ m, isK p.1 := by
 obtain ⟨es, clock, hb, _, _, h⟩ := h; exact h
section
variable {P : Program} {k t e : TypeId} {isK : Value → Prop} {w : World} {b : Nat} {m : List (Value × Value)}
theorem MapAt.entries {es : Array MapEntry} (hm : es.toList.map kv = m) (h : ∀ p ∈ m, isK p.1) : ∀ x ∈ es.toList, isK x.key := fun x hx => h (kv x) (hm ▸ List.mem_map.2 ⟨x, hx, rfl⟩)
theorem MapAt.look_hit (K : KeyT P k isK) (h : MapAt isK w b m) (ht : P.underlying t = some (.map k e)) {key v : Value} (hkv : (key, v) ∈ m) (c : Bool) :
  (Instr.lookup t (.map (some b)) key c).run P w = .ok (if c then .tuple #[v, .bool true] else v) w := by
 obtain ⟨es, clock, hb, hst, rfl, hk⟩ := h
 have hik : isK key := hk _ hkv
 rcases K.find w hik es.toList (MapAt.entries rfl hk) with ⟨h1, h2⟩ | ⟨j, e0, h1, h2, h3⟩
 ·obtain ⟨x, hx, e1⟩ := List.mem_map.1 hkv
  exact absurd (congrArg Prod.fst e1) (h2 x hx)
 ·obtain ⟨x, hx, e1⟩ := List.mem_map.1 hkv
  have h4 : x = e0 := entry_eq_of_key ((stamped_iff es clock).1 hst).2.2 hx (List.mem_of_getElem? h2) (by rw [h3]; exact congrArg Prod.fst e1)
  subst h4
  have h5 : x.val = v := congrArg Prod.snd e1
  simp [Instr.lookup, run_underlying ht, MapKept.run_getObj_map hb, K.check w _ hik, h1, h5, Result.andThen]
theorem MapAt.look_miss (K : KeyT P k isK) (h : MapAt isK w b m) (ht : P.underlying t = some (.map k e)) {z : Value} (hz : (zeroValue e).run P w = .ok z w) {key : Value} (hik : isK key) (hno : ∀ p ∈ m, p.1 ≠ key) (c : Bool) :
  (Instr.lookup t (.map (some b)) key c).run P w = .ok (if c then .tuple #[z, .bool false] else z) w := by
 obtain ⟨es, clock, hb, hst, rfl, hk⟩ := h
 rcases K.find w hik es.toList (MapAt.entries rfl hk) with ⟨h1, h2⟩ | ⟨j, e0, h1, h2, h3⟩
 ·simp [Instr.lookup, run_underlying ht, MapKept.run_getObj_map hb, K.check w _ hik, h1, hz, Result.andThen]
 ·exact absurd h3 (hno (kv e0) (List.mem_map.2 ⟨e0, List.mem_of_getElem? h2, rfl⟩))
theorem grown_setBlock {o o' : Obj} (hb : w.heap[b]? = some o) : w.grownBy (setBlock w b o') (some b) :=
 ⟨rfl, rfl, rfl, by simp [setBlock], fun i _ hi => (heap_set hb).2 i (fun e => hi (by rw [e]))⟩
theorem MapAt.store_new (K : KeyT P k isK) (h : MapAt isK w b m) (ht : P.underlying t = some (.map k e)) {key : Value} (val : Value) (hik : isK key) (hno : ∀ p ∈ m, p.1 ≠ key) :
  ∃ w', (Instr.mapUpdate t (.map (some b)) key val).run P w = .ok () w' ∧ MapAt isK w' b (m ++ [(key, val)]) ∧ w.grownBy w' (some b) ∧ w'.heap.size = w.heap.size := by
 obtain ⟨es, clock, hb, hst, rfl, hk⟩ := h
 rcases K.find w hik es.toList (MapAt.entries rfl hk) with ⟨h1, h2⟩ | ⟨j, e0, h1, h2, h3⟩
 ·refine ⟨setBlock w b (.map (es.push ⟨key, val, clock⟩) (clock + 1)), ?_, ⟨_, _, heap_setBlock_same hb _, stamped_push hst h2, by simp [kv], ?_⟩, grown_setBlock hb, by simp [setBlock]⟩
  ·simp [Instr.mapUpdate, run_underlying ht, MapKept.run_getObj_map hb, K.check w false hik, h1, MapKept.run_setObj_map _ hb, Result.andThen, setBlock]
  ·intro p hp
   rcases List.mem_append.1 hp with hp | hp
   ·exact hk p hp
   ·simp at hp; subst hp; exact hik
 ·exact absurd h3 (hno (kv e0) (List.mem_map.2 ⟨e0, List.mem_of_getElem? h2, rfl⟩))
theorem mapmodify_list {es : Array MapEntry} {j : Nat} {e0 : MapEntry} (h2 : es.toList[j]? = some e0) (f : MapEntry → MapEntry) : (es.modify j f).toList = es.toList.set j (f e0) := by
 rw [Array.toList_modify, ChangeMaps.modify_eq_set _ _ _ _ h2]
theorem set_mid {α : Type} (l1 l2 : List α) (x y : α) : (l1 ++ x :: l2).set l1.length y = l1 ++ y :: l2 := by simp
theorem MapAt.store_hit (K : KeyT P k isK) {m1 m2 : List (Value × Value)} {key old : Value} (h : MapAt isK w b (m1 ++ (key, old) :: m2)) (ht : P.underlying t = some (.map k e)) (val : Value) :
  ∃ w', (Instr.mapUpdate t (.map (some b)) key val).run P w = .ok () w' ∧ MapAt isK w' b (m1 ++ (key, val) :: m2) ∧ w.grownBy w' (some b) ∧ w'.heap.size = w.heap.size := by
 have hnd := h.nodup
 obtain ⟨es, clock, hb, hst, hm, hk⟩ := h
 have hik : isK key := hk (key, old) (by simp)
 rcases K.find w hik es.toList (MapAt.entries hm hk) with ⟨h1, h2⟩ | ⟨j, e0, h1, h2, h3⟩
 ·have h4 : (key, old) ∈ es.toList.map kv := by rw [hm]; simp
  obtain ⟨x, hx, e1⟩ := List.mem_map.1 h4
  exact absurd (congrArg Prod.fst e1) (h2 x hx)
 ·have hj : es[j]? = some e0 := by simpa using h2
  have hjl : j < es.toList.length := (List.getElem?_eq_some_iff.1 h2).1
  have hjm : j = m1.length := by
   have e1 : (es.toList.map kv)[j]? = some (kv e0) := by rw [List.getElem?_map, h2]; rfl
   rw [hm] at e1
   have e2 : ((m1 ++ (key, old) :: m2).map (·.1))[j]? = some key := by rw [List.getElem?_map, e1]; show some e0.key = _; rw [h3]
   have e3 : ((m1 ++ (key, old) :: m2).map (·.1))[m1.length]? = some key := by simp
   have l1 : j < ((m1 ++ (key, old) :: m2).map (·.1)).length := (List.getElem?_eq_some_iff.1 e2).1
   have l2 : m1.length < ((m1 ++ (key, old) :: m2).map (·.1)).length := (List.getElem?_eq_some_iff.1 e3).1
   rw [List.getElem?_eq_getElem l1] at e2
   rw [List.getElem?_eq_getElem l2] at e3
   exact (List.getElem_inj hnd).1 ((Option.some.inj e2).trans (Option.some.inj e3).symm)
  refine ⟨setBlock w b (.map (es.modify j fun e' => { e' with key := key, val := val }) clock), ?_, ⟨_, _, heap_setBlock_same hb _, stamped_modify hst _ _ (fun _ _ => rfl) (fun e' _ he' => by rw [hj] at he'; cases he'; exact h3.symm), ?_, ?_⟩, grown_setBlock hb, by simp [setBlock]⟩
  ·simp [Instr.mapUpdate, run_underlying ht, MapKept.run_getObj_map hb, K.check w false hik, h1, hj, h3, K.stays w hik, MapKept.run_setObj_map _ hb, Result.andThen, setBlock]
  ·rw [mapmodify_list h2, List.map_set, hm, hjm, set_mid]; rfl
  ·intro p hp
   rcases List.mem_append.1 hp with hp | hp
   ·exact hk p (List.mem_append.2 (.inl hp))
   ·rcases List.mem_cons.1 hp with rfl | hp
    ·exact hik
    ·exact hk p (List.mem_append.2 (.inr (List.mem_cons_of_mem _ hp)))
def RangeAt (isK : Value → Prop) (w : World) (b r : Nat) (m todo : List (Value × Value)) : Prop :=
 ∃ es clock since seen c0, w.heap[b]? = some (.map es clock) ∧ Stamped es clock ∧ es.toList.map kv = m ∧ (∀ p ∈ m, isK p.1) ∧ w.heap[r]? = some (.mapIter (some b) since seen c0) ∧ (∀ x ∈ es.toList, x.born < since) ∧ since ≤ c0 ∧ since ≤ clock ∧
  (Go.leftOf es seen).toList.map kv = todo
theorem RangeAt.map {r : Nat} {todo : List (Value × Value)} (h : RangeAt isK w b r m todo) : MapAt isK w b m := by
 obtain ⟨es, clock, since, seen, c0, hb, hst, hm, hk, _⟩ := h; exact ⟨es, clock, hb, hst, hm, hk⟩
theorem RangeAt.ne {r : Nat} {todo : List (Value × Value)} (h : RangeAt isK w b r m todo) : r ≠ b := by
 obtain ⟨es, clock, since, seen, c0, hb, _, _, _, hr, _⟩ := h
 intro e
 rw [e, hb] at hr
 cases hr
theorem RangeAt.lt {r : Nat} {todo : List (Value × Value)} (h : RangeAt isK w b r m todo) : r < w.heap.size := by
 obtain ⟨es, clock, since, seen, c0, hb, _, _, _, hr, _⟩ := h; exact block_lt hr
theorem RangeAt.keep {w' : World} {r : Nat} {todo : List (Value × Value)} (h : RangeAt isK w b r m todo) (h1 : w'.heap[b]? = w.heap[b]?) (h2 : w'.heap[r]? = w.heap[r]?) : RangeAt isK w' b r m todo := by
 obtain ⟨es, clock, since, seen, c0, hb, hst, hm, hk, hr, rest⟩ := h
 exact ⟨es, clock, since, seen, c0, h1.trans hb, hst, hm, hk, h2.trans hr, rest⟩
theorem MapAt.range (h : MapAt isK w b m) (ht : P.underlying t = some (.map k e)) :
  ∃ w', (Instr.range t (.map (some b))).run P w = .ok (.pointer (some ⟨w.heap.size, 0, none⟩)) w' ∧ RangeAt isK w' b w.heap.size m m ∧ w.grownBy w' none ∧ w'.heap.size = w.heap.size + 1 := by
 have hlt := h.lt
 obtain ⟨es, clock, hb, hst, hm, hk⟩ := h
 refine ⟨_, run_range_map w t k e b es clock ht hb, ⟨es, clock, clock, #[], clock, (heap_alloc_old w _ hlt).trans hb, hst, hm, hk, heap_alloc_new w _, hst.1, Nat.le_refl _, Nat.le_refl _, ?_⟩, World.grownBy_alloc w _ none, by simp⟩
 have h0 : (Go.leftOf es #[]).toList = es.toList := by
  unfold Go.leftOf; rw [Array.toList_filter]; exact List.filter_eq_self.2 (fun x _ => by simp)
 rw [h0, hm]
theorem RangeAt.next {r : Nat} {todo : List (Value × Value)} (h : RangeAt isK w b r m todo) (ty : TypeId) :
  (todo = [] ∧ (Instr.next (.pointer (some ⟨r, 0, none⟩)) false ty).run P w = .ok (.tuple #[.bool false]) w) ∨
  ∃ t1 t2 key v w', todo = t1 ++ (key, v) :: t2 ∧ (Instr.next (.pointer (some ⟨r, 0, none⟩)) false ty).run P w = .ok (.tuple #[.bool true, key, v]) w' ∧ RangeAt isK w' b r m (t1 ++ t2) ∧ w.grownBy w' (some r) ∧ w'.heap.size = w.heap.size ∧
   (Instr.entry (.pointer (some ⟨r, 0, none⟩))).run P w' = .ok (.tuple #[key, v]) w' := by
 have hne := h.ne
 obtain ⟨es, clock, since, seen, c0, hb, hst, hm, hk, hr, hold, hsc, hsk, htodo⟩ := h
 rcases run_next_at (P := P) w ty r b since c0 seen es clock hr hb hold hsc with ⟨h0, hrun⟩ | ⟨e0, he, w1, hal, hrun⟩
 ·refine .inl ⟨?_, hrun⟩
  rw [← htodo, Array.eq_empty_of_size_eq_zero h0]; rfl
 ·have hmem : e0 ∈ es.toList ∧ seen.contains e0.born = false := by
   simp [Go.leftOf] at he ⊢; exact he
  have hbn : (es.toList.map (·.born)).Nodup := hst.2.1
  have hh1 : ∀ i : Nat, w1.heap[i]? = w.heap[i]? := by rcases hal with rfl | rfl <;> exact fun _ => rfl
  have hs1 : w1.heap.size = w.heap.size := by rcases hal with rfl | rfl <;> rfl
  have ho1 : w1.os = w.os ∧ w1.tape = w.tape ∧ w1.output = w.output := by rcases hal with rfl | rfl <;> exact ⟨rfl, rfl, rfl⟩
  have hr1 : w1.heap[r]? = some (.mapIter (some b) since seen c0) := (hh1 r).trans hr
  have hb2 : (setBlock w1 r (.mapIter (some b) since (seen.push e0.born) clock)).heap[b]? = some (.map es clock) := ((heap_set hr1).2 b hne.symm).trans ((hh1 b).trans hb)
  have hr2 : (setBlock w1 r (.mapIter (some b) since (seen.push e0.born) clock)).heap[r]? = some (.mapIter (some b) since (seen.push e0.born) clock) := (heap_set hr1).1
  obtain ⟨s1, s2, hs⟩ := List.append_of_mem he
  have hnew : (Go.leftOf es (seen.push e0.born)).toList = s1 ++ s2 := by
   have e1 : (Go.leftOf es (seen.push e0.born)).toList = (Go.leftOf es seen).toList.filter fun x => !(x.born == e0.born) := by
    simp only [Go.leftOf, Array.toList_filter, List.filter_filter]
    apply List.filter_congr
    intro x hx
    simp only [Array.contains_push, Bool.not_or, Bool.and_comm]
   rw [e1, hs, List.filter_append, List.filter_cons]
   have hsub : ((Go.leftOf es seen).toList.map (·.born)).Nodup := by
    simp only [Go.leftOf, Array.toList_filter]
    exact hbn.sublist (List.filter_sublist.map _)
   rw [hs, List.map_append, List.map_cons] at hsub
   have hd := List.nodup_append.1 hsub
   have h1 : s1.filter (fun x => !(x.born == e0.born)) = s1 := List.filter_eq_self.2 fun x hx => by
    have := hd.2.2 x.born (List.mem_map.2 ⟨x, hx, rfl⟩) e0.born (List.mem_cons_self)
    simp [this]
   have h2 : s2.filter (fun x => !(x.born == e0.born)) = s2 := List.filter_eq_self.2 fun x hx => by
    have := (List.nodup_cons.1 hd.2.1).1
    have h3 : x.born ≠ e0.born := fun e => this (e ▸ List.mem_map.2 ⟨x, hx, rfl⟩)
    simp [h3]
   simp [h1, h2]
  refine .inr ⟨s1.map kv, s2.map kv, e0.key, e0.val, _, ?_, hrun, ⟨es, clock, since, seen.push e0.born, clock, hb2, hst, hm, hk, hr2, hold, hsk, hsk, ?_⟩, ?_, ?_, ?_⟩
  ·rw [← htodo, hs, List.map_append]; rfl
  ·rw [hnew, List.map_append]
  ·exact ⟨ho1.1, ho1.2.1, ho1.2.2, by simp [setBlock, hs1], fun i _ hi => ((heap_set hr1).2 i (fun e => hi (by rw [e]))).trans (hh1 i)⟩
  ·simp [setBlock, hs1]
  ·exact run_entry_at _ r b since seen es clock e0 hr2 hb2 hmem.1 hbn
end
section
variable {P : Program} (w : World) {ops : Array Oper} {rest : List Oper} {o : Oper} {a : Act} {Q : Exit → Act → World → Prop}
theorem wpList_range_M (hg : o.guard = none) (m : Operand) (t : TypeId) (hop : o.op = Op.range t m) (k e : TypeId) (isK : Value → Prop) (ht : P.underlying t = some (.map k e)) (b : Nat) (l : List (Value × Value))
  (hm : a.eval m = .map (some b)) (h : MapAt isK w b l)
  (hK : ∀ w', RangeAt isK w' b w.heap.size l l → w.grownBy w' none → w'.heap.size = w.heap.size + 1 → wpList P ops Q rest (a.put o.dst (.pointer (some ⟨w.heap.size, 0, none⟩))) w') :
  wpList P ops Q (o :: rest) a w := by
 refine wpList_plain hg fun K' hK' => ?_
 obtain ⟨w', hrun, r1, r2, r3⟩ := h.range (P := P) ht
 unfold Oper.wp
 simp [execOp, hop, hm, hrun, Result.andThen]
 exact hK' _ _ (hK w' r1 r2 r3)
theorem wpList_next_M (hg : o.guard = none) (it : Operand) (hop : o.op = Op.next it false) (isK : Value → Prop) (b r : Nat) (l todo : List (Value × Value))
  (hit : a.eval it = .pointer (some ⟨r, 0, none⟩)) (h : RangeAt isK w b r l todo)
  (hDone : todo = [] → wpList P ops Q rest (a.put o.dst (.tuple #[.bool false])) w)
  (hMore : ∀ (t1 t2 : List (Value × Value)) (key v : Value) (w' : World), todo = t1 ++ (key, v) :: t2 → RangeAt isK w' b r l (t1 ++ t2) → w.grownBy w' (some r) → w'.heap.size = w.heap.size →
   (Instr.entry (.pointer (some ⟨r, 0, none⟩))).run P w' = .ok (.tuple #[key, v]) w' → wpList P ops Q rest (a.put o.dst (.tuple #[.bool true, key, v])) w') :
  wpList P ops Q (o :: rest) a w := by
 refine wpList_plain hg fun K' hK' => ?_
 unfold Oper.wp
 rcases h.next (P := P) o.type with ⟨h0, hrun⟩ | ⟨t1, t2, key, v, w', he, hrun, hrg, hgr, hsz, hen⟩
 ·simp [execOp, hop, hit, hrun, Result.andThen]
  exact hK' _ _ (hDone h0)
 ·simp [execOp, hop, hit, hrun, Result.andThen]
  exact hK' _ _ (hMore t1 t2 key v w' he hrg hgr hsz hen)
end
section
variable {P : Program} {w : World} {ops : Array Oper} {rest : List Oper} {o : Oper} {a : Act} {Q : Exit → Act → World → Prop}
end
end Go.Proofs.YtfndhfekbbbliaaGreatDoor

/-
  Maps keyed by strings as lists of pairs, over any program: what is read, stored, taken away; and the keys, sorted. No condition: plain definitions and lemmas.
-/
namespace Go.Proofs.YtfndhfekbbbliaaGreatDoor
open Go.RowKit Go.ChangeShapes Go.WideShapes Go.MapKept Go.ChangeMaps
set_option linter.unusedVariables false
abbrev SMap := List (ByteArray × Value)
def fv (p : ByteArray × Value) : Value × Value := (.string p.1, p.2)
def skeys (fs : SMap) : List ByteArray := fs.map (·.1)
def fgetD (z : Value) : SMap → ByteArray → Value
 | [], _ => z
 | p :: r, k => if p.1 = k then p.2 else fgetD z r k
def fset : SMap → ByteArray → Value → SMap
 | [], k, v => [(k, v)]
 | p :: r, k, v => if p.1 = k then (k, v) :: r else p :: fset r k v
def fhas (fs : SMap) (k : ByteArray) : Bool := fs.any (fun p => decide (p.1 = k))
theorem fhas_iff {fs : SMap} {k : ByteArray} : fhas fs k = true ↔ k ∈ skeys fs := by
 unfold fhas skeys
 rw [List.any_eq_true, List.mem_map]
 constructor
 ·rintro ⟨p, hp, h⟩; exact ⟨p, hp, of_decide_eq_true h⟩
 ·rintro ⟨p, hp, h⟩; exact ⟨p, hp, decide_eq_true h⟩
theorem fhas_yes {fs : SMap} {k : ByteArray} (h : k ∈ skeys fs) : fhas fs k = true := fhas_iff.2 h
theorem fhas_no {fs : SMap} {k : ByteArray} (h : k ∉ skeys fs) : fhas fs k = false := by
 cases e : fhas fs k with
 | false => rfl
 | true => exact absurd (fhas_iff.1 e) h
theorem split_key : ∀ {fs : SMap} {k : ByteArray}, k ∈ skeys fs → ∃ a v b, fs = a ++ (k, v) :: b ∧ k ∉ skeys a
 | [], k, h => by simp [skeys] at h
 | p :: r, k, h => by
  by_cases e : p.1 = k
  ·exact ⟨[], p.2, r, by rw [← e]; rfl, by simp [skeys]⟩
  ·have h2 : k ∈ skeys r := by
    simp only [skeys, List.map_cons, List.mem_cons] at h
    rcases h with h | h
    ·exact absurd h.symm e
    ·exact h
   obtain ⟨a, v, b, h3, h4⟩ := split_key h2
   refine ⟨p :: a, v, b, by rw [h3]; rfl, ?_⟩
   simp only [skeys, List.map_cons, List.mem_cons, not_or]
   exact ⟨fun e' => e e'.symm, h4⟩
theorem fgetD_split (z : Value) : ∀ {a : SMap} {k : ByteArray} {v : Value} {b : SMap}, k ∉ skeys a → fgetD z (a ++ (k, v) :: b) k = v
 | [], k, v, b, _ => by simp [fgetD]
 | p :: a, k, v, b, h => by
  simp only [skeys, List.map_cons, List.mem_cons, not_or] at h
  simp only [List.cons_append, fgetD]
  rw [if_neg (fun e => h.1 e.symm)]
  exact fgetD_split z h.2
theorem fgetD_none (z : Value) : ∀ {a : SMap} {k : ByteArray}, k ∉ skeys a → fgetD z a k = z
 | [], k, _ => rfl
 | p :: a, k, h => by
  simp only [skeys, List.map_cons, List.mem_cons, not_or] at h
  simp only [fgetD]
  rw [if_neg (fun e => h.1 e.symm)]
  exact fgetD_none z h.2
theorem fset_split : ∀ {a : SMap} {k : ByteArray} {v u : Value} {b : SMap}, k ∉ skeys a → fset (a ++ (k, v) :: b) k u = a ++ (k, u) :: b
 | [], k, v, u, b, _ => by simp [fset]
 | p :: a, k, v, u, b, h => by
  simp only [skeys, List.map_cons, List.mem_cons, not_or] at h
  simp only [List.cons_append, fset]
  rw [if_neg (fun e => h.1 e.symm), fset_split h.2]
theorem fset_none : ∀ {a : SMap} {k : ByteArray} {u : Value}, k ∉ skeys a → fset a k u = a ++ [(k, u)]
 | [], k, u, _ => rfl
 | p :: a, k, u, h => by
  simp only [skeys, List.map_cons, List.mem_cons, not_or] at h
  simp only [List.cons_append, fset]
  rw [if_neg (fun e => h.1 e.symm), fset_none h.2]
def IsStrK (v : Value) : Prop := ∃ s : ByteArray, v = .string s ∧ s.size ≤ maxLen
theorem strK_of {P : Program} {k : TypeId} (hk : P.underlying k = some .string) (v : Value) (h : IsStrK v) : ∃ l, keyOf P k v = some l := by
 obtain ⟨s, rfl, hs⟩ := h
 simp [keyOf, hk, mapKey, hs]
theorem strT {P : Program} {k : TypeId} (hk : P.underlying k = some .string) : KeyT P k IsStrK := (KeyT.of (Maps.string_keyed hk)).less (strK_of hk)
def SMapAt (w : World) (b : Nat) (fs : SMap) : Prop := MapAt IsStrK w b (fs.map fv)
theorem SMapAt.lt {w : World} {b : Nat} {fs : SMap} (h : SMapAt w b fs) : b < w.heap.size := MapAt.lt h
theorem SMapAt.keep {w w' : World} {b : Nat} {fs : SMap} (h : SMapAt w b fs) (hs : w'.heap[b]? = w.heap[b]?) : SMapAt w' b fs := MapAt.keep h hs
theorem SMapAt.made (w : World) : SMapAt (w.alloc (.map #[] 0)) w.heap.size [] := MapAt.made _ w
theorem SMapAt.nodup {w : World} {b : Nat} {fs : SMap} (h : SMapAt w b fs) : (skeys fs).Nodup := by
 have h1 := MapAt.nodup h
 rw [List.map_map] at h1
 unfold skeys
 rw [List.Nodup, List.pairwise_map] at h1 ⊢
 exact h1.imp fun {p q} hpq e => hpq (by simp [fv, e])
theorem SMapAt.key_le {w : World} {b : Nat} {fs : SMap} (h : SMapAt w b fs) {k : ByteArray} (hk : k ∈ skeys fs) : k.size ≤ maxLen := by
 obtain ⟨p, hp, rfl⟩ := List.mem_map.1 hk
 obtain ⟨s, e, hs⟩ := MapAt.isK h (fv p) (List.mem_map.2 ⟨p, hp, rfl⟩)
 simp [fv] at e
 rw [e]; exact hs
theorem SMapAt.not_cells {w : World} {b : Nat} {fs : SMap} (h : SMapAt w b fs) {cs : Array Value} {t : TypeId} {fr : Nat × Nat} : w.heap[b]? ≠ some (.cells cs t fr) := by
 obtain ⟨es, clock, hb, _⟩ := h
 rw [hb]; simp
theorem ne_keys {fs : SMap} {k : ByteArray} (h : k ∉ skeys fs) : ∀ p ∈ fs.map fv, p.1 ≠ .string k := fun p hp e => by
 obtain ⟨q, hq, rfl⟩ := List.mem_map.1 hp
 simp only [fv] at e
 injection e with e
 exact h (List.mem_map.2 ⟨q, hq, e⟩)
theorem fv_split (a b : SMap) (k : ByteArray) (v : Value) : (a ++ (k, v) :: b).map fv = a.map fv ++ (.string k, v) :: b.map fv := by simp [fv]
section
variable {P : Program} {k t e : TypeId} {w : World} {b : Nat} {fs : SMap}
theorem SMapAt.get (h : SMapAt w b fs) (hk : P.underlying k = some .string) (ht : P.underlying t = some (.map k e)) {z : Value} (hz : (zeroValue e).run P w = .ok z w) {s : ByteArray} (hs : s.size ≤ maxLen) (c : Bool) :
  (Instr.lookup t (.map (some b)) (.string s) c).run P w = .ok (if c then .tuple #[fgetD z fs s, .bool (fhas fs s)] else fgetD z fs s) w := by
 by_cases hm : s ∈ skeys fs
 ·obtain ⟨x, v, y, rfl, hx⟩ := split_key hm
  rw [fgetD_split z hx, fhas_yes hm]
  exact MapAt.look_hit (strT hk) h ht (by rw [fv_split]; simp) c
 ·rw [fgetD_none z hm, fhas_no hm]
  exact MapAt.look_miss (strT hk) h ht hz ⟨s, rfl, hs⟩ (ne_keys hm) c
theorem SMapAt.set (h : SMapAt w b fs) (hk : P.underlying k = some .string) (ht : P.underlying t = some (.map k e)) {s : ByteArray} (hs : s.size ≤ maxLen) (v : Value) :
  ∃ w', (Instr.mapUpdate t (.map (some b)) (.string s) v).run P w = .ok () w' ∧ SMapAt w' b (fset fs s v) ∧ w.grownBy w' (some b) ∧ w'.heap.size = w.heap.size := by
 by_cases hm : s ∈ skeys fs
 ·obtain ⟨x, v0, y, rfl, hx⟩ := split_key hm
  unfold SMapAt at h
  rw [fv_split] at h
  obtain ⟨w', h1, h2, h3⟩ := MapAt.store_hit (strT hk) h ht v
  refine ⟨w', h1, ?_, h3⟩
  rw [fset_split hx]; unfold SMapAt; rw [fv_split]; exact h2
 ·obtain ⟨w', h1, h2, h3⟩ := MapAt.store_new (strT hk) h ht v ⟨s, rfl, hs⟩ (ne_keys hm)
  refine ⟨w', h1, ?_, h3⟩
  rw [fset_none hm]; unfold SMapAt; rw [List.map_append]; exact h2
end
end Go.Proofs.YtfndhfekbbbliaaGreatDoor

/-
  Package den: a flow as it lies in memory ('FlowAt'), and what becomes of it where a count, a state, a line is written. No condition: definitions and lemmas.
-/
namespace Go.Proofs.YtfndhfekbbbliaaGreatDoor
open Go.RowKit Go.ChangeShapes Go.WideShapes
set_option linter.unusedVariables false
structure RowI where
 A : Option Addr
 cap : Nat
 xs : List Int
def intC (n : Int) : List Value := [.int .i64 n]
def rowV (r : RowI) : Value := .slice r.A r.xs.length r.cap
def RowI.At (r : RowI) (w : World) : Prop := OwnS w 3 1 r.A r.cap r.xs.length (r.xs.flatMap intC)
def noRow : RowI := ⟨none, 0, []⟩
def hp (p : ByteArray × Hld) : ByteArray × Value := (p.1, hldV p.2)
def lp (p : ByteArray × RowI) : ByteArray × Value := (p.1, rowV p.2)
def lxs (p : ByteArray × RowI) : ByteArray × List Int := (p.1, p.2.xs)
structure FlowC where
 B : Nat
 g : Nat
 J : List Nod
 U : List (List Int)
 Aj : Option Addr
 cj : Nat
 Au : Option Addr
 cu : Nat
 bs : Nat
 cs : Nat
 bg : Nat
 bl : Nat
 cl : Nat
 sb : Nat → Nat
 lb : Nat → Nat
structure FlowC.Ok (C : FlowC) : Prop where
 bg : C.B ≤ C.bg
 sb : ∀ i, i < C.J.length → C.B ≤ C.sb i
 lb : ∀ i, i < C.J.length → C.B ≤ C.lb i
 sinj : ∀ i j, i < C.J.length → j < C.J.length → C.sb i = C.sb j → i = j
 linj : ∀ i j, i < C.J.length → j < C.J.length → C.lb i = C.lb j → i = j
 two : ∀ i j, i < C.J.length → j < C.J.length → C.sb i ≠ C.lb j
structure FlowAt (C : FlowC) (L : List (List (ByteArray × RowI))) (w : World) (f : Flw) : Prop where
 obj : w.heap[C.g]? = some (.cells #[.slice C.Aj C.J.length C.cj, .slice C.Au C.U.length C.cu, .slice (some ⟨C.bs, 0, none⟩) C.J.length C.cs, .slice (some ⟨C.bg, 0, none⟩) C.J.length C.J.length, .slice (some ⟨C.bl, 0, none⟩) C.J.length C.cl] 137 (0, 0))
 job : SlA nodE (· < C.B) w C.Aj C.cj C.J
 uses : SlA (slE (intE .i64)) (· < C.B) w C.Au C.cu C.U
 sts : ∃ cs, w.heap[C.bs]? = some (.cells cs 139 (0, 0)) ∧ ∀ i, i < C.J.length → cs[i]? = some (.map (some (C.sb i)))
 lns : ∃ cs, w.heap[C.bl]? = some (.cells cs 140 (0, 0)) ∧ ∀ i, i < C.J.length → cs[i]? = some (.map (some (C.lb i)))
 gv : w.heap[C.bg]? = some (.cells (f.gv.flatMap intC).toArray 3 (0, 0))
 gvn : f.gv.length = C.J.length
 stn : f.st.length = C.J.length
 st : ∀ (i : Nat) (m : List (ByteArray × Hld)), f.st[i]? = some m → SMapAt w (C.sb i) (m.map hp)
 Ln : L.length = C.J.length
 ln : f.ln = L.map (·.map lxs)
 lmap : ∀ (i : Nat) (m : List (ByteArray × RowI)), L[i]? = some m → SMapAt w (C.lb i) (m.map lp)
 rows : ∀ (i : Nat) (m : List (ByteArray × RowI)) (p : ByteArray × RowI), L[i]? = some m → p ∈ m → p.2.At w ∧ ∀ k, blk p.2.A = some k → C.B ≤ k ∧ k ≠ C.bg
 apart : ∀ (i j : Nat) (m m' : List (ByteArray × RowI)) (p q : ByteArray × RowI) (k : Nat), L[i]? = some m → L[j]? = some m' → p ∈ m → q ∈ m' → blk p.2.A = some k → blk q.2.A = some k → i = j ∧ p.1 = q.1
 stOk : ∀ m ∈ f.st, ∀ p ∈ m, I64 p.2.a ∧ I64 p.2.b
 lnOk : ∀ m ∈ f.ln, ∀ p ∈ m, ∀ x ∈ p.2, I64 x
theorem get?_lt {α : Type} {l : List α} {i : Nat} {a : α} (h : l[i]? = some a) : i < l.length := (List.getElem?_eq_some_iff.1 h).1
theorem OwnS.introw {w : World} {A : Option Addr} {cap n : Nat} {xs : List Value} {k : Nat} (h : OwnS w 3 1 A cap n xs) (hk : blk A = some k) : ∃ cs, w.heap[k]? = some (.cells cs 3 (0, 0)) := by
 obtain ⟨_, _, _, h4⟩ := h
 rcases h4 with ⟨rfl, _⟩ | ⟨g, off, cur, rfl, hh, _⟩
 ·cases hk
 ·injection hk with hk; subst hk; exact ⟨cur, hh⟩
theorem FlowAt.keep {C : FlowC} {L : List (List (ByteArray × RowI))} {w w' : World} {f : Flw} (h : FlowAt C L w f) (hs : ∀ k, k < w.heap.size → w'.heap[k]? = w.heap[k]?) (hB : C.B ≤ w.heap.size) : FlowAt C L w' f := by
 have hlt : Same (· < C.B) w w' := fun k hk => hs k (Nat.lt_of_lt_of_le hk hB)
 obtain ⟨cs, hcs, hcs2⟩ := h.sts
 obtain ⟨cl, hcl, hcl2⟩ := h.lns
 exact { h with
  obj := (hs _ (block_lt h.obj)).trans h.obj
  job := h.job.keep hlt
  uses := h.uses.keep hlt
  sts := ⟨cs, (hs _ (block_lt hcs)).trans hcs, hcs2⟩
  lns := ⟨cl, (hs _ (block_lt hcl)).trans hcl, hcl2⟩
  gv := (hs _ (block_lt h.gv)).trans h.gv
  st := fun i m hm => (h.st i m hm).keep (hs _ (h.st i m hm).lt)
  lmap := fun i m hm => (h.lmap i m hm).keep (hs _ (h.lmap i m hm).lt)
  rows := fun i m p hm hp => ⟨OwnS.keep (h.rows i m p hm hp).1 fun k hk => hs k (OwnS.lt (h.rows i m p hm hp).1 k hk), (h.rows i m p hm hp).2⟩ }
theorem FlowAt.below {C : FlowC} {L : List (List (ByteArray × RowI))} {w w' : World} {f : Flw} (h : FlowAt C L w f) (hb : Below w.heap.size w w') (hB : C.B ≤ w.heap.size) : FlowAt C L w' f := h.keep (fun k hk => hb.block k hk) hB
def DynKind (w : World) (k : Nat) : Prop := (∃ es c, w.heap[k]? = some (.map es c)) ∨ ∃ cs, w.heap[k]? = some (.cells cs 3 (0, 0))
def Flows (B : Nat) (w w' : World) : Prop := Frm (fun k => B ≤ k ∧ DynKind w k) w w'
theorem Flows.refl (B : Nat) (w : World) : Flows B w w := Frm.refl _ _
theorem Flows.ofBelow {B : Nat} {w w' : World} (h : Below w.heap.size w w') : Flows B w w' := Frm.ofBelow h
theorem Flows.trans {B : Nat} {a b c : World} (h : Flows B a b) (h' : Flows B b c) : Flows B a c :=
 Frm.trans h h' (fun _ h => h) fun k hk => by
  rcases Nat.lt_or_ge k a.heap.size with hlt | hge
  ·left
   refine ⟨hk.1, ?_⟩
   by_cases hd : DynKind a k
   ·exact hd
   ·exfalso
    have e := h.block k hlt (fun hh => hd hh.2)
    rcases hk.2 with ⟨es, cc, hh⟩ | ⟨cs, hh⟩
    ·exact hd (.inl ⟨es, cc, e ▸ hh⟩)
    ·exact hd (.inr ⟨cs, e ▸ hh⟩)
  ·exact .inr hge
theorem Flows.below {B : Nat} {w w' : World} (h : Flows B w w') (hB : B ≤ w.heap.size) : Below B w w' := Frm.below h hB fun k hk => hk.1
theorem Flows.cells {B : Nat} {w w' : World} (h : Flows B w w') {k : Nat} {cs : Array Value} {t : TypeId} {fr : Nat × Nat} (hk : w.heap[k]? = some (.cells cs t fr)) (ht : t ≠ 3) : w'.heap[k]? = some (.cells cs t fr) := by
 refine (h.block k (block_lt hk) ?_).trans hk
 rintro ⟨_, ⟨es, c, e⟩ | ⟨cs', e⟩⟩
 ·rw [hk] at e; cases e
 ·rw [hk] at e; injection e with e; injection e with _ e; exact ht e
theorem Flows.size {B : Nat} {w w' : World} (h : Flows B w w') : w.heap.size ≤ w'.heap.size := Frm.size h
theorem Flows.grown {B : Nat} {w w' : World} {row : Option Nat} (hg : w.grownBy w' row) (hr : ∀ k, row = some k → B ≤ k ∧ DynKind w k) : Flows B w w' := Frm.ofGrown hg hr
theorem Flows.setCell {B : Nat} {a w : World} (h : Flows B a w) {p : Addr} (hp : (B ≤ p.block ∧ DynKind a p.block) ∨ a.heap.size ≤ p.block) (u : Value) : Flows B a (w.setCell p u) := Frm.setCell h hp u
theorem Flows.sl {α : Type} {E : Elt α} {B : Nat} {w w' : World} (h : Flows B w w') (hB : B ≤ w.heap.size) {A : Option Addr} {c : Nat} {l : List α} (hl : SlA E (· < B) w A c l) : SlA E (· < B) w' A c l := hl.keep fun k hk => (h.below hB).block k hk
theorem gv_cell {C : FlowC} {L : List (List (ByteArray × RowI))} {w : World} {f : Flw} (h : FlowAt C L w f) {i : Nat} {c : Int} (hc : f.gv[i]? = some c) : w.cell? ⟨C.bg, i, none⟩ = some (.int .i64 c) := by
 rw [cell_of_row w C.bg i _ _ _ h.gv]
 have := flat_get intC 1 (fun _ => rfl) f.gv hc (j := 0) (by decide)
 simpa [intC] using this
theorem flat_ints_set (l : List Int) (i : Nat) (c : Int) (hi : i < l.length) : ((l.flatMap intC).toArray).setIfInBounds i (.int .i64 c) = ((l.set i c).flatMap intC).toArray := by
 have e : ∀ l : List Int, l.flatMap intC = l.map (Value.int .i64 ·) := fun l => by
  induction l with
  | nil => rfl
  | cons x l ih => rw [List.flatMap_cons, ih]; rfl
 rw [e, e, List.setIfInBounds_toArray, List.map_set]
theorem FlowAt.bump {C : FlowC} (hC : C.Ok) {L : List (List (ByteArray × RowI))} {w : World} {f : Flw} (h : FlowAt C L w f) {i : Nat} {c : Int} (hc : f.gv[i]? = some c) : FlowAt C L (w.setCell ⟨C.bg, i, none⟩ (.int .i64 (c + 1))) (bump i f) := by
 have hi := get?_lt hc
 have hs : ∀ k, k ≠ C.bg → (w.setCell ⟨C.bg, i, none⟩ (.int .i64 (c + 1))).heap[k]? = w.heap[k]? := fun k hk => Below.heap_setCell _ _ _ _ (by simpa using hk)
 have hne : ∀ (k : Nat) (cs : Array Value) (t : TypeId) (fr : Nat × Nat), w.heap[k]? = some (.cells cs t fr) → t ≠ 3 → k ≠ C.bg := fun k cs t fr hk ht e => by
  subst e; rw [h.gv] at hk; injection hk with hk; injection hk with _ hk; exact ht hk.symm
 have hmap : ∀ b m, SMapAt w b m → SMapAt (w.setCell ⟨C.bg, i, none⟩ (.int .i64 (c + 1))) b m := fun b m hb => hb.keep (hs b fun e => by subst e; exact hb.not_cells h.gv)
 have hlt : Same (· < C.B) w (w.setCell ⟨C.bg, i, none⟩ (.int .i64 (c + 1))) := fun k hk => hs k (fun e => by have := hC.bg; omega)
 obtain ⟨cs, hcs, hcs2⟩ := h.sts
 obtain ⟨cl, hcl, hcl2⟩ := h.lns
 exact { h with
  obj := (hs _ (hne _ _ _ _ h.obj (by decide))).trans h.obj
  job := h.job.keep hlt
  uses := h.uses.keep hlt
  sts := ⟨cs, (hs _ (hne _ _ _ _ hcs (by decide))).trans hcs, hcs2⟩
  lns := ⟨cl, (hs _ (hne _ _ _ _ hcl (by decide))).trans hcl, hcl2⟩
  gv := by
   show _ = some (Obj.cells (((f.gv.set i ((f.gv[i]?.getD 0) + 1)).flatMap intC).toArray) _ _)
   rw [hc, Option.getD_some, ← flat_ints_set _ _ _ hi]
   simp [World.setCell, Array.getElem?_modify, h.gv]
  gvn := by show (f.gv.set i _).length = _; rw [List.length_set]; exact h.gvn
  st := fun i m hm => hmap _ _ (h.st i m hm)
  lmap := fun i m hm => hmap _ _ (h.lmap i m hm)
  rows := fun j m p hm hp => ⟨OwnS.keep (h.rows j m p hm hp).1 fun k hk => hs k ((h.rows j m p hm hp).2 k hk).2, (h.rows j m p hm hp).2⟩ }
theorem fset_hp (m : List (ByteArray × Hld)) (k : ByteArray) (h : Hld) : fset (m.map hp) k (hldV h) = (pset m k h).map hp := by
 induction m with
 | nil => rfl
 | cons p m ih =>
  simp only [List.map_cons, fset, pset]
  by_cases e : p.1 = k
  ·rw [if_pos (show (hp p).1 = k from e), if_pos e]; rfl
  ·rw [if_neg (show ¬ (hp p).1 = k from e), if_neg e, ih]; rfl
theorem fgetD_hp (z : Hld) (m : List (ByteArray × Hld)) (k : ByteArray) : fgetD (hldV z) (m.map hp) k = hldV ((pget m k).getD z) := by
 induction m with
 | nil => rfl
 | cons p m ih =>
  simp only [List.map_cons, fgetD]
  unfold pget
  rw [List.find?_cons]
  by_cases e : p.1 = k
  ·rw [if_pos (show (hp p).1 = k from e), decide_eq_true e]; rfl
  ·rw [if_neg (show ¬ (hp p).1 = k from e), decide_eq_false e, ih]; rfl
theorem fhas_hp (m : List (ByteArray × Hld)) (k : ByteArray) : fhas (m.map hp) k = (pget m k).isSome := by
 induction m with
 | nil => rfl
 | cons p m ih =>
  unfold fhas at ih ⊢
  unfold pget at ih ⊢
  rw [List.map_cons, List.any_cons, ih, List.find?_cons]
  by_cases e : p.1 = k
  ·rw [show decide ((hp p).1 = k) = true from decide_eq_true e, decide_eq_true e]; rfl
  ·rw [show decide ((hp p).1 = k) = false from decide_eq_false e, decide_eq_false e]; rfl
theorem fset_lp (m : List (ByteArray × RowI)) (k : ByteArray) (r : RowI) : fset (m.map lp) k (rowV r) = (pset m k r).map lp := by
 induction m with
 | nil => rfl
 | cons p m ih =>
  simp only [List.map_cons, fset, pset]
  by_cases e : p.1 = k
  ·rw [if_pos (show (lp p).1 = k from e), if_pos e]; rfl
  ·rw [if_neg (show ¬ (lp p).1 = k from e), if_neg e, ih]; rfl
theorem fgetD_lp (m : List (ByteArray × RowI)) (k : ByteArray) : fgetD (rowV noRow) (m.map lp) k = rowV ((pget m k).getD noRow) := by
 induction m with
 | nil => rfl
 | cons p m ih =>
  simp only [List.map_cons, fgetD]
  unfold pget
  rw [List.find?_cons]
  by_cases e : p.1 = k
  ·rw [if_pos (show (lp p).1 = k from e), decide_eq_true e]; rfl
  ·rw [if_neg (show ¬ (lp p).1 = k from e), decide_eq_false e, ih]; rfl
theorem pset_lxs (m : List (ByteArray × RowI)) (k : ByteArray) (r : RowI) : (pset m k r).map lxs = pset (m.map lxs) k r.xs := by
 induction m with
 | nil => rfl
 | cons p m ih =>
  simp only [List.map_cons, pset]
  by_cases e : p.1 = k
  ·rw [if_pos e, if_pos (show (lxs p).1 = k from e)]; rfl
  ·rw [if_neg e, if_neg (show ¬ (lxs p).1 = k from e), List.map_cons, ih]
theorem pget_lxs (m : List (ByteArray × RowI)) (k : ByteArray) : pget (m.map lxs) k = (pget m k).map (·.xs) := by
 induction m with
 | nil => rfl
 | cons p m ih =>
  unfold pget at ih ⊢
  rw [List.map_cons, List.find?_cons, List.find?_cons]
  by_cases e : p.1 = k
  ·rw [show decide ((lxs p).1 = k) = true from decide_eq_true e, decide_eq_true e]; rfl
  ·rw [show decide ((lxs p).1 = k) = false from decide_eq_false e, decide_eq_false e]; exact ih
theorem mem_pset {α : Type} {m : List (ByteArray × α)} {k : ByteArray} {v : α} {p : ByteArray × α} (h : p ∈ pset m k v) : p = (k, v) ∨ (p ∈ m ∧ p.1 ≠ k) ∨ (p ∈ m ∧ ∃ q ∈ m, q.1 = k) := by
 induction m with
 | nil => left; simpa [pset] using h
 | cons q m ih =>
  simp only [pset] at h
  by_cases e : q.1 = k
  ·rw [if_pos e] at h
   rcases List.mem_cons.1 h with h | h
   ·exact .inl h
   ·exact .inr (.inr ⟨List.mem_cons_of_mem _ h, q, List.mem_cons_self, e⟩)
  ·rw [if_neg e] at h
   rcases List.mem_cons.1 h with h | h
   ·exact .inr (.inl ⟨h ▸ List.mem_cons_self, h ▸ e⟩)
   ·rcases ih h with h1 | ⟨h1, h2⟩ | ⟨h1, q', h2, h3⟩
    ·exact .inl h1
    ·exact .inr (.inl ⟨List.mem_cons_of_mem _ h1, h2⟩)
    ·exact .inr (.inr ⟨List.mem_cons_of_mem _ h1, q', List.mem_cons_of_mem _ h2, h3⟩)
theorem mem_pset_nd {α : Type} {m : List (ByteArray × α)} {k : ByteArray} {v : α} {p : ByteArray × α} (hn : (pkeys m).Nodup) (h : p ∈ pset m k v) : p = (k, v) ∨ (p ∈ m ∧ p.1 ≠ k) := by
 induction m with
 | nil => left; simpa [pset] using h
 | cons q m ih =>
  obtain ⟨hn1, hn2⟩ := List.nodup_cons.1 (show (q.1 :: pkeys m).Nodup from hn)
  simp only [pset] at h
  by_cases e : q.1 = k
  ·rw [if_pos e] at h
   rcases List.mem_cons.1 h with h | h
   ·exact .inl h
   ·exact .inr ⟨List.mem_cons_of_mem _ h, fun e2 => hn1 (e ▸ e2 ▸ List.mem_map.2 ⟨p, h, rfl⟩)⟩
  ·rw [if_neg e] at h
   rcases List.mem_cons.1 h with h | h
   ·exact .inr ⟨h ▸ List.mem_cons_self, h ▸ e⟩
   ·rcases ih hn2 h with h1 | ⟨h1, h2⟩
    ·exact .inl h1
    ·exact .inr ⟨List.mem_cons_of_mem _ h1, h2⟩
theorem FlowAt.state {C : FlowC} (hC : C.Ok) {L : List (List (ByteArray × RowI))} {w w' : World} {f : Flw} (h : FlowAt C L w f) {i : Nat} {m : List (ByteArray × Hld)} (hm : f.st[i]? = some m) {k : ByteArray} {v : Hld} (hv : I64 v.a ∧ I64 v.b)
  (h1 : SMapAt w' (C.sb i) (fset (m.map hp) k (hldV v))) (hg : w.grownBy w' (some (C.sb i))) : FlowAt C L w' { f with st := f.st.modify i fun m => pset m k v } := by
 have hi : i < C.J.length := by rw [← h.stn]; exact get?_lt hm
 have hmi := h.st i m hm
 have hs : ∀ k, k < w.heap.size → k ≠ C.sb i → w'.heap[k]? = w.heap[k]? := fun k hk hne => hg.block k hk (fun e => hne (Option.some.inj e))
 have hcl : ∀ (k : Nat) (cs : Array Value) (t : TypeId) (fr : Nat × Nat), w.heap[k]? = some (.cells cs t fr) → w'.heap[k]? = some (.cells cs t fr) := fun k cs t fr hk => (hs k (block_lt hk) (fun e => by subst e; exact hmi.not_cells hk)).trans hk
 have hlt : Same (· < C.B) w w' := fun k hk => by
  have h1 := hC.sb i hi
  exact hs k (by have := hmi.lt; omega) (by omega)
 obtain ⟨cs, hcs, hcs2⟩ := h.sts
 obtain ⟨cl, hcl0, hcl2⟩ := h.lns
 exact { h with
  obj := hcl _ _ _ _ h.obj
  job := h.job.keep hlt
  uses := h.uses.keep hlt
  sts := ⟨cs, hcl _ _ _ _ hcs, hcs2⟩
  lns := ⟨cl, hcl _ _ _ _ hcl0, hcl2⟩
  gv := hcl _ _ _ _ h.gv
  stn := by show (f.st.modify i _).length = _; rw [List.length_modify]; exact h.stn
  st := fun j m' hm' => by
   have hm' : (f.st.modify i fun m => pset m k v)[j]? = some m' := hm'
   by_cases e : j = i
   ·subst e
    rw [getElem?_modify_same hm] at hm'
    injection hm' with hm'
    rw [← hm', ← fset_hp]; exact h1
   ·rw [getElem?_modify_ne e] at hm'
    have hj : j < C.J.length := by rw [← h.stn]; exact get?_lt hm'
    exact (h.st j m' hm').keep (hs _ (h.st j m' hm').lt (fun e2 => e (hC.sinj j i hj hi e2)))
  lmap := fun j m' hm' => (h.lmap j m' hm').keep (hs _ (h.lmap j m' hm').lt (fun e => hC.two i j hi (by rw [← h.Ln]; exact get?_lt hm') e.symm))
  rows := fun j m' p hm' hp' => ⟨OwnS.keep (h.rows j m' p hm' hp').1 fun k hk => by
   obtain ⟨cs, hk2⟩ := OwnS.introw (h.rows j m' p hm' hp').1 hk
   exact (hcl _ _ _ _ hk2).trans hk2.symm, (h.rows j m' p hm' hp').2⟩
  stOk := fun m' hm' p hp' => by
   obtain ⟨j, hj⟩ := List.getElem?_of_mem (show m' ∈ f.st.modify i (fun m => pset m k v) from hm')
   by_cases e : j = i
   ·subst e
    rw [getElem?_modify_same hm] at hj
    injection hj with hj
    subst hj
    rcases mem_pset hp' with rfl | ⟨h2, _⟩ | ⟨h2, _⟩
    ·exact hv
    ·exact h.stOk m (List.mem_of_getElem? hm) p h2
    ·exact h.stOk m (List.mem_of_getElem? hm) p h2
   ·rw [getElem?_modify_ne e] at hj
    exact h.stOk m' (List.mem_of_getElem? hj) p hp' }
theorem FlowAt.line {C : FlowC} (hC : C.Ok) {L : List (List (ByteArray × RowI))} {w w1 w2 : World} {f : Flw} (h : FlowAt C L w f) (hB : C.B ≤ w.heap.size) {i : Nat} {m : List (ByteArray × RowI)} (hm : L[i]? = some m) {k : ByteArray} {x t : Int} (hx : I64 x) {old : RowI} (hold : old = (pget m k).getD noRow) {A' : Option Addr} {cap' : Nat}
  (ho : OwnS w1 3 1 A' cap' (old.xs.length + 1) (old.xs.flatMap intC ++ [.int .i64 x])) (hg1 : w.grownBy w1 (blk old.A)) (hat : blk A' = blk old.A ∨ ∃ j, blk A' = some j ∧ w.heap.size ≤ j)
  (h1 : SMapAt w2 (C.lb i) (fset (m.map lp) k (.slice A' (old.xs.length + 1) cap'))) (hg2 : w1.grownBy w2 (some (C.lb i))) :
  FlowAt C (L.modify i fun m => pset m k ⟨A', cap', old.xs ++ [x]⟩) w2 { f with ln := f.ln.modify i fun m => addLine m ⟨k, x, t⟩ } ∧ Flows C.B w w2 := by
 have hi : i < C.J.length := by rw [← h.Ln]; exact get?_lt hm
 have hmi := h.lmap i m hm
 have hndm : (pkeys m).Nodup := by
  have := hmi.nodup
  unfold skeys at this
  rw [List.map_map] at this
  exact this
 have holdm : blk old.A = none ∨ (k, old) ∈ m := by
  by_cases hk : k ∈ pkeys m
  ·obtain ⟨a, v, b, rfl, ha⟩ := split_pkey hk
   rw [pget_split ha] at hold
   right; rw [hold]; simp
  ·rw [pget_none hk] at hold
   left; rw [hold]; rfl
 have hblk : ∀ j, blk old.A = some j → (∃ cs, w.heap[j]? = some (.cells cs 3 (0, 0))) ∧ C.B ≤ j ∧ j ≠ C.bg := fun j hj => by
  rcases holdm with h2 | h2
  ·rw [h2] at hj; cases hj
  ·exact ⟨OwnS.introw (h.rows i m _ hm h2).1 hj, (h.rows i m _ hm h2).2 j hj⟩
 have hlb1 : w1.heap[C.lb i]? = w.heap[C.lb i]? := hg1.block _ hmi.lt (fun e => by
  obtain ⟨cs, hc⟩ := (hblk _ e.symm).1
  exact hmi.not_cells hc)
 have hs : ∀ j, j < w.heap.size → blk old.A ≠ some j → j ≠ C.lb i → w2.heap[j]? = w.heap[j]? := fun j hj h2 h3 => (hg2.block j (Nat.lt_of_lt_of_le hj hg1.size) (fun e => h3 (Option.some.inj e))).trans (hg1.block j hj (fun e => h2 e.symm))
 have hcl : ∀ (j : Nat) (cs : Array Value) (ty : TypeId) (fr : Nat × Nat), w.heap[j]? = some (.cells cs ty fr) → blk old.A ≠ some j → w2.heap[j]? = some (.cells cs ty fr) := fun j cs ty fr hk h2 => (hs j (block_lt hk) h2 (fun e => by subst e; exact hmi.not_cells hk)).trans hk
 have hcl' : ∀ (j : Nat) (cs : Array Value) (ty : TypeId) (fr : Nat × Nat), w.heap[j]? = some (.cells cs ty fr) → ty ≠ 3 → w2.heap[j]? = some (.cells cs ty fr) := fun j cs ty fr hk h2 => hcl j cs ty fr hk (fun e => by
  obtain ⟨cs', hc⟩ := (hblk _ e).1
  rw [hk] at hc; injection hc with hc; injection hc with _ hc; exact h2 hc)
 have hmp : ∀ b fs, SMapAt w b fs → b ≠ C.lb i → SMapAt w2 b fs := fun b fs hb hne => hb.keep (hs b hb.lt (fun e => by
  obtain ⟨cs, hc⟩ := (hblk _ e).1
  exact hb.not_cells hc) hne)
 have hlt : Same (· < C.B) w w2 := fun j hj => hs j (by omega) (fun e => by have := (hblk _ e).2.1; omega) (fun e => by have := hC.lb i hi; omega)
 have hA' : ∀ j, blk A' = some j → C.B ≤ j ∧ j ≠ C.bg ∧ j < w1.heap.size ∧ j ≠ C.lb i := fun j hj => by
  have hl1 := OwnS.lt ho j hj
  have hne : j ≠ C.lb i := fun e => by
   obtain ⟨cs, hc⟩ := OwnS.introw ho hj
   rw [e, hlb1] at hc
   exact hmi.not_cells hc
  rcases hat with e | ⟨j', e, hj'⟩
  ·rw [e] at hj
   exact ⟨(hblk j hj).2.1, (hblk j hj).2.2, hl1, hne⟩
  ·rw [e] at hj; injection hj with hj; subst hj
   exact ⟨by omega, fun e => by have := block_lt h.gv; omega, hl1, hne⟩
 obtain ⟨cs, hcs, hcs2⟩ := h.sts
 obtain ⟨cl, hcl0, hcl2⟩ := h.lns
 have hmem : ∀ (j : Nat) (m' : List (ByteArray × RowI)), (L.modify i fun m => pset m k ⟨A', cap', old.xs ++ [x]⟩)[j]? = some m' → ∀ p ∈ m', (j = i ∧ p = (k, ⟨A', cap', old.xs ++ [x]⟩)) ∨ (∃ m0, L[j]? = some m0 ∧ p ∈ m0 ∧ ¬ (j = i ∧ p.1 = k)) := fun j m' hm' p hp' => by
  by_cases e : j = i
  ·subst e
   rw [getElem?_modify_same hm] at hm'
   injection hm' with hm'
   subst hm'
   rcases mem_pset_nd hndm hp' with h2 | ⟨h2, h3⟩
   ·exact .inl ⟨rfl, h2⟩
   ·exact .inr ⟨m, hm, h2, fun h4 => h3 h4.2⟩
  ·rw [getElem?_modify_ne e] at hm'
   exact .inr ⟨m', hm', hp', fun h4 => e h4.1⟩
 have holdne : ∀ (j : Nat) (m0 : List (ByteArray × RowI)) (p : ByteArray × RowI) (q : Nat), L[j]? = some m0 → p ∈ m0 → ¬ (j = i ∧ p.1 = k) → blk p.2.A = some q → blk old.A ≠ some q := fun j m0 p q hj hp' hn hq e => by
  rcases holdm with h2 | h2
  ·rw [h2] at e; cases e
  ·exact hn (h.apart j i m0 m p (k, old) q hj hm hp' h2 hq e)
 refine ⟨{ h with
  obj := hcl' _ _ _ _ h.obj (by decide)
  job := h.job.keep hlt
  uses := h.uses.keep hlt
  sts := ⟨cs, hcl' _ _ _ _ hcs (by decide), hcs2⟩
  lns := ⟨cl, hcl' _ _ _ _ hcl0 (by decide), hcl2⟩
  gv := hcl _ _ _ _ h.gv (fun e => (hblk _ e).2.2 rfl)
  st := fun j m' hm' => hmp _ _ (h.st j m' hm') (hC.two j i (by rw [← h.stn]; exact get?_lt hm') hi)
  Ln := by rw [List.length_modify]; exact h.Ln
  ln := ?_
  lmap := fun j m' hm' => ?_
  rows := fun j m' p hm' hp' => ?_
  apart := fun j j' m1 m2 p q z h1 h2 h3 h4 h5 h6 => ?_
  lnOk := fun m' hm' p hp' y hy => ?_ }, ?_⟩
 ·show f.ln.modify i _ = _
  rw [h.ln]
  apply List.ext_getElem?
  intro j
  by_cases e : j = i
  ·subst e
   have h2 : (L.map (·.map lxs))[j]? = some (m.map lxs) := by rw [List.getElem?_map, hm]; rfl
   rw [getElem?_modify_same h2, List.getElem?_map, getElem?_modify_same hm]
   show some (addLine (m.map lxs) ⟨k, x, t⟩) = some ((pset m k ⟨A', cap', old.xs ++ [x]⟩).map lxs)
   rw [pset_lxs]
   unfold addLine
   rw [pget_lxs, hold]
   simp only
   cases pget m k <;> rfl
  ·rw [getElem?_modify_ne e, List.getElem?_map, List.getElem?_map, getElem?_modify_ne e]
 ·by_cases e : j = i
  ·subst e
   rw [getElem?_modify_same hm] at hm'
   injection hm' with hm'
   subst hm'
   rw [← fset_lp]
   unfold rowV
   rw [List.length_append]
   exact h1
  ·rw [getElem?_modify_ne e] at hm'
   exact hmp _ _ (h.lmap j m' hm') (fun e2 => e (hC.linj j i (by rw [← h.Ln]; exact get?_lt hm') hi e2))
 ·rcases hmem j m' hm' p hp' with ⟨rfl, rfl⟩ | ⟨m0, hj, hp0, hn⟩
  ·refine ⟨?_, fun q hq => ⟨(hA' q hq).1, (hA' q hq).2.1⟩⟩
   have h2 : RowI.At ⟨A', cap', old.xs ++ [x]⟩ w1 := by
    unfold RowI.At
    rw [List.length_append, List.flatMap_append]
    exact ho
   exact OwnS.keep h2 fun q hq => hg2.block q (hA' q hq).2.2.1 (fun e => (hA' q hq).2.2.2 (Option.some.inj e))
  ·refine ⟨OwnS.keep (h.rows j m0 p hj hp0).1 fun q hq => ?_, (h.rows j m0 p hj hp0).2⟩
   obtain ⟨cs', hc⟩ := OwnS.introw (h.rows j m0 p hj hp0).1 hq
   exact (hcl _ _ _ _ hc (holdne j m0 p q hj hp0 hn hq)).trans hc.symm
 ·have hfar : ∀ (j : Nat) (m0 : List (ByteArray × RowI)) (p : ByteArray × RowI), L[j]? = some m0 → p ∈ m0 → ¬ (j = i ∧ p.1 = k) → blk p.2.A = some z → blk A' ≠ some z := fun j m0 p hj hp0 hn hq e => by
   rcases hat with e2 | ⟨j', e2, hj'⟩
   ·rw [e2] at e; exact holdne j m0 p z hj hp0 hn hq e
   ·rw [e2] at e; injection e with e; subst e
    have := OwnS.lt (h.rows j m0 p hj hp0).1 _ hq
    omega
  rcases hmem j m1 h1 p h3 with ⟨rfl, rfl⟩ | ⟨m0, hj, hp0, hn⟩
  ·rcases hmem j' m2 h2 q h4 with ⟨rfl, rfl⟩ | ⟨m0', hj', hp0', hn'⟩
   ·exact ⟨rfl, rfl⟩
   ·exact absurd h5 (hfar j' m0' q hj' hp0' hn' h6)
  ·rcases hmem j' m2 h2 q h4 with ⟨rfl, rfl⟩ | ⟨m0', hj', hp0', hn'⟩
   ·exact absurd h6 (hfar j m0 p hj hp0 hn h5)
   ·exact h.apart j j' m0 m0' p q z hj hj' hp0 hp0' h5 h6
 ·obtain ⟨j, hj⟩ := List.getElem?_of_mem (show m' ∈ f.ln.modify i (fun m => addLine m ⟨k, x, t⟩) from hm')
  have hfl : f.ln[i]? = some (m.map lxs) := by rw [h.ln, List.getElem?_map, hm]; rfl
  by_cases e : j = i
  ·subst e
   rw [getElem?_modify_same hfl] at hj
   injection hj with hj
   subst hj
   have hall := h.lnOk _ (List.mem_of_getElem? hfl)
   rcases mem_pset hp' with rfl | ⟨h2, _⟩ | ⟨h2, _⟩
   ·rcases List.mem_append.1 hy with hy | hy
    ·rw [pget_lxs] at hy
     by_cases hk : k ∈ pkeys m
     ·obtain ⟨a, v, b, e3, ha⟩ := split_pkey hk
      rw [e3, pget_split ha] at hy
      exact hall (k, v.xs) (by rw [e3]; simp [lxs]) y hy
     ·rw [pget_none hk] at hy; cases hy
    ·rw [List.mem_singleton.1 hy]; exact hx
   ·exact hall p h2 y hy
   ·exact hall p h2 y hy
  ·rw [getElem?_modify_ne e] at hj
   exact h.lnOk m' (List.mem_of_getElem? hj) p hp' y hy
 ·refine Flows.trans (Flows.grown hg1 fun q hq => ⟨(hblk q hq).2.1, .inr (hblk q hq).1⟩) (Flows.grown hg2 fun q hq => ?_)
  injection hq with hq
  subst hq
  refine ⟨hC.lb i hi, .inl ?_⟩
  obtain ⟨es, c, hb, _⟩ := hmi
  exact ⟨es, c, hlb1.trans hb⟩
end Go.Proofs.YtfndhfekbbbliaaGreatDoor

/-
  The flow, plain: how long lines grow at most. No condition: plain definitions and lemmas.
-/
namespace Go.Proofs.YtfndhfekbbbliaaGreatDoor
open Go.RowKit
set_option linter.unusedVariables false
def Room (n s : Nat) (f : Flw) : Prop := Okf n f ∧ (s : Int) ≤ 48 * f.gv.sum ∧ (∀ m ∈ f.ln, (m.length : Int) + s ≤ 48 * f.gv.sum ∧ ∀ p ∈ m, (p.2.length : Int) + s ≤ 48 * f.gv.sum) ∧ ∀ c ∈ f.gv, 0 ≤ c
theorem sum_le {l : List Int} (h : ∀ c ∈ l, c ≤ 2000) : l.sum ≤ 2000 * (l.length : Int) := by
 induction l with
 | nil => simp
 | cons x l ih =>
  have h1 := h x List.mem_cons_self
  have h2 := ih fun c hc => h c (List.mem_cons_of_mem _ hc)
  rw [List.sum_cons, List.length_cons]
  omega
theorem sum_set {l : List Int} {i : Nat} {c : Int} (h : l[i]? = some c) : (l.set i (c + 1)).sum = l.sum + 1 := by
 induction l generalizing i with
 | nil => cases h
 | cons x l ih =>
  cases i with
  | zero =>
   simp at h; subst h
   rw [List.set_cons_zero, List.sum_cons, List.sum_cons]; omega
  | succ i =>
   rw [List.set_cons_succ, List.sum_cons, List.sum_cons, ih (by simpa using h)]; omega
theorem Room.less {n s t : Nat} {f : Flw} (h : Room n t f) (hs : s ≤ t) : Room n s f := ⟨h.1, by have := h.2.1; omega, fun m hm => ⟨by have := (h.2.2.1 m hm).1; omega, fun p hp => by have := (h.2.2.1 m hm).2 p hp; omega⟩, h.2.2.2⟩
theorem Room.keys {n s : Nat} {f : Flw} (h : Room n s f) (hn : n ≤ 12) {m : List (ByteArray × List Int)} (hm : m ∈ f.ln) : m.length ≤ 2000000 := by
 have h1 := sum_le h.1.2
 rw [h.1.1] at h1
 have := (h.2.2.1 m hm).1
 omega
theorem Room.small {n s : Nat} {f : Flw} (h : Room n (s + 1) f) (hn : n ≤ 12) {m : List (ByteArray × List Int)} (hm : m ∈ f.ln) (k : ByteArray) : ((pget m k).getD []).length + 1 ≤ 2000000 := by
 have h1 := sum_le h.1.2
 rw [h.1.1] at h1
 by_cases hk : k ∈ pkeys m
 ·obtain ⟨a, v, b, e, ha⟩ := split_pkey hk
  rw [e, pget_split ha]
  have := (h.2.2.1 m hm).2 (k, v) (by rw [e]; simp)
  simp only [Option.getD_some]
  simp only at this
  omega
 ·rw [pget_none hk]; simp
theorem pset_mem {α : Type} {m : List (ByteArray × α)} {k : ByteArray} {v : α} {p : ByteArray × α} (h : p ∈ pset m k v) : p = (k, v) ∨ p ∈ m := by
 induction m with
 | nil => left; simpa [pset] using h
 | cons q m ih =>
  simp only [pset] at h
  split at h
  ·rcases List.mem_cons.1 h with h | h
   ·exact .inl h
   ·exact .inr (List.mem_cons_of_mem _ h)
  ·rcases List.mem_cons.1 h with h | h
   ·exact .inr (h ▸ List.mem_cons_self)
   ·exact (ih h).imp_right (List.mem_cons_of_mem _)
theorem pset_len {α : Type} (m : List (ByteArray × α)) (k : ByteArray) (v : α) : (pset m k v).length ≤ m.length + 1 := by
 induction m with
 | nil => simp [pset]
 | cons q m ih =>
  simp only [pset]
  split
  ·simp
  ·simp only [List.length_cons]; omega
theorem Room.line {n s : Nat} {f : Flw} (h : Room n (s + 1) f) (u : Nat) (r : Rec) : Room n s { f with ln := f.ln.modify u fun m => addLine m r } := by
 refine ⟨h.1, by have := h.2.1; show (s : Int) ≤ 48 * f.gv.sum; omega, fun m hm => ?_, h.2.2.2⟩
 show (m.length : Int) + s ≤ 48 * f.gv.sum ∧ ∀ p ∈ m, (p.2.length : Int) + s ≤ 48 * f.gv.sum
 obtain ⟨j, hj⟩ := List.getElem?_of_mem (show m ∈ f.ln.modify u _ from hm)
 rw [List.getElem?_modify] at hj
 cases hm0 : f.ln[j]? with
 | none => rw [hm0] at hj; cases hj
 | some m0 =>
  rw [hm0] at hj
  obtain ⟨hlen0, hall⟩ := h.2.2.1 m0 (List.mem_of_getElem? hm0)
  have hz := h.2.1
  by_cases e : u = j
  ·have hj : some (addLine m0 r) = some m := by
    rw [← hj]; show _ = some ((fun a => if u = j then addLine a r else a) m0); simp [e]
   injection hj with hj
   subst hj
   refine ⟨by have := pset_len m0 r.key ((pget m0 r.key).getD [] ++ [r.num]); show ((pset m0 r.key _).length : Int) + s ≤ _; omega, fun p hp => ?_⟩
   rcases pset_mem hp with rfl | h1
   ·show ((((pget m0 r.key).getD [] ++ [r.num]).length : Nat) : Int) + s ≤ _
    rw [List.length_append]
    by_cases hk : r.key ∈ pkeys m0
    ·obtain ⟨a, v, b, e, ha⟩ := split_pkey hk
     have := hall (r.key, v) (by rw [e]; simp)
     rw [e, pget_split ha]
     simp only [Option.getD_some, List.length_singleton]
     simp only at this
     omega
    ·rw [pget_none hk]
     simp only [Option.getD_none, List.length_nil, List.length_singleton]
     omega
   ·have := hall p h1; omega
  ·have hj : some m0 = some m := by
    rw [← hj]; show _ = some ((fun a => if u = j then addLine a r else a) m0); simp [e]
   injection hj with hj
   subst hj
   exact ⟨by omega, fun p hp => by have := hall p hp; omega⟩
theorem Room.state {n s : Nat} {f : Flw} (h : Room n s f) (st : List (List (ByteArray × Hld))) : Room n s { f with st := st } := h
theorem Room.bump {n s : Nat} {f : Flw} (h : Room n s f) {i : Nat} {c : Int} (hc : f.gv[i]? = some c) (h2 : c + 1 ≤ 2000) : Room n (s + 48) (bump i f) := by
 have hsum : (Go.Proofs.YtfndhfekbbbliaaGreatDoor.bump i f).gv.sum = f.gv.sum + 1 := by show (f.gv.set i ((f.gv[i]?.getD 0) + 1)).sum = _; rw [hc]; exact sum_set hc
 refine ⟨⟨by show (f.gv.set i _).length = _; rw [List.length_set]; exact h.1.1, fun x hx => ?_⟩, ?_, fun m hm => ⟨?_, fun p hp => ?_⟩, fun x hx => ?_⟩
 ·rcases List.mem_or_eq_of_mem_set (show x ∈ f.gv.set i _ from hx) with h1 | h1
  ·exact h.1.2 x h1
  ·rw [h1, hc]; exact h2
 ·rw [hsum]; have := h.2.1; omega
 ·rw [hsum]; have := (h.2.2.1 m hm).1; omega
 ·rw [hsum]; have := (h.2.2.1 m hm).2 p hp; omega
 ·rcases List.mem_or_eq_of_mem_set (show x ∈ f.gv.set i _ from hx) with h1 | h1
  ·exact h.2.2.2 x h1
  ·rw [h1, hc]
   have := h.2.2.2 c (List.mem_of_getElem? hc)
   simp only [Option.getD_some]; omega
theorem foldM_room {α : Type} {n : Nat} {g : α → Flw → Option Flw} {s : Nat} (hg : ∀ a f f', Room n s f → g a f = some f' → Room n s f') (l : List α) : ∀ f f', Room n s f → l.foldlM (fun f a => g a f) f = some f' → Room n s f' := by
 induction l with
 | nil => intro f f' h e; injection e with e; exact e ▸ h
 | cons a l ih =>
  intro f f' h e
  rw [List.foldlM_cons] at e
  cases h1 : g a f with
  | none => rw [h1] at e; cases e
  | some f1 => rw [h1] at e; exact ih f1 f' (hg a f f1 h h1) e
theorem foldM_room1 {α : Type} {n : Nat} {g : α → Flw → Option Flw} (hg : ∀ s a f f', Room n (s + 1) f → g a f = some f' → Room n s f') (l : List α) : ∀ s f f', Room n (s + l.length) f → l.foldlM (fun f a => g a f) f = some f' → Room n s f' := by
 induction l with
 | nil => intro s f f' h e; injection e with e; exact e ▸ h
 | cons a l ih =>
  intro s f f' h e
  rw [List.foldlM_cons] at e
  cases h1 : g a f with
  | none => rw [h1] at e; cases e
  | some f1 =>
   rw [h1] at e
   exact ih s f1 f' (hg _ a f f1 (by rw [List.length_cons] at h; exact h) h1) e
theorem get_room {J : List Nod} {H : Nat → Rec → Flw → Option Flw} {n : Nat} (hH : ∀ s u x f f', Room n s f → H u x f = some f' → Room n s f') (s u : Nat) (r : Rec) (input : Nat) (f f' : Flw) (h : Room n (s + 1) f) (e : getF J H u r input f = some f') : Room n s f' := by
 unfold getF at e
 split at e
 ·cases e
 ·split at e
  ·injection e with e; rw [← e]; exact h.line u r
  ·refine foldM_room (g := fun x f => H u x f) (fun x f f' => hH s u x f f') _ _ _ ?_ e
   split
   ·exact (h.less (Nat.le_succ s)).state _
   ·exact h.less (Nat.le_succ s)
theorem from_four {J : List Nod} (hJ : jobErr J = 0) {u : Nat} {n : Nod} (hn : J[u]? = some n) : n.from_.length ≤ 4 := by
 obtain ⟨hu, he⟩ := List.getElem?_eq_some_iff.1 hn
 have h0 := nodes_zero J 0 (job_parts hJ).2.1 u hu
 rw [he] at h0
 unfold nodeErr at h0
 split at h0
 ·cases h0
 ·split at h0
  ·cases h0
  ·rename_i h5
   have : inHigh n.kind ≤ 4 := by unfold inHigh; split <;> (try split) <;> omega
   omega
theorem sum_nat_le {l : List Nat} {b : Nat} (h : ∀ c ∈ l, c ≤ b) : l.sum ≤ b * l.length := by
 induction l with
 | nil => simp
 | cons x l ih =>
  have h1 := h x List.mem_cons_self
  have h2 := ih fun c hc => h c (List.mem_cons_of_mem _ hc)
  rw [List.sum_cons, List.length_cons, Nat.mul_succ]
  omega
theorem targets_le {J : List Nod} (hJ : jobErr J = 0) {i : Nat} (hi : i < J.length) : (targets J (usesAll J) i).length ≤ 48 := by
 unfold targets usesAll
 rw [List.getElem?_map, List.getElem?_range hi]
 simp only [Option.map_some, Option.getD_some]
 rw [List.length_flatMap]
 have h12 := (job_parts hJ).1
 have hu : (usesOf J (i : Int)).length ≤ J.length := by
  unfold usesOf
  rw [List.length_map]
  refine Nat.le_trans (List.length_filter_le _ _) ?_
  rw [List.length_zipIdx]; exact Nat.le_refl _
 refine Nat.le_trans (sum_nat_le (b := 4) fun c hc => ?_) (by rw [List.length_map]; omega)
 obtain ⟨y, hy, rfl⟩ := List.mem_map.1 hc
 obtain ⟨u, n, rfl, hn, _⟩ := uses_mem hy
 rw [List.length_map]
 refine Nat.le_trans (List.length_filter_le _ _) ?_
 rw [List.length_zipIdx, Int.toNat_natCast, hn]
 exact from_four hJ hn
theorem hand_room {J : List Nod} (hJ : jobErr J = 0) : ∀ k s i r f f', Room J.length s f → handF J (usesAll J) k i r f = some f' → Room J.length s f' := by
 intro k
 induction k with
 | zero => intro s i r f f' _ e; cases e
 | succ k ih =>
  intro s i r f f' h e
  unfold handF at e
  simp only at e
  split at e
  ·cases e
  ·rename_i hb
   by_cases hi : i < J.length
   ·have hil : i < f.gv.length := by rw [h.1.1]; exact hi
    have hc : f.gv[i]? = some f.gv[i] := List.getElem?_eq_getElem hil
    have h48 := h.bump hc (by rw [hc] at hb; simp only [Option.getD_some] at hb; omega)
    exact foldM_room1 (g := fun (p : Nat × Nat) f => getF J (handF J (usesAll J) k) p.1 r p.2 f) (fun s p f f' => get_room ih s p.1 r p.2 f f') _ s _ _ (h48.less (by have := targets_le hJ hi; omega)) e
   ·have ht : targets J (usesAll J) i = [] := by
     unfold targets usesAll
     rw [List.getElem?_eq_none (by simp; omega)]
     rfl
    rw [ht] at e
    injection e with e
    rw [← e]
    refine ⟨⟨by show (f.gv.set i _).length = _; rw [List.length_set]; exact h.1.1, ?_⟩, ?_, ?_, ?_⟩
    ·rw [List.set_eq_of_length_le (by rw [h.1.1]; omega)]; exact h.1.2
    ·rw [List.set_eq_of_length_le (by rw [h.1.1]; omega)]; exact h.2.1
    ·rw [List.set_eq_of_length_le (by rw [h.1.1]; omega)]; exact h.2.2.1
    ·show ∀ c ∈ f.gv.set i _, _
     rw [List.set_eq_of_length_le (by rw [h.1.1]; omega)]; exact h.2.2.2
end Go.Proofs.YtfndhfekbbbliaaGreatDoor

/-
  Package den: the contract of Apply, kind by kind (printed by denapply.py). Conditions: the node's text is a string's, the numbers are ints, the two variables of Atoi's errors hold errors.
-/
namespace Go.Proofs.YtfndhfekbbbliaaGreatDoor
open Go.RowKit Go.Shelf
set_option linter.unusedVariables false
theorem Vars.own_zero {w W : World} {b0 : Nat} {n0 n1 n2 n3 : Value} {b1 b2 b3 : Nat} {h : Hld} {r : Rec} (v : Vars w W b0 n0 n1 n2 n3 b1 b2 b3 h r) {l : List Rec} {A : Option Addr} {c m : Nat}
  (ho : OwnS W 44 3 A c l.length (l.flatMap recCells)) (hA : ∀ k, blk A = some k → m ≤ k) (hm : b1 < m) :
  OwnS ((((W.setCell ⟨b1, 0, none⟩ (.int .i64 0)).setCell ⟨b1, 1, none⟩ (.string ⟨#[]⟩)).setCell ⟨b1, 2, none⟩ (.int .i64 0)).setCell ⟨b1, 3, none⟩ (.int .i64 0)) 44 3 A c l.length (l.flatMap recCells) := by
 have hne : ∀ i, blk A ≠ some (⟨b1, i, none⟩ : Addr).block := fun i e => by have := hA _ e; simp at this; omega
 exact (((ho.setFar (hne 0) _).setFar (hne 1) _).setFar (hne 2) _).setFar (hne 3) _
set_option maxRecDepth 100000 in
set_option maxHeartbeats 1000000 in
theorem dapply_map_has (n : Nod) (A0 : Option Addr) (c0 : Nat) (h : Hld) (r : Rec) (input : Int) (w : World) (hv : ErrVars w) (hsz : n.text.size ≤ maxLen) (hr : RecOk r) (hi : I64 h.a ∧ I64 h.b) (hk : n.kind = 2) :
  Calls Tryz.prog 18 #[.agg #[.int .i64 n.kind, .slice A0 n.from_.length c0, .string n.text, .int .i64 n.n], hldV h, .bool true, recV r, .int .i64 input] w (AppPost (applyN n h true r input) w) := by
 obtain ⟨kind, from_, text, nn⟩ := n
 obtain ⟨hn, hkey, ha, hb⟩ := h
 obtain ⟨key, num, time⟩ := r
 simp only at hk hsz hi
 subst hk
 have HP : Hid (applyN ⟨2, from_, text, nn⟩ ⟨hn, hkey, ha, hb⟩ true ⟨key, num, time⟩ input = ⟨passR ⟨key, evalOf text num 0, time⟩, ⟨0, key, ha, hb⟩, true⟩) := rfl
 show Calls _ _ #[.agg #[.int .i64 2, .slice A0 from_.length c0, .string text, .int .i64 nn], .agg #[.int .i64 hn, .string hkey, .int .i64 ha, .int .i64 hb], .bool true, .agg #[.string key, .int .i64 num, .int .i64 time], .int .i64 input] w _
 have HR := Lib.hid hr
 have HV := Lib.hid hv
 have HI := Lib.hid hi
 clear hr hv hi
 go_enter Tryz.func18, Tryz.ntmps18
 go_upto_region 3 with (fail)
 go_region
 go_upto_region 6 with (fail)
 have hV := Vars.mk_ w (.int .i64 2) (.slice A0 from_.length c0) (.string text) (.int .i64 nn) ⟨0, key, ha, hb⟩ ⟨key, num, time⟩
 generalize ((((w.alloc _).alloc _).alloc _).alloc _).drew = W1 at hV ⊢
 generalize w.heap.size + 1 + 1 + 1 = b3 at hV ⊢
 generalize w.heap.size + 1 + 1 = b2 at hV ⊢
 generalize w.heap.size + 1 = b1 at hV ⊢
 generalize w.heap.size = b0 at hV ⊢
 obtain ⟨⟨n0, n2, n3⟩, ⟨h10, h11, h12, h13, h1f⟩, ⟨r0, r1, r2, rf⟩, ⟨_, _, _, _, s0, s1, s2, s3⟩, sf⟩ := hV.cells
 have HW := Lib.hid hV
 clear hV
 go_wp2_with fail
 have hb0 := HW.out.below
 refine (eval_ok_any text num 0 W1 (HV.out.below hb0) hsz (i64_of_wf HR.out.2.1) ⟨by omega, by omega⟩).mono ?_
 rintro e w2 ⟨rfl, hb2⟩
 have hV2 := HW.out.next hb2
 clear HW n0 n2 n3 h10 h11 h12 h13 h1f r0 r1 r2 rf s0 s1 s2 s3 sf hb0 hb2
 rw [← evalOf_val]
 obtain ⟨⟨n0, n2, n3⟩, ⟨h10, h11, h12, h13, h1f⟩, ⟨r0, r1, r2, rf⟩, ⟨_, _, _, _, s0, s1, s2, s3⟩, sf⟩ := hV2.cells
 have HW := Lib.hid hV2
 clear hV2
 generalize evalOf text num 0 = x at HP ⊢
 go_upto_region 10 with (fail)
 have hV3 := (HW.out.num (x))
 clear HW n0 n2 n3 h10 h11 h12 h13 h1f r0 r1 r2 rf s0 s1 s2 s3 sf
 generalize w2.setCell ⟨b2, 1, none⟩ (.int .i64 (x)) = W3 at hV3 ⊢
 obtain ⟨⟨n0, n2, n3⟩, ⟨h10, h11, h12, h13, h1f⟩, ⟨r0, r1, r2, rf⟩, ⟨_, _, _, _, s0, s1, s2, s3⟩, sf⟩ := hV3.cells
 have HW := Lib.hid hV3
 clear hV3
 go_wp2_with fail
 refine (dpass_ok ⟨key, x, time⟩ W3 (HR.out.1)).mono ?_
 rintro e w4 ⟨A, c, rfl, ho, hbl, hb4⟩
 have hV4 := HW.out.next hb4
 have HO := Lib.hid ho
 have HBL := Lib.hid hbl
 have HLT := Lib.hid HW.out.lt3
 have HLW := Lib.hid HW.out.below.size
 have HLB := Lib.hid HW.out.lt1
 clear HW n0 n2 n3 h10 h11 h12 h13 h1f r0 r1 r2 rf s0 s1 s2 s3 sf ho hbl hb4
 obtain ⟨⟨n0, n2, n3⟩, ⟨h10, h11, h12, h13, h1f⟩, ⟨r0, r1, r2, rf⟩, ⟨_, _, _, _, s0, s1, s2, s3⟩, sf⟩ := hV4.cells
 have HW := Lib.hid hV4
 clear hV4
 go_upto_region 46 with (fail)
 go_region
 have hF := HW.out.fin HO.out HBL.out HLT.out HLW.out 0 (key) (ha) (hb)
 clear HW n0 n2 n3 h10 h11 h12 h13 h1f r0 r1 r2 rf s0 s1 s2 s3 sf HO HBL
 generalize ((((w4.setCell ⟨b3, 0, none⟩ _).setCell _ _).setCell _ _).setCell _ _).drew = W5 at hF ⊢
 obtain ⟨hh, h1, h2, h3⟩ := hF
 obtain ⟨s0, s1, s2, s3, sf⟩ := hh.cells
 have HX := Lib.hid (And.intro h1 (And.intro h2 h3))
 clear h1 h2 h3 hh
 go_wp2_with fail
 refine bodyPost_ret (v := .tuple #[.slice A (passR ⟨key, x, time⟩).length c, .agg #[.int .i64 0, .string (key), .int .i64 (ha), .int .i64 (hb)], .bool true]) (by simp [results, Tryz.results18, go_sem, s0, s1, s2, s3]) rfl ?_
 rw [HP.out]
 exact ⟨A, c, rfl, HX.out⟩
set_option maxRecDepth 100000 in
set_option maxHeartbeats 1000000 in
theorem dapply_other_has (n : Nod) (A0 : Option Addr) (c0 : Nat) (h : Hld) (r : Rec) (input : Int) (w : World) (hv : ErrVars w) (hsz : n.text.size ≤ maxLen) (hr : RecOk r) (hi : I64 h.a ∧ I64 h.b) (hk : ∀ j, 2 ≤ j → j ≤ 9 → n.kind ≠ j) :
  Calls Tryz.prog 18 #[.agg #[.int .i64 n.kind, .slice A0 n.from_.length c0, .string n.text, .int .i64 n.n], hldV h, .bool true, recV r, .int .i64 input] w (AppPost (applyN n h true r input) w) := by
 obtain ⟨kind, from_, text, nn⟩ := n
 obtain ⟨hn, hkey, ha, hb⟩ := h
 obtain ⟨key, num, time⟩ := r
 simp only at hk hsz hi
 have q2 := beq_eq_false_iff_ne.2 (hk 2 (by omega) (by omega))
 have q3 := beq_eq_false_iff_ne.2 (hk 3 (by omega) (by omega))
 have q4 := beq_eq_false_iff_ne.2 (hk 4 (by omega) (by omega))
 have q5 := beq_eq_false_iff_ne.2 (hk 5 (by omega) (by omega))
 have q6 := beq_eq_false_iff_ne.2 (hk 6 (by omega) (by omega))
 have q7 := beq_eq_false_iff_ne.2 (hk 7 (by omega) (by omega))
 have q8 := beq_eq_false_iff_ne.2 (hk 8 (by omega) (by omega))
 have q9 := beq_eq_false_iff_ne.2 (hk 9 (by omega) (by omega))
 have HP : Hid (applyN ⟨kind, from_, text, nn⟩ ⟨hn, hkey, ha, hb⟩ true ⟨key, num, time⟩ input = ⟨passR ⟨key, num, time⟩, ⟨0, key, ha, hb⟩, true⟩) := by have k2 := hk 2 (by omega) (by omega); have k3 := hk 3 (by omega) (by omega); have k4 := hk 4 (by omega) (by omega); have k5 := hk 5 (by omega) (by omega); have k6 := hk 6 (by omega) (by omega); have k7 := hk 7 (by omega) (by omega); have k8 := hk 8 (by omega) (by omega); have k9 := hk 9 (by omega) (by omega); show _ = _; unfold applyN; simp only [if_neg k2, if_neg k3, if_neg k4, if_neg k5, if_neg k6, if_neg k7, if_neg k8, if_neg k9]; rfl
 show Calls _ _ #[.agg #[.int .i64 kind, .slice A0 from_.length c0, .string text, .int .i64 nn], .agg #[.int .i64 hn, .string hkey, .int .i64 ha, .int .i64 hb], .bool true, .agg #[.string key, .int .i64 num, .int .i64 time], .int .i64 input] w _
 have HR := Lib.hid hr
 have HV := Lib.hid hv
 have HI := Lib.hid hi
 clear hr hv hi hk
 go_enter Tryz.func18, Tryz.ntmps18
 go_upto_region 3 with (fail)
 go_region
 go_upto_region 6 with (fail)
 have hV := Vars.mk_ w (.int .i64 kind) (.slice A0 from_.length c0) (.string text) (.int .i64 nn) ⟨0, key, ha, hb⟩ ⟨key, num, time⟩
 generalize ((((w.alloc _).alloc _).alloc _).alloc _).drew = W1 at hV ⊢
 generalize w.heap.size + 1 + 1 + 1 = b3 at hV ⊢
 generalize w.heap.size + 1 + 1 = b2 at hV ⊢
 generalize w.heap.size + 1 = b1 at hV ⊢
 generalize w.heap.size = b0 at hV ⊢
 obtain ⟨⟨n0, n2, n3⟩, ⟨h10, h11, h12, h13, h1f⟩, ⟨r0, r1, r2, rf⟩, ⟨_, _, _, _, s0, s1, s2, s3⟩, sf⟩ := hV.cells
 have HW := Lib.hid hV
 clear hV
 go_wp2_with fail
 refine (dpass_ok ⟨key, num, time⟩ W1 (HR.out.1)).mono ?_
 rintro e w4 ⟨A, c, rfl, ho, hbl, hb4⟩
 have hV4 := HW.out.next hb4
 have HO := Lib.hid ho
 have HBL := Lib.hid hbl
 have HLT := Lib.hid HW.out.lt3
 have HLW := Lib.hid HW.out.below.size
 have HLB := Lib.hid HW.out.lt1
 clear HW n0 n2 n3 h10 h11 h12 h13 h1f r0 r1 r2 rf s0 s1 s2 s3 sf ho hbl hb4
 obtain ⟨⟨n0, n2, n3⟩, ⟨h10, h11, h12, h13, h1f⟩, ⟨r0, r1, r2, rf⟩, ⟨_, _, _, _, s0, s1, s2, s3⟩, sf⟩ := hV4.cells
 have HW := Lib.hid hV4
 clear hV4
 go_upto_region 46 with (fail)
 go_region
 have hF := HW.out.fin HO.out HBL.out HLT.out HLW.out 0 (key) (ha) (hb)
 clear HW n0 n2 n3 h10 h11 h12 h13 h1f r0 r1 r2 rf s0 s1 s2 s3 sf HO HBL
 generalize ((((w4.setCell ⟨b3, 0, none⟩ _).setCell _ _).setCell _ _).setCell _ _).drew = W5 at hF ⊢
 obtain ⟨hh, h1, h2, h3⟩ := hF
 obtain ⟨s0, s1, s2, s3, sf⟩ := hh.cells
 have HX := Lib.hid (And.intro h1 (And.intro h2 h3))
 clear h1 h2 h3 hh
 go_wp2_with fail
 refine bodyPost_ret (v := .tuple #[.slice A (passR ⟨key, num, time⟩).length c, .agg #[.int .i64 0, .string (key), .int .i64 (ha), .int .i64 (hb)], .bool true]) (by simp [results, Tryz.results18, go_sem, s0, s1, s2, s3]) rfl ?_
 rw [HP.out]
 exact ⟨A, c, rfl, HX.out⟩
set_option maxRecDepth 100000 in
set_option maxHeartbeats 1000000 in
theorem dapply_first_has (n : Nod) (A0 : Option Addr) (c0 : Nat) (h : Hld) (r : Rec) (input : Int) (w : World) (hv : ErrVars w) (hsz : n.text.size ≤ maxLen) (hr : RecOk r) (hi : I64 h.a ∧ I64 h.b) (hk : n.kind = 9) :
  Calls Tryz.prog 18 #[.agg #[.int .i64 n.kind, .slice A0 n.from_.length c0, .string n.text, .int .i64 n.n], hldV h, .bool true, recV r, .int .i64 input] w (AppPost (applyN n h true r input) w) := by
 obtain ⟨kind, from_, text, nn⟩ := n
 obtain ⟨hn, hkey, ha, hb⟩ := h
 obtain ⟨key, num, time⟩ := r
 simp only at hk hsz hi
 subst hk
 have HP : Hid (applyN ⟨9, from_, text, nn⟩ ⟨hn, hkey, ha, hb⟩ true ⟨key, num, time⟩ input = ⟨[], ⟨0, key, 1, hb⟩, true⟩) := rfl
 show Calls _ _ #[.agg #[.int .i64 9, .slice A0 from_.length c0, .string text, .int .i64 nn], .agg #[.int .i64 hn, .string hkey, .int .i64 ha, .int .i64 hb], .bool true, .agg #[.string key, .int .i64 num, .int .i64 time], .int .i64 input] w _
 have HR := Lib.hid hr
 have HV := Lib.hid hv
 have HI := Lib.hid hi
 clear hr hv hi
 go_enter Tryz.func18, Tryz.ntmps18
 go_upto_region 3 with (fail)
 go_region
 go_upto_region 6 with (fail)
 have hV := Vars.mk_ w (.int .i64 9) (.slice A0 from_.length c0) (.string text) (.int .i64 nn) ⟨0, key, ha, hb⟩ ⟨key, num, time⟩
 generalize ((((w.alloc _).alloc _).alloc _).alloc _).drew = W1 at hV ⊢
 generalize w.heap.size + 1 + 1 + 1 = b3 at hV ⊢
 generalize w.heap.size + 1 + 1 = b2 at hV ⊢
 generalize w.heap.size + 1 = b1 at hV ⊢
 generalize w.heap.size = b0 at hV ⊢
 obtain ⟨⟨n0, n2, n3⟩, ⟨h10, h11, h12, h13, h1f⟩, ⟨r0, r1, r2, rf⟩, ⟨_, _, _, _, s0, s1, s2, s3⟩, sf⟩ := hV.cells
 have HW := Lib.hid hV
 clear hV
 go_upto_region 44 with (fail)
 have hV3 := (HW.out.a (1))
 clear HW n0 n2 n3 h10 h11 h12 h13 h1f r0 r1 r2 rf s0 s1 s2 s3 sf
 generalize W1.setCell ⟨b1, 2, none⟩ (.int .i64 (1)) = W3 at hV3 ⊢
 obtain ⟨⟨n0, n2, n3⟩, ⟨h10, h11, h12, h13, h1f⟩, ⟨r0, r1, r2, rf⟩, ⟨_, _, _, _, s0, s1, s2, s3⟩, sf⟩ := hV3.cells
 have HW := Lib.hid hV3
 clear hV3
 have HO := Lib.hid (show OwnS W3 44 3 none 0 ([] : List Rec).length (([] : List Rec).flatMap recCells) from OwnS.nil _ _ _)
 have HBL : Hid (∀ k, blk none = some k → W3.heap.size ≤ k) := nofun
 have HLT := Lib.hid HW.out.lt3
 have HLW := Lib.hid HW.out.below.size
 have HLB := Lib.hid HW.out.lt1
 go_upto_region 46 with (fail)
 go_region
 have hF := HW.out.fin HO.out HBL.out HLT.out HLW.out 0 (key) (1) (hb)
 clear HW n0 n2 n3 h10 h11 h12 h13 h1f r0 r1 r2 rf s0 s1 s2 s3 sf HO HBL
 generalize ((((W3.setCell ⟨b3, 0, none⟩ _).setCell _ _).setCell _ _).setCell _ _).drew = W5 at hF ⊢
 obtain ⟨hh, h1, h2, h3⟩ := hF
 obtain ⟨s0, s1, s2, s3, sf⟩ := hh.cells
 have HX := Lib.hid (And.intro h1 (And.intro h2 h3))
 clear h1 h2 h3 hh
 go_wp2_with fail
 refine bodyPost_ret (v := .tuple #[.slice none 0 0, .agg #[.int .i64 0, .string (key), .int .i64 (1), .int .i64 (hb)], .bool true]) (by simp [results, Tryz.results18, go_sem, s0, s1, s2, s3]) rfl ?_
 rw [HP.out]
 exact ⟨none, 0, rfl, HX.out⟩
set_option maxRecDepth 100000 in
set_option maxHeartbeats 1000000 in
theorem dapply_fold_has (n : Nod) (A0 : Option Addr) (c0 : Nat) (h : Hld) (r : Rec) (input : Int) (w : World) (hv : ErrVars w) (hsz : n.text.size ≤ maxLen) (hr : RecOk r) (hi : I64 h.a ∧ I64 h.b) (hk : n.kind = 7) :
  Calls Tryz.prog 18 #[.agg #[.int .i64 n.kind, .slice A0 n.from_.length c0, .string n.text, .int .i64 n.n], hldV h, .bool true, recV r, .int .i64 input] w (AppPost (applyN n h true r input) w) := by
 obtain ⟨kind, from_, text, nn⟩ := n
 obtain ⟨hn, hkey, ha, hb⟩ := h
 obtain ⟨key, num, time⟩ := r
 simp only at hk hsz hi
 subst hk
 have HP : Hid (applyN ⟨7, from_, text, nn⟩ ⟨hn, hkey, ha, hb⟩ true ⟨key, num, time⟩ input = ⟨passR ⟨key, evalOf text num ha, time⟩, ⟨0, key, evalOf text num ha, hb⟩, true⟩) := rfl
 show Calls _ _ #[.agg #[.int .i64 7, .slice A0 from_.length c0, .string text, .int .i64 nn], .agg #[.int .i64 hn, .string hkey, .int .i64 ha, .int .i64 hb], .bool true, .agg #[.string key, .int .i64 num, .int .i64 time], .int .i64 input] w _
 have HR := Lib.hid hr
 have HV := Lib.hid hv
 have HI := Lib.hid hi
 clear hr hv hi
 go_enter Tryz.func18, Tryz.ntmps18
 go_upto_region 3 with (fail)
 go_region
 go_upto_region 6 with (fail)
 have hV := Vars.mk_ w (.int .i64 7) (.slice A0 from_.length c0) (.string text) (.int .i64 nn) ⟨0, key, ha, hb⟩ ⟨key, num, time⟩
 generalize ((((w.alloc _).alloc _).alloc _).alloc _).drew = W1 at hV ⊢
 generalize w.heap.size + 1 + 1 + 1 = b3 at hV ⊢
 generalize w.heap.size + 1 + 1 = b2 at hV ⊢
 generalize w.heap.size + 1 = b1 at hV ⊢
 generalize w.heap.size = b0 at hV ⊢
 obtain ⟨⟨n0, n2, n3⟩, ⟨h10, h11, h12, h13, h1f⟩, ⟨r0, r1, r2, rf⟩, ⟨_, _, _, _, s0, s1, s2, s3⟩, sf⟩ := hV.cells
 have HW := Lib.hid hV
 clear hV
 go_wp2_with fail
 have hb0 := HW.out.below
 refine (eval_ok_any text num ha W1 (HV.out.below hb0) hsz (i64_of_wf HR.out.2.1) (i64_of_wf HI.out.1)).mono ?_
 rintro e w2 ⟨rfl, hb2⟩
 have hV2 := HW.out.next hb2
 clear HW n0 n2 n3 h10 h11 h12 h13 h1f r0 r1 r2 rf s0 s1 s2 s3 sf hb0 hb2
 rw [← evalOf_val]
 obtain ⟨⟨n0, n2, n3⟩, ⟨h10, h11, h12, h13, h1f⟩, ⟨r0, r1, r2, rf⟩, ⟨_, _, _, _, s0, s1, s2, s3⟩, sf⟩ := hV2.cells
 have HW := Lib.hid hV2
 clear hV2
 generalize evalOf text num ha = x at HP ⊢
 go_upto_region 31 with (fail)
 have hV3 := ((HW.out.a (x)).num (x))
 clear HW n0 n2 n3 h10 h11 h12 h13 h1f r0 r1 r2 rf s0 s1 s2 s3 sf
 generalize (w2.setCell ⟨b1, 2, none⟩ (.int .i64 (x))).setCell ⟨b2, 1, none⟩ (.int .i64 (x)) = W3 at hV3 ⊢
 obtain ⟨⟨n0, n2, n3⟩, ⟨h10, h11, h12, h13, h1f⟩, ⟨r0, r1, r2, rf⟩, ⟨_, _, _, _, s0, s1, s2, s3⟩, sf⟩ := hV3.cells
 have HW := Lib.hid hV3
 clear hV3
 go_wp2_with fail
 refine (dpass_ok ⟨key, x, time⟩ W3 (HR.out.1)).mono ?_
 rintro e w4 ⟨A, c, rfl, ho, hbl, hb4⟩
 have hV4 := HW.out.next hb4
 have HO := Lib.hid ho
 have HBL := Lib.hid hbl
 have HLT := Lib.hid HW.out.lt3
 have HLW := Lib.hid HW.out.below.size
 have HLB := Lib.hid HW.out.lt1
 clear HW n0 n2 n3 h10 h11 h12 h13 h1f r0 r1 r2 rf s0 s1 s2 s3 sf ho hbl hb4
 obtain ⟨⟨n0, n2, n3⟩, ⟨h10, h11, h12, h13, h1f⟩, ⟨r0, r1, r2, rf⟩, ⟨_, _, _, _, s0, s1, s2, s3⟩, sf⟩ := hV4.cells
 have HW := Lib.hid hV4
 clear hV4
 go_upto_region 46 with (fail)
 go_region
 have hF := HW.out.fin HO.out HBL.out HLT.out HLW.out 0 (key) (x) (hb)
 clear HW n0 n2 n3 h10 h11 h12 h13 h1f r0 r1 r2 rf s0 s1 s2 s3 sf HO HBL
 generalize ((((w4.setCell ⟨b3, 0, none⟩ _).setCell _ _).setCell _ _).setCell _ _).drew = W5 at hF ⊢
 obtain ⟨hh, h1, h2, h3⟩ := hF
 obtain ⟨s0, s1, s2, s3, sf⟩ := hh.cells
 have HX := Lib.hid (And.intro h1 (And.intro h2 h3))
 clear h1 h2 h3 hh
 go_wp2_with fail
 refine bodyPost_ret (v := .tuple #[.slice A (passR ⟨key, x, time⟩).length c, .agg #[.int .i64 0, .string (key), .int .i64 (x), .int .i64 (hb)], .bool true]) (by simp [results, Tryz.results18, go_sem, s0, s1, s2, s3]) rfl ?_
 rw [HP.out]
 exact ⟨A, c, rfl, HX.out⟩
set_option maxRecDepth 100000 in
set_option maxHeartbeats 1000000 in
theorem dapply_map_new (n : Nod) (A0 : Option Addr) (c0 : Nat) (h : Hld) (r : Rec) (input : Int) (w : World) (hv : ErrVars w) (hsz : n.text.size ≤ maxLen) (hr : RecOk r) (hi : I64 h.a ∧ I64 h.b) (hk : n.kind = 2) :
  Calls Tryz.prog 18 #[.agg #[.int .i64 n.kind, .slice A0 n.from_.length c0, .string n.text, .int .i64 n.n], hldV h, .bool false, recV r, .int .i64 input] w (AppPost (applyN n h false r input) w) := by
 obtain ⟨kind, from_, text, nn⟩ := n
 obtain ⟨hn, hkey, ha, hb⟩ := h
 obtain ⟨key, num, time⟩ := r
 simp only at hk hsz hi
 subst hk
 have HP : Hid (applyN ⟨2, from_, text, nn⟩ ⟨hn, hkey, ha, hb⟩ false ⟨key, num, time⟩ input = ⟨passR ⟨key, evalOf text num 0, time⟩, zeroH, false⟩) := rfl
 show Calls _ _ #[.agg #[.int .i64 2, .slice A0 from_.length c0, .string text, .int .i64 nn], .agg #[.int .i64 hn, .string hkey, .int .i64 ha, .int .i64 hb], .bool false, .agg #[.string key, .int .i64 num, .int .i64 time], .int .i64 input] w _
 have HR := Lib.hid hr
 have HV := Lib.hid hv
 have HI := Lib.hid hi
 clear hr hv hi
 go_enter Tryz.func18, Tryz.ntmps18
 go_upto_region 3 with (fail)
 go_region
 go_upto_region 6 with (fail)
 have hV := Vars.mk_ w (.int .i64 2) (.slice A0 from_.length c0) (.string text) (.int .i64 nn) ⟨0, key, 0, 0⟩ ⟨key, num, time⟩
 generalize ((((w.alloc _).alloc _).alloc _).alloc _).drew = W1 at hV ⊢
 generalize w.heap.size + 1 + 1 + 1 = b3 at hV ⊢
 generalize w.heap.size + 1 + 1 = b2 at hV ⊢
 generalize w.heap.size + 1 = b1 at hV ⊢
 generalize w.heap.size = b0 at hV ⊢
 obtain ⟨⟨n0, n2, n3⟩, ⟨h10, h11, h12, h13, h1f⟩, ⟨r0, r1, r2, rf⟩, ⟨_, _, _, _, s0, s1, s2, s3⟩, sf⟩ := hV.cells
 have HW := Lib.hid hV
 clear hV
 go_wp2_with fail
 have hb0 := HW.out.below
 refine (eval_ok_any text num 0 W1 (HV.out.below hb0) hsz (i64_of_wf HR.out.2.1) ⟨by omega, by omega⟩).mono ?_
 rintro e w2 ⟨rfl, hb2⟩
 have hV2 := HW.out.next hb2
 clear HW n0 n2 n3 h10 h11 h12 h13 h1f r0 r1 r2 rf s0 s1 s2 s3 sf hb0 hb2
 rw [← evalOf_val]
 obtain ⟨⟨n0, n2, n3⟩, ⟨h10, h11, h12, h13, h1f⟩, ⟨r0, r1, r2, rf⟩, ⟨_, _, _, _, s0, s1, s2, s3⟩, sf⟩ := hV2.cells
 have HW := Lib.hid hV2
 clear hV2
 generalize evalOf text num 0 = x at HP ⊢
 go_upto_region 10 with (fail)
 have hV3 := (HW.out.num (x))
 clear HW n0 n2 n3 h10 h11 h12 h13 h1f r0 r1 r2 rf s0 s1 s2 s3 sf
 generalize w2.setCell ⟨b2, 1, none⟩ (.int .i64 (x)) = W3 at hV3 ⊢
 obtain ⟨⟨n0, n2, n3⟩, ⟨h10, h11, h12, h13, h1f⟩, ⟨r0, r1, r2, rf⟩, ⟨_, _, _, _, s0, s1, s2, s3⟩, sf⟩ := hV3.cells
 have HW := Lib.hid hV3
 clear hV3
 go_wp2_with fail
 refine (dpass_ok ⟨key, x, time⟩ W3 (HR.out.1)).mono ?_
 rintro e w4 ⟨A, c, rfl, ho, hbl, hb4⟩
 have hV4 := HW.out.next hb4
 have HO := Lib.hid ho
 have HBL := Lib.hid hbl
 have HLT := Lib.hid HW.out.lt3
 have HLW := Lib.hid HW.out.below.size
 have HLB := Lib.hid HW.out.lt1
 clear HW n0 n2 n3 h10 h11 h12 h13 h1f r0 r1 r2 rf s0 s1 s2 s3 sf ho hbl hb4
 obtain ⟨⟨n0, n2, n3⟩, ⟨h10, h11, h12, h13, h1f⟩, ⟨r0, r1, r2, rf⟩, ⟨_, _, _, _, s0, s1, s2, s3⟩, sf⟩ := hV4.cells
 have HW := Lib.hid hV4
 clear hV4
 go_upto_region 46 with (fail)
 have hV5 := HW.out.zero
 have ho5 : OwnS ((((w4.setCell ⟨b1, 0, none⟩ (.int .i64 0)).setCell ⟨b1, 1, none⟩ (.string ⟨#[]⟩)).setCell ⟨b1, 2, none⟩ (.int .i64 0)).setCell ⟨b1, 3, none⟩ (.int .i64 0)) 44 3 A c (passR ⟨key, x, time⟩).length ((passR ⟨key, x, time⟩).flatMap recCells) := HW.out.own_zero HO.out HBL.out HLB.out
 clear HW HO n0 n2 n3 h10 h11 h12 h13 h1f r0 r1 r2 rf s0 s1 s2 s3 sf
 generalize (((w4.setCell _ _).setCell _ _).setCell _ _).setCell _ _ = W6 at hV5 ho5 ⊢
 have HO := Lib.hid ho5
 clear ho5
 obtain ⟨⟨n0, n2, n3⟩, ⟨h10, h11, h12, h13, h1f⟩, ⟨r0, r1, r2, rf⟩, ⟨_, _, _, _, s0, s1, s2, s3⟩, sf⟩ := hV5.cells
 have HW := Lib.hid hV5
 clear hV5
 go_region
 have hF := HW.out.fin HO.out HBL.out HLT.out HLW.out 0 (⟨#[]⟩) (0) (0)
 clear HW n0 n2 n3 h10 h11 h12 h13 h1f r0 r1 r2 rf s0 s1 s2 s3 sf HO HBL
 generalize ((((W6.setCell ⟨b3, 0, none⟩ _).setCell _ _).setCell _ _).setCell _ _).drew = W5 at hF ⊢
 obtain ⟨hh, h1, h2, h3⟩ := hF
 obtain ⟨s0, s1, s2, s3, sf⟩ := hh.cells
 have HX := Lib.hid (And.intro h1 (And.intro h2 h3))
 clear h1 h2 h3 hh
 go_wp2_with fail
 refine bodyPost_ret (v := .tuple #[.slice A (passR ⟨key, x, time⟩).length c, .agg #[.int .i64 0, .string (⟨#[]⟩), .int .i64 (0), .int .i64 (0)], .bool false]) (by simp [results, Tryz.results18, go_sem, s0, s1, s2, s3]) rfl ?_
 rw [HP.out]
 exact ⟨A, c, rfl, HX.out⟩
set_option maxRecDepth 100000 in
set_option maxHeartbeats 1000000 in
theorem dapply_other_new (n : Nod) (A0 : Option Addr) (c0 : Nat) (h : Hld) (r : Rec) (input : Int) (w : World) (hv : ErrVars w) (hsz : n.text.size ≤ maxLen) (hr : RecOk r) (hi : I64 h.a ∧ I64 h.b) (hk : ∀ j, 2 ≤ j → j ≤ 9 → n.kind ≠ j) :
  Calls Tryz.prog 18 #[.agg #[.int .i64 n.kind, .slice A0 n.from_.length c0, .string n.text, .int .i64 n.n], hldV h, .bool false, recV r, .int .i64 input] w (AppPost (applyN n h false r input) w) := by
 obtain ⟨kind, from_, text, nn⟩ := n
 obtain ⟨hn, hkey, ha, hb⟩ := h
 obtain ⟨key, num, time⟩ := r
 simp only at hk hsz hi
 have q2 := beq_eq_false_iff_ne.2 (hk 2 (by omega) (by omega))
 have q3 := beq_eq_false_iff_ne.2 (hk 3 (by omega) (by omega))
 have q4 := beq_eq_false_iff_ne.2 (hk 4 (by omega) (by omega))
 have q5 := beq_eq_false_iff_ne.2 (hk 5 (by omega) (by omega))
 have q6 := beq_eq_false_iff_ne.2 (hk 6 (by omega) (by omega))
 have q7 := beq_eq_false_iff_ne.2 (hk 7 (by omega) (by omega))
 have q8 := beq_eq_false_iff_ne.2 (hk 8 (by omega) (by omega))
 have q9 := beq_eq_false_iff_ne.2 (hk 9 (by omega) (by omega))
 have HP : Hid (applyN ⟨kind, from_, text, nn⟩ ⟨hn, hkey, ha, hb⟩ false ⟨key, num, time⟩ input = ⟨passR ⟨key, num, time⟩, zeroH, false⟩) := by have k2 := hk 2 (by omega) (by omega); have k3 := hk 3 (by omega) (by omega); have k4 := hk 4 (by omega) (by omega); have k5 := hk 5 (by omega) (by omega); have k6 := hk 6 (by omega) (by omega); have k7 := hk 7 (by omega) (by omega); have k8 := hk 8 (by omega) (by omega); have k9 := hk 9 (by omega) (by omega); show _ = _; unfold applyN; simp only [if_neg k2, if_neg k3, if_neg k4, if_neg k5, if_neg k6, if_neg k7, if_neg k8, if_neg k9]; rfl
 show Calls _ _ #[.agg #[.int .i64 kind, .slice A0 from_.length c0, .string text, .int .i64 nn], .agg #[.int .i64 hn, .string hkey, .int .i64 ha, .int .i64 hb], .bool false, .agg #[.string key, .int .i64 num, .int .i64 time], .int .i64 input] w _
 have HR := Lib.hid hr
 have HV := Lib.hid hv
 have HI := Lib.hid hi
 clear hr hv hi hk
 go_enter Tryz.func18, Tryz.ntmps18
 go_upto_region 3 with (fail)
 go_region
 go_upto_region 6 with (fail)
 have hV := Vars.mk_ w (.int .i64 kind) (.slice A0 from_.length c0) (.string text) (.int .i64 nn) ⟨0, key, 0, 0⟩ ⟨key, num, time⟩
 generalize ((((w.alloc _).alloc _).alloc _).alloc _).drew = W1 at hV ⊢
 generalize w.heap.size + 1 + 1 + 1 = b3 at hV ⊢
 generalize w.heap.size + 1 + 1 = b2 at hV ⊢
 generalize w.heap.size + 1 = b1 at hV ⊢
 generalize w.heap.size = b0 at hV ⊢
 obtain ⟨⟨n0, n2, n3⟩, ⟨h10, h11, h12, h13, h1f⟩, ⟨r0, r1, r2, rf⟩, ⟨_, _, _, _, s0, s1, s2, s3⟩, sf⟩ := hV.cells
 have HW := Lib.hid hV
 clear hV
 go_wp2_with fail
 refine (dpass_ok ⟨key, num, time⟩ W1 (HR.out.1)).mono ?_
 rintro e w4 ⟨A, c, rfl, ho, hbl, hb4⟩
 have hV4 := HW.out.next hb4
 have HO := Lib.hid ho
 have HBL := Lib.hid hbl
 have HLT := Lib.hid HW.out.lt3
 have HLW := Lib.hid HW.out.below.size
 have HLB := Lib.hid HW.out.lt1
 clear HW n0 n2 n3 h10 h11 h12 h13 h1f r0 r1 r2 rf s0 s1 s2 s3 sf ho hbl hb4
 obtain ⟨⟨n0, n2, n3⟩, ⟨h10, h11, h12, h13, h1f⟩, ⟨r0, r1, r2, rf⟩, ⟨_, _, _, _, s0, s1, s2, s3⟩, sf⟩ := hV4.cells
 have HW := Lib.hid hV4
 clear hV4
 go_upto_region 46 with (fail)
 have hV5 := HW.out.zero
 have ho5 : OwnS ((((w4.setCell ⟨b1, 0, none⟩ (.int .i64 0)).setCell ⟨b1, 1, none⟩ (.string ⟨#[]⟩)).setCell ⟨b1, 2, none⟩ (.int .i64 0)).setCell ⟨b1, 3, none⟩ (.int .i64 0)) 44 3 A c (passR ⟨key, num, time⟩).length ((passR ⟨key, num, time⟩).flatMap recCells) := HW.out.own_zero HO.out HBL.out HLB.out
 clear HW HO n0 n2 n3 h10 h11 h12 h13 h1f r0 r1 r2 rf s0 s1 s2 s3 sf
 generalize (((w4.setCell _ _).setCell _ _).setCell _ _).setCell _ _ = W6 at hV5 ho5 ⊢
 have HO := Lib.hid ho5
 clear ho5
 obtain ⟨⟨n0, n2, n3⟩, ⟨h10, h11, h12, h13, h1f⟩, ⟨r0, r1, r2, rf⟩, ⟨_, _, _, _, s0, s1, s2, s3⟩, sf⟩ := hV5.cells
 have HW := Lib.hid hV5
 clear hV5
 go_region
 have hF := HW.out.fin HO.out HBL.out HLT.out HLW.out 0 (⟨#[]⟩) (0) (0)
 clear HW n0 n2 n3 h10 h11 h12 h13 h1f r0 r1 r2 rf s0 s1 s2 s3 sf HO HBL
 generalize ((((W6.setCell ⟨b3, 0, none⟩ _).setCell _ _).setCell _ _).setCell _ _).drew = W5 at hF ⊢
 obtain ⟨hh, h1, h2, h3⟩ := hF
 obtain ⟨s0, s1, s2, s3, sf⟩ := hh.cells
 have HX := Lib.hid (And.intro h1 (And.intro h2 h3))
 clear h1 h2 h3 hh
 go_wp2_with fail
 refine bodyPost_ret (v := .tuple #[.slice A (passR ⟨key, num, time⟩).length c, .agg #[.int .i64 0, .string (⟨#[]⟩), .int .i64 (0), .int .i64 (0)], .bool false]) (by simp [results, Tryz.results18, go_sem, s0, s1, s2, s3]) rfl ?_
 rw [HP.out]
 exact ⟨A, c, rfl, HX.out⟩
set_option maxRecDepth 100000 in
set_option maxHeartbeats 1000000 in
theorem dapply_first_new (n : Nod) (A0 : Option Addr) (c0 : Nat) (h : Hld) (r : Rec) (input : Int) (w : World) (hv : ErrVars w) (hsz : n.text.size ≤ maxLen) (hr : RecOk r) (hi : I64 h.a ∧ I64 h.b) (hk : n.kind = 9) :
  Calls Tryz.prog 18 #[.agg #[.int .i64 n.kind, .slice A0 n.from_.length c0, .string n.text, .int .i64 n.n], hldV h, .bool false, recV r, .int .i64 input] w (AppPost (applyN n h false r input) w) := by
 obtain ⟨kind, from_, text, nn⟩ := n
 obtain ⟨hn, hkey, ha, hb⟩ := h
 obtain ⟨key, num, time⟩ := r
 simp only at hk hsz hi
 subst hk
 have HP : Hid (applyN ⟨9, from_, text, nn⟩ ⟨hn, hkey, ha, hb⟩ false ⟨key, num, time⟩ input = ⟨passR ⟨key, num, time⟩, ⟨0, key, 1, 0⟩, true⟩) := rfl
 show Calls _ _ #[.agg #[.int .i64 9, .slice A0 from_.length c0, .string text, .int .i64 nn], .agg #[.int .i64 hn, .string hkey, .int .i64 ha, .int .i64 hb], .bool false, .agg #[.string key, .int .i64 num, .int .i64 time], .int .i64 input] w _
 have HR := Lib.hid hr
 have HV := Lib.hid hv
 have HI := Lib.hid hi
 clear hr hv hi
 go_enter Tryz.func18, Tryz.ntmps18
 go_upto_region 3 with (fail)
 go_region
 go_upto_region 6 with (fail)
 have hV := Vars.mk_ w (.int .i64 9) (.slice A0 from_.length c0) (.string text) (.int .i64 nn) ⟨0, key, 0, 0⟩ ⟨key, num, time⟩
 generalize ((((w.alloc _).alloc _).alloc _).alloc _).drew = W1 at hV ⊢
 generalize w.heap.size + 1 + 1 + 1 = b3 at hV ⊢
 generalize w.heap.size + 1 + 1 = b2 at hV ⊢
 generalize w.heap.size + 1 = b1 at hV ⊢
 generalize w.heap.size = b0 at hV ⊢
 obtain ⟨⟨n0, n2, n3⟩, ⟨h10, h11, h12, h13, h1f⟩, ⟨r0, r1, r2, rf⟩, ⟨_, _, _, _, s0, s1, s2, s3⟩, sf⟩ := hV.cells
 have HW := Lib.hid hV
 clear hV
 go_wp2_with fail
 refine (dpass_ok ⟨key, num, time⟩ W1 (HR.out.1)).mono ?_
 rintro e w4 ⟨A, c, rfl, ho, hbl, hb4⟩
 have hV4 := HW.out.next hb4
 have HO := Lib.hid ho
 have HBL := Lib.hid hbl
 have HLT := Lib.hid HW.out.lt3
 have HLW := Lib.hid HW.out.below.size
 have HLB := Lib.hid HW.out.lt1
 clear HW n0 n2 n3 h10 h11 h12 h13 h1f r0 r1 r2 rf s0 s1 s2 s3 sf ho hbl hb4
 obtain ⟨⟨n0, n2, n3⟩, ⟨h10, h11, h12, h13, h1f⟩, ⟨r0, r1, r2, rf⟩, ⟨_, _, _, _, s0, s1, s2, s3⟩, sf⟩ := hV4.cells
 have HW := Lib.hid hV4
 clear hV4
 go_upto_region 44 with (fail)
 have hV3 := HW.out.a 1
 have ho3 : OwnS (w4.setCell ⟨b1, 2, none⟩ (.int .i64 1)) 44 3 A c (passR ⟨key, num, time⟩).length ((passR ⟨key, num, time⟩).flatMap recCells) := HO.out.setFar (fun e => by have h1 := HBL.out _ e; have h2 := HLB.out; simp at h1; omega) _
 clear HW HO n0 n2 n3 h10 h11 h12 h13 h1f r0 r1 r2 rf s0 s1 s2 s3 sf
 generalize w4.setCell ⟨b1, 2, none⟩ (.int .i64 1) = W7 at hV3 ho3 ⊢
 have HO := Lib.hid ho3
 clear ho3
 obtain ⟨⟨n0, n2, n3⟩, ⟨h10, h11, h12, h13, h1f⟩, ⟨r0, r1, r2, rf⟩, ⟨_, _, _, _, s0, s1, s2, s3⟩, sf⟩ := hV3.cells
 have HW := Lib.hid hV3
 clear hV3
 go_upto_region 46 with (fail)
 go_region
 have hF := HW.out.fin HO.out HBL.out HLT.out HLW.out 0 (key) (1) (0)
 clear HW n0 n2 n3 h10 h11 h12 h13 h1f r0 r1 r2 rf s0 s1 s2 s3 sf HO HBL
 generalize ((((W7.setCell ⟨b3, 0, none⟩ _).setCell _ _).setCell _ _).setCell _ _).drew = W5 at hF ⊢
 obtain ⟨hh, h1, h2, h3⟩ := hF
 obtain ⟨s0, s1, s2, s3, sf⟩ := hh.cells
 have HX := Lib.hid (And.intro h1 (And.intro h2 h3))
 clear h1 h2 h3 hh
 go_wp2_with fail
 refine bodyPost_ret (v := .tuple #[.slice A (passR ⟨key, num, time⟩).length c, .agg #[.int .i64 0, .string (key), .int .i64 (1), .int .i64 (0)], .bool true]) (by simp [results, Tryz.results18, go_sem, s0, s1, s2, s3]) rfl ?_
 rw [HP.out]
 exact ⟨A, c, rfl, HX.out⟩
set_option maxRecDepth 100000 in
set_option maxHeartbeats 1000000 in
theorem dapply_fold_new (n : Nod) (A0 : Option Addr) (c0 : Nat) (h : Hld) (r : Rec) (input : Int) (w : World) (hv : ErrVars w) (hsz : n.text.size ≤ maxLen) (hr : RecOk r) (hi : I64 h.a ∧ I64 h.b) (hk : n.kind = 7) :
  Calls Tryz.prog 18 #[.agg #[.int .i64 n.kind, .slice A0 n.from_.length c0, .string n.text, .int .i64 n.n], hldV h, .bool false, recV r, .int .i64 input] w (AppPost (applyN n h false r input) w) := by
 obtain ⟨kind, from_, text, nn⟩ := n
 obtain ⟨hn, hkey, ha, hb⟩ := h
 obtain ⟨key, num, time⟩ := r
 simp only at hk hsz hi
 subst hk
 have HP : Hid (applyN ⟨7, from_, text, nn⟩ ⟨hn, hkey, ha, hb⟩ false ⟨key, num, time⟩ input = ⟨passR ⟨key, evalOf text num 0, time⟩, ⟨0, key, evalOf text num 0, 0⟩, true⟩) := rfl
 show Calls _ _ #[.agg #[.int .i64 7, .slice A0 from_.length c0, .string text, .int .i64 nn], .agg #[.int .i64 hn, .string hkey, .int .i64 ha, .int .i64 hb], .bool false, .agg #[.string key, .int .i64 num, .int .i64 time], .int .i64 input] w _
 have HR := Lib.hid hr
 have HV := Lib.hid hv
 have HI := Lib.hid hi
 clear hr hv hi
 go_enter Tryz.func18, Tryz.ntmps18
 go_upto_region 3 with (fail)
 go_region
 go_upto_region 6 with (fail)
 have hV := Vars.mk_ w (.int .i64 7) (.slice A0 from_.length c0) (.string text) (.int .i64 nn) ⟨0, key, 0, 0⟩ ⟨key, num, time⟩
 generalize ((((w.alloc _).alloc _).alloc _).alloc _).drew = W1 at hV ⊢
 generalize w.heap.size + 1 + 1 + 1 = b3 at hV ⊢
 generalize w.heap.size + 1 + 1 = b2 at hV ⊢
 generalize w.heap.size + 1 = b1 at hV ⊢
 generalize w.heap.size = b0 at hV ⊢
 obtain ⟨⟨n0, n2, n3⟩, ⟨h10, h11, h12, h13, h1f⟩, ⟨r0, r1, r2, rf⟩, ⟨_, _, _, _, s0, s1, s2, s3⟩, sf⟩ := hV.cells
 have HW := Lib.hid hV
 clear hV
 go_wp2_with fail
 have hb0 := HW.out.below
 refine (eval_ok_any text num 0 W1 (HV.out.below hb0) hsz (i64_of_wf HR.out.2.1) ⟨by omega, by omega⟩).mono ?_
 rintro e w2 ⟨rfl, hb2⟩
 have hV2 := HW.out.next hb2
 clear HW n0 n2 n3 h10 h11 h12 h13 h1f r0 r1 r2 rf s0 s1 s2 s3 sf hb0 hb2
 rw [← evalOf_val]
 obtain ⟨⟨n0, n2, n3⟩, ⟨h10, h11, h12, h13, h1f⟩, ⟨r0, r1, r2, rf⟩, ⟨_, _, _, _, s0, s1, s2, s3⟩, sf⟩ := hV2.cells
 have HW := Lib.hid hV2
 clear hV2
 generalize evalOf text num 0 = x at HP ⊢
 go_upto_region 31 with (fail)
 have hV3 := ((HW.out.a (x)).num (x))
 clear HW n0 n2 n3 h10 h11 h12 h13 h1f r0 r1 r2 rf s0 s1 s2 s3 sf
 generalize (w2.setCell ⟨b1, 2, none⟩ (.int .i64 (x))).setCell ⟨b2, 1, none⟩ (.int .i64 (x)) = W3 at hV3 ⊢
 obtain ⟨⟨n0, n2, n3⟩, ⟨h10, h11, h12, h13, h1f⟩, ⟨r0, r1, r2, rf⟩, ⟨_, _, _, _, s0, s1, s2, s3⟩, sf⟩ := hV3.cells
 have HW := Lib.hid hV3
 clear hV3
 go_wp2_with fail
 refine (dpass_ok ⟨key, x, time⟩ W3 (HR.out.1)).mono ?_
 rintro e w4 ⟨A, c, rfl, ho, hbl, hb4⟩
 have hV4 := HW.out.next hb4
 have HO := Lib.hid ho
 have HBL := Lib.hid hbl
 have HLT := Lib.hid HW.out.lt3
 have HLW := Lib.hid HW.out.below.size
 have HLB := Lib.hid HW.out.lt1
 clear HW n0 n2 n3 h10 h11 h12 h13 h1f r0 r1 r2 rf s0 s1 s2 s3 sf ho hbl hb4
 obtain ⟨⟨n0, n2, n3⟩, ⟨h10, h11, h12, h13, h1f⟩, ⟨r0, r1, r2, rf⟩, ⟨_, _, _, _, s0, s1, s2, s3⟩, sf⟩ := hV4.cells
 have HW := Lib.hid hV4
 clear hV4
 go_upto_region 46 with (fail)
 go_region
 have hF := HW.out.fin HO.out HBL.out HLT.out HLW.out 0 (key) (x) (0)
 clear HW n0 n2 n3 h10 h11 h12 h13 h1f r0 r1 r2 rf s0 s1 s2 s3 sf HO HBL
 generalize ((((w4.setCell ⟨b3, 0, none⟩ _).setCell _ _).setCell _ _).setCell _ _).drew = W5 at hF ⊢
 obtain ⟨hh, h1, h2, h3⟩ := hF
 obtain ⟨s0, s1, s2, s3, sf⟩ := hh.cells
 have HX := Lib.hid (And.intro h1 (And.intro h2 h3))
 clear h1 h2 h3 hh
 go_wp2_with fail
 refine bodyPost_ret (v := .tuple #[.slice A (passR ⟨key, x, time⟩).length c, .agg #[.int .i64 0, .string (key), .int .i64 (x), .int .i64 (0)], .bool true]) (by simp [results, Tryz.results18, go_sem, s0, s1, s2, s3]) rfl ?_
 rw [HP.out]
 exact ⟨A, c, rfl, HX.out⟩
end Go.Proofs.YtfndhfekbbbliaaGreatDoor
