/-
  Words of my own for maps, over any program: what block b holds ('MapAt', a list of keys with elements, no key twice), what a range over it has still to hand out ('RangeAt'), and the laws at the operations. No condition: plain definitions and lemmas.
-/
import Derived.Test.YthanjafbgcljgaaGreatDoorHeap
import Derived.Maps.RangeWalk
import Derived.Maps.OwnSet
namespace Go.Proofs.YthanjafbgcljgaaGreatDoor
open Go.RowKit Go.ChangeShapes Go.WideShapes Go.MapKept Go.ChangeMaps
set_option linter.unusedVariables false

/-- What is asked of a key's type: of the keys 'isK'. -/
structure KeyT (P : Program) (k : TypeId) (isK : Value → Prop) : Prop where
  check : ∀ (w : World) (em : Bool) {v : Value}, isK v → (Instr.checkKey em 10000 k v).run P w = .ok () w
  find : ∀ (w : World) {x : Value}, isK x → ∀ es : List MapEntry, (∀ e ∈ es, isK e.key) →
    ((Instr.findKey k x es).run P w = .ok none w ∧ ∀ e ∈ es, e.key ≠ x) ∨ ∃ j e, (Instr.findKey k x es).run P w = .ok (some (j, e.val)) w ∧ es[j]? = some e ∧ e.key = x
  stays : ∀ (w : World) {v : Value}, isK v → (Instr.keyThatStays v v).run P w = .ok v w
theorem KeyT.of {P : Program} {k : TypeId} (K : Maps.Keyed P k) : KeyT P k (fun v => ∃ l, keyOf P k v = some l) :=
  ⟨fun w em _ ⟨_, h⟩ => K.check w em h, fun w _ ⟨_, h⟩ es hes => K.find w h es hes, fun w _ ⟨_, h⟩ => K.stays w h⟩
theorem KeyT.less {P : Program} {k : TypeId} {isK isK' : Value → Prop} (K : KeyT P k isK) (h : ∀ v, isK' v → isK v) : KeyT P k isK' :=
  ⟨fun w em _ h' => K.check w em (h _ h'), fun w _ h' es hes => K.find w (h _ h') es fun e he => h _ (hes e he), fun w _ h' => K.stays w (h _ h')⟩

def kv (e : MapEntry) : Value × Value := (e.key, e.val)
def MapAt (isK : Value → Prop) (w : World) (b : Nat) (m : List (Value × Value)) : Prop :=
  ∃ es clock, w.heap[b]? = some (.map es clock) ∧ Stamped es clock ∧ es.toList.map kv = m ∧ ∀ p ∈ m, isK p.1

theorem MapAt.lt {isK : Value → Prop} {w : World} {b : Nat} {m : List (Value × Value)} (h : MapAt isK w b m) : b < w.heap.size := by
  obtain ⟨es, clock, hb, _⟩ := h; exact block_lt hb
theorem MapAt.keep {isK : Value → Prop} {w w' : World} {b : Nat} {m : List (Value × Value)} (h : MapAt isK w b m) (hs : w'.heap[b]? = w.heap[b]?) : MapAt isK w' b m := by
  obtain ⟨es, clock, hb, r⟩ := h; exact ⟨es, clock, hs.trans hb, r⟩
theorem MapAt.made (isK : Value → Prop) (w : World) : MapAt isK (w.alloc (.map #[] 0)) w.heap.size [] := ⟨#[], 0, heap_alloc_new w _, stamped_empty 0, rfl, nofun⟩
theorem MapAt.nodup {isK : Value → Prop} {w : World} {b : Nat} {m : List (Value × Value)} (h : MapAt isK w b m) : (m.map (·.1)).Nodup := by
  obtain ⟨es, clock, hb, ⟨_, _, h3⟩, rfl, _⟩ := h
  rw [List.map_map]; exact h3
theorem MapAt.isK {isK : Value → Prop} {w : World} {b : Nat} {m : List (Value × Value)} (h : MapAt isK w b m) : ∀ p ∈ m, isK p.1 := by
  obtain ⟨es, clock, hb, _, _, h⟩ := h; exact h

section
variable {P : Program} {k t e : TypeId} {isK : Value → Prop} {w : World} {b : Nat} {m : List (Value × Value)}

theorem MapAt.entries {es : Array MapEntry} (hm : es.toList.map kv = m) (h : ∀ p ∈ m, isK p.1) : ∀ x ∈ es.toList, isK x.key := fun x hx => h (kv x) (hm ▸ List.mem_map.2 ⟨x, hx, rfl⟩)

theorem MapAt.look_hit (K : KeyT P k isK) (h : MapAt isK w b m) (ht : P.underlying t = some (.map k e)) {key v : Value} (hkv : (key, v) ∈ m) (c : Bool) :
    (Instr.lookup t (.map (some b)) key c).run P w = .ok (if c then .tuple #[v, .bool true] else v) w := by
  obtain ⟨es, clock, hb, hst, rfl, hk⟩ := h
  have hik : isK key := hk _ hkv
  rcases K.find w hik es.toList (MapAt.entries rfl hk) with ⟨h1, h2⟩ | ⟨j, e0, h1, h2, h3⟩
  · obtain ⟨x, hx, e1⟩ := List.mem_map.1 hkv
    exact absurd (congrArg Prod.fst e1) (h2 x hx)
  · obtain ⟨x, hx, e1⟩ := List.mem_map.1 hkv
    have h4 : x = e0 := entry_eq_of_key ((stamped_iff es clock).1 hst).2.2 hx (List.mem_of_getElem? h2) (by rw [h3]; exact congrArg Prod.fst e1)
    subst h4
    have h5 : x.val = v := congrArg Prod.snd e1
    simp [Instr.lookup, run_underlying ht, MapKept.run_getObj_map hb, K.check w _ hik, h1, h5, Result.andThen]
theorem MapAt.look_miss (K : KeyT P k isK) (h : MapAt isK w b m) (ht : P.underlying t = some (.map k e)) {z : Value} (hz : (zeroValue e).run P w = .ok z w) {key : Value} (hik : isK key) (hno : ∀ p ∈ m, p.1 ≠ key) (c : Bool) :
    (Instr.lookup t (.map (some b)) key c).run P w = .ok (if c then .tuple #[z, .bool false] else z) w := by
  obtain ⟨es, clock, hb, hst, rfl, hk⟩ := h
  rcases K.find w hik es.toList (MapAt.entries rfl hk) with ⟨h1, h2⟩ | ⟨j, e0, h1, h2, h3⟩
  · simp [Instr.lookup, run_underlying ht, MapKept.run_getObj_map hb, K.check w _ hik, h1, hz, Result.andThen]
  · exact absurd h3 (hno (kv e0) (List.mem_map.2 ⟨e0, List.mem_of_getElem? h2, rfl⟩))

theorem grown_setBlock {o o' : Obj} (hb : w.heap[b]? = some o) : w.grownBy (setBlock w b o') (some b) :=
  ⟨rfl, rfl, rfl, by simp [setBlock], fun i _ hi => (heap_set hb).2 i (fun e => hi (by rw [e]))⟩

theorem MapAt.store_new (K : KeyT P k isK) (h : MapAt isK w b m) (ht : P.underlying t = some (.map k e)) {key : Value} (val : Value) (hik : isK key) (hno : ∀ p ∈ m, p.1 ≠ key) :
    ∃ w', (Instr.mapUpdate t (.map (some b)) key val).run P w = .ok () w' ∧ MapAt isK w' b (m ++ [(key, val)]) ∧ w.grownBy w' (some b) ∧ w'.heap.size = w.heap.size := by
  obtain ⟨es, clock, hb, hst, rfl, hk⟩ := h
  rcases K.find w hik es.toList (MapAt.entries rfl hk) with ⟨h1, h2⟩ | ⟨j, e0, h1, h2, h3⟩
  · refine ⟨setBlock w b (.map (es.push ⟨key, val, clock⟩) (clock + 1)), ?_, ⟨_, _, heap_setBlock_same hb _, stamped_push hst h2, by simp [kv], ?_⟩, grown_setBlock hb, by simp [setBlock]⟩
    · simp [Instr.mapUpdate, run_underlying ht, MapKept.run_getObj_map hb, K.check w false hik, h1, MapKept.run_setObj_map _ hb, Result.andThen, setBlock]
    · intro p hp
      rcases List.mem_append.1 hp with hp | hp
      · exact hk p hp
      · simp at hp; subst hp; exact hik
  · exact absurd h3 (hno (kv e0) (List.mem_map.2 ⟨e0, List.mem_of_getElem? h2, rfl⟩))

theorem mapmodify_list {es : Array MapEntry} {j : Nat} {e0 : MapEntry} (h2 : es.toList[j]? = some e0) (f : MapEntry → MapEntry) : (es.modify j f).toList = es.toList.set j (f e0) := by
  rw [Array.toList_modify, ChangeMaps.modify_eq_set _ _ _ _ h2]

theorem set_mid {α : Type} (l1 l2 : List α) (x y : α) : (l1 ++ x :: l2).set l1.length y = l1 ++ y :: l2 := by simp

theorem MapAt.store_hit (K : KeyT P k isK) {m1 m2 : List (Value × Value)} {key old : Value} (h : MapAt isK w b (m1 ++ (key, old) :: m2)) (ht : P.underlying t = some (.map k e)) (val : Value) :
    ∃ w', (Instr.mapUpdate t (.map (some b)) key val).run P w = .ok () w' ∧ MapAt isK w' b (m1 ++ (key, val) :: m2) ∧ w.grownBy w' (some b) ∧ w'.heap.size = w.heap.size := by
  have hnd := h.nodup
  obtain ⟨es, clock, hb, hst, hm, hk⟩ := h
  have hik : isK key := hk (key, old) (by simp)
  rcases K.find w hik es.toList (MapAt.entries hm hk) with ⟨h1, h2⟩ | ⟨j, e0, h1, h2, h3⟩
  · have h4 : (key, old) ∈ es.toList.map kv := by rw [hm]; simp
    obtain ⟨x, hx, e1⟩ := List.mem_map.1 h4
    exact absurd (congrArg Prod.fst e1) (h2 x hx)
  · have hj : es[j]? = some e0 := by simpa using h2
    have hjl : j < es.toList.length := (List.getElem?_eq_some_iff.1 h2).1
    have hjm : j = m1.length := by
      have e1 : (es.toList.map kv)[j]? = some (kv e0) := by rw [List.getElem?_map, h2]; rfl
      rw [hm] at e1
      have e2 : ((m1 ++ (key, old) :: m2).map (·.1))[j]? = some key := by rw [List.getElem?_map, e1]; show some e0.key = _; rw [h3]
      have e3 : ((m1 ++ (key, old) :: m2).map (·.1))[m1.length]? = some key := by simp
      have l1 : j < ((m1 ++ (key, old) :: m2).map (·.1)).length := (List.getElem?_eq_some_iff.1 e2).1
      have l2 : m1.length < ((m1 ++ (key, old) :: m2).map (·.1)).length := (List.getElem?_eq_some_iff.1 e3).1
      rw [List.getElem?_eq_getElem l1] at e2
      rw [List.getElem?_eq_getElem l2] at e3
      exact (List.getElem_inj hnd).1 ((Option.some.inj e2).trans (Option.some.inj e3).symm)
    refine ⟨setBlock w b (.map (es.modify j fun e' => { e' with key := key, val := val }) clock), ?_, ⟨_, _, heap_setBlock_same hb _, stamped_modify hst _ _ (fun _ _ => rfl) (fun e' _ he' => by rw [hj] at he'; cases he'; exact h3.symm), ?_, ?_⟩, grown_setBlock hb, by simp [setBlock]⟩
    · simp [Instr.mapUpdate, run_underlying ht, MapKept.run_getObj_map hb, K.check w false hik, h1, hj, h3, K.stays w hik, MapKept.run_setObj_map _ hb, Result.andThen, setBlock]
    · rw [mapmodify_list h2, List.map_set, hm, hjm, set_mid]; rfl
    · intro p hp
      rcases List.mem_append.1 hp with hp | hp
      · exact hk p (List.mem_append.2 (.inl hp))
      · rcases List.mem_cons.1 hp with rfl | hp
        · exact hik
        · exact hk p (List.mem_append.2 (.inr (List.mem_cons_of_mem _ hp)))

theorem erase_mid {α : Type} (l1 l2 : List α) (x : α) : (l1 ++ x :: l2).eraseIdx l1.length = l1 ++ l2 := by
  induction l1 with
  | nil => rfl
  | cons y l ih => simp only [List.cons_append, List.length_cons, List.eraseIdx_cons_succ, ih]

theorem MapAt.del_hit {ty : TypeId} (K : KeyT P k isK) {m1 m2 : List (Value × Value)} {key old : Value} (h : MapAt isK w b (m1 ++ (key, old) :: m2)) (ht : P.underlying t = some (.map k e)) :
    ∃ w', (Builtin.delete_ #[t, k] ty #[.map (some b), key]).run P w = .ok (.tuple #[]) w' ∧ MapAt isK w' b (m1 ++ m2) ∧ w.grownBy w' (some b) ∧ w'.heap.size = w.heap.size := by
  have hnd := h.nodup
  obtain ⟨es, clock, hb, hst, hm, hk⟩ := h
  have hik : isK key := hk (key, old) (by simp)
  rcases K.find w hik es.toList (MapAt.entries hm hk) with ⟨h1, h2⟩ | ⟨j, e0, h1, h2, h3⟩
  · have h4 : (key, old) ∈ es.toList.map kv := by rw [hm]; simp
    obtain ⟨x, hx, e1⟩ := List.mem_map.1 h4
    exact absurd (congrArg Prod.fst e1) (h2 x hx)
  · have hjl : j < es.toList.length := (List.getElem?_eq_some_iff.1 h2).1
    have hjs : j < es.size := by simpa using hjl
    have hjm : j = m1.length := by
      have e1 : (es.toList.map kv)[j]? = some (kv e0) := by rw [List.getElem?_map, h2]; rfl
      rw [hm] at e1
      have e2 : ((m1 ++ (key, old) :: m2).map (·.1))[j]? = some key := by rw [List.getElem?_map, e1]; show some e0.key = _; rw [h3]
      have e3 : ((m1 ++ (key, old) :: m2).map (·.1))[m1.length]? = some key := by simp
      have l1 : j < ((m1 ++ (key, old) :: m2).map (·.1)).length := (List.getElem?_eq_some_iff.1 e2).1
      have l2 : m1.length < ((m1 ++ (key, old) :: m2).map (·.1)).length := (List.getElem?_eq_some_iff.1 e3).1
      rw [List.getElem?_eq_getElem l1] at e2
      rw [List.getElem?_eq_getElem l2] at e3
      exact (List.getElem_inj hnd).1 ((Option.some.inj e2).trans (Option.some.inj e3).symm)
    have hsub : (es.eraseIdxIfInBounds j).toList = es.toList.eraseIdx j := by
      unfold Array.eraseIdxIfInBounds
      rw [dif_pos hjs]
      simp
    have hl : (es.eraseIdxIfInBounds j).toList.map kv = m1 ++ m2 := by
      rw [hsub, ChangeMaps.map_eraseIdx, hm, hjm, erase_mid]
    refine ⟨setBlock w b (.map (es.eraseIdxIfInBounds j) clock), ?_, ⟨_, _, heap_setBlock_same hb _, stamped_erase hst j, hl, ?_⟩, grown_setBlock hb, by simp [setBlock]⟩
    · simp [Builtin.delete_, run_underlying ht, MapKept.run_getObj_map hb, K.check w _ hik, h1, MapKept.run_setObj_map _ hb, Result.andThen, setBlock]
    · intro p hp
      rcases List.mem_append.1 hp with hp | hp
      · exact hk p (List.mem_append.2 (.inl hp))
      · exact hk p (List.mem_append.2 (.inr (List.mem_cons_of_mem _ hp)))
theorem MapAt.del_miss {ty : TypeId} (K : KeyT P k isK) (h : MapAt isK w b m) (ht : P.underlying t = some (.map k e)) {key : Value} (hik : isK key) (hno : ∀ p ∈ m, p.1 ≠ key) :
    ∃ w', (Builtin.delete_ #[t, k] ty #[.map (some b), key]).run P w = .ok (.tuple #[]) w' ∧ MapAt isK w' b m ∧ w.grownBy w' (some b) ∧ w'.heap.size = w.heap.size := by
  obtain ⟨es, clock, hb, hst, rfl, hk⟩ := h
  rcases K.find w hik es.toList (MapAt.entries rfl hk) with ⟨h1, h2⟩ | ⟨j, e0, h1, h2, h3⟩
  · refine ⟨setBlock w b (.map es clock), ?_, ⟨_, _, heap_setBlock_same hb _, hst, rfl, hk⟩, grown_setBlock hb, by simp [setBlock]⟩
    simp [Builtin.delete_, run_underlying ht, MapKept.run_getObj_map hb, K.check w _ hik, h1, MapKept.run_setObj_map _ hb, Result.andThen, setBlock]
  · exact absurd h3 (hno (kv e0) (List.mem_map.2 ⟨e0, List.mem_of_getElem? h2, rfl⟩))
theorem MapAt.len {ty : TypeId} (h : MapAt isK w b m) (ht : P.underlying t = some (.map k e)) : (Builtin.len_ #[t] ty #[.map (some b)]).run P w = .ok (.int .i64 (m.length : Int)) w := by
  obtain ⟨es, clock, hb, hst, rfl, hk⟩ := h
  have e1 : ((es.toList.map kv).length : Int) = (es.size : Int) := by rw [List.length_map, Array.length_toList]
  rw [e1]
  simp [Builtin.len_, goInt, run_underlying ht, MapKept.run_getObj_map hb, Result.andThen]

/-! ### A range -/
/-- Block r is a range over the map in block b, in which nothing has been laid since; 'todo' is still to come. -/
def RangeAt (isK : Value → Prop) (w : World) (b r : Nat) (m todo : List (Value × Value)) : Prop :=
  ∃ es clock since seen c0, w.heap[b]? = some (.map es clock) ∧ Stamped es clock ∧ es.toList.map kv = m ∧ (∀ p ∈ m, isK p.1) ∧ w.heap[r]? = some (.mapIter (some b) since seen c0) ∧ (∀ x ∈ es.toList, x.born < since) ∧ since ≤ c0 ∧ since ≤ clock ∧
    (Go.leftOf es seen).toList.map kv = todo
theorem RangeAt.map {r : Nat} {todo : List (Value × Value)} (h : RangeAt isK w b r m todo) : MapAt isK w b m := by
  obtain ⟨es, clock, since, seen, c0, hb, hst, hm, hk, _⟩ := h; exact ⟨es, clock, hb, hst, hm, hk⟩
theorem RangeAt.ne {r : Nat} {todo : List (Value × Value)} (h : RangeAt isK w b r m todo) : r ≠ b := by
  obtain ⟨es, clock, since, seen, c0, hb, _, _, _, hr, _⟩ := h
  intro e
  rw [e, hb] at hr
  cases hr
theorem RangeAt.lt {r : Nat} {todo : List (Value × Value)} (h : RangeAt isK w b r m todo) : r < w.heap.size := by
  obtain ⟨es, clock, since, seen, c0, hb, _, _, _, hr, _⟩ := h; exact block_lt hr
theorem RangeAt.keep {w' : World} {r : Nat} {todo : List (Value × Value)} (h : RangeAt isK w b r m todo) (h1 : w'.heap[b]? = w.heap[b]?) (h2 : w'.heap[r]? = w.heap[r]?) : RangeAt isK w' b r m todo := by
  obtain ⟨es, clock, since, seen, c0, hb, hst, hm, hk, hr, rest⟩ := h
  exact ⟨es, clock, since, seen, c0, h1.trans hb, hst, hm, hk, h2.trans hr, rest⟩
theorem MapAt.range (h : MapAt isK w b m) (ht : P.underlying t = some (.map k e)) :
    ∃ w', (Instr.range t (.map (some b))).run P w = .ok (.pointer (some ⟨w.heap.size, 0, none⟩)) w' ∧ RangeAt isK w' b w.heap.size m m ∧ w.grownBy w' none ∧ w'.heap.size = w.heap.size + 1 := by
  have hlt := h.lt
  obtain ⟨es, clock, hb, hst, hm, hk⟩ := h
  refine ⟨_, run_range_map w t k e b es clock ht hb, ⟨es, clock, clock, #[], clock, (heap_alloc_old w _ hlt).trans hb, hst, hm, hk, heap_alloc_new w _, hst.1, Nat.le_refl _, Nat.le_refl _, ?_⟩, World.grownBy_alloc w _ none, by simp⟩
  have h0 : (Go.leftOf es #[]).toList = es.toList := by
    unfold Go.leftOf; rw [Array.toList_filter]; exact List.filter_eq_self.2 (fun x _ => by simp)
  rw [h0, hm]
/-- One of the rest comes; it stands in it no more. -/
theorem RangeAt.next {r : Nat} {todo : List (Value × Value)} (h : RangeAt isK w b r m todo) (ty : TypeId) :
    (todo = [] ∧ (Instr.next (.pointer (some ⟨r, 0, none⟩)) false ty).run P w = .ok (.tuple #[.bool false]) w) ∨
    ∃ t1 t2 key v w', todo = t1 ++ (key, v) :: t2 ∧ (Instr.next (.pointer (some ⟨r, 0, none⟩)) false ty).run P w = .ok (.tuple #[.bool true, key, v]) w' ∧ RangeAt isK w' b r m (t1 ++ t2) ∧ w.grownBy w' (some r) ∧ w'.heap.size = w.heap.size ∧
      (Instr.entry (.pointer (some ⟨r, 0, none⟩))).run P w' = .ok (.tuple #[key, v]) w' := by
  have hne := h.ne
  obtain ⟨es, clock, since, seen, c0, hb, hst, hm, hk, hr, hold, hsc, hsk, htodo⟩ := h
  rcases run_next_at (P := P) w ty r b since c0 seen es clock hr hb hold hsc with ⟨h0, hrun⟩ | ⟨e0, he, w1, hal, hrun⟩
  · refine .inl ⟨?_, hrun⟩
    rw [← htodo, Array.eq_empty_of_size_eq_zero h0]; rfl
  · have hmem : e0 ∈ es.toList ∧ seen.contains e0.born = false := by
      simp [Go.leftOf] at he ⊢; exact he
    have hbn : (es.toList.map (·.born)).Nodup := hst.2.1
    have hh1 : ∀ i : Nat, w1.heap[i]? = w.heap[i]? := by rcases hal with rfl | rfl <;> exact fun _ => rfl
    have hs1 : w1.heap.size = w.heap.size := by rcases hal with rfl | rfl <;> rfl
    have ho1 : w1.os = w.os ∧ w1.tape = w.tape ∧ w1.output = w.output := by rcases hal with rfl | rfl <;> exact ⟨rfl, rfl, rfl⟩
    have hr1 : w1.heap[r]? = some (.mapIter (some b) since seen c0) := (hh1 r).trans hr
    have hb2 : (setBlock w1 r (.mapIter (some b) since (seen.push e0.born) clock)).heap[b]? = some (.map es clock) := ((heap_set hr1).2 b hne.symm).trans ((hh1 b).trans hb)
    have hr2 : (setBlock w1 r (.mapIter (some b) since (seen.push e0.born) clock)).heap[r]? = some (.mapIter (some b) since (seen.push e0.born) clock) := (heap_set hr1).1
    obtain ⟨s1, s2, hs⟩ := List.append_of_mem he
    have hnew : (Go.leftOf es (seen.push e0.born)).toList = s1 ++ s2 := by
      have e1 : (Go.leftOf es (seen.push e0.born)).toList = (Go.leftOf es seen).toList.filter fun x => !(x.born == e0.born) := by
        simp only [Go.leftOf, Array.toList_filter, List.filter_filter]
        apply List.filter_congr
        intro x hx
        simp only [Array.contains_push, Bool.not_or, Bool.and_comm]
      rw [e1, hs, List.filter_append, List.filter_cons]
      have hsub : ((Go.leftOf es seen).toList.map (·.born)).Nodup := by
        simp only [Go.leftOf, Array.toList_filter]
        exact hbn.sublist (List.filter_sublist.map _)
      rw [hs, List.map_append, List.map_cons] at hsub
      have hd := List.nodup_append.1 hsub
      have h1 : s1.filter (fun x => !(x.born == e0.born)) = s1 := List.filter_eq_self.2 fun x hx => by
        have := hd.2.2 x.born (List.mem_map.2 ⟨x, hx, rfl⟩) e0.born (List.mem_cons_self)
        simp [this]
      have h2 : s2.filter (fun x => !(x.born == e0.born)) = s2 := List.filter_eq_self.2 fun x hx => by
        have := (List.nodup_cons.1 hd.2.1).1
        have h3 : x.born ≠ e0.born := fun e => this (e ▸ List.mem_map.2 ⟨x, hx, rfl⟩)
        simp [h3]
      simp [h1, h2]
    refine .inr ⟨s1.map kv, s2.map kv, e0.key, e0.val, _, ?_, hrun, ⟨es, clock, since, seen.push e0.born, clock, hb2, hst, hm, hk, hr2, hold, hsk, hsk, ?_⟩, ?_, ?_, ?_⟩
    · rw [← htodo, hs, List.map_append]; rfl
    · rw [hnew, List.map_append]
    · exact ⟨ho1.1, ho1.2.1, ho1.2.2, by simp [setBlock, hs1], fun i _ hi => ((heap_set hr1).2 i (fun e => hi (by rw [e]))).trans (hh1 i)⟩
    · simp [setBlock, hs1]
    · exact run_entry_at _ r b since seen es clock e0 hr2 hb2 hmem.1 hbn
end

section
variable {P : Program} (w : World) {ops : Array Oper} {rest : List Oper} {o : Oper} {a : Act} {Q : Exit → Act → World → Prop}
theorem wpList_range_M (hg : o.guard = none) (m : Operand) (t : TypeId) (hop : o.op = Op.range t m) (k e : TypeId) (isK : Value → Prop) (ht : P.underlying t = some (.map k e)) (b : Nat) (l : List (Value × Value))
    (hm : a.eval m = .map (some b)) (h : MapAt isK w b l)
    (hK : ∀ w', RangeAt isK w' b w.heap.size l l → w.grownBy w' none → w'.heap.size = w.heap.size + 1 → wpList P ops Q rest (a.put o.dst (.pointer (some ⟨w.heap.size, 0, none⟩))) w') :
    wpList P ops Q (o :: rest) a w := by
  refine wpList_plain hg fun K' hK' => ?_
  obtain ⟨w', hrun, r1, r2, r3⟩ := h.range (P := P) ht
  unfold Oper.wp
  simp [execOp, hop, hm, hrun, Result.andThen]
  exact hK' _ _ (hK w' r1 r2 r3)
theorem wpList_next_M (hg : o.guard = none) (it : Operand) (hop : o.op = Op.next it false) (isK : Value → Prop) (b r : Nat) (l todo : List (Value × Value))
    (hit : a.eval it = .pointer (some ⟨r, 0, none⟩)) (h : RangeAt isK w b r l todo)
    (hDone : todo = [] → wpList P ops Q rest (a.put o.dst (.tuple #[.bool false])) w)
    (hMore : ∀ (t1 t2 : List (Value × Value)) (key v : Value) (w' : World), todo = t1 ++ (key, v) :: t2 → RangeAt isK w' b r l (t1 ++ t2) → w.grownBy w' (some r) → w'.heap.size = w.heap.size →
      (Instr.entry (.pointer (some ⟨r, 0, none⟩))).run P w' = .ok (.tuple #[key, v]) w' → wpList P ops Q rest (a.put o.dst (.tuple #[.bool true, key, v])) w') :
    wpList P ops Q (o :: rest) a w := by
  refine wpList_plain hg fun K' hK' => ?_
  unfold Oper.wp
  rcases h.next (P := P) o.type with ⟨h0, hrun⟩ | ⟨t1, t2, key, v, w', he, hrun, hrg, hgr, hsz, hen⟩
  · simp [execOp, hop, hit, hrun, Result.andThen]
    exact hK' _ _ (hDone h0)
  · simp [execOp, hop, hit, hrun, Result.andThen]
    exact hK' _ _ (hMore t1 t2 key v w' he hrg hgr hsz hen)
theorem wpList_store_M (hg : o.guard = none) (m x v : Operand) (t : TypeId) (hop : o.op = Op.mapUpdate t m x v) (k e : TypeId) (isK : Value → Prop) (b : Nat) (key val : Value) (hm : a.eval m = .map (some b)) (hx : a.eval x = key) (hv : a.eval v = val) (l' : List (Value × Value))
    (h : ∃ w', (Instr.mapUpdate t (.map (some b)) key val).run P w = .ok () w' ∧ MapAt isK w' b l' ∧ w.grownBy w' (some b) ∧ w'.heap.size = w.heap.size)
    (hK : ∀ w', MapAt isK w' b l' → w.grownBy w' (some b) → w'.heap.size = w.heap.size → wpList P ops Q rest (a.put o.dst undef) w') :
    wpList P ops Q (o :: rest) a w := by
  refine wpList_plain hg fun K' hK' => ?_
  obtain ⟨w', hrun, r1, r2, r3⟩ := h
  unfold Oper.wp
  simp [execOp, hop, hm, hx, hv, hrun, Result.andThen]
  exact hK' _ _ (hK w' r1 r2 r3)
theorem wpList_del_M (hg : o.guard = none) (m x : Operand) (t k : TypeId) (hop : o.op = Op.call { callee := Callee.builtin Builtin.delete, args := #[m, x], argTypes := #[t, k] }) (isK : Value → Prop) (b : Nat) (key : Value) (hm : a.eval m = .map (some b)) (hx : a.eval x = key) (l' : List (Value × Value))
    (h : ∃ w', (Builtin.delete_ #[t, k] o.type #[.map (some b), key]).run P w = .ok (.tuple #[]) w' ∧ MapAt isK w' b l' ∧ w.grownBy w' (some b) ∧ w'.heap.size = w.heap.size)
    (hK : ∀ w', MapAt isK w' b l' → w.grownBy w' (some b) → w'.heap.size = w.heap.size → wpList P ops Q rest (a.put o.dst (.tuple #[])) w') :
    wpList P ops Q (o :: rest) a w := by
  refine wpList_plain hg fun K' hK' => ?_
  obtain ⟨w', hrun, r1, r2, r3⟩ := h
  unfold Oper.wp
  simp [execOp, hop, resolve, invoke, builtin, hm, hx, hrun, Result.andThen]
  exact hK' _ _ (hK w' r1 r2 r3)
end
section
variable {P : Program} {w : World} {ops : Array Oper} {rest : List Oper} {o : Oper} {a : Act} {Q : Exit → Act → World → Prop}
theorem wpList_lookup_M (hg : o.guard = none) (m x : Operand) (t : TypeId) (c : Bool) (hop : o.op = Op.lookup t m x c) (mv key v : Value) (hm : a.eval m = mv) (hx : a.eval x = key) (h : (Instr.lookup t mv key c).run P w = .ok v w)
    (hK : wpList P ops Q rest (a.put o.dst v) w) : wpList P ops Q (o :: rest) a w := by
  refine wpList_plain hg fun K' hK' => ?_
  unfold Oper.wp
  simp [execOp, hop, hm, hx, h, Result.andThen]
  exact hK' _ _ hK
end
end Go.Proofs.YthanjafbgcljgaaGreatDoor
