/-
  slices.SortFunc at structs, over any program: what an owned row holds behind it; and contracts of cmp.Compare at int and string, and of cmp.Or at two ints. Condition: fewer than 2^62 elements.
-/
import Derived.Test.YthobnigjhedjaaaDoorHeap
import Derived.Shelf.SlSortCmp.NoneTotal
import Derived.Sort.Walk0
import Derived.WalkLawsBesides
namespace Go.Proofs.YthobnigjhedjaaaDoor
open Go.RowKit Go.ChangeShapes Go.WideShapes Go.Shelf
open Go.Sort hiding Below
set_option linter.unusedVariables false

theorem grow_of_below {W w' : World} (hb : Below W.heap.size W w') (hd : W.drawn ≤ w'.drawn) : ∃ q os', w' = grow (W.drewN q) os' := by
  refine ⟨w'.drawn - W.drawn, w'.heap.extract W.heap.size w'.heap.size, ?_⟩
  have hh : w'.heap = W.heap ++ w'.heap.extract W.heap.size w'.heap.size := by
    apply Array.ext_getElem?
    intro i
    rw [Array.getElem?_append]
    split
    · rename_i h; exact hb.block i h
    · rename_i h
      rw [Array.getElem?_extract]
      have hs := hb.size
      split
      · congr 1; omega
      · rw [Array.getElem?_eq_none (by omega)]
  obtain ⟨h', t', d', o', u'⟩ := w'
  have e1 := hb.os; have e2 := hb.tape; have e3 := hb.output
  simp only at e1 e2 e3 hd hh
  unfold grow
  have e4 : (W.drewN (d' - W.drawn)).drawn = d' := by show W.drawn + (d' - W.drawn) = d'; omega
  subst e1; subst e2; subst e3
  congr 1
  exact e4.symm

/-- The closure: it answers cf, and makes blocks at most. -/
def CmpOk {α : Type} (P : Program) (g : Nat) (enc : α → List Value) (cf : α → α → Int) : Prop := ∀ (x y : α) (W : World),
  Calls P g #[.agg (enc x).toArray, .agg (enc y).toArray] W fun e w' => e = .returned (.int .i64 (cf x y)) ∧ Below W.heap.size W w' ∧ W.drawn ≤ w'.drawn

section
variable {P : Program} {ρ : Ren} {α : Type} [Inhabited α]
theorem flatK_toList (enc : α → List Value) (k : Nat) (hk : ∀ x, (enc x).length = k) (hk0 : 0 < k) (d : Array α) : (flatK enc k d).toList = d.toList.flatMap enc := by
  have key : ∀ l : List α, (l.flatMap enc).length = l.length * k := fun l => by
    induction l with
    | nil => simp
    | cons x l ih => rw [List.flatMap_cons, List.length_append, hk, ih, List.length_cons, Nat.succ_mul, Nat.add_comm]
  have hl : (d.toList.flatMap enc).length = d.size * k := by rw [key, Array.length_toList]
  apply List.ext_getElem?
  intro t
  by_cases ht : t < d.size * k
  · have h1 : t / k < d.toList.length := by rw [Array.length_toList]; exact Nat.div_lt_of_lt_mul (by rw [Nat.mul_comm]; exact ht)
    have h2 := flat_get enc k hk d.toList (i := t / k) (j := t % k) (List.getElem?_eq_getElem h1) (Nat.mod_lt _ hk0)
    rw [Nat.div_add_mod'] at h2
    rw [h2, Array.getElem?_toList, Array.getElem?_eq_getElem (by rw [size_flatK]; exact ht)]
    have h3 := get_flatK enc k d t ht
    rw [getElem!_pos _ _ (by rw [size_flatK]; exact ht)] at h3
    have h4 : d[t / k]! = d.toList[t / k] := by rw [getElem!_pos _ _ (by simpa using h1)]; simp
    rw [h3, h4, getElem!_pos _ _ (by rw [hk]; exact Nat.mod_lt _ hk0), List.getElem?_eq_getElem (by rw [hk]; exact Nat.mod_lt _ hk0)]
  · rw [List.getElem?_eq_none (by rw [Array.length_toList, size_flatK]; omega), List.getElem?_eq_none (by rw [hl]; omega)]

theorem sort_any (L : SlLaysF0.n6 P ρ) (k : Nat) (hk0 : 0 < k) (aE : ∀ w, (isAgg (ρ.t 24)).run P w = .ok true w) (zE : ∀ w, (Go.sizeOf (ρ.t 24)).run P w = .ok k w) (enc : α → List Value) (hk : ∀ x, (enc x).length = k) (h1 : ∀ x, ∀ v ∈ enc x, v.oneCell' = true)
    (cf : α → α → Int) (hO : SWO (ltOf cf)) (g : Nat) (eg : ∀ args w, (callFunc g args).run P w = .ok (.enter g args) w) (hc : CmpOk P g enc cf) (e : TypeId) (A : Option Addr) (cap : Nat) (l : List α) (w : World)
    (ho : OwnS w e k A cap l.length (l.flatMap enc)) (hsz : l.length < 4611686018427387904) :
    Calls P (ρ.f 6) #[.slice A l.length cap, .func (.func g) #[] #[]] w fun e' w' => e' = .returned (.tuple #[]) ∧ ∃ l' : List α, l'.Perm l ∧ l'.Pairwise (fun a b => ltOf cf b a = false) ∧ OwnS w' e k A cap l.length (l'.flatMap enc) ∧ w.grownBy w' (blk A) := by
  by_cases h0 : l = []
  · subst h0
    refine (AnyF.slices_SortFunc_none L A cap _ w).mono fun e' w' ⟨he, hw⟩ => ?_
    subst hw
    exact ⟨he, [], List.Perm.refl _, .nil, ho, ⟨rfl, rfl, rfl, Nat.le_refl _, fun _ _ _ => rfl⟩⟩
  · obtain ⟨gb, off, rfl, hlt, hcells⟩ := ho.head (List.length_pos_iff.2 h0) hk0
    obtain ⟨hol, hoc, hom, hor⟩ := ho
    rcases hor with ⟨hA, _⟩ | ⟨g', off', cur, hA, hh, hcs, hr⟩
    · cases hA
    · injection hA with hA; injection hA with hA1 hA2; subst hA1; subst hA2
      have hF : (flatK enc k l.toArray).toList = l.flatMap enc := flatK_toList enc k hk hk0 l.toArray
      have hsF : (flatK enc k l.toArray).size = l.length * k := by rw [size_flatK]; simp
      have hH : HoldsK enc k w gb off l.toArray := by
        intro j hj
        have hjl : j < (l.flatMap enc).length := by rw [← hF, Array.length_toList]; exact hj
        refine ⟨?_, ?_⟩
        · have h2 := hcells j ((l.flatMap enc)[j]) (List.getElem?_eq_getElem hjl)
          rw [h2, getElem!_pos (flatK enc k l.toArray) j hj]
          simp only [id]
          congr 1
          rw [← Array.getElem_toList]
          simp only [hF]
        · simp [World.frozen?, hh]
      have hcl : CmpLays P g #[] enc k cf gb off l.toArray.size w := fun m os dk _ x y => (hc x y _).mono fun e' w' ⟨he, hb, hd⟩ => ⟨he, grow_of_below hb hd⟩
      have hcon := AnyQ.slices_SortFunc L k aE zE enc hk h1 cf hO g #[] gb off cap l.toArray w eg hcl hH hlt (by simpa using hsz)
      rw [List.size_toArray] at hcon
      refine hcon.mono fun e' w' ⟨he, d', n, os, hp, hs, hw⟩ => ⟨he, d'.toList, ?_, ?_, ?_, ?_⟩
      · have h2 := hp.2.2
        have hds : d'.size = l.length := by rw [hp.1]; simp
        have e1 : d'.extract 0 l.length = d' := by rw [← hds]; simp
        have e2 : l.toArray.extract 0 l.length = l.toArray := by
          have := @Array.extract_size _ l.toArray
          rwa [List.size_toArray] at this
        rw [e1, e2] at h2
        exact h2
      · rw [List.pairwise_iff_getElem]
        intro i j hi hj hij
        have hds : d'.size = l.length := by rw [hp.1]; simp
        have h2 := hs i j (Nat.zero_le _) hij (by rw [← hds]; simpa using hj)
        rw [getElem!_pos _ _ (by simpa using hj), getElem!_pos _ _ (by simpa using hi)] at h2
        simpa using h2
      · have hds : d'.size = l.length := by rw [hp.1]; simp
        have hF' : (flatK enc k d').toList = d'.toList.flatMap enc := flatK_toList enc k hk hk0 d'
        have hsF' : (flatK enc k d').size = l.length * k := by rw [size_flatK, hds]
        have hw2 : w'.heap[gb]? = some (.cells (putCells id off (flatK enc k d') cur) e (0, 0)) := by
          rw [hw]
          unfold sortWorldK putRowK putRow
          rw [heap_grow_old _ _ (by simp [mapBlock]; exact hlt)]
          simp [mapBlock, Array.getElem?_modify, hh, onCells]
        refine ⟨by rw [← hF', Array.length_toList, hsF'], hoc, hom, .inr ⟨gb, off, _, rfl, hw2, by simp [putCells]; exact hcs, ?_⟩⟩
        intro j u hj
        rw [← hF', Array.getElem?_toList] at hj
        have hjl : j < (flatK enc k d').size := (Array.getElem?_eq_some_iff.1 hj).1
        have hjc : off + j < cur.size := by
          have : l.length * k ≤ cap * k := Nat.mul_le_mul_right _ hoc
          omega
        unfold putCells
        rw [Array.getElem?_mapIdx, Array.getElem?_eq_getElem hjc]
        simp only [Option.map_some]
        rw [if_pos ⟨by omega, by omega⟩, Nat.add_sub_cancel_left, getElem!_pos (flatK enc k d') j hjl]
        rw [Array.getElem?_eq_getElem hjl] at hj
        exact hj
      · rw [hw]
        unfold sortWorldK putRowK putRow
        refine ⟨rfl, rfl, rfl, by simp [mapBlock, grow], fun i hi hne => ?_⟩
        rw [heap_grow_old _ _ (by simp [mapBlock]; exact hi)]
        have : gb ≠ i := fun e => hne (by rw [e]; rfl)
        simp [mapBlock, Array.getElem?_modify, this]
end

/-! ### cmp -/
def cmpI (x y : Int) : Int := if x < y then -1 else if y < x then 1 else 0
def cmpS (x y : ByteArray) : Int := if ltStr x.data.toList y.data.toList then -1 else if ltStr y.data.toList x.data.toList then 1 else 0
def orI (x y : Int) : Int := if x = 0 then y else x
theorem cmpI_lt {x y : Int} (h : x < y) : cmpI x y = -1 := by unfold cmpI; rw [if_pos h]
theorem cmpI_gt {x y : Int} (h : y < x) : cmpI x y = 1 := by unfold cmpI; rw [if_neg (by omega), if_pos h]
theorem cmpI_eq (x : Int) : cmpI x x = 0 := by unfold cmpI; rw [if_neg (by omega), if_neg (by omega)]
theorem cmpS_lt {x y : ByteArray} (h : ltStr x.data.toList y.data.toList = true) : cmpS x y = -1 := by unfold cmpS; rw [if_pos h]
theorem cmpS_gt {x y : ByteArray} (h : ltStr x.data.toList y.data.toList = false) (h' : ltStr y.data.toList x.data.toList = true) : cmpS x y = 1 := by unfold cmpS; rw [if_neg (by rw [h]; decide), if_pos h']
theorem cmpS_eq {x y : ByteArray} (h : ltStr x.data.toList y.data.toList = false) (h' : ltStr y.data.toList x.data.toList = false) : cmpS x y = 0 := by unfold cmpS; rw [if_neg (by rw [h]; decide), if_neg (by rw [h']; decide)]
theorem orI_ne {x : Int} (y : Int) (h : x ≠ 0) : orI x y = x := by unfold orI; rw [if_neg h]
theorem orI_eq {x : Int} (y : Int) (h : x = 0) : orI x y = y := by unfold orI; rw [if_pos h]
theorem isnan_int (x : Int) (w : World) : Calls Tryd.prog 133 #[.int .i64 x] w fun e w' => e = .returned (.bool false) ∧ w = w' := by
  go_enter Tryd.func133, Tryd.ntmps133
  go_wp2
  go_ret
  exact ⟨by simp, rfl⟩
theorem isnan_str (x : ByteArray) (w : World) : Calls Tryd.prog 108 #[.string x] w fun e w' => e = .returned (.bool false) ∧ w = w' := by
  go_enter Tryd.func108, Tryd.ntmps108
  go_wp2
  go_ret
  exact ⟨by simp, rfl⟩
theorem ltStr_of (x y : ByteArray) : Op.bytesLess x.toList y.toList = ltStr x.data.toList y.data.toList := by rw [bytesLess_eq, Lib.toList_data, Lib.toList_data]; rfl
end Go.Proofs.YthobnigjhedjaaaDoor
