/-
  Package share: Live, Pictures. Conditions: fewer than 10^12 keys.
-/
import Derived.Test.YthobnigjhedjaaaDoorShareDrop
import Derived.Shelf.SlIter.Nil
import Derived.Shelf.SlIterI.Nil
import Derived.Shelf.AbstractIn
namespace Go.Proofs.YthobnigjhedjaaaDoor
open Go.RowKit Go.Shelf Go.Maps Go.Sort
set_option linter.unusedVariables false

theorem sorts_in (m : Nat) : AnyZ.SortsIn Tryd.prog Tryd.sorted_ren Fence.wide m :=
  ⟨fun blk off cap ss W hH hblk hsz => callsIn_wide.2 (AnyM.slices_Sort_string Tryd.sorts blk off cap ss W hH hblk hsz),
   fun p cap W => callsIn_wide.2 (AnyM.slices_Sort_string_none Tryd.sorts p cap W)⟩
theorem sortsI_in (m : Nat) : AnyZI.SortsIn Tryd.prog Tryd.sortedi_ren Fence.wide m :=
  ⟨fun blk off cap ss W hH hblk hsz => callsIn_wide.2 (AnyM.slices_Sort_int Tryd.sorti blk off cap ss W hH hblk hsz),
   fun p cap W => callsIn_wide.2 (AnyM.slices_Sort_int_none Tryd.sorti p cap W)⟩
set_option maxRecDepth 100000 in
set_option maxHeartbeats 2000000 in
theorem live_raw (g bp bc : Nat) (P : PMapS) (C : CMap) (w : World) (S : ShAt w g bp bc P C) (hn : C.length ≤ 1000000000000) :
    Calls Tryd.prog 9 #[.pointer (some ⟨g, 0, none⟩)] w fun e w' => ∃ (v : Value) (ss : List (List UInt8)), e = .returned v ∧ ss.Perm ((kkeys C).map tlS) ∧
      w'.ownsRow w.heap.size 9 1 v ss.length ((ss.mergeSort (fun x y => decide (x ≤ y))).map encStr) ∧ Go.RowKit.Below w.heap.size w w' := by
  refine (callsIn_wide (n := 6)).1 ?_
  obtain ⟨D0, hown, hperm⟩ := SMapAt.owns (H := Nat) (P := Tryd.prog) S.counts Tryd.underlying9 (by rw [kmap_length]; unfold maxLen; omega)
  have hkk : skeys (kmap numV C) = kkeys C := kmap_keys numV C
  rw [hkk] at hperm
  rw [kmap_length] at hown
  obtain ⟨_, c1⟩ := S.cells
  have hbl := hown.lt
  have hseq : SeqGives Fence.wide 2 Tryd.prog 44 #[.pointer (some ⟨w.heap.size, 0, none⟩)] encStr (fun ss => ss.Perm (strKeys D0)) (Maps.size D0) (w.alloc (.cells #[.map (some bc)] 47)) :=
    AnyZ.keys_gives (ρ := Tryd.keysc_ren) { Tryd.keysc with } Fence.wide _ trivial rfl (by omega) w.heap.size bc C.length D0 _ (by simp) (by simp) (by
      obtain ⟨es, clock, hb, Ft, hs, hD⟩ := hown
      exact ⟨es, clock, (Below.heap_alloc _ _ bc hbl).trans hb, Ft, hs, hD⟩)
  have cK : ∀ mb W, CallsIn Fence.wide 5 Tryd.prog 26 #[.map mb] W fun e w' => e = .returned (.func (.func 44) #[] #[.pointer (some ⟨W.heap.size, 0, none⟩)]) ∧ w' = W.alloc (.cells #[.map mb] 47) := fun mb W => AnyZ.keys_in Tryd.keysc Fence.wide 5 trivial rfl mb W
  have hsz : Maps.size D0 = C.length := by
    have e1 : Maps.size D0 = (strKeys D0).length := by cases D0 <;> simp [Maps.size, strKeys]
    rw [e1, hperm.length_eq]; simp [kkeys]
  have hmax : Maps.size D0 ≤ maxLen := by rw [hsz]; unfold maxLen; omega
  have hbytes : Maps.size D0 * 16 ≤ 140737488355328 := by rw [hsz]; omega
  have cS := AnyZ.sorted_in Tryd.sorted Fence.wide 5 trivial trivial trivial trivial rfl (by omega) (sorts_in _) (enters_of Tryd.func23 (by kernel_rfl) rfl) 44 #[.pointer (some ⟨w.heap.size, 0, none⟩)] trivial (enters_of Tryd.func44 (by kernel_rfl) rfl) _ _ hmax hbytes _ hseq
  change CallsIn _ _ Tryd.prog 25 _ _ _ at cS
  have hfK : Fence.wide.fn 26 := trivial
  have hfS : Fence.wide.fn 25 := trivial
  clear S
  refine callsIn_of_wp Tryd.func9 rfl trivial ?_ rfl
  simp only [Tryd.ntmps9, List.size_toArray, List.length_cons, List.length_nil, Nat.reduceAdd, Nat.reduceSub, Array.replicate_succ, Array.replicate_zero, List.push_toArray, List.append_toArray, List.nil_append, List.cons_append]
  gi_wp2_with (first
    | (gi_at_call 26; refine (cK _ _).mono ?_; rintro e w' ⟨rfl, rfl⟩)
    | (gi_at_call 25; refine cS.mono ?_; rintro e w' ⟨v, ss, rfl, hS, hrow, hnil, hb⟩))
  go_ret
  exact ⟨v, ss, rfl, hS.trans hperm, ownsRow_base_a hrow (by simp), ((Go.RowKit.Below.refl _ w).alloc (Nat.le_refl _) _).trans (hb.mono (by simp))⟩
def strsS (ss : List (List UInt8)) : List ByteArray := (ss.mergeSort (fun x y => decide (x ≤ y))).map btS
theorem strsS_perm {l : List ByteArray} {ss : List (List UInt8)} (h : ss.Perm (l.map tlS)) : (strsS ss).Perm l := by
  unfold strsS
  have h2 := (List.mergeSort_perm ss (fun x y => decide (x ≤ y))).trans h
  have h3 := h2.map btS
  rw [List.map_map] at h3
  have e : (btS ∘ tlS) = id := by funext s; exact btS_tl s
  rw [e, List.map_id] at h3
  exact h3
theorem cat_key_le {w : World} {b : Nat} {C : CMap} (h : CAt w b C) {k : ByteArray} (hk : k ∈ kkeys C) : k.size ≤ maxLen := by
  have e : skeys (kmap numV C) = kkeys C := kmap_keys numV C
  exact SMapAt.key_le h (by rw [e]; exact hk)
theorem live_ok (g bp bc : Nat) (P : PMapS) (C : CMap) (w : World) (S : ShAt w g bp bc P C) (hn : C.length ≤ 1000000000000) :
    Calls Tryd.prog 9 #[.pointer (some ⟨g, 0, none⟩)] w fun e w' => ∃ A' c' l, e = .returned (.slice A' l.length c') ∧ SlA strE (fun k => StrRow w' k ∧ w.heap.size ≤ k) w' A' c' l ∧ l.Perm (kkeys C) ∧ Go.RowKit.Below w.heap.size w w' := by
  refine (live_raw g bp bc P C w S hn).mono ?_
  rintro e w' ⟨v, ss, rfl, hp, hrow, hb⟩
  obtain ⟨A', c', rfl, hown, hA⟩ := OwnS.of_row hrow
  have hl : (strsS ss).length = ss.length := by simp [strsS]
  have hpm := strsS_perm hp
  refine ⟨A', c', strsS ss, by rw [hl], ?_, hpm, hb⟩
  have e1 : (ss.mergeSort (fun x y => decide (x ≤ y))).map encStr = (strsS ss).flatMap strC := by
    unfold strsS
    rw [List.flatMap_map]
    induction ss.mergeSort (fun x y => decide (x ≤ y)) with
    | nil => rfl
    | cons x r ih => simp [ih, encStr, btS, strC]
  rw [e1] at hown
  have hq : ∀ k, blk A' = some k → StrRow w' k := fun k hk => by
    obtain ⟨_, _, _, h4⟩ := hown
    rcases h4 with ⟨rfl, _⟩ | ⟨g', off, cur, rfl, hh, _⟩
    · cases hk
    · injection hk with hk; subst hk; exact ⟨_, _, hh⟩
  exact OwnS.sl (E := strE) strC (fun _ => rfl) hown hl.symm (fun k e => ⟨hq k e, hA k e⟩) (fun x hx => ⟨rfl, cat_key_le S.counts (hpm.mem_iff.1 hx)⟩)
set_option maxRecDepth 100000 in
set_option maxHeartbeats 2000000 in
theorem pics_raw (g bp bc : Nat) (P : PMapS) (C : CMap) (w : World) (S : ShAt w g bp bc P C) (hn : P.length ≤ 1000000000000) :
    Calls Tryd.prog 10 #[.pointer (some ⟨g, 0, none⟩)] w fun e w' => ∃ (v : Value) (ss : List Int), e = .returned v ∧ ss.Perm (kkeys P) ∧
      w'.ownsRow w.heap.size 3 1 v ss.length ((ss.mergeSort (fun x y => decide (x ≤ y))).map encZ) ∧ Go.RowKit.Below w.heap.size w w' := by
  refine (callsIn_wide (n := 6)).1 ?_
  obtain ⟨D0, hown, hperm⟩ := IMapAt.owns (H := Nat) (P := Tryd.prog) S.pics Tryd.underlying3 (by rw [kmap_length]; unfold maxLen; omega)
  rw [kmap_keys] at hperm
  rw [kmap_length] at hown
  obtain ⟨c0, _⟩ := S.cells
  have hbl := hown.lt
  have hseq : SeqGives Fence.wide 2 Tryd.prog 47 #[.pointer (some ⟨w.heap.size, 0, none⟩)] encZ (fun ss => ss.Perm (intKeys D0)) (Maps.size D0) (w.alloc (.cells #[.map (some bp)] 46)) :=
    AnyZI.keys_gives (ρ := Tryd.keysp_ren) { Tryd.keysp with } Fence.wide _ trivial rfl (by omega) w.heap.size bp P.length D0 _ (by simp) (by simp) (by
      obtain ⟨es, clock, hb, Ft, hs, hD⟩ := hown
      exact ⟨es, clock, (Below.heap_alloc _ _ bp hbl).trans hb, Ft, hs, hD⟩)
  have cK : ∀ mb W, CallsIn Fence.wide 5 Tryd.prog 28 #[.map mb] W fun e w' => e = .returned (.func (.func 47) #[] #[.pointer (some ⟨W.heap.size, 0, none⟩)]) ∧ w' = W.alloc (.cells #[.map mb] 46) := fun mb W => AnyZI.keys_in Tryd.keysp Fence.wide 5 trivial rfl mb W
  have hsz : Maps.size D0 = P.length := by
    have e1 : Maps.size D0 = (intKeys D0).length := by cases D0 <;> simp [Maps.size, intKeys]
    rw [e1, hperm.length_eq]; simp [kkeys]
  have hmax : Maps.size D0 ≤ maxLen := by rw [hsz]; unfold maxLen; omega
  have hbytes : Maps.size D0 * 8 ≤ 140737488355328 := by rw [hsz]; omega
  have cS := AnyZI.sorted_in Tryd.sortedi Fence.wide 5 trivial trivial trivial trivial rfl (by omega) (sortsI_in _) (enters_of Tryd.func46 (by kernel_rfl) rfl) 47 #[.pointer (some ⟨w.heap.size, 0, none⟩)] trivial (enters_of Tryd.func47 (by kernel_rfl) rfl) _ _ hmax hbytes _ hseq
  change CallsIn _ _ Tryd.prog 27 _ _ _ at cS
  have hfK : Fence.wide.fn 28 := trivial
  have hfS : Fence.wide.fn 27 := trivial
  clear S
  refine callsIn_of_wp Tryd.func10 rfl trivial ?_ rfl
  simp only [Tryd.ntmps10, List.size_toArray, List.length_cons, List.length_nil, Nat.reduceAdd, Nat.reduceSub, Array.replicate_succ, Array.replicate_zero, List.push_toArray, List.append_toArray, List.nil_append, List.cons_append]
  gi_wp2_with (first
    | (gi_at_call 28; refine (cK _ _).mono ?_; rintro e w' ⟨rfl, rfl⟩)
    | (gi_at_call 27; refine cS.mono ?_; rintro e w' ⟨v, ss, rfl, hS, hrow, hnil, hb⟩))
  go_ret
  exact ⟨v, ss, rfl, hS.trans hperm, ownsRow_base_a hrow (by simp), ((Go.RowKit.Below.refl _ w).alloc (Nat.le_refl _) _).trans (hb.mono (by simp))⟩
def intC (n : Int) : List Value := [.int .i64 n]
/-- A block of numbers. -/
def IntRow (w : World) (k : Nat) : Prop := ∃ cs fr, w.heap[k]? = some (.cells cs 3 fr)
theorem pictures_ok (g bp bc : Nat) (P : PMapS) (C : CMap) (w : World) (S : ShAt w g bp bc P C) (hn : P.length ≤ 1000000000000) :
    Calls Tryd.prog 10 #[.pointer (some ⟨g, 0, none⟩)] w fun e w' => ∃ A' c' l, e = .returned (.slice A' l.length c') ∧ SlA (intE .i64) (fun k => IntRow w' k ∧ w.heap.size ≤ k) w' A' c' l ∧ l.Perm (kkeys P) ∧ Go.RowKit.Below w.heap.size w w' := by
  refine (pics_raw g bp bc P C w S hn).mono ?_
  rintro e w' ⟨v, ss, rfl, hp, hrow, hb⟩
  obtain ⟨A', c', rfl, hown, hA⟩ := OwnS.of_row hrow
  obtain ⟨ks, hks⟩ : ∃ ks, ks = ss.mergeSort (fun x y => decide (x ≤ y)) := ⟨_, rfl⟩
  have hpm : ks.Perm (kkeys P) := by rw [hks]; exact (List.mergeSort_perm _ _).trans hp
  have hl : ks.length = ss.length := by rw [hks]; simp
  refine ⟨A', c', ks, by rw [hl], ?_, hpm, hb⟩
  rw [← hks] at hown
  have e1 : ks.map encZ = ks.flatMap intC := by
    clear hks hpm hl hown
    induction ks with
    | nil => rfl
    | cons x r ih => simp [ih, encZ, intC]
  rw [e1] at hown
  have hq : ∀ k, blk A' = some k → IntRow w' k := fun k hk => by
    obtain ⟨_, _, _, h4⟩ := hown
    rcases h4 with ⟨rfl, _⟩ | ⟨g', off, cur, rfl, hh, _⟩
    · cases hk
    · injection hk with hk; subst hk; exact ⟨_, _, hh⟩
  exact OwnS.sl (E := intE .i64) intC (fun _ => rfl) hown hl.symm (fun k e => ⟨hq k e, hA k e⟩) (fun x hx => ⟨rfl, S.pics.key (by rw [kmap_keys]; exact hpm.mem_iff.1 hx)⟩)
end Go.Proofs.YthobnigjhedjaaaDoor
