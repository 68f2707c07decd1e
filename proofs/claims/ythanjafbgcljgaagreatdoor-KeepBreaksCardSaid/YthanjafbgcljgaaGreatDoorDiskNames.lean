/-
  Package disk: the contract of Names. Condition: at most 10^12 files.
-/
import Derived.Test.YthanjafbgcljgaaGreatDoorDiskUse
import Derived.Shelf.SlIter.Nil
import Derived.Shelf.SortM.Plain
import Derived.Shelf.SortM.SortNone
namespace Go.Proofs.YthanjafbgcljgaaGreatDoor
open Go.RowKit Go.Shelf Go.Maps Go.Sort
set_option linter.unusedVariables false

theorem sorts_in (m : Nat) : AnyZ.SortsIn Tryz.prog Tryz.sorted_ren Fence.wide m :=
  ⟨fun blk off cap ss W hH hblk hsz => callsIn_wide.2 (AnyM.slices_Sort_string Tryz.sorts blk off cap ss W hH hblk hsz),
   fun p cap W => callsIn_wide.2 (AnyM.slices_Sort_string_none Tryz.sorts p cap W)⟩
set_option maxRecDepth 100000 in
set_option maxHeartbeats 2000000 in
theorem names_raw (g bn bs c : Nat) (A : Option Addr) (vs : List Value) (S : DState) (w : World) (D : DiskAt w g bn bs A c vs S) (hn : S.now.length ≤ 1000000000000) :
    Calls Tryz.prog 20 #[.pointer (some ⟨g, 0, none⟩)] w fun e w' => ∃ (v : Value) (ss : List (List UInt8)), e = .returned v ∧ ss.Perm ((skeys S.now).map fun s => s.data.toList) ∧
      w'.ownsRow w.heap.size 9 1 v ss.length ((ss.mergeSort (fun x y => decide (x ≤ y))).map encStr) ∧ Go.RowKit.Below w.heap.size w w' := by
  refine (callsIn_wide (n := 6)).1 ?_
  obtain ⟨D0, hown, hperm⟩ := D.now.owns (H := Nat) (P := Tryz.prog) Tryz.underlying9 (by unfold maxLen; omega)
  obtain ⟨c0, _⟩ := D.cells
  have hbl := hown.lt
  have hseq : SeqGives Fence.wide 2 Tryz.prog 56 #[.pointer (some ⟨w.heap.size, 0, none⟩)] encStr (fun ss => ss.Perm (strKeys D0)) (Maps.size D0) (w.alloc (.cells #[.map (some bn)] 40)) :=
    AnyZ.keys_gives (ρ := Tryz.mkeys_ren) { Tryz.mkeys with } Fence.wide _ trivial rfl (by omega) w.heap.size bn S.now.length D0 _ (by simp) (by simp) (by
      obtain ⟨es, clock, hb, Ft, hs, hD⟩ := hown
      exact ⟨es, clock, (Below.heap_alloc _ _ bn hbl).trans hb, Ft, hs, hD⟩)
  have cK : ∀ mb W, CallsIn Fence.wide 5 Tryz.prog 40 #[.map mb] W fun e w' => e = .returned (.func (.func 56) #[] #[.pointer (some ⟨W.heap.size, 0, none⟩)]) ∧ w' = W.alloc (.cells #[.map mb] 40) := fun mb W => AnyZ.keys_in Tryz.mkeys Fence.wide 5 trivial rfl mb W
  have hsz : Maps.size D0 = S.now.length := by
    have e1 : Maps.size D0 = (strKeys D0).length := by cases D0 <;> simp [Maps.size, strKeys]
    rw [e1, hperm.length_eq]; simp [skeys]
  have hmax : Maps.size D0 ≤ maxLen := by rw [hsz]; unfold maxLen; omega
  have hbytes : Maps.size D0 * 16 ≤ 140737488355328 := by rw [hsz]; omega
  have cS := AnyZ.sorted_in Tryz.sorted Fence.wide 5 trivial trivial trivial trivial rfl (by omega) (sorts_in _) (enters_of Tryz.func55 (by kernel_rfl) rfl) 56 #[.pointer (some ⟨w.heap.size, 0, none⟩)] trivial (enters_of Tryz.func56 (by kernel_rfl) rfl) _ _ hmax hbytes _ hseq
  change CallsIn _ _ Tryz.prog 39 _ _ _ at cS
  have hfK : Fence.wide.fn 40 := trivial
  have hfS : Fence.wide.fn 39 := trivial
  refine callsIn_of_wp Tryz.func20 rfl trivial ?_ rfl
  simp only [Tryz.ntmps20, List.size_toArray, List.length_cons, List.length_nil, Nat.reduceAdd, Nat.reduceSub, Array.replicate_succ, Array.replicate_zero, List.push_toArray, List.append_toArray, List.nil_append, List.cons_append]
  gi_wp2_with (first
    | (gi_at_call 40; refine (cK _ _).mono ?_; rintro e w' ⟨rfl, rfl⟩)
    | (gi_at_call 39; refine cS.mono ?_; rintro e w' ⟨v, ss, rfl, hS, hrow, hnil, hb⟩))
  go_ret
  exact ⟨v, ss, rfl, hS.trans hperm, ownsRow_base_a hrow (by simp), ((Go.RowKit.Below.refl _ w).alloc (Nat.le_refl _) _).trans (hb.mono (by simp))⟩

def bstr (l : List UInt8) : ByteArray := ⟨l.toArray⟩
def strsOf (ss : List (List UInt8)) : List ByteArray := (ss.mergeSort (fun x y => decide (x ≤ y))).map bstr
theorem names_perm {fs : SMap} {ss : List (List UInt8)} (h : ss.Perm ((skeys fs).map fun s => s.data.toList)) : (strsOf ss).Perm (skeys fs) := by
  unfold strsOf
  have h2 := (List.mergeSort_perm ss (fun x y => decide (x ≤ y))).trans h
  have h3 := h2.map bstr
  rw [List.map_map] at h3
  have e : (bstr ∘ fun s : ByteArray => s.data.toList) = id := by funext s; simp [bstr]
  rw [e, List.map_id] at h3
  exact h3
theorem own_quiet_str {w : World} {A : Option Addr} {cap n : Nat} {xs : List Value} (h : OwnS w 9 1 A cap n xs) {k : Nat} (hk : blk A = some k) : Quiet w k := by
  obtain ⟨cur, hc⟩ := h.tag hk
  exact ⟨_, _, _, hc, by decide, by decide⟩
theorem names_ok (g bn bs c : Nat) (A : Option Addr) (vs : List Value) (S : DState) (w : World) (D : DiskAt w g bn bs A c vs S) (hn : S.now.length ≤ 1000000000000) :
    Calls Tryz.prog 20 #[.pointer (some ⟨g, 0, none⟩)] w fun e w' => ∃ A' c' l, e = .returned (.slice A' l.length c') ∧ SlA strE (Quiet w') w' A' c' l ∧ l.Perm (skeys S.now) ∧ Go.RowKit.Below w.heap.size w w' := by
  refine (names_raw g bn bs c A vs S w D hn).mono ?_
  rintro e w' ⟨v, ss, rfl, hp, hrow, hb⟩
  obtain ⟨A', c', rfl, hown, hA⟩ := OwnS.of_row hrow
  have hl : (strsOf ss).length = ss.length := by simp [strsOf]
  have hpm := names_perm hp
  refine ⟨A', c', strsOf ss, by rw [hl], ?_, hpm, hb⟩
  have e1 : (ss.mergeSort (fun x y => decide (x ≤ y))).map encStr = (strsOf ss).flatMap fun s => [.string s] := by
    unfold strsOf
    rw [List.flatMap_map]
    induction ss.mergeSort (fun x y => decide (x ≤ y)) with
    | nil => rfl
    | cons x r ih => simp [ih, encStr, bstr]
  rw [e1] at hown
  refine OwnS.sl (E := strE) (fun s => [.string s]) (fun _ => rfl) hown hl.symm (fun k e => own_quiet_str hown e) (fun x hx => ⟨rfl, ?_⟩)
  exact D.now.key_le (hpm.mem_iff.1 hx)
end Go.Proofs.YthanjafbgcljgaaGreatDoor
