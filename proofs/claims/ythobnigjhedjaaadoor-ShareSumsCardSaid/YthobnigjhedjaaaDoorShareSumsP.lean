/-
  Plain bits for the statement ShareSums. No condition: plain lemmas.
-/
import Derived.Test.YthobnigjhedjaaaDoorShareKeep
namespace Go.Proofs.YthobnigjhedjaaaDoor
open Go.RowKit
set_option linter.unusedVariables false

abbrev aS : ByteArray := ⟨#[97]⟩
theorem named_aS : namedB aS = true := by decide +kernel
theorem take_first : takeE [] 3 [aS, aS] = none := by
  unfold takeE
  rw [if_neg (by decide), show khas ([] : PMapS) 3 = false from rfl]
  simp only [Bool.false_eq_true, ↓reduceIte]
  rw [if_neg (by simp)]
  have : allNamed [aS, aS] = true := by simp [allNamed, named_aS]
  rw [this]; rfl
theorem cget_nil (x : ByteArray) : cget [] x = 0 := rfl
theorem count_first : cget (incs [] (shRow [aS, aS])) aS = 1 := by
  unfold cget
  rw [incs_get _ _ _ (shRow_nodup _), if_pos ((shRow_mem _ _).2 (by simp))]
  rfl
theorem inv_first : ShInv (pl []) [] := ShInv.nil
/-- What the sharing's own loop keeps. -/
structure TakeSt (w0 : World) (g bp bc : Nat) (i : Nat) (t : Int) (W : World) (P : PMapS) (C : CMap) : Prop where
  at_ : ShAt W g bp bc P C
  inv : ShInv (pl P) C
  keys : ∀ k ∈ kkeys P, 0 ≤ k ∧ k < i
  len : P.length ≤ i
  tot : t = ksum C
  small : 0 ≤ t ∧ t ≤ i * 400
  bel : Below w0.heap.size w0 W
theorem TakeSt.cnt {w0 : World} {g bp bc : Nat} {i : Nat} {t : Int} {W : World} {P : PMapS} {C : CMap} (h : TakeSt w0 g bp bc i t W P C) (hi : i ≤ 30) : ∀ x, 0 ≤ cget C x ∧ cget C x ≤ 1000000 := fun x => by
  have h1 := h.inv.le x
  have h2 := h.len
  rw [pl_length] at h1
  omega
theorem TakeSt.no {w0 : World} {g bp bc : Nat} {i : Nat} {t : Int} {W W' : World} {P : PMapS} {C : CMap} (h : TakeSt w0 g bp bc i t W P C) (hb : Below W.heap.size W W') : TakeSt w0 g bp bc (i + 1) t W' P C :=
  ⟨h.at_.below hb, h.inv, fun k hk => by have := h.keys k hk; omega, Nat.le_succ_of_le h.len, h.tot, by have := h.small; omega, h.bel.trans (hb.mono h.bel.size)⟩
theorem TakeSt.new {w0 : World} {g bp bc : Nat} {i : Nat} {t : Int} {W : World} {P : PMapS} {C : CMap} (h : TakeSt w0 g bp bc i t W P C) : (i : Int) ∉ kkeys P := fun hk => by
  have := h.keys _ hk; omega
theorem shF_ge {w0 : World} {bp bc : Nat} (h1 : w0.heap.size ≤ bp) (h2 : w0.heap.size ≤ bc) : ∀ k, shF bp bc k → w0.heap.size ≤ k := fun k hk => by
  rcases hk with rfl | rfl <;> omega
theorem Below.frmOn {w0 W W' : World} {F : Nat → Prop} (h : Below w0.heap.size w0 W) (hf : Frm F W W') (hF : ∀ k, F k → w0.heap.size ≤ k) : Below w0.heap.size w0 W' :=
  ⟨hf.os.trans h.os, hf.tape.trans h.tape, hf.output.trans h.output, Nat.le_trans h.size hf.size, fun k hk => (hf.block k (Nat.lt_of_lt_of_le hk h.size) fun hq => Nat.lt_irrefl _ (Nat.lt_of_lt_of_le hk (hF k hq))).trans (h.block k hk)⟩
theorem TakeSt.yes {w0 : World} {g bp bc : Nat} {i : Nat} {t : Int} {W W' : World} {P : PMapS} {C : CMap} (h : TakeSt w0 g bp bc i t W P C) (h1 : w0.heap.size ≤ bp) (h2 : w0.heap.size ≤ bc) {l : List ByteArray} (hl : l.length ≤ 400) {r : RowS} (hr : r.xs = shRow l)
    (hs : ShAt W' g bp bc (kset P (i : Int) r) (incs C (shRow l))) (hf : Frm (shF bp bc) W W') : TakeSt w0 g bp bc (i + 1) (t + firsts l l.length) W' (kset P (i : Int) r) (incs C (shRow l)) := by
  refine ⟨hs, ?_, fun k hk => ?_, ?_, ?_, ?_, Below.frmOn h.bel hf (shF_ge h1 h2)⟩
  · unfold pl
    rw [kmap_set, hr]
    exact h.inv.take (by rw [pl_keys]; exact h.new) (shRow_nodup l)
  · rcases (kkeys_kset _ _ _ _).1 hk with rfl | hk
    · omega
    · have := h.keys k hk; omega
  · exact Nat.le_trans (kset_length _ _ _) (by have := h.len; omega)
  · rw [ksum_incs, ← h.tot, firsts_row]
  · have := firsts_le l l.length
    have := h.small
    omega
theorem TakeSt.drewN {w0 : World} {g bp bc : Nat} {i : Nat} {t : Int} {W : World} {P : PMapS} {C : CMap} (h : TakeSt w0 g bp bc i t W P C) (q : Nat) : TakeSt w0 g bp bc i t (W.drewN q) P C :=
  ⟨h.at_.keep fun _ _ => rfl, h.inv, h.keys, h.len, h.tot, h.small, bdrewN h.bel q⟩
theorem take_sum_le : ∀ (l : List Int) (i : Nat), (∀ x ∈ l, 0 ≤ x) → 0 ≤ (l.take i).sum ∧ (l.take i).sum ≤ l.sum
  | [], i, _ => by simp
  | x :: l, 0, h => by
    have h1 := take_sum_le l 0 fun y hy => h y (List.mem_cons_of_mem _ hy)
    have h2 := h x List.mem_cons_self
    simp at h1 ⊢
    omega
  | x :: l, i + 1, h => by
    have h1 := take_sum_le l i fun y hy => h y (List.mem_cons_of_mem _ hy)
    have h2 := h x List.mem_cons_self
    simp
    omega
theorem sum_take_succ (l : List Int) (i : Nat) (hi : i < l.length) : (l.take (i + 1)).sum = (l.take i).sum + l[i] := by
  rw [List.take_succ_eq_append_getElem hi, List.sum_append]; simp
/-- Every second one. -/
def evs (l : List Int) : Nat → List Int
  | 0 => []
  | j + 1 => evs l j ++ (if h : 2 * j < l.length then [l[2 * j]] else [])
theorem evs_length (l : List Int) : ∀ j, 2 * j ≤ l.length + 1 → (evs l j).length = j
  | 0, _ => rfl
  | j + 1, h => by
    have := evs_length l j (by omega)
    simp only [evs]
    rw [dif_pos (by omega), List.length_append, this]; rfl
theorem evs_mem (l : List Int) : ∀ j x, x ∈ evs l j → ∃ t, ∃ h : 2 * t < l.length, t < j ∧ x = l[2 * t]
  | 0, x, h => by simp [evs] at h
  | j + 1, x, h => by
    simp only [evs] at h
    rcases List.mem_append.1 h with h | h
    · obtain ⟨t, h1, h2, h3⟩ := evs_mem l j x h
      exact ⟨t, h1, by omega, h3⟩
    · split at h
      · exact ⟨j, by assumption, by omega, List.mem_singleton.1 h⟩
      · cases h
theorem evs_new {l : List Int} (hn : l.Nodup) {j : Nat} (hj : 2 * j < l.length) : l[2 * j] ∉ evs l j := fun h => by
  obtain ⟨t, h1, h2, h3⟩ := evs_mem l j _ h
  have := (List.getElem_inj hn).1 h3
  omega
theorem evs_succ {l : List Int} {j : Nat} (hj : 2 * j < l.length) : evs l (j + 1) = evs l j ++ [l[2 * j]] := by
  simp only [evs]; rw [dif_pos hj]
theorem ksum_ge : ∀ (C : CMap), (∀ p ∈ C, 1 ≤ p.2) → (C.length : Int) ≤ ksum C
  | [], _ => by simp [ksum]
  | p :: C, h => by
    have h1 := ksum_ge C fun q hq => h q (List.mem_cons_of_mem _ hq)
    have h2 := h p List.mem_cons_self
    unfold ksum at h1 ⊢
    simp
    omega
theorem TakeSt.vals {w0 : World} {g bp bc : Nat} {i : Nat} {t : Int} {W : World} {P : PMapS} {C : CMap} (h : TakeSt w0 g bp bc i t W P C) : ∀ p ∈ C, 1 ≤ p.2 := fun p hp => by
  have h1 := h.inv.pos (f := p.1) (List.mem_map.2 ⟨p, hp, rfl⟩)
  unfold cget at h1
  rw [mem_kget h.at_.counts.nodup (show (p.1, p.2) ∈ C from hp)] at h1
  exact h1
theorem TakeSt.many {w0 : World} {g bp bc : Nat} {i : Nat} {t : Int} {W : World} {P : PMapS} {C : CMap} (h : TakeSt w0 g bp bc i t W P C) (hi : i ≤ 30) : C.length ≤ 12000 := by
  have h1 := ksum_ge C h.vals
  have h2 := h.small
  have h3 := h.tot
  omega
theorem TakeSt.sums {w0 : World} {g bp bc : Nat} {i : Nat} {t : Int} {W : World} {P : PMapS} {C : CMap} (h : TakeSt w0 g bp bc i t W P C) {ls : List ByteArray} (hl : ls.Perm (kkeys C)) : (ls.map (cget C)).sum = t ∧ ∀ x ∈ ls.map (cget C), 1 ≤ x := by
  refine ⟨by rw [h.tot]; exact ksum_perm h.at_.counts.nodup hl, fun x hx => ?_⟩
  obtain ⟨f, hf, rfl⟩ := List.mem_map.1 hx
  exact h.inv.pos (hl.mem_iff.1 hf)
theorem TakeSt.drop {w0 : World} {g bp bc : Nat} {i : Nat} {t : Int} {W W' : World} {P : PMapS} {C : CMap} (h : TakeSt w0 g bp bc i t W P C) (hb : Below W.heap.size W W') : DropSt W g bp bc P [] W' P C :=
  ⟨h.at_.below hb, h.inv, fun x => by simp, by simp, Frm.ofBelow hb⟩
end Go.Proofs.YthobnigjhedjaaaDoor
