/-
  Package audit, plain: right lines; lines of which the last numbers of one key are missing; their keys, put together, sorted, each once. No condition: plain definitions and lemmas.
-/
import Derived.Test.YthpgkcfkpglkdaaPMap
import Derived.Test.YthpgkcfkpglkdaaElts
import Derived.Test.YthpgkcfkpglkdaaPfx
import Derived.Lib.SlicesCompact
namespace Go.Proofs.Ythpgkcfkpglkdaa
open Go.RowKit
set_option linter.unusedVariables false

structure AOk (l : List Lin) : Prop where
  len : l.length ≤ 400
  nums : ∀ x ∈ l, 1 ≤ x.nums.length ∧ x.nums.length ≤ 400
  keys : (l.map (·.key)).Pairwise kLess
theorem AOk.nil : AOk [] := ⟨Nat.zero_le _, nofun, .nil⟩
theorem AOk.at_ {l : List Lin} (h : AOk l) {i j : Nat} (hj : j < l.length) (hij : i < j) : kLess l[i].key l[j].key := by
  have h1 := List.pairwise_iff_getElem.1 h.keys i j (by rw [List.length_map]; omega) (by rw [List.length_map]; exact hj) hij
  rw [List.getElem_map, List.getElem_map] at h1
  exact h1
theorem AOk.inj {l : List Lin} (h : AOk l) {i j : Nat} (hi : i < l.length) (hj : j < l.length) (e : l[i].key = l[j].key) : i = j := by
  rcases Nat.lt_trichotomy i j with h1 | h1 | h1
  · exact absurd e (kLess_ne (h.at_ hj h1))
  · exact h1
  · exact absurd e.symm (kLess_ne (h.at_ hi h1))
/-- How many numbers. -/
def cntL (l : List Lin) : Nat := (l.map fun x => x.nums.length).sum
theorem cntL_take {l : List Lin} {i : Nat} (hi : i < l.length) : cntL (l.take (i + 1)) = cntL (l.take i) + l[i].nums.length := by
  unfold cntL
  rw [List.take_succ_eq_append_getElem hi, List.map_append, List.sum_append]
  simp
theorem cntL_le {l : List Lin} (h : AOk l) : ∀ i, cntL (l.take i) ≤ 400 * i := by
  intro i
  induction i with
  | zero => simp [cntL]
  | succ i ih =>
    rcases Nat.lt_or_ge i l.length with hi | hi
    · rw [cntL_take hi]
      have := (h.nums l[i] (List.getElem_mem hi)).2
      omega
    · rw [List.take_of_length_le (by omega)]
      rw [List.take_of_length_le hi] at ih
      omega

/-! ### The last numbers of one key are missing -/
def cutX (many : Nat) (x : Lin) : Lin := ⟨x.key, x.nums.take (x.nums.length - many)⟩
def cutL (l : List Lin) (at_ many : Nat) : List Lin := l.modify at_ (cutX many)
theorem cutL_len (l : List Lin) (at_ many : Nat) : (cutL l at_ many).length = l.length := List.length_modify _ _ _
theorem cutL_get (l : List Lin) (at_ many : Nat) {i : Nat} (hi : i < l.length) : (cutL l at_ many)[i]? = some (if at_ = i then cutX many l[i] else l[i]) := by
  unfold cutL
  rw [List.getElem?_modify, List.getElem?_eq_getElem hi]; rfl
theorem cutL_keys (l : List Lin) (at_ many : Nat) : (cutL l at_ many).map (·.key) = l.map (·.key) := by
  refine List.ext_getElem? fun i => ?_
  rw [List.getElem?_map, List.getElem?_map]
  rcases Nat.lt_or_ge i l.length with hi | hi
  · rw [cutL_get l at_ many hi, List.getElem?_eq_getElem hi]
    show some (Lin.key _) = some _
    split <;> rfl
  · rw [List.getElem?_eq_none (by rw [cutL_len]; exact hi), List.getElem?_eq_none hi]
theorem cutL_at (l : List Lin) (at_ many : Nat) {i : Nat} (hi : i < (cutL l at_ many).length) : (cutL l at_ many)[i] = if at_ = i then cutX many (l[i]'(by rw [cutL_len] at hi; exact hi)) else l[i]'(by rw [cutL_len] at hi; exact hi) := by
  have h := cutL_get l at_ many (i := i) (by rw [cutL_len] at hi; exact hi)
  rw [List.getElem?_eq_getElem hi] at h
  exact Option.some.inj h
theorem cutL_ok {l : List Lin} (h : AOk l) {at_ many : Nat} (ha : at_ < l.length) (hm : many < l[at_].nums.length) : AOk (cutL l at_ many) := by
  refine ⟨by rw [cutL_len]; exact h.len, fun x hx => ?_, by rw [cutL_keys]; exact h.keys⟩
  obtain ⟨i, hi, rfl⟩ := List.mem_iff_getElem.1 hx
  have hil : i < l.length := by rw [cutL_len] at hi; exact hi
  rw [cutL_at]
  have h1 := h.nums l[i] (List.getElem_mem hil)
  split
  · rename_i e
    subst e
    show 1 ≤ (l[at_].nums.take (l[at_].nums.length - many)).length ∧ (l[at_].nums.take (l[at_].nums.length - many)).length ≤ 400
    rw [List.length_take]; omega
  · exact h1
theorem cutL_pfx {l : List Lin} (h : AOk l) (at_ many : Nat) : pfx (cutL l at_ many) l = true := by
  refine pfx_true fun i hi => ?_
  have hil : i < l.length := by rw [cutL_len] at hi; exact hi
  have hk : (cutL l at_ many)[i].key = l[i].key := by rw [cutL_at]; split <;> rfl
  have hf : findK l (cutL l at_ many)[i].key = i := findK_hit l _ i hil (by unfold keyIs; rw [hk]; exact beq_self_eq_true _) fun j hj => by
    unfold keyIs
    rw [hk]
    refine beq_eq_false_iff_ne.2 fun e => ?_
    have h2 := h.at_ hil hj
    refine kLess_ne h2 ?_
    rw [Lib.toList_data, Lib.toList_data] at e
    generalize l[j].key = a at e
    generalize l[i].key = b at e
    cases a; cases b
    congr 1
    exact Array.toList_inj.1 e
  have hn : (cutL l at_ many)[i].nums = l[i].nums.take (cutL l at_ many)[i].nums.length := by
    rw [cutL_at]
    split
    · show l[i].nums.take (l[i].nums.length - many) = l[i].nums.take (l[i].nums.take (l[i].nums.length - many)).length
      rw [List.length_take, Nat.min_eq_left (by omega)]
    · rw [List.take_length]
  have hle : (cutL l at_ many)[i].nums.length ≤ l[i].nums.length := by rw [hn, List.length_take]; omega
  have h9 := okL_some (b := l) (x := (cutL l at_ many)[i]) (by rw [hf]; exact hil)
  rw [h9]
  refine decide_eq_true ?_
  simp only [hf]
  exact ⟨hle, hn⟩
theorem cutL_cnt {l : List Lin} {at_ many : Nat} (ha : at_ < l.length) (hm : many ≤ l[at_].nums.length) : cntL l = cntL (cutL l at_ many) + many := by
  have e : l = l.take at_ ++ l[at_] :: l.drop (at_ + 1) := by rw [← List.drop_eq_getElem_cons ha, List.take_append_drop]
  have e2 : cutL l at_ many = l.take at_ ++ cutX many l[at_] :: l.drop (at_ + 1) := by
    unfold cutL
    rw [List.modify_eq_take_cons_drop ha]
  rw [e2]
  conv => lhs; rw [e]
  unfold cntL
  rw [List.map_append, List.map_append, List.sum_append, List.sum_append, List.map_cons, List.map_cons, List.sum_cons, List.sum_cons]
  have : (cutX many l[at_]).nums.length = l[at_].nums.length - many := by
    show (l[at_].nums.take (l[at_].nums.length - many)).length = _
    rw [List.length_take]; omega
  rw [this]
  omega

/-! ### Keys, each once -/
def dup {α : Type} (ks : List α) : List α := ks.flatMap fun k => [k, k]
theorem dup_cons {α : Type} (k : α) (ks : List α) : dup (k :: ks) = k :: k :: dup ks := rfl
theorem dup_perm {α : Type} : ∀ ks : List α, (ks ++ ks).Perm (dup ks)
  | [] => .nil
  | k :: ks => by
    rw [dup_cons]
    show (k :: (ks ++ k :: ks)).Perm _
    refine List.Perm.cons k ?_
    exact List.perm_middle.trans (List.Perm.cons k (dup_perm ks))
theorem dup_mem {α : Type} {ks : List α} {x : α} (h : x ∈ dup ks) : x ∈ ks := by
  obtain ⟨k, hk, hx⟩ := List.mem_flatMap.1 h
  simp at hx
  rw [hx]; exact hk
theorem dup_sorted : ∀ {ks : List (List UInt8)}, ks.Pairwise (· < ·) → (dup ks).Pairwise fun a b => decide (a ≤ b) = true
  | [], _ => .nil
  | k :: ks, h => by
    obtain ⟨h1, h2⟩ := List.pairwise_cons.1 h
    rw [dup_cons, List.pairwise_cons, List.pairwise_cons]
    have h3 : ∀ x ∈ dup ks, decide (k ≤ x) = true := fun x hx => decide_eq_true (List.le_of_lt (h1 x (dup_mem hx)))
    refine ⟨fun x hx => ?_, h3, dup_sorted h2⟩
    rcases List.mem_cons.1 hx with rfl | hx
    · exact decide_eq_true (List.le_refl _)
    · exact h3 x hx
theorem sort_dup {ks : List (List UInt8)} (h : ks.Pairwise (· < ·)) : (ks ++ ks).mergeSort (fun x y => decide (x ≤ y)) = dup ks := by
  have ht : ∀ a b c : List UInt8, decide (a ≤ b) = true → decide (b ≤ c) = true → decide (a ≤ c) = true := fun a b c h1 h2 => decide_eq_true (List.le_trans (of_decide_eq_true h1) (of_decide_eq_true h2))
  have hb : ∀ a b : List UInt8, (decide (a ≤ b) || decide (b ≤ a)) = true := fun a b => by
    rcases List.le_total a b with h | h
    · simp [h]
    · simp [h]
  have hs := List.pairwise_mergeSort (le := fun x y : List UInt8 => decide (x ≤ y)) ht hb (ks ++ ks)
  exact List.Perm.eq_of_pairwise (le := fun a b => decide (a ≤ b) = true) (fun a b _ _ h1 h2 => List.le_antisymm (of_decide_eq_true h1) (of_decide_eq_true h2)) hs (dup_sorted h) ((List.mergeSort_perm _ _).trans (dup_perm ks))
theorem upTo_succ {α : Type} [DecidableEq α] [Inhabited α] (d : Array α) (m : Nat) : Lib.compactUpTo d (m + 1) = Lib.compactUpTo d m ++ if Lib.keeps d m = true then [d[m]!] else [] := by
  unfold Lib.compactUpTo
  rw [List.range_succ, List.filter_append, List.map_append]
  congr 1
  by_cases h : Lib.keeps d m = true
  · simp [h]
  · simp [h]
theorem dup_at {α : Type} [Inhabited α] : ∀ (ks : List α) (j : Nat) (hj : j < ks.length), (dup ks).toArray[2 * j]! = ks[j] ∧ (dup ks).toArray[2 * j + 1]! = ks[j] := by
  intro ks
  induction ks with
  | nil => intro j hj; cases hj
  | cons k ks ih =>
    intro j hj
    cases j with
    | zero => exact ⟨rfl, rfl⟩
    | succ j =>
      obtain ⟨h1, h2⟩ := ih j (by simpa using hj)
      rw [dup_cons]
      have e1 : ∀ i, (k :: k :: dup ks).toArray[i + 2]! = (dup ks).toArray[i]! := fun i => by simp
      exact ⟨by rw [show 2 * (j + 1) = 2 * j + 2 from by omega, e1]; exact h1, by rw [show 2 * (j + 1) + 1 = 2 * j + 1 + 2 from by omega, e1]; exact h2⟩
theorem dup_len {α : Type} (ks : List α) : (dup ks).length = 2 * ks.length := by
  induction ks with
  | nil => rfl
  | cons k ks ih => rw [dup_cons, List.length_cons, List.length_cons, ih, List.length_cons]; omega
theorem compact_dup {ks : List (List UInt8)} (h : ks.Pairwise (· < ·)) : Lib.compact (dup ks) = ks := by
  have hj : ∀ j, j ≤ ks.length → Lib.compactUpTo (dup ks).toArray (2 * j) = ks.take j := by
    intro j
    induction j with
    | zero => intro _; rfl
    | succ j ih =>
      intro hj
      have hjl : j < ks.length := by omega
      obtain ⟨h1, h2⟩ := dup_at ks j hjl
      rw [show 2 * (j + 1) = 2 * j + 1 + 1 from by omega, upTo_succ, upTo_succ, ih (by omega)]
      have k2 : Lib.keeps (dup ks).toArray (2 * j + 1) = false := Lib.keeps_neg (by omega) (by rw [h2, show 2 * j + 1 - 1 = 2 * j from by omega, h1])
      have k1 : Lib.keeps (dup ks).toArray (2 * j) = true := by
        cases j with
        | zero => exact Lib.keeps_lt_one _ _ (by omega)
        | succ i =>
          refine Lib.keeps_pos ?_
          rw [h1, show 2 * (i + 1) - 1 = 2 * i + 1 from by omega, (dup_at ks i (by omega)).2]
          intro e
          have h3 := List.pairwise_iff_getElem.1 h i (i + 1) (by omega) hjl (by omega)
          rw [e] at h3
          exact List.lt_irrefl _ h3
      rw [if_pos k1, if_neg (by rw [k2]; decide), h1, List.append_nil, ← List.take_succ_eq_append_getElem hjl]
  have := hj ks.length (Nat.le_refl _)
  rw [← dup_len, List.take_length] at this
  unfold Lib.compact
  exact this
end Go.Proofs.Ythpgkcfkpglkdaa
