/-
  Panes in plain Lean, what WindowLayers asks: how many records all panes count. No condition but by at least 1.
-/
import Derived.Test.YtdnmdekmgbgioaaPanes
namespace Go.Proofs.Ytdnmdekmgbgioaa
open Go.RowKit

def tot (m : List Pane) : Int := (m.map fun p => p.many + p.late).sum
theorem tot_nil : tot [] = 0 := rfl
theorem tot_append (a b : List Pane) : tot (a ++ b) = tot a + tot b := by simp [tot]
theorem tot_cons (p : Pane) (b : List Pane) : tot (p :: b) = p.many + p.late + tot b := by simp [tot]
theorem tot_perm {a b : List Pane} (h : a.Perm b) : tot a = tot b := by
  induction h with
  | nil => rfl
  | cons x _ ih => rw [tot_cons, tot_cons, ih]
  | swap x y l => rw [tot_cons, tot_cons, tot_cons, tot_cons]; omega
  | trans _ _ h1 h2 => exact h1.trans h2
theorem bump_tot (mark num : Int) (p : Pane) : (bump mark num p).many + (bump mark num p).late = p.many + p.late + 1 := by unfold bump; split <;> simp only <;> omega
theorem addPane_tot {size mark num f : Int} {k : ByteArray} {m : List Pane} (h : Apart m) : tot (addPane size mark k num f m) = tot m + 1 := by
  rcases addPane_parts (size := size) (mark := mark) (num := num) (f := f) (k := k) h with ⟨m1, p, m2, rfl, h1⟩ | h1
  · rw [addPane_hit h h1, tot_append, tot_append, tot_cons, tot_cons, bump_tot]; omega
  · rw [addPane_miss h1, tot_append, tot_cons, bump_tot]; simp [tot]
theorem addFirst_tot {size by_ mark : Int} {r : Rec} {m : List Pane} (h : Apart m) (j : Nat) : tot (addFirst size by_ mark r m j) = tot m + j := by
  induction j with
  | zero => simp [addFirst_zero]
  | succ j ih => rw [addFirst_succ, addPane_tot (addFirst_apart h j), ih]; omega
theorem slideAll_tot (size by_ slack : Int) (l : List Rec) : tot (slideAll size by_ slack l).2 = (l.map fun r => (lapsN size by_ r.time : Int)).sum := by
  suffices h : ∀ (l : List Rec) (s : Int × List Pane), Apart s.2 → tot (l.foldl (slideStep size by_ slack) s).2 = tot s.2 + (l.map fun r => (lapsN size by_ r.time : Int)).sum by
    have := h l (0, []) List.Pairwise.nil
    unfold slideAll; rw [this]; simp [tot]
  intro l
  induction l with
  | nil => intro s _; simp
  | cons r l ih =>
    intro s hs
    rw [List.foldl_cons, ih _ (addFirst_apart hs _)]
    show tot (addFirst size by_ s.1 r s.2 (lapsN size by_ r.time)) + _ = _
    rw [addFirst_tot hs]
    simp only [List.map_cons, List.sum_cons]; omega
/-- No count is below nought. -/
def Pos (m : List Pane) : Prop := ∀ p ∈ m, 0 ≤ p.many ∧ 0 ≤ p.late
theorem bump_pos {p : Pane} {mark num : Int} (h : 0 ≤ p.many ∧ 0 ≤ p.late) : 0 ≤ (bump mark num p).many ∧ 0 ≤ (bump mark num p).late := by unfold bump; split <;> simp only <;> omega
theorem addPane_pos {size mark num f : Int} {k : ByteArray} {m : List Pane} (h : Pos m) : Pos (addPane size mark k num f m) := by
  intro q hq
  unfold addPane at hq
  split at hq
  · obtain ⟨p, hp, rfl⟩ := List.mem_map.1 hq
    split
    · exact bump_pos (h p hp)
    · exact h p hp
  · rcases List.mem_append.1 hq with hq | hq
    · exact h q hq
    · rw [List.mem_singleton.1 hq]; exact bump_pos ⟨Int.le_refl _, Int.le_refl _⟩
theorem addFirst_pos {size by_ mark : Int} {r : Rec} {m : List Pane} (h : Pos m) (j : Nat) : Pos (addFirst size by_ mark r m j) := by
  induction j with
  | zero => exact h
  | succ j ih => rw [addFirst_succ]; exact addPane_pos ih
theorem slideAll_pos (size by_ slack : Int) (l : List Rec) : Pos (slideAll size by_ slack l).2 := by
  unfold slideAll
  suffices h : ∀ (l : List Rec) (s : Int × List Pane), Pos s.2 → Pos (l.foldl (slideStep size by_ slack) s).2 from h l _ nofun
  intro l
  induction l with
  | nil => intro s h; exact h
  | cons r l ih => intro s h; exact ih _ (addFirst_pos h _)
theorem tot_pos {m : List Pane} (h : Pos m) : 0 ≤ tot m := by
  induction m with
  | nil => simp [tot]
  | cons p m ih =>
    rw [tot_cons]
    have h1 := h p (by simp)
    have h2 := ih fun q hq => h q (List.mem_cons_of_mem _ hq)
    omega
theorem tot_take_le {m : List Pane} (h : Pos m) (i : Nat) : 0 ≤ tot (m.take i) ∧ tot (m.take i) ≤ tot m := by
  have e : m = m.take i ++ m.drop i := (List.take_append_drop i m).symm
  have h1 : Pos (m.take i) := fun p hp => h p (List.mem_of_mem_take hp)
  have h2 : Pos (m.drop i) := fun p hp => h p (List.mem_of_mem_drop hp)
  have h3 := congrArg tot e
  rw [tot_append] at h3
  have := tot_pos h1; have := tot_pos h2
  omega
theorem tot_take_succ (m : List Pane) (i : Nat) (h : i < m.length) : tot (m.take (i + 1)) = tot (m.take i) + m[i].many + m[i].late := by
  rw [List.take_succ_eq_append_getElem h, tot_append, tot_cons, tot_nil]; omega

/-- How many panes of k over one another lie over a time. -/
def want1 (by_ k t : Int) : Int := if t / by_ + 1 > k then k else t / by_ + 1
def wantN (by_ k : Int) (l : List Rec) : Int := (l.map fun r => want1 by_ k r.time).sum
theorem wantN_snoc (by_ k : Int) (l : List Rec) (r : Rec) : wantN by_ k (l ++ [r]) = wantN by_ k l + want1 by_ k r.time := by simp [wantN]
theorem lapsN_layers {by_ k t : Int} (hb : 1 ≤ by_) (hk : 1 ≤ k) (ht : 0 ≤ t) : (lapsN (by_ * k) by_ t : Int) = want1 by_ k t := by
  obtain ⟨q, hq⟩ : ∃ q, q = t / by_ := ⟨_, rfl⟩
  have hq0 : 0 ≤ q := by rw [hq]; exact Int.ediv_nonneg ht (by omega)
  have h1 : q * by_ ≤ t := by rw [hq]; exact Int.ediv_mul_le t (by omega)
  have h2 : t < q * by_ + by_ := by
    have := Int.lt_ediv_add_one_mul_self t (by omega : 0 < by_)
    rw [← hq, Int.add_mul, Int.one_mul] at this; exact this
  have hw : want1 by_ k t = if q + 1 > k then k else q + 1 := by unfold want1; rw [← hq]
  have lapiff : ∀ j : Nat, laps (by_ * k) by_ t j = true ↔ (j : Int) ≤ q ∧ (j : Int) < k := by
    intro j
    simp only [laps, Bool.and_eq_true, decide_eq_true_eq, ← hq]
    have e1 : q * by_ - (j : Int) * by_ = (q - j) * by_ := by rw [Int.sub_mul]
    constructor
    · rintro ⟨a, b⟩
      have a' : (j : Int) ≤ q := by
        rcases (show q < (j : Int) ∨ (j : Int) ≤ q by omega) with h | h
        · have h3 : (q - j) * by_ ≤ (-1) * by_ := Int.mul_le_mul_of_nonneg_right (by omega) (by omega)
          rw [e1] at a; omega
        · exact h
      refine ⟨a', ?_⟩
      rcases (show (j : Int) < k ∨ k ≤ (j : Int) by omega) with h | h
      · exact h
      · have h3 : (j : Int) * by_ ≥ k * by_ := Int.mul_le_mul_of_nonneg_right h (by omega)
        rw [Int.mul_comm by_ k] at b
        omega
    · rintro ⟨a, b⟩
      have h3 : 0 ≤ (q - j) * by_ := Int.mul_nonneg (by omega) (by omega)
      have h4 : ((j : Int) + 1) * by_ ≤ k * by_ := Int.mul_le_mul_of_nonneg_right (by omega) (by omega)
      rw [Int.add_mul, Int.one_mul] at h4
      rw [Int.mul_comm by_ k]
      omega
  have hw0 : 0 ≤ want1 by_ k t := by rw [hw]; split <;> omega
  have : lapsN (by_ * k) by_ t = (want1 by_ k t).toNat := by
    refine lapsN_eq hb ht (fun i hi => (lapiff i).2 ?_) ?_
    · rw [hw] at hi; split at hi <;> omega
    · rw [Bool.eq_false_iff]
      intro e
      have e := (lapiff _).1 e
      rw [hw] at e; split at e <;> omega
  rw [this]; omega
theorem layers {by_ k : Int} {l : List Rec} (hb : 1 ≤ by_) (hk : 1 ≤ k) (h : ∀ r ∈ l, 0 ≤ r.time) : tot (slideAll (by_ * k) by_ 0 l).2 = wantN by_ k l := by
  rw [slideAll_tot]
  unfold wantN
  congr 1
  exact List.map_congr_left fun r hr => lapsN_layers hb hk (h r hr)
theorem want1_le {by_ k t : Int} (hk : 1 ≤ k) (hb : 1 ≤ by_) (ht : 0 ≤ t) : 0 ≤ want1 by_ k t ∧ want1 by_ k t ≤ k := by
  have : 0 ≤ t / by_ := Int.ediv_nonneg ht (by omega)
  unfold want1; split <;> omega
theorem wantN_le {by_ k : Int} (hk : 1 ≤ k) (hk2 : k ≤ 16) (hb : 1 ≤ by_) : ∀ {l : List Rec}, (∀ r ∈ l, 0 ≤ r.time) → 0 ≤ wantN by_ k l ∧ wantN by_ k l ≤ 16 * l.length
  | [], _ => by simp [wantN]
  | r :: l, h => by
    have h1 := want1_le (k := k) hk hb (h r (by simp))
    have h2 := wantN_le (l := l) hk hk2 hb fun q hq => h q (List.mem_cons_of_mem _ hq)
    have e : wantN by_ k (r :: l) = want1 by_ k r.time + wantN by_ k l := by simp [wantN]
    rw [e]; simp only [List.length_cons]; omega
theorem fact_len : (slideAll 4 2 0 [⟨⟨#[97]⟩, 2, 5⟩]).2.length = 2 := by decide +kernel
end Go.Proofs.Ytdnmdekmgbgioaa
