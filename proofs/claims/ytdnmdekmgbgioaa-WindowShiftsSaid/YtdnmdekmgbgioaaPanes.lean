/-
  Panes of time, in plain Lean: what is counted into which pane, and what is known of it. No condition: definitions and lemmas.
-/
import Derived.Test.YtdnmdekmgbgioaaElts
namespace Go.Proofs.Ytdnmdekmgbgioaa
open Go.RowKit

structure Pane where
  key : ByteArray
  from_ : Int
  to : Int
  many : Int
  sum : Int
  late : Int
instance : Inhabited Pane := ⟨⟨ByteArray.empty, 0, 0, 0, 0, 0⟩⟩

/-- The pane of one key that begins there. -/
def Pane.is (p : Pane) (k : ByteArray) (f : Int) : Bool := decide (p.key = k) && decide (p.from_ = f)
theorem Pane.is_iff {p : Pane} {k : ByteArray} {f : Int} : p.is k f = true ↔ p.key = k ∧ p.from_ = f := by simp [Pane.is]
def bump (mark num : Int) (p : Pane) : Pane := if p.to ≤ mark then { p with late := p.late + 1 } else { p with many := p.many + 1, sum := IntKind.i64.wrap (p.sum + num) }
theorem bump_key (mark num : Int) (p : Pane) : (bump mark num p).key = p.key ∧ (bump mark num p).from_ = p.from_ ∧ (bump mark num p).to = p.to := by unfold bump; split <;> exact ⟨rfl, rfl, rfl⟩
/-- A record counted into one pane. -/
def addPane (size mark : Int) (k : ByteArray) (num f : Int) (m : List Pane) : List Pane :=
  if m.any (·.is k f) then m.map fun p => if p.is k f then bump mark num p else p else m ++ [bump mark num ⟨k, f, f + size, 0, 0, 0⟩]
def Apart (m : List Pane) : Prop := m.Pairwise fun p q => ¬ (p.key = q.key ∧ p.from_ = q.from_)

theorem addPane_miss {size mark num f : Int} {k : ByteArray} {m : List Pane} (h : ∀ p ∈ m, ¬ (p.key = k ∧ p.from_ = f)) : addPane size mark k num f m = m ++ [bump mark num ⟨k, f, f + size, 0, 0, 0⟩] := by
  unfold addPane
  rw [if_neg]
  rw [List.any_eq_true]
  rintro ⟨p, hp, e⟩
  exact h p hp (Pane.is_iff.1 e)
theorem addPane_hit {size mark num f : Int} {k : ByteArray} {m1 m2 : List Pane} {p : Pane} (h : Apart (m1 ++ p :: m2)) (hp : p.key = k ∧ p.from_ = f) : addPane size mark k num f (m1 ++ p :: m2) = m1 ++ bump mark num p :: m2 := by
  unfold addPane
  rw [if_pos (by simp only [List.any_eq_true]; exact ⟨p, by simp, Pane.is_iff.2 hp⟩)]
  have h1 := List.pairwise_append.1 h
  have h2 := List.pairwise_cons.1 h1.2.1
  rw [List.map_append, List.map_cons, if_pos (Pane.is_iff.2 hp)]
  congr 1
  · rw [List.map_congr_left (g := id) (fun q hq => ?_), List.map_id]
    rw [if_neg]; rfl
    intro e
    have e := Pane.is_iff.1 e
    exact h1.2.2 q hq p (List.mem_cons_self) ⟨e.1.trans hp.1.symm, e.2.trans hp.2.symm⟩
  · congr 1
    rw [List.map_congr_left (g := id) (fun q hq => ?_), List.map_id]
    rw [if_neg]; rfl
    intro e
    have e := Pane.is_iff.1 e
    exact h2.1 q hq ⟨hp.1.trans e.1.symm, hp.2.trans e.2.symm⟩
theorem addPane_parts {size mark num f : Int} {k : ByteArray} {m : List Pane} (h : Apart m) : (∃ m1 p m2, m = m1 ++ p :: m2 ∧ p.key = k ∧ p.from_ = f) ∨ ∀ p ∈ m, ¬ (p.key = k ∧ p.from_ = f) := by
  by_cases hc : ∃ p ∈ m, p.key = k ∧ p.from_ = f
  · obtain ⟨p, hp, h1⟩ := hc
    obtain ⟨m1, m2, rfl⟩ := List.append_of_mem hp
    exact .inl ⟨m1, p, m2, rfl, h1⟩
  · exact .inr fun p hp h1 => hc ⟨p, hp, h1⟩
theorem apart_swap {m1 m2 : List Pane} {p q : Pane} (h : Apart (m1 ++ p :: m2)) (hk : q.key = p.key ∧ q.from_ = p.from_) : Apart (m1 ++ q :: m2) := by
  have h1 := List.pairwise_append.1 h
  have h2 := List.pairwise_cons.1 h1.2.1
  refine List.pairwise_append.2 ⟨h1.1, List.pairwise_cons.2 ⟨fun r hr => ?_, h2.2⟩, fun a ha b hb => ?_⟩
  · rw [hk.1, hk.2]; exact h2.1 r hr
  · rcases List.mem_cons.1 hb with rfl | hb
    · rw [hk.1, hk.2]; exact h1.2.2 a ha p (List.mem_cons_self)
    · exact h1.2.2 a ha b (List.mem_cons_of_mem _ hb)
theorem addPane_apart {size mark num f : Int} {k : ByteArray} {m : List Pane} (h : Apart m) : Apart (addPane size mark k num f m) := by
  rcases addPane_parts (size := size) (mark := mark) (num := num) (f := f) (k := k) h with ⟨m1, p, m2, rfl, h1⟩ | h1
  · rw [addPane_hit h h1]
    exact apart_swap h ⟨(bump_key mark num p).1, (bump_key mark num p).2.1⟩
  · rw [addPane_miss h1]
    refine List.pairwise_append.2 ⟨h, List.pairwise_singleton _ _, fun a ha b hb => ?_⟩
    rw [List.mem_singleton.1 hb, (bump_key mark num _).1, (bump_key mark num _).2.1]
    exact h1 a ha

/-- A record counted into the first j panes that it lies in. -/
def addFirst (size by_ mark : Int) (r : Rec) (m : List Pane) (j : Nat) : List Pane := (List.range j).foldl (fun m (i : Nat) => addPane size mark r.key r.num (r.time / by_ * by_ - i * by_) m) m
theorem addFirst_zero (size by_ mark : Int) (r : Rec) (m : List Pane) : addFirst size by_ mark r m 0 = m := rfl
theorem addFirst_succ (size by_ mark : Int) (r : Rec) (m : List Pane) (j : Nat) : addFirst size by_ mark r m (j + 1) = addPane size mark r.key r.num (r.time / by_ * by_ - j * by_) (addFirst size by_ mark r m j) := by
  unfold addFirst; rw [List.range_succ, List.foldl_append]; rfl
theorem addFirst_apart {size by_ mark : Int} {r : Rec} {m : List Pane} (h : Apart m) (j : Nat) : Apart (addFirst size by_ mark r m j) := by
  induction j with
  | zero => exact h
  | succ j ih => rw [addFirst_succ]; exact addPane_apart ih

/-- Does the record lie in the j-th pane from behind? -/
def laps (size by_ t : Int) (j : Nat) : Bool := decide (0 ≤ t / by_ * by_ - j * by_) && decide (t < t / by_ * by_ - j * by_ + size)
def lapsFrom (size by_ t : Int) : Nat → Nat → Nat
  | 0, j => j
  | n + 1, j => if laps size by_ t j then lapsFrom size by_ t n (j + 1) else j
def lapsN (size by_ t : Int) : Nat := lapsFrom size by_ t (t.toNat + 1) 0
theorem lapsFrom_eq {size by_ t : Int} {j : Nat} : ∀ (n i : Nat), (∀ k, i ≤ k → k < j → laps size by_ t k = true) → laps size by_ t j = false → i ≤ j → j ≤ i + n → lapsFrom size by_ t n i = j
  | 0, i, _, _, h3, h4 => by simp [lapsFrom]; omega
  | n + 1, i, h1, h2, h3, h4 => by
    unfold lapsFrom
    by_cases e : i = j
    · subst e; rw [h2]; rfl
    · rw [h1 i (Nat.le_refl _) (by omega)]
      exact lapsFrom_eq n (i + 1) (fun k hk hk2 => h1 k (by omega) hk2) h2 (by omega) (by omega)
theorem laps_le {size by_ t : Int} {j : Nat} (hb : 1 ≤ by_) (ht : 0 ≤ t) (h : laps size by_ t j = true) : (j : Int) ≤ t := by
  simp only [laps, Bool.and_eq_true, decide_eq_true_eq] at h
  have h1 : (j : Int) * by_ ≤ t := by
    have e : t / by_ * by_ ≤ t := Int.ediv_mul_le t (by omega)
    omega
  have h2 : (j : Int) * 1 ≤ j * by_ := Int.mul_le_mul_of_nonneg_left hb (by omega)
  omega
theorem lapsN_eq {size by_ t : Int} {j : Nat} (hb : 1 ≤ by_) (ht : 0 ≤ t) (h1 : ∀ k, k < j → laps size by_ t k = true) (h2 : laps size by_ t j = false) : lapsN size by_ t = j := by
  refine lapsFrom_eq _ 0 (fun k _ hk => h1 k hk) h2 (Nat.zero_le _) ?_
  rcases Nat.eq_zero_or_pos j with h | h
  · omega
  · have := laps_le hb ht (h1 (j - 1) (by omega)); omega

/-- All records, with the mark so far. -/
def slideStep (size by_ slack : Int) (s : Int × List Pane) (r : Rec) : Int × List Pane := (max s.1 (r.time - slack), addFirst size by_ s.1 r s.2 (lapsN size by_ r.time))
def slideAll (size by_ slack : Int) (l : List Rec) : Int × List Pane := l.foldl (slideStep size by_ slack) (0, [])
theorem slideAll_snoc (size by_ slack : Int) (l : List Rec) (r : Rec) : slideAll size by_ slack (l ++ [r]) = slideStep size by_ slack (slideAll size by_ slack l) r := by
  unfold slideAll; rw [List.foldl_append]; rfl
theorem slideAll_apart (size by_ slack : Int) (l : List Rec) : Apart (slideAll size by_ slack l).2 := by
  unfold slideAll
  suffices h : ∀ (l : List Rec) (s : Int × List Pane), Apart s.2 → Apart (l.foldl (slideStep size by_ slack) s).2 from h l _ List.Pairwise.nil
  intro l
  induction l with
  | nil => intro s h; exact h
  | cons r l ih => intro s h; exact ih _ (addFirst_apart h _)

/-- Each pane is so wide. -/
def Tos (size : Int) (m : List Pane) : Prop := ∀ p ∈ m, p.to = p.from_ + size
theorem addPane_tos {size mark num f : Int} {k : ByteArray} {m : List Pane} (h : Tos size m) : Tos size (addPane size mark k num f m) := by
  intro q hq
  unfold addPane at hq
  split at hq
  · obtain ⟨p, hp, rfl⟩ := List.mem_map.1 hq
    split
    · rw [(bump_key mark num p).2.1, (bump_key mark num p).2.2]; exact h p hp
    · exact h p hp
  · rcases List.mem_append.1 hq with hq | hq
    · exact h q hq
    · rw [List.mem_singleton.1 hq, (bump_key mark num _).2.1, (bump_key mark num _).2.2]
theorem addFirst_tos {size by_ mark : Int} {r : Rec} {m : List Pane} (h : Tos size m) (j : Nat) : Tos size (addFirst size by_ mark r m j) := by
  induction j with
  | zero => exact h
  | succ j ih => rw [addFirst_succ]; exact addPane_tos ih
theorem slideAll_tos (size by_ slack : Int) (l : List Rec) : Tos size (slideAll size by_ slack l).2 := by
  unfold slideAll
  suffices h : ∀ (l : List Rec) (s : Int × List Pane), Tos size s.2 → Tos size (l.foldl (slideStep size by_ slack) s).2 from h l _ nofun
  intro l
  induction l with
  | nil => intro s h; exact h
  | cons r l ih => intro s h; exact ih _ (addFirst_tos h _)

/-! ### The order of panes -/
def paneLt (p q : Pane) : Prop := p.key.data.toList < q.key.data.toList ∨ (p.key = q.key ∧ p.from_ < q.from_)
end Go.Proofs.Ytdnmdekmgbgioaa
