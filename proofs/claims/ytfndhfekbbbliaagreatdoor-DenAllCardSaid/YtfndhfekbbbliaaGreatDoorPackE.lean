/-
  Several texts of this claim in one, in build order; each begins with its own remark, which says what it proves and under which conditions.
-/
import Derived.Test.YtfndhfekbbbliaaGreatDoorPackC
import Derived.Test.YtfndhfekbbbliaaGreatDoorPackD
import Derived.Test.YtfndhfekbbbliaaGreatDoorPackA
import Derived.Deep.CutRange
import Derived.Deep.RegionLaw
import Derived.Deep.OwnRows
import Derived.Deep.RegionHeld3
import Derived.Outline

/-
  Expressions, plain: a tree's text is read as that tree. Conditions: its numbers and operators are some, its depth is at most 20, its text is short enough.
-/
namespace Go.Proofs.YtfndhfekbbbliaaGreatDoor
open Go.RowKit
set_option linter.unusedVariables false
def PastL (L : Nat) (v : List UInt8) : Prop := ∀ c r, v = c :: r → isDig c = false ∧ (L ≤ 3 → c ∉ ([42, 47, 37] : List UInt8)) ∧ (L ≤ 2 → c ∉ ([43, 45] : List UInt8)) ∧ (L ≤ 1 → c ∉ ([61, 60, 62] : List UInt8)) ∧ (L ≤ 0 → c ≠ 63)
theorem pastL_nil (L : Nat) : PastL L [] := fun c r h => by cases h
theorem pastL_cons {L : Nat} {c : UInt8} (r : List UInt8) (h : isDig c = false ∧ (L ≤ 3 → c ∉ ([42, 47, 37] : List UInt8)) ∧ (L ≤ 2 → c ∉ ([43, 45] : List UInt8)) ∧ (L ≤ 1 → c ∉ ([61, 60, 62] : List UInt8)) ∧ (L ≤ 0 → c ≠ 63)) : PastL L (c :: r) := fun c' r' e => by injection e with e _; subst e; exact h
theorem PastL.up {L M : Nat} {v : List UInt8} (h : PastL L v) (hL : L ≤ M) : PastL M v := fun c r e => by
 obtain ⟨h1, h2, h3, h4, h5⟩ := h c r e
 exact ⟨h1, fun x => h2 (by omega), fun x => h3 (by omega), fun x => h4 (by omega), fun x => h5 (by omega)⟩
def lvl (W : Reads) : Nat → Reads
 | 0 => wholeStep W
 | 1 => cmpRd W
 | 2 => addRd W
 | 3 => mulRd W
 | 4 => lessRd W
 | _ => oneRd W
theorem lift_one {W : Reads} {L d : Nat} {x v : List UInt8} {t : Tr} (hL : L < 5) (h : lvl W (L + 1) d x = .ok t v) (hv : PastL L v) : lvl W L d x = .ok t v := by
 match L, hL with
 | 4, _ =>
  cases x with
  | nil => exact h
  | cons c r =>
   show lessRd W d (c :: r) = _
   rw [less_other]
   ·exact h
   ·rintro rfl
    have h : oneRd W d (45 :: r) = .ok t v := h
    have : oneRd W d (45 :: r) = numRd (45 :: r) := by
     unfold oneRd
     split
     ·rename_i e; injection e with e _; exact absurd e (by decide)
     ·rename_i e; injection e with e _; exact absurd e (by decide)
     ·rename_i e; injection e with e _; exact absurd e (by decide)
     ·rename_i e; injection e with e _; exact absurd e (by decide)
     ·rename_i e; injection e with e _; exact absurd e (by decide)
     ·rfl
    rw [this] at h
    obtain ⟨c, r2, e, hc⟩ := num_head (num_ok h).1
    injection e with e _; subst e; exact absurd hc (by decide)
 | 3, _ =>
  have h : lessRd W d x = .ok t v := h
  show (lessRd W d x).bind _ = _
  rw [h]
  exact loop_stop (fun c r e => (hv c r e).2.1 (by omega)) _ _
 | 2, _ =>
  have h : mulRd W d x = .ok t v := h
  show (mulRd W d x).bind _ = _
  rw [h]
  exact loop_stop (fun c r e => (hv c r e).2.2.1 (by omega)) _ _
 | 1, _ =>
  have h : addRd W d x = .ok t v := h
  show (addRd W d x).bind _ = _
  rw [h]
  cases v with
  | nil => rfl
  | cons c r =>
   show cmpTl W d t (c :: r) = _
   simp only [cmpTl, if_neg ((hv c r rfl).2.2.2.1 (by omega))]
 | 0, _ =>
  have h : cmpRd W d x = .ok t v := h
  show (cmpRd W d x).bind _ = _
  rw [h]
  cases v with
  | nil => rfl
  | cons c r =>
   show selRd W d t (c :: r) = _
   simp only [selRd, if_neg ((hv c r rfl).2.2.2.2 (by omega))]
theorem lift {W : Reads} {L M d : Nat} {x v : List UInt8} {t : Tr} (hLM : L ≤ M) (hM : M ≤ 5) (h : lvl W M d x = .ok t v) (hv : PastL L v) : lvl W L d x = .ok t v := by
 obtain ⟨n, rfl⟩ : ∃ n, M = L + n := ⟨M - L, by omega⟩
 induction n with
 | zero => exact h
 | succ n ih => exact ih (by omega) (by omega) (lift_one (L := L + n) (by omega) h (hv.up (by omega)))
theorem loop_fuel {next : List UInt8 → Rd} {ops : List UInt8} (hn : Short next) : ∀ k k' a l, l.length ≤ k → l.length ≤ k' → loopRd next ops k a l = loopRd next ops k' a l := by
 intro k
 induction k with
 | zero =>
  intro k' a l h1 h2
  obtain rfl := List.eq_nil_of_length_eq_zero (Nat.le_zero.1 h1)
  cases k' <;> rfl
 | succ k ih =>
  intro k' a l h1 h2
  cases l with
  | nil => cases k' <;> rfl
  | cons c r =>
   obtain ⟨k2, rfl⟩ : ∃ k2, k' = k2 + 1 := ⟨k' - 1, by simp only [List.length_cons] at h2; omega⟩
   simp only [loopRd, List.length_cons] at h1 h2 ⊢
   split
   ·cases h : next r with
    | ok b l1 =>
     have := hn _ _ _ h
     exact ih k2 _ l1 (by omega) (by omega)
    | bad k e => rfl
   ·rfl
def BackL (t : Tr) (L : Nat) : Prop := ∀ k d v, (t.at_ L).length + v.length ≤ k + 1 → d + t.needs L ≤ 20 → PastL L v → lvl (wholeRd k) L d (t.at_ L ++ v) = .ok t v
def BackR (t : Tr) (L : Nat) (next : Nat → Reads) (ops : List UInt8) : Prop := ∀ k d v, (t.at_ L).length + v.length ≤ k + 1 → d + t.needs L ≤ 20 → PastL (L + 1) v → rowRd (next k d) ops (t.at_ L ++ v) = loopRd (next k d) ops v.length t v
structure Back (t : Tr) : Prop where
 all : ∀ L, L ≤ 5 → BackL t L
 mul : BackR t 3 (fun k => lessRd (wholeRd k)) [42, 47, 37]
 add : BackR t 2 (fun k => mulRd (wholeRd k)) [43, 45]
theorem at_pos (t : Tr) : 0 < t.raw.length := by
 cases t with
 | num k =>
  show 0 < (Lib.itoa k).length
  unfold Lib.itoa
  split
  ·simp
  ·rw [Lib.decDigits_length]; exact Lib.nDigits_pos _
 | nam n => cases n <;> simp [Tr.raw]
 | neg a => simp [Tr.raw]
 | bin op a b => simp only [Tr.raw]; split <;> (try split) <;> simp <;> omega
 | sel a b c => simp [Tr.raw]; omega
theorem whole_of {k d : Nat} {x v : List UInt8} {t : Tr} (hx : 0 < x.length) (hk : x.length ≤ k) (h : ∀ k2, k = k2 + 1 → lvl (wholeRd k2) 0 d x = .ok t v) : wholeRd k d x = .ok t v := by
 obtain ⟨k2, rfl⟩ : ∃ k2, k = k2 + 1 := ⟨k - 1, by omega⟩
 exact h k2 rfl
theorem back_all {t : Tr} (h : ∀ k d v, t.raw.length + v.length ≤ k + 1 → d + t.need ≤ 20 → PastL t.tight v → lvl (wholeRd k) t.tight d (t.raw ++ v) = .ok t v) (ht : t.tight ≤ 5) : ∀ L, L ≤ 5 → BackL t L := by
 intro L hL k d v hlen hd hv
 by_cases hb : t.tight < L
 ·have e1 : t.at_ L = 40 :: (t.raw ++ [41]) := by unfold Tr.at_; rw [decide_eq_true hb]; rfl
  have e2 : t.needs L = t.need + 1 := by unfold Tr.needs; rw [if_pos hb]
  rw [e1] at hlen ⊢
  rw [e2] at hd
  have hstop : ∀ M, PastL M (41 :: v) := fun M => pastL_cons v ⟨by decide, fun _ => by decide, fun _ => by decide, fun _ => by decide, fun _ => by decide⟩
  have hW : wholeRd k (d + 1) (t.raw ++ 41 :: v) = .ok t (41 :: v) := by
   simp only [List.length_append, List.length_cons, List.length_nil] at hlen
   refine whole_of (by have := at_pos t; rw [List.length_append]; omega) (by simp only [List.length_append, List.length_cons]; omega) fun k2 hk2 => ?_
   exact lift (Nat.zero_le _) ht (h k2 (d + 1) (41 :: v) (by simp only [List.length_cons]; omega) (by omega) (hstop _)) (hstop _)
  have h5 : lvl (wholeRd k) 5 d (40 :: (t.raw ++ [41]) ++ v) = .ok t v := by
   show oneRd (wholeRd k) d (40 :: ((t.raw ++ [41]) ++ v)) = _
   rw [List.append_assoc]
   show deepRd d _ _ = _
   unfold deepRd
   rw [if_neg (by omega), List.singleton_append, hW]
   simp [Rd.bind, wantRd]
  exact lift hL (Nat.le_refl _) h5 hv
 ·obtain ⟨e1, e2⟩ := at_of_tight (t := t) (L := L) (by omega)
  rw [e1] at hlen ⊢
  rw [e2] at hd
  exact lift (by omega) ht (h k d v hlen hd (hv.up (by omega))) hv
theorem back_row {t : Tr} {L : Nat} (hL : L = 2 ∨ L = 3) (h : BackL t (L + 1)) (ht : t.at_ L = t.at_ (L + 1)) (ht2 : t.needs L = t.needs (L + 1)) (ops : List UInt8) : BackR t L (fun k => lvl (wholeRd k) (L + 1)) ops := by
 intro k d v hlen hd hv
 rw [ht] at hlen ⊢
 rw [ht2] at hd
 show (lvl (wholeRd k) (L + 1) d _).bind _ = _
 rw [h k d v hlen hd hv]
 rfl
theorem at_same {t : Tr} {L : Nat} (h : t.tight ≠ L) : t.at_ L = t.at_ (L + 1) ∧ t.needs L = t.needs (L + 1) := by
 unfold Tr.at_ Tr.needs
 by_cases h1 : t.tight < L
 ·rw [decide_eq_true h1, decide_eq_true (show t.tight < L + 1 by omega), if_pos h1, if_pos (show t.tight < L + 1 by omega)]; exact ⟨rfl, rfl⟩
 ·rw [decide_eq_false h1, decide_eq_false (show ¬ t.tight < L + 1 by omega), if_neg h1, if_neg (show ¬ t.tight < L + 1 by omega)]; exact ⟨rfl, rfl⟩
theorem back_of {t : Tr} (ht : t.tight ≤ 5) (h2 : t.tight ≠ 2) (h3 : t.tight ≠ 3) (h : ∀ k d v, t.raw.length + v.length ≤ k + 1 → d + t.need ≤ 20 → PastL t.tight v → lvl (wholeRd k) t.tight d (t.raw ++ v) = .ok t v) : Back t := by
 have ha := back_all h ht
 exact ⟨ha, back_row (.inr rfl) (ha 4 (by omega)) (at_same h3).1 (at_same h3).2 _, back_row (.inl rfl) (ha 3 (by omega)) (at_same h2).1 (at_same h2).2 _⟩
theorem digs_past {ds v : List UInt8} (h : ∀ c ∈ ds, isDig c = true) (hv : ∀ c r, v = c :: r → isDig c = false) : digsOf (ds ++ v) = ds := by
 induction ds with
 | nil =>
  cases v with
  | nil => rfl
  | cons c r => simp [digsOf, hv c r rfl]
 | cons c r ih =>
  unfold digsOf at ih ⊢
  rw [List.cons_append, List.takeWhile_cons, h c List.mem_cons_self, if_pos rfl, ih fun c hc => h c (List.mem_cons_of_mem _ hc)]
theorem num_back {k : Int} (h1 : 0 ≤ k) (h2 : k ≤ 9223372036854775807) {v : List UInt8} (hv : ∀ c r, v = c :: r → isDig c = false) : numRd (Lib.itoa k ++ v) = .ok (.num k) v := by
 obtain ⟨n, rfl⟩ := Int.eq_ofNat_of_zero_le h1
 rw [itoa_nat_]
 have hd : digsOf (Lib.decDigits n ++ v) = Lib.decDigits n := digs_past (dec_digs n) hv
 have hn : numOf (Lib.decDigits n ++ v) = Lib.decDigits n := by
  unfold numOf
  rw [hd]
  split
  ·rename_i c d r e
   rw [if_neg]
   ·exact e.symm
   ·rintro rfl
    rcases Nat.eq_zero_or_pos n with rfl | hn
    ·rw [dec_small (by decide)] at e; injection e with _ e; cases e
    ·obtain ⟨c, r2, e2, hc⟩ := dec_head n hn
     rw [e] at e2; injection e2 with e2 _; exact hc e2.symm
  ·rfl
 unfold numRd
 rw [hn, dec_val]
 have hne : Lib.decDigits n ≠ [] := fun e => by
  have := Lib.decDigits_length n
  rw [e] at this
  have := Lib.nDigits_pos n
  simp at *; omega
 rw [if_neg (by rintro (h | h); exact hne h; omega), List.drop_append_of_le_length (Nat.le_refl _), List.drop_length]
 rfl
theorem min_back {x y op : UInt8} (ho : (x = 105 ∧ y = 110 ∧ op = 109) ∨ (x = 97 ∧ y = 120 ∧ op = 77)) {a b : Tr} (ha : BackL a 0) (hb : BackL b 0) {k d : Nat} {v : List UInt8} (hlen : a.raw.length + b.raw.length + 6 + v.length ≤ k + 1) (hd : d + (1 + max a.need b.need) ≤ 20) :
  oneRd (wholeRd k) d ((109 :: x :: y :: 40 :: (a.raw ++ 44 :: (b.raw ++ [41]))) ++ v) = .ok (.bin op a b) v := by
 have e : (109 :: x :: y :: 40 :: (a.raw ++ 44 :: (b.raw ++ [41]))) ++ v = 109 :: x :: y :: 40 :: (a.raw ++ 44 :: (b.raw ++ 41 :: v)) := by simp
 have h1 : wholeRd k (d + 1) (a.raw ++ 44 :: (b.raw ++ 41 :: v)) = .ok a (44 :: (b.raw ++ 41 :: v)) := by
  refine whole_of (by have := at_pos a; rw [List.length_append]; omega) (by simp only [List.length_append, List.length_cons]; omega) fun k2 hk2 => ?_
  have := ha k2 (d + 1) (44 :: (b.raw ++ 41 :: v)) (by rw [at_zero]; simp only [List.length_append, List.length_cons]; omega) (by rw [needs_zero]; omega) (pastL_cons _ ⟨by decide, fun _ => by decide, fun _ => by decide, fun _ => by decide, fun _ => by decide⟩)
  rw [at_zero] at this; exact this
 have h2 : wholeRd k (d + 1) (b.raw ++ 41 :: v) = .ok b (41 :: v) := by
  refine whole_of (by have := at_pos b; rw [List.length_append]; omega) (by simp only [List.length_append, List.length_cons]; omega) fun k2 hk2 => ?_
  have := hb k2 (d + 1) (41 :: v) (by rw [at_zero]; simp only [List.length_cons]; omega) (by rw [needs_zero]; omega) (pastL_cons _ ⟨by decide, fun _ => by decide, fun _ => by decide, fun _ => by decide, fun _ => by decide⟩)
  rw [at_zero] at this; exact this
 have h3 : ∀ op, twoRd (wholeRd k) op (d + 1) (a.raw ++ 44 :: (b.raw ++ 41 :: v)) = .ok (.bin op a b) v := fun op => by
  unfold twoRd
  rw [h1]
  simp only [Rd.bind, wantRd, if_true, h2]
 rw [e]
 rcases ho with ⟨rfl, rfl, rfl⟩ | ⟨rfl, rfl, rfl⟩
 ·show deepRd d _ _ = _
  unfold deepRd
  rw [if_neg (by omega)]; exact h3 _
 ·show deepRd d _ _ = _
  unfold deepRd
  rw [if_neg (by omega)]; exact h3 _
theorem bin_row {L : Nat} {ops : List UInt8} (hL : L = 2 ∨ L = 3) {op : UInt8} (ho : op ∈ ops) (hpast : ∀ r, PastL (L + 1) (op :: r)) {a b : Tr} (hS : ∀ k d, Short (lvl (wholeRd k) (L + 1) d)) (ha : BackR a L (fun k => lvl (wholeRd k) (L + 1)) ops) (hb : BackL b (L + 1)) {k d : Nat} {v : List UInt8}
  (hlen : (a.at_ L).length + (1 + (b.at_ (L + 1)).length) + v.length ≤ k + 1) (hd1 : d + a.needs L ≤ 20) (hd2 : d + b.needs (L + 1) ≤ 20) (hv : PastL (L + 1) v) :
  rowRd (lvl (wholeRd k) (L + 1) d) ops ((a.at_ L ++ op :: b.at_ (L + 1)) ++ v) = loopRd (lvl (wholeRd k) (L + 1) d) ops v.length (.bin op a b) v := by
 have e : (a.at_ L ++ op :: b.at_ (L + 1)) ++ v = a.at_ L ++ (op :: (b.at_ (L + 1) ++ v)) := by simp
 rw [e, ha k d (op :: (b.at_ (L + 1) ++ v)) (by simp only [List.length_cons, List.length_append]; omega) hd1 (hpast _)]
 simp only [List.length_cons, loopRd, if_pos ho]
 rw [hb k d v (by omega) hd2 hv]
 exact loop_fuel (hS k d) _ _ _ _ (by rw [List.length_append]; omega) (Nat.le_refl _)
theorem bin_parts {op : UInt8} {a b : Tr} (h1 : op ≠ 109) (h2 : op ≠ 77) : (Tr.bin op a b).raw = a.at_ (leftOf (tightOp op)) ++ op :: b.at_ (tightOp op + 1) ∧ (Tr.bin op a b).need = max (a.needs (leftOf (tightOp op))) (b.needs (tightOp op + 1)) := by
 refine ⟨?_, ?_⟩
 ·simp only [Tr.raw, if_neg h1, if_neg h2]; rfl
 ·simp only [Tr.need, if_neg (show ¬ (op = 109 ∨ op = 77) from fun h => h.elim h1 h2)]; rfl
theorem row_back {L : Nat} {ops : List UInt8} (hL : L = 2 ∨ L = 3) {op : UInt8} {a b : Tr} (ht : tightOp op = L) (hraw : (Tr.bin op a b).raw = a.at_ L ++ op :: b.at_ (L + 1)) (hneed : (Tr.bin op a b).need = max (a.needs L) (b.needs (L + 1)))
  (hlv : ∀ k d x, lvl (wholeRd k) L d x = rowRd (lvl (wholeRd k) (L + 1) d) ops x) (hstop : ∀ v, PastL L v → ∀ c r, v = c :: r → c ∉ ops)
  (hrow : ∀ k d v, (a.at_ L).length + (1 + (b.at_ (L + 1)).length) + v.length ≤ k + 1 → d + a.needs L ≤ 20 → d + b.needs (L + 1) ≤ 20 → PastL (L + 1) v → rowRd (lvl (wholeRd k) (L + 1) d) ops ((a.at_ L ++ op :: b.at_ (L + 1)) ++ v) = loopRd (lvl (wholeRd k) (L + 1) d) ops v.length (.bin op a b) v) :
  (∀ M, M ≤ 5 → BackL (.bin op a b) M) ∧ BackR (.bin op a b) L (fun k => lvl (wholeRd k) (L + 1)) ops := by
 have htt : (Tr.bin op a b).tight = L := ht
 obtain ⟨e1, e2⟩ := at_of_tight (t := .bin op a b) (L := L) (by rw [htt]; exact Nat.le_refl _)
 refine ⟨back_all (fun k d v hlen hd hv => ?_) (by rw [htt]; omega), fun k d v hlen hd hv => ?_⟩
 ·rw [htt] at hv ⊢
  rw [hraw] at hlen ⊢
  rw [hneed] at hd
  rw [hlv, hrow k d v (by simp only [List.length_append, List.length_cons] at hlen; omega) (by omega) (by omega) (hv.up (by omega))]
  exact loop_stop (hstop v hv) _ _
 ·rw [e1, hraw] at hlen ⊢
  rw [e2, hneed] at hd
  exact hrow k d v (by simp only [List.length_append, List.length_cons] at hlen; omega) (by omega) (by omega) hv
theorem back (t : Tr) (hf : t.fine) : Back t := by
 induction t with
 | num k =>
  refine back_of (Nat.le_refl _) (show (5 : Nat) ≠ 2 by omega) (show (5 : Nat) ≠ 3 by omega) fun k' d v hlen hd hv => ?_
  show oneRd _ d (Lib.itoa k ++ v) = _
  have hn : numRd (Lib.itoa k ++ v) = .ok (.num k) v := num_back hf.1 hf.2 fun c r e => (hv c r e).1
  obtain ⟨c, r, e, hc⟩ := num_head (num_ok hn).1
  rw [← hn, e]
  exact one_dig _ _ _ hc
 | nam n =>
  refine back_of (Nat.le_refl _) (show (5 : Nat) ≠ 2 by omega) (show (5 : Nat) ≠ 3 by omega) fun k' d v hlen hd hv => ?_
  cases n <;> rfl
 | neg a ih =>
  have ha := (ih hf).all 4 (by omega)
  refine back_of (show 4 ≤ 5 by omega) (show (4 : Nat) ≠ 2 by omega) (show (4 : Nat) ≠ 3 by omega) fun k d v hlen hd hv => ?_
  have e1 : (Tr.neg a).raw = 45 :: a.at_ 4 := rfl
  have e2 : (Tr.neg a).need = 1 + a.needs 4 := rfl
  rw [e1] at hlen ⊢
  rw [e2] at hd
  show lessRd _ d (45 :: (a.at_ 4 ++ v)) = _
  rw [less_minus]
  unfold deepRd
  rw [if_neg (by omega)]
  have h : lessRd (wholeRd k) (d + 1) (a.at_ 4 ++ v) = .ok a v := ha k (d + 1) v (by simp only [List.length_cons] at hlen; omega) (by omega) hv
  rw [h]; rfl
 | sel a b c iha ihb ihc =>
  obtain ⟨hfa, hfb, hfc⟩ := hf
  refine back_of (Nat.zero_le _) (show (0 : Nat) ≠ 2 by omega) (show (0 : Nat) ≠ 3 by omega) fun k d v hlen hd hv => ?_
  have e1 : (Tr.sel a b c).raw = a.at_ 1 ++ 63 :: (b.raw ++ 58 :: c.raw) := rfl
  have e2 : (Tr.sel a b c).need = max (a.needs 1) (max (1 + b.need) (1 + c.need)) := rfl
  rw [e1] at hlen ⊢
  rw [e2] at hd
  simp only [List.length_append, List.length_cons] at hlen
  have e3 : a.at_ 1 ++ 63 :: (b.raw ++ 58 :: c.raw) ++ v = a.at_ 1 ++ 63 :: (b.raw ++ 58 :: (c.raw ++ v)) := by simp
  have h1 : cmpRd (wholeRd k) d (a.at_ 1 ++ 63 :: (b.raw ++ 58 :: (c.raw ++ v))) = .ok a (63 :: (b.raw ++ 58 :: (c.raw ++ v))) :=
   (iha hfa).all 1 (by omega) k d _ (by simp only [List.length_append, List.length_cons]; omega) (by omega) (pastL_cons _ ⟨by decide, fun _ => by decide, fun _ => by decide, fun _ => by decide, fun h => absurd h (by omega)⟩)
  have h2 : wholeRd k (d + 1) (b.raw ++ 58 :: (c.raw ++ v)) = .ok b (58 :: (c.raw ++ v)) := by
   refine whole_of (by have := at_pos b; rw [List.length_append]; omega) (by simp only [List.length_append, List.length_cons]; omega) fun k2 hk2 => ?_
   have := (ihb hfb).all 0 (by omega) k2 (d + 1) (58 :: (c.raw ++ v)) (by rw [at_zero]; simp only [List.length_append, List.length_cons]; omega) (by rw [needs_zero]; omega) (pastL_cons _ ⟨by decide, fun _ => by decide, fun _ => by decide, fun _ => by decide, fun _ => by decide⟩)
   rw [at_zero] at this; exact this
  have h3 : wholeRd k (d + 1) (c.raw ++ v) = .ok c v := by
   refine whole_of (by have := at_pos c; rw [List.length_append]; omega) (by simp only [List.length_append]; omega) fun k2 hk2 => ?_
   have := (ihc hfc).all 0 (by omega) k2 (d + 1) v (by rw [at_zero]; omega) (by rw [needs_zero]; omega) hv
   rw [at_zero] at this; exact this
  rw [e3]
  show (cmpRd _ d _).bind _ = _
  rw [h1]
  show selRd _ d a (63 :: _) = _
  simp only [selRd, if_true]
  unfold deepRd
  rw [if_neg (by omega), h2]
  simp only [Rd.bind, wantRd, if_true, h3]
 | bin op a b iha ihb =>
  obtain ⟨ho, hfa, hfb⟩ := hf
  have ha := iha hfa
  have hb := ihb hfb
  have ho' : op = 109 ∨ op = 77 ∨ (op = 61 ∨ op = 60 ∨ op = 62) ∨ (op = 43 ∨ op = 45) ∨ (op = 42 ∨ op = 47 ∨ op = 37) := by
   simp only [isOp, Bool.or_eq_true, beq_iff_eq] at ho
   rcases ho with ((((((((h | h) | h) | h) | h) | h) | h) | h) | h) | h <;> simp [h]
  rcases ho' with rfl | rfl | ho | ho | ho
  ·refine back_of (Nat.le_refl _) (show (5 : Nat) ≠ 2 by omega) (show (5 : Nat) ≠ 3 by omega) fun k d v hlen hd hv => ?_
   exact min_back (.inl ⟨rfl, rfl, rfl⟩) (ha.all 0 (by omega)) (hb.all 0 (by omega)) (by simp only [Tr.raw, if_true, List.length_append, List.length_cons, List.length_nil] at hlen; omega) hd
  ·refine back_of (Nat.le_refl _) (show (5 : Nat) ≠ 2 by omega) (show (5 : Nat) ≠ 3 by omega) fun k d v hlen hd hv => ?_
   exact min_back (.inr ⟨rfl, rfl, rfl⟩) (ha.all 0 (by omega)) (hb.all 0 (by omega)) (by have e := (min_len_ 77 (.inr rfl) a b).1; rw [e] at hlen; omega) hd
  ·have hk : tightOp op = 1 ∧ op ≠ 109 ∧ op ≠ 77 := by rcases ho with rfl | rfl | rfl <;> decide
   obtain ⟨hk, n1, n2⟩ := hk
   obtain ⟨p1, p2⟩ := bin_parts (a := a) (b := b) n1 n2
   rw [hk] at p1 p2
   have htt : (Tr.bin op a b).tight = 1 := hk
   refine back_of (by rw [htt]; omega) (by rw [htt]; omega) (by rw [htt]; omega) fun k d v hlen hd hv => ?_
   rw [htt] at hv ⊢
   have q1 : (Tr.bin op a b).raw = a.at_ 2 ++ op :: b.at_ 2 := p1
   have q2 : (Tr.bin op a b).need = max (a.needs 2) (b.needs 2) := p2
   rw [q1] at hlen ⊢
   rw [q2] at hd
   simp only [List.length_append, List.length_cons] at hlen
   have e3 : a.at_ 2 ++ op :: b.at_ 2 ++ v = a.at_ 2 ++ op :: (b.at_ 2 ++ v) := by simp
   have h1 : addRd (wholeRd k) d (a.at_ 2 ++ op :: (b.at_ 2 ++ v)) = .ok a (op :: (b.at_ 2 ++ v)) :=
    ha.all 2 (by omega) k d _ (by simp only [List.length_append, List.length_cons]; omega) (by omega) (pastL_cons _ (by rcases ho with rfl | rfl | rfl <;> exact ⟨by decide, fun _ => by decide, fun _ => by decide, fun h => absurd h (by omega), fun h => absurd h (by omega)⟩))
   have h2 : addRd (wholeRd k) d (b.at_ 2 ++ v) = .ok b v := hb.all 2 (by omega) k d v (by omega) (by omega) (hv.up (by omega))
   rw [e3]
   show (addRd _ d _).bind _ = _
   rw [h1]
   show cmpTl _ d a (op :: _) = _
   have hm : op ∈ ([61, 60, 62] : List UInt8) := by rcases ho with rfl | rfl | rfl <;> decide
   simp only [cmpTl, if_pos hm, h2, Rd.bind]
  ·have hk : tightOp op = 2 ∧ op ≠ 109 ∧ op ≠ 77 := by rcases ho with rfl | rfl <;> decide
   obtain ⟨hk, n1, n2⟩ := hk
   obtain ⟨p1, p2⟩ := bin_parts (a := a) (b := b) n1 n2
   rw [hk] at p1 p2
   have hm : op ∈ ([43, 45] : List UInt8) := by rcases ho with rfl | rfl <;> decide
   have hp : ∀ r, PastL 3 (op :: r) := fun r => pastL_cons _ (by rcases ho with rfl | rfl <;> exact ⟨by decide, fun _ => by decide, fun h => absurd h (by omega), fun h => absurd h (by omega), fun h => absurd h (by omega)⟩)
   obtain ⟨r1, r2⟩ := row_back (ops := [43, 45]) (.inl rfl) hk p1 p2 (fun k d x => rfl) (fun v hv c r e => (hv c r e).2.2.1 (by omega)) (fun k d v g1 g2 g3 g4 => bin_row (.inl rfl) hm hp (fun k d => row_short (less_short (whole_short k) d) _) ha.add (hb.all 3 (by omega)) g1 g2 g3 g4)
   have htt : (Tr.bin op a b).tight = 2 := hk
   exact ⟨r1, back_row (.inr rfl) (r1 4 (by omega)) (at_same (by rw [htt]; omega)).1 (at_same (by rw [htt]; omega)).2 _, r2⟩
  ·have hk : tightOp op = 3 ∧ op ≠ 109 ∧ op ≠ 77 := by rcases ho with rfl | rfl | rfl <;> decide
   obtain ⟨hk, n1, n2⟩ := hk
   obtain ⟨p1, p2⟩ := bin_parts (a := a) (b := b) n1 n2
   rw [hk] at p1 p2
   have hm : op ∈ ([42, 47, 37] : List UInt8) := by rcases ho with rfl | rfl | rfl <;> decide
   have hp : ∀ r, PastL 4 (op :: r) := fun r => pastL_cons _ (by rcases ho with rfl | rfl | rfl <;> exact ⟨by decide, fun h => absurd h (by omega), fun h => absurd h (by omega), fun h => absurd h (by omega), fun h => absurd h (by omega)⟩)
   obtain ⟨r1, r2⟩ := row_back (ops := [42, 47, 37]) (.inr rfl) hk p1 p2 (fun k d x => rfl) (fun v hv c r e => (hv c r e).2.1 (by omega)) (fun k d v g1 g2 g3 g4 => bin_row (.inr rfl) hm hp (fun k d => less_short (whole_short k) d) ha.mul (hb.all 4 (by omega)) g1 g2 g3 g4)
   have htt : (Tr.bin op a b).tight = 3 := hk
   exact ⟨r1, r2, back_row (.inl rfl) (r1 3 (by omega)) (at_same (by rw [htt]; omega)).1 (at_same (by rw [htt]; omega)).2 _⟩
theorem print_back {s : List UInt8} {t : Tr} (h : parseT s = .tree t) : parseT t.raw = .tree t ∧ t.raw.length ≤ s.length ∧ t.fine := by
 obtain ⟨hl, h⟩ := parse_ok h
 obtain ⟨hf, h1, h2⟩ := whole_fits _ _ _ _ _ (by omega) h
 rw [at_zero] at h1
 rw [needs_zero] at h2
 have hlen : t.raw.length ≤ s.length := by simpa using h1
 refine ⟨?_, hlen, hf⟩
 unfold parseT
 rw [if_neg (by omega)]
 have hp := at_pos t
 rw [whole_succ hp]
 have hb := (back t hf).all 0 (by omega) (t.raw.length - 1) 0 [] (by rw [at_zero]; simp; omega) (by rw [needs_zero]; omega) (pastL_nil 0)
 rw [at_zero, List.append_nil] at hb
 rw [show wholeStep (wholeRd (t.raw.length - 1)) 0 t.raw = _ from hb]
end Go.Proofs.YtfndhfekbbbliaaGreatDoor

/-
  Package expr: the contract of Eval. Conditions: the text's length; the two variables of Atoi's errors hold errors.
-/
namespace Go.Proofs.YtfndhfekbbbliaaGreatDoor
open Go.RowKit Go.Shelf
set_option linter.unusedVariables false
theorem fine_of {s : List UInt8} {t : Tr} (h : parseT s = .tree t) : t.fine := (print_back h).2.2
set_option maxRecDepth 100000 in
theorem eval_fault (s : ByteArray) (n sv : Int) (w : World) (hv : ErrVars w) (hsz : s.size ≤ maxLen) {k : Nat} {j : Int} (hp : parseT s.data.toList = .fault k j) :
  Calls Tryz.prog 15 #[.string s, .int .i64 n, .int .i64 sv] w fun e w' => e = .returned (.tuple #[.int .i64 0, errV j]) ∧ Below w.heap.size w w' := by
 have HPR := Lib.hid (parse_reads s w hv hsz)
 have HP := Lib.hid hp
 clear hp hv
 go_enter Tryz.func15, Tryz.ntmps15
 go_wp2_with fail
 refine HPR.out.mono ?_
 rintro e w1 ⟨h1, hb⟩
 have h2 := parse_fault h1 HP.out
 subst h2
 have HB := Lib.hid hb
 clear hb h1 HP HPR
 unfold errV trA
 go_wp2_with fail
 go_ret2
 exact ⟨rfl, (HB.out.alloc HB.out.size _)⟩
set_option maxRecDepth 100000 in
theorem eval_tree (s : ByteArray) (n sv : Int) (w : World) (hv : ErrVars w) (hsz : s.size ≤ maxLen) (hn : I64_ n) (hs : I64_ sv) {t : Tr} (hp : parseT s.data.toList = .tree t) :
  Calls Tryz.prog 15 #[.string s, .int .i64 n, .int .i64 sv] w fun e w' => e = .returned (.tuple #[.int .i64 (t.val n sv), .nilIface]) ∧ Below w.heap.size w w' := by
 have HPR := Lib.hid (parse_reads s w hv hsz)
 have HEV := Lib.hid (eval_ok t (fine_of hp) n sv hn hs)
 have HP := Lib.hid hp
 clear hp hv
 go_enter Tryz.func15, Tryz.ntmps15
 go_wp2_with fail
 refine HPR.out.mono ?_
 rintro e w1 ⟨h1, hb⟩
 obtain ⟨o, k, A, c, rfl, ht⟩ := parse_tree h1 HP.out
 have HB := Lib.hid hb
 have HT := Lib.hid ht
 clear hb h1 HP HPR ht
 unfold trA
 go_wp2_with fail
 have hb1 : Below w.heap.size w (w1.alloc (.cells #[.int .u8 o, .int .i64 k, .slice A c c] 86)) := HB.out.alloc HB.out.size _
 refine (HEV.out o k A c _ (((HT.out.in_ (G := fun j => j < w1.heap.size) fun j _ h => h).keep fun j hj => heap_alloc_old _ _ hj).in_ fun j hj hj2 => hj2)).mono ?_
 rintro e w2 ⟨rfl, hb2⟩
 have HB2 := Lib.hid (hb1.trans (hb2.mono hb1.size))
 clear hb1 hb2 HEV HT HB
 go_wp2_with fail
 go_ret2
 exact ⟨rfl, HB2.out⟩
end Go.Proofs.YtfndhfekbbbliaaGreatDoor

/-
  Expressions, plain: where a text is wrong the fault is one of two. No condition: plain lemmas.
-/
namespace Go.Proofs.YtfndhfekbbbliaaGreatDoor
open Go.RowKit
set_option linter.unusedVariables false
def Two (r : Rd) : Prop := match r with
 | .ok _ _ => True
 | .bad _ e => e = 2 ∨ e = 4
theorem Two.bind {r : Rd} {f : Tr → List UInt8 → Rd} (h : Two r) (hf : ∀ t l, Two (f t l)) : Two (r.bind f) := by
 cases r with
 | ok t l => exact hf t l
 | bad k e => exact h
theorem Two.want (c : UInt8) (l : List UInt8) {f : List UInt8 → Rd} (hf : ∀ l, Two (f l)) : Two (wantRd c l f) := by
 unfold wantRd
 split
 ·split
  ·exact hf _
  ·exact .inl rfl
 ·exact .inl rfl
theorem Two.deep (d k : Nat) {r : Rd} (h : Two r) : Two (deepRd d k r) := by
 unfold deepRd
 split
 ·exact .inr rfl
 ·exact h
theorem num_two (l : List UInt8) : Two (numRd l) := by
 unfold numRd
 split
 ·exact .inl rfl
 ·trivial
theorem loop_two {next : List UInt8 → Rd} (hn : ∀ l, Two (next l)) (ops : List UInt8) : ∀ k a l, Two (loopRd next ops k a l) := by
 intro k
 induction k with
 | zero => intro a l; trivial
 | succ k ih =>
  intro a l
  unfold loopRd
  split
  ·split
   ·exact (hn _).bind fun b l1 => ih _ _
   ·trivial
  ·trivial
theorem row_two_ {next : List UInt8 → Rd} (hn : ∀ l, Two (next l)) (ops : List UInt8) (l : List UInt8) : Two (rowRd next ops l) :=
 (hn l).bind fun a l1 => loop_two hn ops _ _ _
section
variable {W : Reads} (hW : ∀ d l, Two (W d l))
include hW
theorem two_two (op : UInt8) (d : Nat) (l : List UInt8) : Two (twoRd W op d l) :=
 (hW d l).bind fun a l1 => Two.want 44 l1 fun l2 => (hW d l2).bind fun b l3 => Two.want 41 l3 fun l4 => trivial
theorem one_two (d : Nat) (l : List UInt8) : Two (oneRd W d l) := by
 unfold oneRd
 split
 ·exact Two.deep _ _ (two_two hW _ _ _)
 ·exact Two.deep _ _ (two_two hW _ _ _)
 ·trivial
 ·trivial
 ·exact Two.deep _ _ ((hW _ _).bind fun a l1 => Two.want 41 l1 fun l2 => trivial)
 ·exact num_two _
theorem less_two (l : List UInt8) : ∀ d, Two (lessRd W d l) := by
 induction l with
 | nil => intro d; exact one_two hW d []
 | cons c r ih =>
  intro d
  unfold lessRd
  split
  ·rename_i r' e
   injection e with e1 e2
   subst e2
   exact Two.deep _ _ ((ih _).bind fun a l1 => trivial)
  ·exact one_two hW d _
theorem add_two (d : Nat) (l : List UInt8) : Two (addRd W d l) := row_two_ (fun l => row_two_ (fun l => less_two hW l d) _ l) _ l
theorem step_two (d : Nat) (l : List UInt8) : Two (wholeStep W d l) := by
 refine Two.bind (Two.bind (add_two hW d l) fun a l1 => ?_) fun a l1 => ?_
 ·unfold cmpTl
  split
  ·split
   ·exact (add_two hW d _).bind fun b l2 => trivial
   ·trivial
  ·trivial
 ·unfold selRd
  split
  ·split
   ·exact Two.deep _ _ ((hW _ _).bind fun b l2 => Two.want 58 l2 fun l3 => (hW _ _).bind fun c l4 => trivial)
   ·trivial
  ·trivial
end
theorem whole_two : ∀ k d l, Two (wholeRd k d l) := by
 intro k
 induction k with
 | zero => intro d l; exact step_two (W := fun _ l => .bad l.length 2) (fun d l => (Or.inl rfl : (2 : Int) = 2 ∨ (2 : Int) = 4)) d l
 | succ k ih => intro d l; exact step_two ih d l
theorem parse_two {s : List UInt8} {k : Nat} {e : Int} (h : parseT s = .fault k e) : e = 2 ∨ e = 4 := by
 unfold parseT at h
 split at h
 ·injection h with h1 h2; exact .inr h2.symm
 ·have hw := whole_two s.length 0 s
  split at h
  ·cases h
  ·injection h with h1 h2; exact .inl h2.symm
  ·rename_i k' e' heq
   injection h with h1 h2
   subst h2
   rw [heq] at hw
   exact hw
theorem parse_err_pos {s : List UInt8} {k : Nat} {e : Int} (h : parseT s = .fault k e) : e ≠ 0 := by
 rcases parse_two h with h | h <;> omega
end Go.Proofs.YtfndhfekbbbliaaGreatDoor

/-
  Package job: the contracts of texted, counted, inputs, numbers, node. Conditions: where the job lies; the two variables of Atoi's errors hold errors.
-/
namespace Go.Proofs.YtfndhfekbbbliaaGreatDoor
open Go.RowKit Go.Shelf
set_option linter.unusedVariables false
def errJ (e : Int) : Value := if e = 0 then .nilIface else errV e
theorem texted_ok (k : Int) (w : World) : Calls Tryz.prog 62 #[.int .i64 k] w fun e w' => e = .returned (.bool (texted k)) ∧ w = w' := by
 by_cases h2 : k = 2
 ·subst h2
  go_enter Tryz.func62, Tryz.ntmps62
  go_wp2
  go_ret
  exact ⟨rfl, rfl⟩
 by_cases h3 : k = 3
 ·subst h3
  go_enter Tryz.func62, Tryz.ntmps62
  go_wp2
  go_ret
  exact ⟨rfl, rfl⟩
 by_cases h4 : k = 4
 ·subst h4
  go_enter Tryz.func62, Tryz.ntmps62
  go_wp2
  go_ret
  exact ⟨rfl, rfl⟩
 have e2 : (k == 2) = false := by simp [h2]
 have e3 : (k == 3) = false := by simp [h3]
 have e4 : (k == 4) = false := by simp [h4]
 have HT : Hid (texted k = (k == 7)) := by simp [Hid, texted, h2, h3, h4]
 clear h2 h3 h4
 go_enter Tryz.func62, Tryz.ntmps62
 go_wp2
 go_ret
 exact ⟨by rw [HT.out]; rfl, rfl⟩
theorem counted_ok (k : Int) (w : World) : Calls Tryz.prog 61 #[.int .i64 k] w fun e w' => e = .returned (.bool (counted k)) ∧ w = w' := by
 by_cases h2 : k = 1
 ·subst h2
  go_enter Tryz.func61, Tryz.ntmps61
  go_wp2
  go_ret
  exact ⟨rfl, rfl⟩
 by_cases h3 : k = 5
 ·subst h3
  go_enter Tryz.func61, Tryz.ntmps61
  go_wp2
  go_ret
  exact ⟨rfl, rfl⟩
 have e2 : (k == 1) = false := by simp [h2]
 have e3 : (k == 5) = false := by simp [h3]
 have HT : Hid (counted k = (k == 8)) := by simp [Hid, counted, h2, h3]
 clear h2 h3
 go_enter Tryz.func61, Tryz.ntmps61
 go_wp2
 go_ret
 exact ⟨by rw [HT.out]; rfl, rfl⟩
theorem inputs_ok (k : Int) (w : World) : Calls Tryz.prog 97 #[.int .i64 k] w fun e w' => e = .returned (.tuple #[.int .i64 (inLow k), .int .i64 (inHigh k)]) ∧ w = w' := by
 by_cases h1 : k = 1
 ·subst h1
  go_enter Tryz.func97, Tryz.ntmps97
  go_wp2
  go_ret2
  exact ⟨rfl, rfl⟩
 by_cases h6 : k = 6
 ·subst h6
  go_enter Tryz.func97, Tryz.ntmps97
  go_wp2
  go_ret2
  exact ⟨rfl, rfl⟩
 have e1 : (k == 1) = false := by simp [h1]
 have e6 : (k == 6) = false := by simp [h6]
 have HT : Hid (inLow k = 1 ∧ inHigh k = 1) := by simp [Hid, inLow, inHigh, h1, h6]
 clear h1 h6
 go_enter Tryz.func97, Tryz.ntmps97
 go_wp2
 go_ret2
 exact ⟨by rw [HT.out.1, HT.out.2]; rfl, rfl⟩
theorem numbers_ok (k : Int) (w : World) : Calls Tryz.prog 98 #[.int .i64 k] w fun e w' => e = .returned (.tuple #[.int .i64 (numLow k), .int .i64 (numHigh k)]) ∧ w = w' := by
 by_cases h1 : k = 1
 ·subst h1
  go_enter Tryz.func98, Tryz.ntmps98
  go_wp2
  go_ret2
  exact ⟨rfl, rfl⟩
 by_cases h5 : k = 5
 ·subst h5
  go_enter Tryz.func98, Tryz.ntmps98
  go_wp2
  go_ret2
  exact ⟨rfl, rfl⟩
 by_cases h8 : k = 8
 ·subst h8
  go_enter Tryz.func98, Tryz.ntmps98
  go_wp2
  go_ret2
  exact ⟨rfl, rfl⟩
 have e1 : (k == 1) = false := by simp [h1]
 have e5 : (k == 5) = false := by simp [h5]
 have e8 : (k == 8) = false := by simp [h8]
 have HT : Hid (numLow k = 0 ∧ numHigh k = 0) := by simp [Hid, numLow, numHigh, h1, h5, h8]
 clear h1 h5 h8
 go_enter Tryz.func98, Tryz.ntmps98
 go_wp2
 go_ret2
 exact ⟨by rw [HT.out.1, HT.out.2]; rfl, rfl⟩
def nodeBody (l : List Nod) (i : Nat) (n : Nod) : Int :=
 if (n.text.size ≠ 0 ∧ texted n.kind = false) ∨ (n.n ≠ 0 ∧ counted n.kind = false) then 3
 else if n.n < numLow n.kind ∨ numHigh n.kind < n.n then 1
 else if texted n.kind then textErr n.text.data.toList
 else 0
theorem nodeErr_eq (l : List Nod) (i : Nat) (n : Nod) : nodeErr l i n =
 if n.kind < 1 ∨ 10 < n.kind then 1
 else if (n.from_.length : Int) < inLow n.kind ∨ inHigh n.kind < (n.from_.length : Int) then 3
 else if fromErr l i n.from_ ≠ 0 then fromErr l i n.from_
 else nodeBody l i n := rfl
theorem from_cons (l : List Nod) (i : Nat) (f : Int) (r : List Int) : fromErr l i (f :: r) = if f < 0 ∨ (i : Int) ≤ f then 1 else if (l[f.toNat]?.map (·.kind)) = some 10 then 7 else fromErr l i r := rfl
theorem size_of_nil {s : ByteArray} (h : s.toList = []) : s.size = 0 := by
 rw [ByteArray.toList_eq] at h
 have : s.data.toList.length = s.size := by simp
 rw [h] at this
 exact this.symm
theorem text_err (s : List UInt8) : errOf (parseT s) = errJ (textErr s) := by
 unfold textErr errJ
 cases h : parseT s with
 | tree t => rfl
 | fault k e => rw [if_neg (parse_err_pos h)]; rfl
theorem empty_of_size {s : ByteArray} (h : s.size = 0) : s = ⟨#[]⟩ := by
 apply ByteArray.ext
 exact Array.eq_empty_of_size_eq_zero h
set_option maxRecDepth 100000 in
set_option maxHeartbeats 4000000 in
theorem node_ok (F : Nat → Prop) (A : Option Addr) (c : Nat) (l : List Nod) (i : Nat) (hi : i < l.length) (w : World) (hl : SlA nodE F w A c l) (hF : ∀ k, F k → k < w.heap.size) (hv : ErrVars w) :
  Calls Tryz.prog 55 #[.slice A l.length c, .int .i64 i] w fun e w' => e = .returned (errJ (nodeErr l i l[i])) ∧ Below w.heap.size w w' := by
 obtain ⟨b, off, A', c', rfl, hFb, x0, x1, x2, x3, htm, hki, hni, hfr⟩ := hl.nod_ hi
 have hbw := hF b hFb
 have HL := Lib.hid hl
 have HV := Lib.hid hv
 have HFR := Lib.hid hfr
 have hll := hl.le
 have hfl := hfr.le
 have bk := bounds_i64 hki
 have bn := bounds_i64 hni
 have HEQ := Lib.hid (nodeErr_eq l i l[i])
 clear hl hv hfr hki hni
 generalize hn : l[i] = nd at x0 x1 x2 x3 htm HFR hfl bk bn HEQ ⊢
 clear hn
 obtain ⟨kind, from_, text, nn⟩ := nd
 simp only at x0 x1 x2 x3 htm HFR hfl bk bn HEQ ⊢
 by_cases hk : kind < 1 ∨ 10 < kind
 ·rw [if_pos hk] at HEQ
  rcases hk with hk | hk
  ·have d1 : decide (kind < 1) = true := decide_eq_true hk
   go_enter Tryz.func55, Tryz.ntmps55
   go_wp2_with fail
   go_ret
   exact ⟨by rw [HEQ.out]; rfl, (Below.refl _ _).alloc (Nat.le_refl _) _⟩
  ·have d1 : decide (kind < 1) = false := decide_eq_false (by omega)
   have d2 : decide (10 < kind) = true := decide_eq_true hk
   go_enter Tryz.func55, Tryz.ntmps55
   go_wp2_with fail
   go_ret
   exact ⟨by rw [HEQ.out]; rfl, (Below.refl _ _).alloc (Nat.le_refl _) _⟩
 rw [if_neg hk] at HEQ
 have hk1 : 1 ≤ kind := by omega
 have hk2 : kind ≤ 10 := by omega
 clear hk
 obtain ⟨W1, hW1⟩ : ∃ W1, W1 = w.alloc (.cells #[.int .i64 kind, .slice A' from_.length c', .string text, .int .i64 nn] 40) := ⟨_, rfl⟩
 have hb1 : Below w.heap.size w W1 := by rw [hW1]; exact (Below.refl _ _).alloc (Nat.le_refl _) _
 have hv1 : W1.heap[w.heap.size]? = some (.cells #[.int .i64 kind, .slice A' from_.length c', .string text, .int .i64 nn] 40 (0, 0)) := by rw [hW1]; exact heap_alloc_new _ _
 have v0 : W1.cell? ⟨w.heap.size, 0, none⟩ = some (.int .i64 kind) := (cell_of_row W1 _ 0 _ _ _ hv1).trans rfl
 have v1 : W1.cell? ⟨w.heap.size, 1, none⟩ = some (.slice A' from_.length c') := (cell_of_row W1 _ 1 _ _ _ hv1).trans rfl
 have v2 : W1.cell? ⟨w.heap.size, 2, none⟩ = some (.string text) := (cell_of_row W1 _ 2 _ _ _ hv1).trans rfl
 have v3 : W1.cell? ⟨w.heap.size, 3, none⟩ = some (.int .i64 nn) := (cell_of_row W1 _ 3 _ _ _ hv1).trans rfl
 have HL1 := Lib.hid (HL.out.keep (fun j hj => hb1.block j (hF j hj)))
 have HF1 := Lib.hid (HFR.out.keep (fun j hj => hb1.block j (hF j hj)))
 have HB1 := Lib.hid hb1
 have HV1 := Lib.hid (HV.out.below hb1)
 clear hb1 hv1 HL HFR HV
 go_enter Tryz.func55, Tryz.ntmps55
 go_upto_region 2 with (fail)
 rw [← hW1]
 clear hW1 x0 x1 x2 x3
 go_wp2_with fail
 refine (inputs_ok kind W1).mono ?_
 rintro e w2 ⟨rfl, rfl⟩
 by_cases hlo : (from_.length : Int) < inLow kind
 ·rw [if_pos (.inl hlo)] at HEQ
  have d1 : decide ((from_.length : Int) < inLow kind) = true := decide_eq_true hlo
  go_wp2_with fail
  go_ret
  exact ⟨by rw [HEQ.out]; rfl, HB1.out⟩
 by_cases hhi : inHigh kind < (from_.length : Int)
 ·rw [if_pos (.inr hhi)] at HEQ
  have d1 : decide ((from_.length : Int) < inLow kind) = false := decide_eq_false hlo
  have d2 : decide (inHigh kind < (from_.length : Int)) = true := decide_eq_true hhi
  go_wp2_with fail
  go_ret
  exact ⟨by rw [HEQ.out]; rfl, HB1.out⟩
 rw [if_neg (by omega)] at HEQ
 have d1 : decide ((from_.length : Int) < inLow kind) = false := decide_eq_false hlo
 have d2 : decide (inHigh kind < (from_.length : Int)) = false := decide_eq_false hhi
 clear hlo hhi
 go_wp2_with fail
 go_loop [49] (fun jv => ∃ j : Nat, j ≤ from_.length ∧ jv = .int .i64 j ∧ Hid (fromErr l i (from_.drop j) = fromErr l i from_)) (fun jv => from_.length - (intOf jv).toNat)
 case atStart => exact ⟨0, Nat.zero_le _, rfl, rfl⟩
 case round =>
  obtain ⟨j, hj, rfl, HJ⟩ := hrel
  by_cases hlt : j < from_.length
  ·obtain ⟨bf, of_, rfl, _, hcf, _⟩ := HF1.out.int_ hlt
   have hdr : from_.drop j = from_[j] :: from_.drop (j + 1) := List.drop_eq_getElem_cons hlt
   have HJ2 : Hid (fromErr l i from_ = if from_[j] < 0 ∨ (i : Int) ≤ from_[j] then 1 else if (l[from_[j].toNat]?.map (·.kind)) = some 10 then 7 else fromErr l i (from_.drop (j + 1))) := by
    show _ = _
    rw [← HJ.out, hdr, from_cons]
   generalize from_[j] = f at hcf HJ2
   clear hdr HJ
   by_cases hf : f < 0 ∨ (i : Int) ≤ f
   ·rw [if_pos hf] at HJ2
    have HE : Hid (nodeErr l i ⟨kind, from_, text, nn⟩ = 1) := by show _ = _; rw [HEQ.out, HJ2.out]; rfl
    rcases hf with hf | hf
    ·have e1 : decide (f < 0) = true := decide_eq_true hf
     go_wp2_with fail
     go_ret
     exact ⟨by rw [HE.out]; rfl, HB1.out⟩
    ·have e1 : decide (f < 0) = false := decide_eq_false (by omega)
     have e2 : decide ((i : Int) ≤ f) = true := decide_eq_true hf
     go_wp2_with fail
     go_ret
     exact ⟨by rw [HE.out]; rfl, HB1.out⟩
   ·rw [if_neg hf] at HJ2
    obtain ⟨fn, rfl⟩ : ∃ fn : Nat, f = fn := ⟨f.toNat, by omega⟩
    have hfi : fn < i := by omega
    have hfl2 : fn < l.length := by omega
    obtain ⟨bl, ol, A2, c2, hAl, _, y0, _, _, _, _, _, _, _⟩ := HL1.out.nod_ hfl2
    injection hAl with hAl
    injection hAl with hA1 hA2
    subst hA1; subst hA2
    obtain ⟨fk, hfk⟩ : ∃ fk, l[fn].kind = fk := ⟨_, rfl⟩
    have HJ2b : Hid (fromErr l i from_ = if fk = 10 then 7 else fromErr l i (from_.drop (j + 1))) := by
     show _ = _
     rw [HJ2.out, Int.toNat_natCast, List.getElem?_eq_getElem hfl2, ← hfk]
     by_cases h : l[fn].kind = 10 <;> simp [h]
    rw [hfk] at y0
    clear hfk HJ2
    by_cases h10 : fk = 10
    ·subst h10
     have HE : Hid (nodeErr l i ⟨kind, from_, text, nn⟩ = 7) := by show _ = _; rw [HEQ.out, HJ2b.out]; rfl
     go_wp2_with fail
     go_ret
     exact ⟨by rw [HE.out]; rfl, HB1.out⟩
    ·have e10 : (fk == 10) = false := by simp [h10]
     have HJ3 : Hid (fromErr l i (from_.drop (j + 1)) = fromErr l i from_) := by
      show _ = _
      rw [HJ2b.out, if_neg h10]
     clear h10 HJ2b hf
     go_wp2_with fail
     go_round
     case rel => exact ⟨j + 1, by omega, by go_num, HJ3⟩
     case measure => simp [intOf]; omega
  ·have dj : decide (j < from_.length) = false := decide_eq_false hlt
   have HJ0 : Hid (fromErr l i from_ = 0) := by
    show _ = _
    rw [← HJ.out, List.drop_eq_nil_of_le (by omega)]; rfl
   rw [if_neg (by rw [HJ0.out]; simp)] at HEQ
   clear HJ HJ0 hj hlt
   go_wp2_with fail
   refine (numbers_ok kind W1).mono ?_
   rintro e w3 ⟨rfl, rfl⟩
   go_upto_region 16 with (fail)
   go_cut [75] from 76 to 84 (fun bv wx => ∃ B : Bool, bv = .bool B ∧ W1 = wx ∧ Hid (B = true ↔ (text.size ≠ 0 ∧ texted kind = false)))
   case first =>
    by_cases ht : text.size = 0
    ·have hte : text = ⟨#[]⟩ := empty_of_size ht
     subst hte
     go_wp2_with fail
     go_meet
     case rel => exact ⟨false, rfl, rfl, by simp [Hid, ByteArray.size]⟩
    ·have hn1 : ¬ text.toList = [] := fun e => ht (size_of_nil e)
     have hn2 : (!text.toList.isEmpty) = true := by simp [hn1]
     go_wp2_with fail
     refine (texted_ok kind W1).mono ?_
     rintro e w4 ⟨rfl, rfl⟩
     go_wp2_with fail
     go_meet
     case rel => exact ⟨!texted kind, rfl, rfl, by simp [Hid, ht]⟩
   case rest =>
    obtain ⟨B, rfl, rfl, hB⟩ := hcut
    cases B with
    | true =>
     have hBB := hB.out.1 rfl
     have HE : Hid (nodeErr l i ⟨kind, from_, text, nn⟩ = 3) := by show _ = _; rw [HEQ.out]; unfold nodeBody; rw [if_pos (.inl hBB)]
     clear hBB hB
     go_wp2_with fail
     go_ret
     exact ⟨by rw [HE.out]; rfl, HB1.out⟩
    | false =>
     go_upto_region 17 with (fail)
     go_cut [75] from 85 to 93 (fun bv wx => ∃ B : Bool, bv = .bool B ∧ W1 = wx ∧ Hid (B = true ↔ (nn ≠ 0 ∧ counted kind = false)))
     case first =>
      by_cases ht : nn = 0
      ·subst ht
       go_wp2_with fail
       go_meet
       case rel => exact ⟨false, rfl, rfl, by simp [Hid]⟩
      ·have hn1 : (nn != 0) = true := by simp [ht]
       have hn2 : (nn == 0) = false := by simp [ht]
       go_wp2_with fail
       refine (counted_ok kind W1).mono ?_
       rintro e w4 ⟨rfl, rfl⟩
       go_wp2_with fail
       go_meet
       case rel => exact ⟨!counted kind, rfl, rfl, by simp [Hid, ht]⟩
     case rest =>
      obtain ⟨C, rfl, rfl, hC⟩ := hcut
      cases C with
      | true =>
       have hCC := hC.out.1 rfl
       have HE : Hid (nodeErr l i ⟨kind, from_, text, nn⟩ = 3) := by show _ = _; rw [HEQ.out]; unfold nodeBody; rw [if_pos (.inr hCC)]
       clear hCC hC hB
       go_wp2_with fail
       go_ret
       exact ⟨by rw [HE.out]; rfl, HB1.out⟩
      | false =>
       have HQ : Hid (nodeErr l i ⟨kind, from_, text, nn⟩ = if nn < numLow kind ∨ numHigh kind < nn then 1 else if texted kind = true then textErr text.data.toList else 0) := by
        show _ = _
        rw [HEQ.out]; unfold nodeBody
        rw [if_neg (fun h => h.elim (fun h => by have := hB.out.2 h; cases this) (fun h => by have := hC.out.2 h; cases this))]
       clear hC hB HEQ
       by_cases hlo : nn < numLow kind
       ·rw [if_pos (.inl hlo)] at HQ
        have e1 : decide (nn < numLow kind) = true := decide_eq_true hlo
        go_wp2_with fail
        go_ret
        exact ⟨by rw [HQ.out]; rfl, HB1.out⟩
       by_cases hhi : numHigh kind < nn
       ·rw [if_pos (.inr hhi)] at HQ
        have e1 : decide (nn < numLow kind) = false := decide_eq_false hlo
        have e2 : decide (numHigh kind < nn) = true := decide_eq_true hhi
        go_wp2_with fail
        go_ret
        exact ⟨by rw [HQ.out]; rfl, HB1.out⟩
       rw [if_neg (by omega)] at HQ
       have e1 : decide (nn < numLow kind) = false := decide_eq_false hlo
       have e2 : decide (numHigh kind < nn) = false := decide_eq_false hhi
       clear hlo hhi
       go_wp2_with fail
       refine (texted_ok kind W1).mono ?_
       rintro e w4 ⟨rfl, rfl⟩
       cases htx : texted kind with
       | false =>
        rw [htx] at HQ
        clear htx
        go_wp2_with fail
        go_ret
        exact ⟨by rw [HQ.out]; rfl, HB1.out⟩
       | true =>
        rw [htx] at HQ
        clear htx
        go_wp2_with fail
        refine (check_ok text W1 HV1.out htm).mono ?_
        rintro e w5 ⟨rfl, hb5⟩
        have HB5 := Lib.hid (HB1.out.trans (hb5.mono HB1.out.size))
        clear hb5
        go_wp2_with fail
        go_ret
        exact ⟨by rw [HQ.out]; exact congrArg Ending.returned (text_err _), HB5.out⟩
end Go.Proofs.YtfndhfekbbbliaaGreatDoor

/-
  Package job: the contracts of ends and Check. Conditions: where the job lies; the two variables of Atoi's errors hold errors.
-/
namespace Go.Proofs.YtfndhfekbbbliaaGreatDoor
open Go.RowKit Go.Shelf
set_option linter.unusedVariables false
set_option maxRecDepth 100000 in
theorem is_kind (kind : Int) (v : Value) (t : ByteArray) (n : Int) (K : Nat) (k : Int) (w : World) (hK : w.cell? ⟨K, 0, none⟩ = some (.int .i64 k)) :
  Calls Tryz.prog 101 #[.agg #[.int .i64 kind, v, .string t, .int .i64 n], .pointer (some ⟨K, 0, none⟩)] w fun e w' => e = .returned (.bool (kind == k)) ∧ Below w.heap.size w w' := by
 have hlt := cell_lt hK
 have hK2 : (w.alloc (.cells #[.int .i64 kind, v, .string t, .int .i64 n] 40)).cell? ⟨K, 0, none⟩ = some (.int .i64 k) := ((Below.refl _ _).alloc (Nat.le_refl _) _ |>.cell (p := ⟨K, 0, none⟩) hlt).trans hK
 go_enter Tryz.func101, Tryz.ntmps101
 go_wp2_with fail
 go_ret
 exact ⟨rfl, (Below.refl _ _).alloc (Nat.le_refl _) _⟩
def FindPost (l : List Nod) (k : Int) (w : World) (e : Ending) (w' : World) : Prop := ∃ j : Int, e = .returned (.int .i64 j) ∧ decide (0 ≤ j) = hasKind l k ∧ Below w.heap.size w w'
theorem hasKind_take (l : List Nod) (k : Int) {j : Nat} (hj : j < l.length) : hasKind (l.take (j + 1)) k = (hasKind (l.take j) k || (l[j].kind == k)) := by
 rw [List.take_succ_eq_append_getElem hj, hasKind_app]; simp [hasKind]
theorem hasKind_mem {l : List Nod} {k : Int} {j : Nat} (hj : j < l.length) (h : (l[j].kind == k) = true) : hasKind l k = true := by
 unfold hasKind
 exact List.any_eq_true.2 ⟨l[j], List.getElem_mem hj, h⟩
set_option maxRecDepth 100000 in
set_option maxHeartbeats 1000000 in
theorem index_kind (F : Nat → Prop) (A : Option Addr) (c : Nat) (l : List Nod) (K : Nat) (k : Int) (w : World) (hl : SlA nodE F w A c l) (hF : ∀ k, F k → k < w.heap.size) (hK : w.cell? ⟨K, 0, none⟩ = some (.int .i64 k)) :
  Calls Tryz.prog 130 #[.slice A l.length c, .func (.func 101) #[] #[.pointer (some ⟨K, 0, none⟩)]] w (FindPost l k w) := by
 have HL := Lib.hid hl
 have hle := hl.le
 have HK := Lib.hid hK
 clear hl hK
 go_enter Tryz.func130, Tryz.ntmps130
 go_wp2_with fail
 go_loopw [8] (fun jv wr => ∃ j : Nat, j ≤ l.length ∧ jv = .int .i64 j ∧ Hid (hasKind (l.take j) k = false) ∧ Hid (Below w.heap.size w wr)) (fun jv _ => l.length - (intOf jv).toNat)
 case atStart => exact ⟨0, Nat.zero_le _, rfl, rfl, Below.refl _ _⟩
 case round =>
  obtain ⟨j, hj, rfl, HJ, HB⟩ := hrel
  by_cases hlt : j < l.length
  ·obtain ⟨b, off, A', c', rfl, hFb, x0, x1, x2, x3, htm, hki, hni, hfr⟩ := (HL.out.keep (fun i hi => HB.out.block i (hF i hi))).nod_ hlt
   have HT := Lib.hid (hasKind_take l k hlt)
   have HM := Lib.hid (fun h => hasKind_mem (k := k) hlt h)
   have HKC := Lib.hid ((HB.out.cell (p := ⟨K, 0, none⟩) (cell_lt HK.out)).trans HK.out)
   clear hfr hki hni hFb htm
   generalize l[j] = nd at x0 x1 x2 x3 HT HM
   obtain ⟨kind, from_, text, nn⟩ := nd
   simp only at x0 x1 x2 x3 HT HM
   go_wp2_with fail
   refine (is_kind kind _ text nn K k _ HKC.out).mono ?_
   rintro e w2 ⟨rfl, hb2⟩
   have HB2 := Lib.hid (HB.out.trans (hb2.mono HB.out.size))
   clear hb2 x0 x1 x2 x3
   cases hkk : (kind == k) with
   | true =>
    have HMM := Lib.hid (HM.out hkk)
    clear hkk
    go_wp2_with fail
    go_ret
    exact ⟨j, rfl, by rw [HMM.out]; exact decide_eq_true (by omega), HB2.out⟩
   | false =>
    have HJ2 : Hid (hasKind (l.take (j + 1)) k = false) := by show _ = _; rw [HT.out, HJ.out, hkk]; rfl
    clear hkk HT HM
    go_wp2_with fail
    go_roundw
    case rel => exact ⟨j + 1, by omega, by go_num, HJ2, HB2⟩
    case measure => simp [intOf]; omega
  ·have dj : decide (j < l.length) = false := decide_eq_false hlt
   have HE : Hid (hasKind l k = false) := by
    have h := HJ.out
    rw [List.take_of_length_le (by omega)] at h
    exact h
   clear hj hlt HJ
   go_wp2_with fail
   go_ret
   exact ⟨-1, rfl, by rw [HE.out]; rfl, HB.out⟩
set_option maxRecDepth 100000 in
theorem contains_kind (F : Nat → Prop) (A : Option Addr) (c : Nat) (l : List Nod) (K : Nat) (k : Int) (w : World) (hl : SlA nodE F w A c l) (hF : ∀ k, F k → k < w.heap.size) (hK : w.cell? ⟨K, 0, none⟩ = some (.int .i64 k)) :
  Calls Tryz.prog 100 #[.slice A l.length c, .func (.func 101) #[] #[.pointer (some ⟨K, 0, none⟩)]] w fun e w' => e = .returned (.bool (hasKind l k)) ∧ Below w.heap.size w w' := by
 have HI := Lib.hid (index_kind F A c l K k w hl hF hK)
 clear hl hF hK
 go_enter Tryz.func100, Tryz.ntmps100
 go_wp2_with fail
 refine HI.out.mono ?_
 rintro e w2 ⟨j, rfl, hj, hb⟩
 have HB := Lib.hid hb
 have HJ := Lib.hid hj
 clear hb hj HI
 go_wp2_with fail
 go_ret
 exact ⟨by rw [← HJ.out]; rfl, HB.out⟩
set_option maxRecDepth 100000 in
theorem is_ok_ (F : Nat → Prop) (A : Option Addr) (c : Nat) (l : List Nod) (B : Nat) (k : Int) (w : World) (hl : SlA nodE F w A c l) (hF : ∀ k, F k → k < w.heap.size) (hB : w.cell? ⟨B, 0, none⟩ = some (.slice A l.length c)) :
  Calls Tryz.prog 99 #[.int .i64 k, .pointer (some ⟨B, 0, none⟩)] w fun e w' => e = .returned (.bool (hasKind l k)) ∧ Below w.heap.size w w' := by
 have hmf : ∀ (fn : Fn) (first cap : Array Value) (w : World), (Instr.makeFunc fn first cap).run Tryz.prog w = .ok (.func fn first cap) w := fun _ _ _ _ => rfl
 obtain ⟨W1, hW1⟩ : ∃ W1, W1 = w.alloc (.cells #[.int .i64 k] 3) := ⟨_, rfl⟩
 have hb1 : Below w.heap.size w W1 := by rw [hW1]; exact (Below.refl _ _).alloc (Nat.le_refl _) _
 have hB1 : W1.cell? ⟨B, 0, none⟩ = some (.slice A l.length c) := (hb1.cell (p := ⟨B, 0, none⟩) (cell_lt hB)).trans hB
 have hK1 : W1.cell? ⟨w.heap.size, 0, none⟩ = some (.int .i64 k) := by rw [hW1]; exact (cell_of_row _ _ 0 _ _ _ (heap_alloc_new w _)).trans rfl
 have HC := Lib.hid (contains_kind F A c l w.heap.size k W1 (hl.keep (fun i hi => hb1.block i (hF i hi))) (fun i hi => Nat.lt_of_lt_of_le (hF i hi) hb1.size) hK1)
 have HB1 := Lib.hid hb1
 clear hl hb1 hK1 hB hF
 go_enter Tryz.func99, Tryz.ntmps99
 go_upto_region 1 with (fail)
 rw [← hW1]
 clear hW1
 go_wp2_with fail
 refine HC.out.mono ?_
 rintro e w2 ⟨rfl, hb2⟩
 have HB2 := Lib.hid (HB1.out.trans (hb2.mono HB1.out.size))
 clear hb2
 go_wp2_with fail
 go_ret
 exact ⟨rfl, HB2.out⟩
set_option maxRecDepth 100000 in
set_option maxHeartbeats 1000000 in
theorem ends_ok (F : Nat → Prop) (A : Option Addr) (c : Nat) (l : List Nod) (w : World) (hl : SlA nodE F w A c l) (hF : ∀ k, F k → k < w.heap.size) :
  Calls Tryz.prog 56 #[.slice A l.length c] w fun e w' => e = .returned (errJ (endsErr l)) ∧ Below w.heap.size w w' := by
 have hmf : ∀ (fn : Fn) (first cap : Array Value) (w : World), (Instr.makeFunc fn first cap).run Tryz.prog w = .ok (.func fn first cap) w := fun _ _ _ _ => rfl
 obtain ⟨W1, hW1⟩ : ∃ W1, W1 = w.alloc (.cells #[.slice A l.length c] 45) := ⟨_, rfl⟩
 have hb1 : Below w.heap.size w W1 := by rw [hW1]; exact (Below.refl _ _).alloc (Nat.le_refl _) _
 have hv1 : W1.heap[w.heap.size]? = some (.cells #[.slice A l.length c] 45 (0, 0)) := by rw [hW1]; exact heap_alloc_new _ _
 have HC := Lib.hid (fun W (hb : Below w.heap.size w W) (hv : W.heap[w.heap.size]? = some (.cells #[.slice A l.length c] 45 (0, 0))) k => is_ok_ F A c l w.heap.size k W (hl.keep (fun i hi => hb.block i (hF i hi))) (fun i hi => Nat.lt_of_lt_of_le (hF i hi) hb.size) ((cell_of_row W _ 0 _ _ _ hv).trans rfl))
 have HB1 := Lib.hid hb1
 have HV1 := Lib.hid hv1
 have HE : Hid (endsErr l = if hasKind l 1 = true ∧ hasKind l 10 = true then 0 else 6) := rfl
 clear hl hb1 hv1
 go_enter Tryz.func56, Tryz.ntmps56
 go_upto_region 1 with (fail)
 rw [← hW1]
 clear hW1
 go_wp2_with fail
 refine (HC.out W1 HB1.out HV1.out 1).mono ?_
 rintro e w2 ⟨rfl, hb2⟩
 have HB2 := Lib.hid (HB1.out.trans (hb2.mono HB1.out.size))
 have HV2 := Lib.hid ((hb2.block _ (block_lt HV1.out)).trans HV1.out)
 clear hb2
 cases h1 : hasKind l 1 with
 | false =>
  have HE2 : Hid (endsErr l = 6) := by show _ = _; rw [HE.out, h1]; rfl
  clear h1
  go_wp2_with fail
  go_ret
  exact ⟨by rw [HE2.out]; rfl, HB2.out⟩
 | true =>
  have HE2 : Hid (endsErr l = if hasKind l 10 = true then 0 else 6) := by
   show _ = _; rw [HE.out, h1]; by_cases h : hasKind l 10 = true <;> simp [h]
  clear h1
  go_wp2_with fail
  refine (HC.out w2 HB2.out HV2.out 10).mono ?_
  rintro e w3 ⟨rfl, hb3⟩
  have HB3 := Lib.hid (HB2.out.trans (hb3.mono HB2.out.size))
  clear hb3
  cases h10 : hasKind l 10 with
  | false =>
   have HE3 : Hid (endsErr l = 6) := by show _ = _; rw [HE2.out, h10]; rfl
   clear h10
   go_wp2_with fail
   go_ret
   exact ⟨by rw [HE3.out]; rfl, HB3.out⟩
  | true =>
   have HE3 : Hid (endsErr l = 0) := by show _ = _; rw [HE2.out, h10]; rfl
   clear h10
   go_wp2_with fail
   go_ret
   exact ⟨by rw [HE3.out]; rfl, HB3.out⟩
theorem nodes_drop (l : List Nod) {j : Nat} (hj : j < l.length) : nodesErr l j (l.drop j) = if nodeErr l j l[j] ≠ 0 then nodeErr l j l[j] else nodesErr l (j + 1) (l.drop (j + 1)) := by
 rw [List.drop_eq_getElem_cons hj, nodes_cons]
set_option maxRecDepth 100000 in
set_option maxHeartbeats 1000000 in
theorem jcheck_ok (F : Nat → Prop) (A : Option Addr) (c : Nat) (l : List Nod) (w : World) (hl : SlA nodE F w A c l) (hF : ∀ k, F k → k < w.heap.size) (hv : ErrVars w) :
  Calls Tryz.prog 21 #[.slice A l.length c] w fun e w' => e = .returned (errJ (jobErr l)) ∧ Below w.heap.size w w' := by
 have HL := Lib.hid hl
 have hle := hl.le
 have HV := Lib.hid hv
 clear hl hv
 by_cases h12 : 12 < l.length
 ·have HE : Hid (jobErr l = 4) := by show _ = _; unfold jobErr; rw [if_pos h12]
  have d1 : decide ((12 : Int) < (l.length : Int)) = true := decide_eq_true (by omega)
  go_enter Tryz.func21, Tryz.ntmps21
  go_wp2_with fail
  go_ret
  exact ⟨by rw [HE.out]; rfl, Below.refl _ _⟩
 ·have HE : Hid (jobErr l = if nodesErr l 0 l ≠ 0 then nodesErr l 0 l else endsErr l) := by show _ = _; unfold jobErr; rw [if_neg h12]
  have d1 : decide ((12 : Int) < (l.length : Int)) = false := decide_eq_false (by omega)
  go_enter Tryz.func21, Tryz.ntmps21
  go_wp2_with fail
  go_loopw [11] (fun jv wr => ∃ j : Nat, j ≤ l.length ∧ jv = .int .i64 j ∧ Hid (nodesErr l j (l.drop j) = nodesErr l 0 l) ∧ Hid (Below w.heap.size w wr)) (fun jv _ => l.length - (intOf jv).toNat)
  case atStart => exact ⟨0, Nat.zero_le _, rfl, rfl, Below.refl _ _⟩
  case round =>
   obtain ⟨j, hj, rfl, HJ, HB⟩ := hrel
   by_cases hlt : j < l.length
   ·have HD : Hid (nodesErr l 0 l = if nodeErr l j l[j] ≠ 0 then nodeErr l j l[j] else nodesErr l (j + 1) (l.drop (j + 1))) := by show _ = _; rw [← HJ.out, nodes_drop l hlt]
    have HN := Lib.hid (node_ok F A c l j hlt wr (HL.out.keep (fun i hi => HB.out.block i (hF i hi))) (fun i hi => Nat.lt_of_lt_of_le (hF i hi) HB.out.size) (HV.out.below HB.out))
    generalize nodeErr l j l[j] = ne at HN HD
    go_wp2_with fail
    refine HN.out.mono ?_
    rintro e w2 ⟨rfl, hb2⟩
    have HB2 := Lib.hid (HB.out.trans (hb2.mono HB.out.size))
    clear hb2 HN
    by_cases h0 : ne = 0
    ·subst h0
     have HJ2 : Hid (nodesErr l (j + 1) (l.drop (j + 1)) = nodesErr l 0 l) := by show _ = _; rw [HD.out]; rfl
     rw [show errJ 0 = .nilIface from rfl]
     clear HD
     go_wp2_with fail
     go_roundw
     case rel => exact ⟨j + 1, by omega, by go_num, HJ2, HB2⟩
     case measure => simp [intOf]; omega
    ·have HE2 : Hid (errJ (jobErr l) = errV ne) := by
      show _ = _
      rw [HE.out, HD.out, if_pos h0]
      rw [if_pos h0]
      unfold errJ; rw [if_neg h0]
     rw [show errJ ne = errV ne from by unfold errJ; rw [if_neg h0]]
     unfold errV
     clear HD h0
     go_wp2_with fail
     go_ret
     exact ⟨by rw [HE2.out]; rfl, HB2.out⟩
   ·have dj : decide (j < l.length) = false := decide_eq_false hlt
    have HE2 : Hid (jobErr l = endsErr l) := by
     have h : nodesErr l 0 l = 0 := by rw [← HJ.out, List.drop_eq_nil_of_le (by omega)]; rfl
     show _ = _
     rw [HE.out, h]; rfl
    have HN := Lib.hid (ends_ok F A c l wr (HL.out.keep (fun i hi => HB.out.block i (hF i hi))) (fun i hi => Nat.lt_of_lt_of_le (hF i hi) HB.out.size))
    clear hj hlt HJ
    go_wp2_with fail
    refine HN.out.mono ?_
    rintro e w2 ⟨rfl, hb2⟩
    have HB2 := Lib.hid (HB.out.trans (hb2.mono HB.out.size))
    clear hb2 HN
    go_wp2_with fail
    go_ret
    exact ⟨by rw [HE2.out]; rfl, HB2.out⟩
end Go.Proofs.YtfndhfekbbbliaaGreatDoor

/-
  Package job: the contracts of of, Sinks (and Sources). Conditions: where the job lies; the two variables of Atoi's errors hold errors.
-/
namespace Go.Proofs.YtfndhfekbbbliaaGreatDoor
open Go.RowKit Go.Shelf
set_option linter.unusedVariables false
def intV (zs : List Int) : List Value := zs.map fun n => .int .i64 n
theorem intV_flat (zs : List Int) : intV zs = zs.flatMap fun n => [Value.int .i64 n] := by induction zs with | nil => rfl | cons a r ih => simp [intV] at ih ⊢; exact ih
theorem row_new {w : World} {base : Nat} {v : Value} {zs : List Int} (h : w.ownsRow base 3 1 v zs.length (intV zs)) (hI : ∀ x ∈ zs, I64 x) : ∃ A c, v = .slice A zs.length c ∧ SlA (intE .i64) (fun k => base ≤ k ∧ k < w.heap.size) w A c zs := by
 obtain ⟨A, c, rfl, ho, hb⟩ := OwnS.of_row h
 rw [intV_flat] at ho
 exact ⟨A, c, rfl, OwnS.sl (E := intE .i64) (fun n => [.int .i64 n]) (fun _ => rfl) ho rfl (fun k e => ⟨hb k e, ho.lt k e⟩) (fun x hx => ⟨rfl, hI x hx⟩)⟩
theorem of_take (l : List Nod) (k : Int) {j : Nat} (hj : j < l.length) : ofKind (l.take (j + 1)) k = ofKind (l.take j) k ++ if l[j].kind == k then [(j : Int)] else [] := by
 rw [List.take_succ_eq_append_getElem hj]
 unfold ofKind
 rw [List.zipIdx_append, List.filter_append, List.map_append]
 congr 1
 have e : 0 + (List.take j l).length = j := by rw [List.length_take]; omega
 by_cases h : (l[j].kind == k) = true
 ·simp [h]; omega
 ·simp [h]
theorem of_len (l : List Nod) (k : Int) : (ofKind l k).length ≤ l.length := by
 unfold ofKind
 rw [List.length_map]
 exact Nat.le_trans (List.length_filter_le _ _) (by simp)
theorem of_mem {l : List Nod} {k x : Int} (h : x ∈ ofKind l k) : 0 ≤ x ∧ x < l.length := by
 unfold ofKind at h
 obtain ⟨p, hp, rfl⟩ := List.mem_map.1 h
 have := List.mem_zipIdx (List.mem_filter.1 hp).1
 omega
theorem info_int : (Tryz.prog.info? 3).map (fun i => (i.zero, i.size, i.bytes)) = some (some (.int .i64 0), 1, 8) := by kernel_rfl
def OfPost (l : List Nod) (k : Int) (w : World) (e : Ending) (w' : World) : Prop :=
 (jobErr l = 0 → ∃ A c, e = .returned (.tuple #[.slice A (ofKind l k).length c, .nilIface]) ∧ SlA (intE .i64) (fun j => w.heap.size ≤ j ∧ j < w'.heap.size) w' A c (ofKind l k)) ∧ (jobErr l ≠ 0 → e = .returned (.tuple #[.slice none 0 0, errV (jobErr l)])) ∧ Below w.heap.size w w'
set_option maxRecDepth 100000 in
set_option maxHeartbeats 2000000 in
theorem of_ok (F : Nat → Prop) (A : Option Addr) (c : Nat) (l : List Nod) (k : Int) (w : World) (hl : SlA nodE F w A c l) (hF : ∀ k, F k → k < w.heap.size) (hv : ErrVars w) :
  Calls Tryz.prog 65 #[.slice A l.length c, .int .i64 k] w (OfPost l k w) := by
 have HL := Lib.hid hl
 have hle := hl.le
 have HC := Lib.hid (jcheck_ok F A c l w hl hF hv)
 clear hl hv
 by_cases h0 : jobErr l = 0
 ·rw [h0] at HC
  have H0 := Lib.hid h0
  have hl12 := (job_parts h0).1
  clear h0
  go_enter Tryz.func65, Tryz.ntmps65
  go_wp2_with fail
  refine HC.out.mono ?_
  rintro e w2 ⟨rfl, hb2⟩
  rw [show errJ 0 = .nilIface from rfl]
  have HB2 := Lib.hid hb2
  have HL2 := Lib.hid (HL.out.keep (fun i hi => hb2.block i (hF i hi)))
  have hF2 : Hid (∀ i, F i → i < w2.heap.size) := fun i hi => Nat.lt_of_lt_of_le (hF i hi) hb2.size
  clear hb2 HL HC
  go_wp2_with fail
  go_loopw [7, 17] (fun v jv wr => ∃ j : Nat, j ≤ l.length ∧ jv = .int .i64 j ∧ Hid (wr.ownsRow w2.heap.size 3 1 v (ofKind (l.take j) k).length (intV (ofKind (l.take j) k))) ∧ Hid (Below w2.heap.size w2 wr)) (fun _ jv _ => l.length - (intOf jv).toNat)
  case atStart => exact ⟨0, Nat.zero_le _, rfl, World.ownsRow_nil _ _ _ _, Below.refl _ _⟩
  case round =>
   obtain ⟨j, hj, rfl, HR, HB⟩ := hrel
   by_cases hlt : j < l.length
   ·obtain ⟨b, off, A', c', rfl, hFb, x0, x1, x2, x3, htm, hki, hni, hfr⟩ := (HL2.out.keep (fun i hi => HB.out.block i (hF2.out i hi))).nod_ hlt
    have HT := Lib.hid (of_take l k hlt)
    have hm : (ofKind (l.take j) k).length ≤ j := Nat.le_trans (of_len _ _) (List.length_take_le _ _)
    clear hfr hki hni hFb htm
    generalize l[j] = nd at x0 x1 x2 x3 HT
    obtain ⟨kind, from_, text, nn⟩ := nd
    simp only at x0 x1 x2 x3 HT
    generalize ofKind (l.take j) k = zs at HR HT hm
    cases hkk : (kind == k) with
    | false =>
     have HT2 : Hid (ofKind (l.take (j + 1)) k = zs) := by show _ = _; rw [HT.out, hkk]; simp
     go_wp2_with fail
     have hb3 : Below w2.heap.size w2 (wr.alloc (.cells #[.int .i64 kind, .slice A' from_.length c', .string text, .int .i64 nn] 40)) := HB.out.alloc HB.out.size _
     go_roundw
     case rel => exact ⟨j + 1, by omega, by go_num, by show World.ownsRow _ _ _ _ _ _ _; rw [HT2.out]; exact HR.out.alloc _, hb3⟩
     case measure => simp [intOf]; omega
    | true =>
     have HT2 : Hid (ofKind (l.take (j + 1)) k = zs ++ [(j : Int)]) := by show _ = _; rw [HT.out, hkk]; simp
     obtain ⟨W3, hW3⟩ : ∃ W3, W3 = wr.alloc (.cells #[.int .i64 kind, .slice A' from_.length c', .string text, .int .i64 nn] 40) := ⟨_, rfl⟩
     have hb3 : Below w2.heap.size w2 W3 := by rw [hW3]; exact HB.out.alloc HB.out.size _
     have HR3 : Hid (W3.ownsRow w2.heap.size 3 1 u7 zs.length (intV zs)) := by rw [hW3]; exact HR.out.alloc _
     go_upto_region 9 with (fail)
     rw [← hW3]
     clear hW3 x0 x1 x2 x3
     clear HT HR
     go_wp2_with (at_builtin; refine wpList_push rfl _ _ 38 rfl w2.heap.size 3 (.int .i64 0) 1 8 Tryz.underlying38 info_int rfl (by decide) u7 zs.length (intV zs) rfl HR3.out [.int .i64 j] rfl rfl ?_ ?_ ?_ hb3.size hb3 (Nat.le_refl _) ?_)
     ·rintro u hu; simp at hu; subst hu; rfl
     ·unfold maxLen; omega
     ·omega
     ·intro v' w8 hown8 hg8 hb8 _
      have HR8 : Hid (w8.ownsRow w2.heap.size 3 1 v' (ofKind (l.take (j + 1)) k).length (intV (ofKind (l.take (j + 1)) k))) := by
       show World.ownsRow _ _ _ _ _ _ _
       rw [HT2.out, List.length_append, show intV (zs ++ [(j : Int)]) = intV zs ++ [.int .i64 j] from by simp [intV]]; exact hown8
      have HB8 := Lib.hid hb8
      clear hown8 hg8 hb8 hb3 HT2
      go_wp2_with fail
      refine ⟨⟨j + 1, by omega, by congr 1, HR8, HB8⟩, ?_⟩
      simp [intOf]; omega
   ·have dj : decide (j < l.length) = false := decide_eq_false hlt
    have e : l.take j = l := List.take_of_length_le (by omega)
    rw [e] at HR
    obtain ⟨A3, c3, rfl, hs3⟩ := row_new HR.out (fun x hx => WalkArith.wf_i64 (by have := of_mem hx; omega))
    have HS3 := Lib.hid hs3
    have HB3 := Lib.hid (HB2.out.trans (HB.out.mono HB2.out.size))
    clear hs3 HR e hj hlt
    go_wp2_with fail
    go_ret2
    exact ⟨fun _ => ⟨A3, c3, rfl, HS3.out.more fun i ⟨h1, h2⟩ => ⟨Nat.le_trans HB2.out.size h1, h2⟩⟩, fun h => absurd H0.out h, HB3.out⟩
 ·have H0 := Lib.hid h0
  rw [show errJ (jobErr l) = errV (jobErr l) from by unfold errJ; rw [if_neg h0]] at HC
  obtain ⟨je, hje⟩ : ∃ je, je = jobErr l := ⟨_, rfl⟩
  have HJE := Lib.hid hje
  rw [← hje] at HC
  clear h0 hje
  go_enter Tryz.func65, Tryz.ntmps65
  go_wp2_with fail
  refine HC.out.mono ?_
  rintro e w2 ⟨rfl, hb2⟩
  have HB2 := Lib.hid hb2
  clear hb2
  unfold errV
  go_wp2_with fail
  go_ret2
  exact ⟨fun h => absurd h H0.out, fun _ => by rw [← HJE.out]; rfl, HB2.out⟩
end Go.Proofs.YtfndhfekbbbliaaGreatDoor

/-
  Package job: the contract of Uses. Conditions: where the job lies; the two variables of Atoi's errors hold errors.
-/
namespace Go.Proofs.YtfndhfekbbbliaaGreatDoor
open Go.RowKit Go.Shelf
set_option linter.unusedVariables false
def IdxPost (l : List Int) (x : Int) (w : World) (e : Ending) (w' : World) : Prop := ∃ j : Int, e = .returned (.int .i64 j) ∧ decide (0 ≤ j) = l.contains x ∧ w = w'
theorem con_take (l : List Int) (x : Int) {j : Nat} (hj : j < l.length) : (l.take (j + 1)).contains x = ((l.take j).contains x || x == l[j]) := by
 rw [Bool.eq_iff_iff, Bool.or_eq_true, beq_iff_eq, List.contains_iff_mem, List.contains_iff_mem, List.take_succ_eq_append_getElem hj, List.mem_append, List.mem_singleton]
set_option maxRecDepth 100000 in
theorem index_int (F : Nat → Prop) (A : Option Addr) (c : Nat) (l : List Int) (x : Int) (w : World) (hl : SlA (intE .i64) F w A c l) :
  Calls Tryz.prog 103 #[.slice A l.length c, .int .i64 x] w (IdxPost l x w) := by
 have HL := Lib.hid hl
 have hle := hl.le
 clear hl
 go_enter Tryz.func103, Tryz.ntmps103
 go_wp2_with fail
 go_loop [8] (fun jv => ∃ j : Nat, j ≤ l.length ∧ jv = .int .i64 j ∧ Hid ((l.take j).contains x = false)) (fun jv => l.length - (intOf jv).toNat)
 case atStart => exact ⟨0, Nat.zero_le _, rfl, rfl⟩
 case round =>
  obtain ⟨j, hj, rfl, HJ⟩ := hrel
  by_cases hlt : j < l.length
  ·obtain ⟨b, off, rfl, _, hc, _⟩ := HL.out.int_ hlt
   have HT := Lib.hid (con_take l x hlt)
   have HM := Lib.hid (List.getElem_mem hlt)
   generalize l[j] = y at hc HT HM
   cases hxy : (x == y) with
   | true =>
    have HC : Hid (l.contains x = true) := by
     show _ = _
     rw [List.contains_iff_mem, beq_iff_eq.1 hxy]; exact HM.out
    go_wp2_with fail
    go_ret
    exact ⟨j, rfl, by rw [HC.out]; exact decide_eq_true (by omega), rfl⟩
   | false =>
    have HJ2 : Hid ((l.take (j + 1)).contains x = false) := by show _ = _; rw [HT.out, HJ.out, hxy]; rfl
    clear HT HM HJ
    go_wp2_with fail
    go_round
    case rel => exact ⟨j + 1, by omega, by go_num, HJ2⟩
    case measure => simp [intOf]; omega
  ·have dj : decide (j < l.length) = false := decide_eq_false hlt
   have HC : Hid (l.contains x = false) := by
    have h := HJ.out
    rw [List.take_of_length_le (by omega)] at h
    exact h
   clear hj hlt HJ
   go_wp2_with fail
   go_ret
   exact ⟨-1, rfl, by rw [HC.out]; rfl, rfl⟩
set_option maxRecDepth 100000 in
theorem contains_int (F : Nat → Prop) (A : Option Addr) (c : Nat) (l : List Int) (x : Int) (w : World) (hl : SlA (intE .i64) F w A c l) :
  Calls Tryz.prog 66 #[.slice A l.length c, .int .i64 x] w fun e w' => e = .returned (.bool (l.contains x)) ∧ w = w' := by
 have HI := Lib.hid (index_int F A c l x w hl)
 clear hl
 go_enter Tryz.func66, Tryz.ntmps66
 go_wp2_with fail
 refine HI.out.mono ?_
 rintro e w2 ⟨j, rfl, hj, rfl⟩
 have HJ := Lib.hid hj
 clear hj HI
 go_wp2_with fail
 go_ret
 exact ⟨by rw [← HJ.out]; rfl, rfl⟩
theorem info_ints : (Tryz.prog.info? 38).map (fun i => (i.zero, i.size, i.bytes)) = some (some (.slice none 0 0), 1, 24) := by kernel_rfl
theorem upk_same {rows : List (List Int)} {i : Nat} {fs : List Int} {k : Nat} (hk : k < fs.length) (h : (fs.take k).contains fs[k] = true) : upk rows i fs (k + 1) = upk rows i fs k := by
 conv => lhs; unfold upk
 rw [List.getElem?_eq_getElem hk]
 simp only
 rw [if_pos h]
theorem upk_add {rows : List (List Int)} {i : Nat} {fs : List Int} {k fn : Nat} {r : List Int} (hk : k < fs.length) (h : (fs.take k).contains fs[k] = false) (hfn : fs[k] = fn) (hr : (upk rows i fs k)[fn]? = some r) : upk rows i fs (k + 1) = (upk rows i fs k).set fn (r ++ [(i : Int)]) := by
 conv => lhs; unfold upk
 rw [List.getElem?_eq_getElem hk]
 simp only
 rw [if_neg (by rw [h]; decide), hfn, Int.toNat_natCast]
 apply List.ext_getElem?
 intro j
 rw [List.getElem?_modify, List.getElem?_set]
 by_cases hj : fn = j
 ·subst hj
  have hlt : fn < (upk rows i fs k).length := by
   rcases Nat.lt_or_ge fn (upk rows i fs k).length with h | h
   ·exact h
   ·rw [List.getElem?_eq_none h] at hr; cases hr
  rw [hr, if_pos rfl, if_pos hlt]
  simp
 ·rw [if_neg hj]
  cases (upk rows i fs k)[j]? with
  | none => rfl
  | some x => show some ((fun a => if fn = j then a ++ [(i : Int)] else a) x) = _; simp [hj]
def rowsV (rows : List (List Int)) : List (List Value) := rows.map fun r => r.flatMap fun n => [Value.int .i64 n]
def UsesPost (l : List Nod) (w : World) (e : Ending) (w' : World) : Prop :=
 (jobErr l = 0 → ∃ A c, e = .returned (.tuple #[.slice A l.length c, .nilIface]) ∧ SlA (slE (intE .i64)) (· < w'.heap.size) w' A c (usesAll l)) ∧ (jobErr l ≠ 0 → e = .returned (.tuple #[.slice none 0 0, errV (jobErr l)])) ∧ Below w.heap.size w w'
set_option maxRecDepth 100000 in
set_option maxHeartbeats 2000000 in
theorem uses_ok (F : Nat → Prop) (A : Option Addr) (c : Nat) (l : List Nod) (w : World) (hl : SlA nodE F w A c l) (hF : ∀ k, F k → k < w.heap.size) (hv : ErrVars w) :
  Calls Tryz.prog 27 #[.slice A l.length c] w (UsesPost l w) := by
 have HL := Lib.hid hl
 have hle := hl.le
 have HC := Lib.hid (jcheck_ok F A c l w hl hF hv)
 clear hl hv
 by_cases h0 : jobErr l = 0
 ·rw [h0] at HC
  have H0 := Lib.hid h0
  have hl12 := (job_parts h0).1
  have HPOS := Lib.hid (job_from_pos h0)
  clear h0
  have hmk : ∀ u : World, (Instr.makeSlice 59 (.int .i64 (l.length : Int)) (.int .i64 (l.length : Int))).run Tryz.prog u = .ok (.slice (some ⟨u.heap.size, 0, none⟩) l.length l.length) (u.alloc (.cells (madeCells #[.slice none 0 0] l.length) 38)) := fun u =>
   run_make_row' (P := Tryz.prog) 59 38 (.slice none 0 0) 24 Tryz.underlying59 info_ints rfl .i64 .i64 l.length (by omega) (by omega) u
  go_enter Tryz.func27, Tryz.ntmps27
  go_wp2_with fail
  refine HC.out.mono ?_
  rintro e w2 ⟨rfl, hb2⟩
  rw [show errJ 0 = .nilIface from rfl]
  have HB2 := Lib.hid hb2
  have HL2 := Lib.hid (HL.out.keep (fun i hi => hb2.block i (hF i hi)))
  have hF2 : Hid (∀ i, F i → i < w2.heap.size) := fun i hi => Nat.lt_of_lt_of_le (hF i hi) hb2.size
  clear hb2 HL HC
  go_wp2_with fail
  clear hmk
  go_loopw [20] (fun iv wr => ∃ (i : Nat) (vs : List Value), i ≤ l.length ∧ iv = .int .i64 i ∧ Hid (Nest wr w2.heap.size w2.heap.size 38 3 1 vs (rowsV (upn l i)) ((upn l i).map (·.length))) ∧ Hid (Below w2.heap.size w2 wr)) (fun iv _ => l.length - (intOf iv).toNat)
  case atStart =>
   refine ⟨0, List.replicate l.length (.slice none 0 0), Nat.zero_le _, rfl, ?_, (Below.refl _ _).alloc (Nat.le_refl _) _⟩
   have := Nest.made w2 w2.heap.size 38 3 1 l.length (Nat.le_refl _) (by decide)
   show Nest _ _ _ _ _ _ _ _ _
   simpa [upn, rowsV] using this
  case round =>
   obtain ⟨i, vs, hi, rfl, HN, HB⟩ := hrel
   by_cases hlt : i < l.length
   ·obtain ⟨b, off, A', c', rfl, hFb, x0, x1, x2, x3, htm, hki, hni, hfr⟩ := (HL2.out.keep (fun j hj => HB.out.block j (hF2.out j hj))).nod_ hlt
    have HFB := Lib.hid (job_from H0.out hlt)
    have HUN : Hid (upn l (i + 1) = upk (upn l i) i l[i].from_ l[i].from_.length) := by show _ = _; conv => lhs; unfold upn; rw [List.getElem?_eq_getElem hlt]
    clear hki hni hFb htm
    generalize l[i] = nd at x0 x1 x2 x3 HFB HUN hfr
    obtain ⟨kind, from_, text, nn⟩ := nd
    simp only at x0 x1 x2 x3 HFB HUN hfr
    have HFR := Lib.hid hfr
    have hfl := hfr.le
    clear hfr
    obtain ⟨W3, hW3⟩ : ∃ W3, W3 = wr.alloc (.cells #[.int .i64 kind, .slice A' from_.length c', .string text, .int .i64 nn] 40) := ⟨_, rfl⟩
    have hv3 : W3.heap[wr.heap.size]? = some (.cells #[.int .i64 kind, .slice A' from_.length c', .string text, .int .i64 nn] 40 (0, 0)) := by rw [hW3]; exact heap_alloc_new _ _
    have HB3 : Hid (Below w2.heap.size w2 W3) := by rw [hW3]; exact HB.out.alloc HB.out.size _
    have HN3 : Hid (Nest W3 w2.heap.size w2.heap.size 38 3 1 vs (rowsV (upn l i)) ((upn l i).map (·.length))) := by rw [hW3]; exact HN.out.alloc _
    have y1 : W3.cell? ⟨wr.heap.size, 1, none⟩ = some (.slice A' from_.length c') := (cell_of_row W3 _ 1 _ _ _ hv3).trans rfl
    have HFR2 : Hid (SlA (intE .i64) F w2 A' c' from_) := HFR.out.keep (fun j hj => (HB.out.block j (hF2.out j hj)).symm)
    have HV3 := Lib.hid hv3
    have hvb : wr.heap.size < W3.heap.size := block_lt hv3
    clear hv3 HB HN HFR
    go_upto_region 8 with (fail)
    rw [← hW3]
    clear hW3 x0 x1 x2 x3
    generalize wr.heap.size = vb at HV3 y1 hvb ⊢
    go_wp2_with fail
    go_loopw [28] (fun kv wx => ∃ (k : Nat) (vs : List Value), k ≤ from_.length ∧ kv = .int .i64 k ∧ Hid (Nest wx w2.heap.size w2.heap.size 38 3 1 vs (rowsV (upk (upn l i) i from_ k)) ((upk (upn l i) i from_ k).map (·.length))) ∧ Hid (wx.heap[vb]? = some (.cells #[.int .i64 kind, .slice A' from_.length c', .string text, .int .i64 nn] 40 (0, 0))) ∧ Hid (Below w2.heap.size w2 wx)) (fun kv _ => from_.length - (intOf kv).toNat)
    case atStart => exact ⟨0, vs, Nat.zero_le _, rfl, HN3, HV3, HB3⟩
    case round =>
     clear HN3 HV3 HB3 y1 hvb
     obtain ⟨k, vs2, hk, rfl, HNk, HVk, HBk⟩ := hrel
     have hvb := block_lt HVk.out
     have y1 : wr.cell? ⟨vb, 1, none⟩ = some (.slice A' from_.length c') := (cell_of_row wr _ 1 _ _ _ HVk.out).trans rfl
     by_cases hk2 : k < from_.length
     ·have hfrw := HFR2.out.keep (w' := wr) (fun j hj => HBk.out.block j (hF2.out j hj))
      obtain ⟨bf, of_, rfl, _, hcf, _⟩ := hfrw.int_ hk2
      have hcap := hfrw.1
      have hlk : (from_.take k).length = k := by rw [List.length_take]; omega
      have HCI := Lib.hid (contains_int F (some ⟨bf, of_, none⟩) c' (from_.take k) from_[k] wr (hfrw.head (k := k) (by omega)))
      rw [hlk] at HCI
      obtain ⟨hf0, hfi⟩ := HFB.out from_[k] (List.getElem_mem hk2)
      have HSA := Lib.hid (fun h => upk_same (rows := upn l i) (i := i) hk2 h)
      have HAD := Lib.hid (fun (fn : Nat) (r : List Int) h h1 h2 => upk_add (rows := upn l i) (i := i) (fn := fn) (r := r) hk2 h h1 h2)
      clear hfrw hlk
      generalize from_[k] = f at hcf HCI hf0 hfi HSA HAD
      obtain ⟨fn, rfl⟩ : ∃ fn : Nat, f = fn := ⟨f.toNat, by omega⟩
      have hfn : fn < l.length := by omega
      cases hct : (from_.take k).contains (fn : Int) with
      | true =>
       rw [hct] at HCI
       have HS2 := Lib.hid (HSA.out hct)
       clear HSA HAD hct
       go_wp2_with fail
       refine HCI.out.mono ?_
       rintro e w4 ⟨rfl, rfl⟩
       go_wp2_with fail
       go_roundw
       case rel => exact ⟨k + 1, vs2, by omega, by go_num, by show Nest _ _ _ _ _ _ _ _ _; rw [HS2.out]; exact HNk.out, HVk, HBk⟩
       case measure => simp [intOf]; omega
      | false =>
       rw [hct] at HCI
       have hlenU : (upk (upn l i) i from_ k).length = l.length := by rw [upk_length, upn_length]
       have hlenv : vs2.length = l.length := by rw [HNk.out.len]; unfold rowsV; rw [List.length_map, hlenU]
       obtain ⟨v, hv⟩ : ∃ v, vs2[fn]? = some v := ⟨vs2[fn], List.getElem?_eq_getElem (by omega)⟩
       have hcv := HNk.out.cell fn
       rw [hv] at hcv
       have hfz := HNk.out.frozen fn
       obtain ⟨r, hr⟩ : ∃ r, (upk (upn l i) i from_ k)[fn]? = some r := ⟨_, List.getElem?_eq_getElem (by omega)⟩
       have hrl : r.length ≤ i + 1 := upk_rowlen (upn_rowlen HPOS.out (by omega)) (fun x hx => (HFB.out x hx).1) k hk r (List.mem_of_getElem? hr)
       have HSU := Lib.hid (HAD.out fn r hct rfl hr)
       have hown := HNk.out.own fn v (r.flatMap fun n => [Value.int .i64 n]) r.length hv (by unfold rowsV; rw [List.getElem?_map, hr]; rfl) (by rw [List.getElem?_map, hr]; rfl)
       have hvne : ∀ g, v.ownBlock = some g → vb ≠ g := fun g hg e => by
        rcases ownBlock_cases hown with h | ⟨g2, cur, h1, _, h2⟩
        ·rw [h] at hg; cases hg
        ·rw [h1] at hg; injection hg with hg; subst hg; subst e
         rw [HVk.out] at h2; injection h2 with h2; injection h2 with _ h3; exact absurd h3 (by decide)
       have hvne2 : vb ≠ w2.heap.size := fun e => by
        have h1 := HNk.out.blk
        rw [← e, HVk.out] at h1; injection h1 with h1; injection h1 with _ h3; exact absurd h3 (by decide)
       have HO := Lib.hid hown
       have HV := Lib.hid hv
       have hgl := HNk.out.lt
       have HNE := Lib.hid hvne
       have HNE2 := Lib.hid hvne2
       clear hown hv hr hlenv hlenU HSA HAD hct hvne hvne2
       go_wp2_with fail
       refine HCI.out.mono ?_
       rintro e w4 ⟨rfl, rfl⟩
       go_wp2_with (at_builtin; refine wpList_push rfl _ _ 38 rfl w2.heap.size 3 (.int .i64 0) 1 8 Tryz.underlying38 info_int rfl (by decide) v r.length _ rfl HO.out [.int .i64 i] rfl rfl ?_ ?_ ?_ HBk.out.size HBk.out (Nat.le_refl _) ?_)
       ·rintro u hu; simp at hu; subst hu; rfl
       ·unfold maxLen; omega
       ·omega
       ·intro v' w8 hown8 hg8 hb8 hat8
        obtain ⟨hc8, hf8⟩ := HNk.out.after HV.out hg8 fn
        rw [HV.out] at hc8
        have hv8 : (w8.setCell ⟨w2.heap.size, fn, none⟩ v').heap[vb]? = some (.cells #[.int .i64 kind, .slice (some ⟨bf, of_, none⟩) from_.length c', .string text, .int .i64 nn] 40 (0, 0)) :=
         (Below.heap_setCell _ _ _ _ (fun e => HNE2.out e)).trans ((hg8.block vb hvb (fun e => HNE.out vb e.symm rfl)).trans HVk.out)
        have hn8 : Nest (w8.setCell ⟨w2.heap.size, fn, none⟩ v') w2.heap.size w2.heap.size 38 3 1 (vs2.set fn v') (rowsV (upk (upn l i) i from_ (k + 1))) ((upk (upn l i) i from_ (k + 1)).map (·.length)) := by
         have hp := HNk.out.push (w' := w8) HV.out hown8 hg8 (hat8.imp_right .inr)
         rw [HSU.out]
         unfold rowsV at hp ⊢
         rw [List.map_set, List.map_set, List.flatMap_append, List.length_append]
         exact hp
        have HV8 := Lib.hid hv8
        have HN8 := Lib.hid hn8
        have HB8 := Lib.hid (hb8.setCell (p := ⟨w2.heap.size, fn, none⟩) (Nat.le_refl _) v')
        obtain ⟨g', cap', rfl, _, _⟩ := hown8.form (by omega)
        clear hv8 hn8 hown8 hg8 hb8 hat8 HNE HNE2 HSU HV
        go_wp2_with fail
        refine ⟨⟨k + 1, _, by omega, by go_num, HN8, HV8, HB8⟩, ?_⟩
        simp [intOf]; omega
     ·have dk : decide (k < from_.length) = false := decide_eq_false hk2
      have HN9 : Hid (Nest wr w2.heap.size w2.heap.size 38 3 1 vs2 (rowsV (upn l (i + 1))) ((upn l (i + 1)).map (·.length))) := by
       have e : k = from_.length := by omega
       show Nest _ _ _ _ _ _ _ _ _
       rw [HUN.out, ← e]; exact HNk.out
      clear HNk hk hk2
      go_wp2_with fail
      refine ⟨⟨i + 1, vs2, by omega, by go_num, HN9, HBk⟩, ?_⟩
      simp [intOf]; omega
   ·have di : decide (i < l.length) = false := decide_eq_false hlt
    have hie : i = l.length := by omega
    rw [hie, upn_all l HPOS.out] at HN
    have hlenU : (usesAll l).length = l.length := by unfold usesAll; simp
    have hmem : ∀ r ∈ usesAll l, ∀ x ∈ r, 0 ≤ x ∧ x < l.length := by rw [← upn_all l HPOS.out]; exact upn_mem (Nat.le_refl _)
    have hrow := HN.out.sl (E := intE .i64) (ls := usesAll l) (cap := l.length) (fun n => [Value.int .i64 n]) (fun _ => rfl) (by decide) (fun r hr x hx F u => ⟨rfl, WalkArith.wf_i64 (by have := hmem r hr x hx; omega)⟩) (by omega) (by unfold maxLen; omega)
    have HR := Lib.hid hrow
    have HB9 := Lib.hid (HB2.out.trans (HB.out.mono HB2.out.size))
    clear hrow hlenU hmem HN hie hi hlt
    go_wp2_with fail
    go_ret2
    exact ⟨fun _ => ⟨_, _, rfl, HR.out⟩, fun h => absurd H0.out h, HB9.out⟩
 ·have H0 := Lib.hid h0
  rw [show errJ (jobErr l) = errV (jobErr l) from by unfold errJ; rw [if_neg h0]] at HC
  obtain ⟨je, hje⟩ : ∃ je, je = jobErr l := ⟨_, rfl⟩
  have HJE := Lib.hid hje
  rw [← hje] at HC
  clear h0 hje
  go_enter Tryz.func27, Tryz.ntmps27
  go_wp2_with fail
  refine HC.out.mono ?_
  rintro e w2 ⟨rfl, hb2⟩
  have HB2 := Lib.hid hb2
  clear hb2
  unfold errV
  go_wp2_with fail
  go_ret2
  exact ⟨fun h => absurd h H0.out, fun _ => by rw [← HJE.out]; rfl, HB2.out⟩
end Go.Proofs.YtfndhfekbbbliaaGreatDoor

/-
  Package den: the contract of Apply's pass. Conditions: the record's numbers are ints.
-/
namespace Go.Proofs.YtfndhfekbbbliaaGreatDoor
open Go.RowKit Go.Shelf
set_option linter.unusedVariables false
def recV (r : Rec) : Value := .agg #[.string r.key, .int .i64 r.num, .int .i64 r.time]
def recCells (r : Rec) : List Value := [.string r.key, .int .i64 r.num, .int .i64 r.time]
def RecOk (r : Rec) : Prop := r.key.size ≤ maxLen ∧ I64 r.num ∧ I64 r.time
theorem own_recs {w : World} {e : TypeId} {A : Option Addr} {cap n : Nat} {l : List Rec} (h : OwnS w e 3 A cap n (l.flatMap recCells)) (hn : n = l.length) {F : Nat → Prop} (hF : ∀ k, blk A = some k → F k) (hR : ∀ r ∈ l, RecOk r) : SlA recE F w A cap l :=
 OwnS.sl (E := recE) recCells (fun _ => rfl) h hn hF (fun x hx => ⟨rfl, hR x hx⟩)
theorem src_recs {P : Program} {F : Nat → Prop} {w : World} {A : Option Addr} {c : Nat} {l : List Rec} {tx e' : TypeId} (h : SlA recE F w A c l) (hk : P.underlying tx = some (.slice e')) : Src P 3 tx (.slice A l.length c) l.length (l.flatMap recCells) w :=
 Src.of_sl (P := P) (E := recE) h hk recCells (fun cs x hx => hx.1) (fun _ => rfl) (fun x u hu => by
  unfold recCells at hu
  simp only [List.mem_cons, List.not_mem_nil, or_false] at hu
  rcases hu with rfl | rfl | rfl <;> rfl)
def PassPost (r : Rec) (w : World) (e : Ending) (w' : World) : Prop := ∃ A c, e = .returned (.slice A (passR r).length c) ∧ OwnS w' 44 3 A c (passR r).length ((passR r).flatMap recCells) ∧ (∀ k, blk A = some k → w.heap.size ≤ k) ∧ Below w.heap.size w w'
set_option maxRecDepth 100000 in
theorem dpass_ok (r : Rec) (w : World) (hk : r.key.size ≤ maxLen) : Calls Tryz.prog 52 #[.agg #[.string r.key, .int .i64 r.num, .int .i64 r.time]] w (PassPost r w) := by
 obtain ⟨key, num, time⟩ := r
 simp only at hk ⊢
 unfold maxLen at hk
 by_cases h : 40 < key.size
 ·have d1 : decide (40 < key.size) = true := decide_eq_true h
  have HP : Hid (passR ⟨key, num, time⟩ = []) := by show _ = _; unfold passR; rw [if_pos h]
  go_enter Tryz.func52, Tryz.ntmps52
  go_wp2_with fail
  go_ret
  exact ⟨none, 0, by rw [HP.out]; rfl, by rw [HP.out]; exact OwnS.nil _ _ _, nofun, (Below.refl _ _).alloc (Nat.le_refl _) _⟩
 ·have d1 : decide (40 < key.size) = false := decide_eq_false h
  have HP : Hid (passR ⟨key, num, time⟩ = [⟨key, num, time⟩]) := by show _ = _; unfold passR; rw [if_neg h]
  go_enter Tryz.func52, Tryz.ntmps52
  go_wp2_with fail
  go_ret
  have ho : OwnS ((w.alloc (.cells #[.string key, .int .i64 num, .int .i64 time] 44)).alloc (.cells #[.string key, .int .i64 num, .int .i64 time] 44)) 44 3 (some ⟨w.heap.size + 1, 0, none⟩) 1 1 ([(⟨key, num, time⟩ : Rec)].flatMap recCells) :=
   ⟨rfl, Nat.le_refl _, by unfold maxLen; omega, .inr ⟨w.heap.size + 1, 0, _, rfl, by rw [← show (w.alloc (.cells #[.string key, .int .i64 num, .int .i64 time] 44)).heap.size = w.heap.size + 1 from by simp]; exact heap_alloc_new _ _, by simp, fun j u hj => by rw [Nat.zero_add]; simpa [recCells] using hj⟩⟩
  exact ⟨_, _, by rw [HP.out]; rfl, by rw [HP.out]; exact ho, fun k e => by simp [blk] at e; omega, ((Below.refl _ _).alloc (Nat.le_refl _) _).alloc (by simp) _⟩
end Go.Proofs.YtfndhfekbbbliaaGreatDoor

/-
  Package expr: the texts that the laws put together, as lists of bytes; how an error tells a tree. No condition: plain lemmas.
-/
namespace Go.Proofs.YtfndhfekbbbliaaGreatDoor
open Go.RowKit Go.Shelf
set_option linter.unusedVariables false
theorem i64_of_wf {n : Int} (h : (Lit.int .i64 n).wf = true) : I64_ n := by
 have := bounds_i64 h
 unfold I64_; omega
def valOf (n s : Int) : Parsed → Int
 | .tree t => t.val n s
 | .fault _ _ => 0
theorem eval_ok_any (x : ByteArray) (n s : Int) (w : World) (hv : ErrVars w) (hsz : x.size ≤ maxLen) (hn : I64_ n) (hs : I64_ s) :
  Calls Tryz.prog 15 #[.string x, .int .i64 n, .int .i64 s] w fun e w' => e = .returned (.tuple #[.int .i64 (valOf n s (parseT x.data.toList)), errOf (parseT x.data.toList)]) ∧ Below w.heap.size w w' := by
 cases h : parseT x.data.toList with
 | tree t => exact eval_tree x n s w hv hsz hn hs h
 | fault k j => exact eval_fault x n s w hv hsz h
end Go.Proofs.YtfndhfekbbbliaaGreatDoor

/-
  Package den: Apply's four variables, as the arms write them. No condition: definitions and lemmas.
-/
namespace Go.Proofs.YtfndhfekbbbliaaGreatDoor
open Go.RowKit Go.Shelf
set_option linter.unusedVariables false
def hldV (h : Hld) : Value := .agg #[.int .i64 h.node, .string h.key, .int .i64 h.a, .int .i64 h.b]
def AppPost (d : Did) (w : World) (e : Ending) (w' : World) : Prop := ∃ A c, e = .returned (.tuple #[.slice A d.out.length c, hldV d.held, .bool d.has]) ∧ OwnS w' 44 3 A c d.out.length (d.out.flatMap recCells) ∧ (∀ k, blk A = some k → w.heap.size ≤ k) ∧ Below w.heap.size w w'
theorem evalOf_val (s : ByteArray) (n st : Int) : evalOf s n st = valOf n st (parseT s.data.toList) := by
 unfold evalOf valOf
 cases parseT s.data.toList <;> rfl
def HVar (w : World) (k : Nat) (n : Int) (key : ByteArray) (a b : Int) : Prop := w.heap[k]? = some (.cells #[.int .i64 n, .string key, .int .i64 a, .int .i64 b] 42 (0, 0))
def RVar (w : World) (k : Nat) (key : ByteArray) (n t : Int) : Prop := w.heap[k]? = some (.cells #[.string key, .int .i64 n, .int .i64 t] 44 (0, 0))
theorem HVar.cells {w : World} {k : Nat} {n : Int} {key : ByteArray} {a b : Int} (h : HVar w k n key a b) : w.cell? ⟨k, 0, none⟩ = some (.int .i64 n) ∧ w.cell? ⟨k, 1, none⟩ = some (.string key) ∧ w.cell? ⟨k, 2, none⟩ = some (.int .i64 a) ∧ w.cell? ⟨k, 3, none⟩ = some (.int .i64 b) ∧ (∀ i, w.frozen? ⟨k, i, none⟩ = false) :=
 ⟨(cell_of_row w k 0 _ _ _ h).trans rfl, (cell_of_row w k 1 _ _ _ h).trans rfl, (cell_of_row w k 2 _ _ _ h).trans rfl, (cell_of_row w k 3 _ _ _ h).trans rfl, fun i => by simp [World.frozen?, HVar] at h ⊢; simp [h]⟩
theorem RVar.cells {w : World} {k : Nat} {key : ByteArray} {n t : Int} (h : RVar w k key n t) : w.cell? ⟨k, 0, none⟩ = some (.string key) ∧ w.cell? ⟨k, 1, none⟩ = some (.int .i64 n) ∧ w.cell? ⟨k, 2, none⟩ = some (.int .i64 t) ∧ (∀ i, w.frozen? ⟨k, i, none⟩ = false) :=
 ⟨(cell_of_row w k 0 _ _ _ h).trans rfl, (cell_of_row w k 1 _ _ _ h).trans rfl, (cell_of_row w k 2 _ _ _ h).trans rfl, fun i => by simp [World.frozen?, RVar] at h ⊢; simp [h]⟩
theorem HVar.keep {w w' : World} {k : Nat} {n : Int} {key : ByteArray} {a b : Int} (h : HVar w k n key a b) (e : w'.heap[k]? = w.heap[k]?) : HVar w' k n key a b := e.trans h
theorem RVar.keep {w w' : World} {k : Nat} {key : ByteArray} {n t : Int} (h : RVar w k key n t) (e : w'.heap[k]? = w.heap[k]?) : RVar w' k key n t := e.trans h
theorem RVar.num {w : World} {k : Nat} {key : ByteArray} {n t : Int} (h : RVar w k key n t) (x : Int) : RVar (w.setCell ⟨k, 1, none⟩ (.int .i64 x)) k key x t := by
 unfold RVar at h ⊢
 simp [World.setCell, Array.getElem?_modify, h]
theorem RVar.key {w : World} {k : Nat} {key : ByteArray} {n t : Int} (h : RVar w k key n t) (x : ByteArray) : RVar (w.setCell ⟨k, 0, none⟩ (.string x)) k x n t := by
 unfold RVar at h ⊢
 simp [World.setCell, Array.getElem?_modify, h]
structure Vars (w W : World) (b0 : Nat) (n0 n1 n2 n3 : Value) (b1 b2 b3 : Nat) (h : Hld) (r : Rec) : Prop where
 lt0 : b0 < W.heap.size
 h0 : W.heap[b0]? = some (.cells #[n0, n1, n2, n3] 40 (0, 0))
 lt1 : b1 < W.heap.size
 lt2 : b2 < W.heap.size
 lt3 : b3 < W.heap.size
 ge1 : w.heap.size ≤ b1
 ge2 : w.heap.size ≤ b2
 ge3 : w.heap.size ≤ b3
 h1 : HVar W b1 h.node h.key h.a h.b
 h2 : RVar W b2 r.key r.num r.time
 h3 : ∃ n k a b, HVar W b3 n k a b
 below : Below w.heap.size w W
 ne : b0 ≠ b1 ∧ b0 ≠ b2 ∧ b0 ≠ b3 ∧ b1 ≠ b2 ∧ b1 ≠ b3 ∧ b2 ≠ b3
theorem Vars.mk_ (w : World) (n0 n1 n2 n3 : Value) (h : Hld) (r : Rec) :
  Vars w (((((w.alloc (.cells #[n0, n1, n2, n3] 40)).alloc (.cells #[.int .i64 h.node, .string h.key, .int .i64 h.a, .int .i64 h.b] 42)).alloc (.cells #[.string r.key, .int .i64 r.num, .int .i64 r.time] 44)).alloc (.cells #[.int .i64 0, .string { data := #[] }, .int .i64 0, .int .i64 0] 42)).drew) w.heap.size n0 n1 n2 n3 (w.heap.size + 1) (w.heap.size + 1 + 1) (w.heap.size + 1 + 1 + 1) h r := by
 refine ⟨by simp; omega, ?_, by simp, by simp, by simp, by omega, by omega, by omega, ?_, ?_, ⟨0, ⟨#[]⟩, 0, 0, ?_⟩, ?_, by omega⟩
 ·exact (heap_alloc_old _ _ (by simp; omega)).trans ((heap_alloc_old _ _ (by simp; omega)).trans ((heap_alloc_old _ _ (by simp)).trans (heap_alloc_new _ _)))
 ·unfold HVar
  refine (heap_alloc_old _ _ (by simp)).trans ((heap_alloc_old _ _ (by simp)).trans ?_)
  rw [← show (w.alloc (.cells #[n0, n1, n2, n3] 40)).heap.size = w.heap.size + 1 from by simp]
  exact heap_alloc_new _ _
 ·unfold RVar
  refine (heap_alloc_old _ _ (by simp)).trans ?_
  rw [← show ((w.alloc (.cells #[n0, n1, n2, n3] 40)).alloc (.cells #[.int .i64 h.node, .string h.key, .int .i64 h.a, .int .i64 h.b] 42)).heap.size = w.heap.size + 1 + 1 from by simp]
  exact heap_alloc_new _ _
 ·unfold HVar
  rw [← show (((w.alloc (.cells #[n0, n1, n2, n3] 40)).alloc (.cells #[.int .i64 h.node, .string h.key, .int .i64 h.a, .int .i64 h.b] 42)).alloc (.cells #[.string r.key, .int .i64 r.num, .int .i64 r.time] 44)).heap.size = w.heap.size + 1 + 1 + 1 from by simp]
  exact heap_alloc_new _ _
 ·exact ((((Below.refl _ _).alloc (Nat.le_refl _) _).alloc (by simp) _).alloc (by simp; omega) _).alloc (by simp; omega) _ |>.drew
theorem Vars.next {w W W' : World} {b0 : Nat} {n0 n1 n2 n3 : Value} {b1 b2 b3 : Nat} {h : Hld} {r : Rec} (v : Vars w W b0 n0 n1 n2 n3 b1 b2 b3 h r) (hb : Below W.heap.size W W') : Vars w W' b0 n0 n1 n2 n3 b1 b2 b3 h r :=
 ⟨by have := hb.size; have := v.lt0; omega, (hb.block _ v.lt0).trans v.h0, by have := hb.size; have := v.lt1; omega, by have := hb.size; have := v.lt2; omega, by have := hb.size; have := v.lt3; omega, v.ge1, v.ge2, v.ge3, v.h1.keep (hb.block _ v.lt1), v.h2.keep (hb.block _ v.lt2),
 by obtain ⟨n, k, a, b, h3⟩ := v.h3; exact ⟨n, k, a, b, h3.keep (hb.block _ v.lt3)⟩, v.below.trans (hb.mono v.below.size), v.ne⟩
theorem HVar.a {w : World} {k : Nat} {n : Int} {key : ByteArray} {a b : Int} (h : HVar w k n key a b) (x : Int) : HVar (w.setCell ⟨k, 2, none⟩ (.int .i64 x)) k n key x b := by
 unfold HVar at h ⊢
 simp [World.setCell, Array.getElem?_modify, h]
theorem HVar.b {w : World} {k : Nat} {n : Int} {key : ByteArray} {a b : Int} (h : HVar w k n key a b) (x : Int) : HVar (w.setCell ⟨k, 3, none⟩ (.int .i64 x)) k n key a x := by
 unfold HVar at h ⊢
 simp [World.setCell, Array.getElem?_modify, h]
theorem HVar.node {w : World} {k : Nat} {n : Int} {key : ByteArray} {a b : Int} (h : HVar w k n key a b) (x : Int) : HVar (w.setCell ⟨k, 0, none⟩ (.int .i64 x)) k x key a b := by
 unfold HVar at h ⊢
 simp [World.setCell, Array.getElem?_modify, h]
theorem HVar.hkey {w : World} {k : Nat} {n : Int} {key : ByteArray} {a b : Int} (h : HVar w k n key a b) (x : ByteArray) : HVar (w.setCell ⟨k, 1, none⟩ (.string x)) k n x a b := by
 unfold HVar at h ⊢
 simp [World.setCell, Array.getElem?_modify, h]
theorem Vars.num {w W : World} {b0 : Nat} {n0 n1 n2 n3 : Value} {b1 b2 b3 : Nat} {h : Hld} {r : Rec} (v : Vars w W b0 n0 n1 n2 n3 b1 b2 b3 h r) (x : Int) : Vars w (W.setCell ⟨b2, 1, none⟩ (.int .i64 x)) b0 n0 n1 n2 n3 b1 b2 b3 h { r with num := x } :=
 ⟨by simpa using v.lt0, (Below.heap_setCell _ _ _ _ (by simpa using v.ne.2.1)).trans v.h0, by simpa using v.lt1, by simpa using v.lt2, by simpa using v.lt3, v.ge1, v.ge2, v.ge3, v.h1.keep (Below.heap_setCell _ _ _ _ (by simpa using v.ne.2.2.2.1)), v.h2.num x,
 by obtain ⟨n, k, a, b, h3⟩ := v.h3; exact ⟨n, k, a, b, h3.keep (Below.heap_setCell _ _ _ _ (by simpa using v.ne.2.2.2.2.2.symm))⟩, v.below.setCell (p := ⟨b2, 1, none⟩) v.ge2 _, v.ne⟩
theorem Vars.key {w W : World} {b0 : Nat} {n0 n1 n2 n3 : Value} {b1 b2 b3 : Nat} {h : Hld} {r : Rec} (v : Vars w W b0 n0 n1 n2 n3 b1 b2 b3 h r) (x : ByteArray) : Vars w (W.setCell ⟨b2, 0, none⟩ (.string x)) b0 n0 n1 n2 n3 b1 b2 b3 h { r with key := x } :=
 ⟨by simpa using v.lt0, (Below.heap_setCell _ _ _ _ (by simpa using v.ne.2.1)).trans v.h0, by simpa using v.lt1, by simpa using v.lt2, by simpa using v.lt3, v.ge1, v.ge2, v.ge3, v.h1.keep (Below.heap_setCell _ _ _ _ (by simpa using v.ne.2.2.2.1)), v.h2.key x,
 by obtain ⟨n, k, a, b, h3⟩ := v.h3; exact ⟨n, k, a, b, h3.keep (Below.heap_setCell _ _ _ _ (by simpa using v.ne.2.2.2.2.2.symm))⟩, v.below.setCell (p := ⟨b2, 0, none⟩) v.ge2 _, v.ne⟩
theorem Vars.a {w W : World} {b0 : Nat} {n0 n1 n2 n3 : Value} {b1 b2 b3 : Nat} {h : Hld} {r : Rec} (v : Vars w W b0 n0 n1 n2 n3 b1 b2 b3 h r) (x : Int) : Vars w (W.setCell ⟨b1, 2, none⟩ (.int .i64 x)) b0 n0 n1 n2 n3 b1 b2 b3 { h with a := x } r :=
 ⟨by simpa using v.lt0, (Below.heap_setCell _ _ _ _ (by simpa using v.ne.1)).trans v.h0, by simpa using v.lt1, by simpa using v.lt2, by simpa using v.lt3, v.ge1, v.ge2, v.ge3, v.h1.a x, v.h2.keep (Below.heap_setCell _ _ _ _ (by simpa using v.ne.2.2.2.1.symm)),
 by obtain ⟨n, k, a, b, h3⟩ := v.h3; exact ⟨n, k, a, b, h3.keep (Below.heap_setCell _ _ _ _ (by simpa using v.ne.2.2.2.2.1.symm))⟩, v.below.setCell (p := ⟨b1, 2, none⟩) v.ge1 _, v.ne⟩
theorem Vars.b {w W : World} {b0 : Nat} {n0 n1 n2 n3 : Value} {b1 b2 b3 : Nat} {h : Hld} {r : Rec} (v : Vars w W b0 n0 n1 n2 n3 b1 b2 b3 h r) (x : Int) : Vars w (W.setCell ⟨b1, 3, none⟩ (.int .i64 x)) b0 n0 n1 n2 n3 b1 b2 b3 { h with b := x } r :=
 ⟨by simpa using v.lt0, (Below.heap_setCell _ _ _ _ (by simpa using v.ne.1)).trans v.h0, by simpa using v.lt1, by simpa using v.lt2, by simpa using v.lt3, v.ge1, v.ge2, v.ge3, v.h1.b x, v.h2.keep (Below.heap_setCell _ _ _ _ (by simpa using v.ne.2.2.2.1.symm)),
 by obtain ⟨n, k, a, b, h3⟩ := v.h3; exact ⟨n, k, a, b, h3.keep (Below.heap_setCell _ _ _ _ (by simpa using v.ne.2.2.2.2.1.symm))⟩, v.below.setCell (p := ⟨b1, 3, none⟩) v.ge1 _, v.ne⟩
theorem Vars.node {w W : World} {b0 : Nat} {n0 n1 n2 n3 : Value} {b1 b2 b3 : Nat} {h : Hld} {r : Rec} (v : Vars w W b0 n0 n1 n2 n3 b1 b2 b3 h r) (x : Int) : Vars w (W.setCell ⟨b1, 0, none⟩ (.int .i64 x)) b0 n0 n1 n2 n3 b1 b2 b3 { h with node := x } r :=
 ⟨by simpa using v.lt0, (Below.heap_setCell _ _ _ _ (by simpa using v.ne.1)).trans v.h0, by simpa using v.lt1, by simpa using v.lt2, by simpa using v.lt3, v.ge1, v.ge2, v.ge3, v.h1.node x, v.h2.keep (Below.heap_setCell _ _ _ _ (by simpa using v.ne.2.2.2.1.symm)),
 by obtain ⟨n, k, a, b, h3⟩ := v.h3; exact ⟨n, k, a, b, h3.keep (Below.heap_setCell _ _ _ _ (by simpa using v.ne.2.2.2.2.1.symm))⟩, v.below.setCell (p := ⟨b1, 0, none⟩) v.ge1 _, v.ne⟩
theorem Vars.hkey {w W : World} {b0 : Nat} {n0 n1 n2 n3 : Value} {b1 b2 b3 : Nat} {h : Hld} {r : Rec} (v : Vars w W b0 n0 n1 n2 n3 b1 b2 b3 h r) (x : ByteArray) : Vars w (W.setCell ⟨b1, 1, none⟩ (.string x)) b0 n0 n1 n2 n3 b1 b2 b3 { h with key := x } r :=
 ⟨by simpa using v.lt0, (Below.heap_setCell _ _ _ _ (by simpa using v.ne.1)).trans v.h0, by simpa using v.lt1, by simpa using v.lt2, by simpa using v.lt3, v.ge1, v.ge2, v.ge3, v.h1.hkey x, v.h2.keep (Below.heap_setCell _ _ _ _ (by simpa using v.ne.2.2.2.1.symm)),
 by obtain ⟨n, k, a, b, h3⟩ := v.h3; exact ⟨n, k, a, b, h3.keep (Below.heap_setCell _ _ _ _ (by simpa using v.ne.2.2.2.2.1.symm))⟩, v.below.setCell (p := ⟨b1, 1, none⟩) v.ge1 _, v.ne⟩
theorem Vars.cells {w W : World} {b0 : Nat} {n0 n1 n2 n3 : Value} {b1 b2 b3 : Nat} {h : Hld} {r : Rec} (v : Vars w W b0 n0 n1 n2 n3 b1 b2 b3 h r) :
  (W.cell? ⟨b0, 0, none⟩ = some n0 ∧ W.cell? ⟨b0, 2, none⟩ = some n2 ∧ W.cell? ⟨b0, 3, none⟩ = some n3) ∧
  (W.cell? ⟨b1, 0, none⟩ = some (.int .i64 h.node) ∧ W.cell? ⟨b1, 1, none⟩ = some (.string h.key) ∧ W.cell? ⟨b1, 2, none⟩ = some (.int .i64 h.a) ∧ W.cell? ⟨b1, 3, none⟩ = some (.int .i64 h.b) ∧ (∀ i, W.frozen? ⟨b1, i, none⟩ = false)) ∧
  (W.cell? ⟨b2, 0, none⟩ = some (.string r.key) ∧ W.cell? ⟨b2, 1, none⟩ = some (.int .i64 r.num) ∧ W.cell? ⟨b2, 2, none⟩ = some (.int .i64 r.time) ∧ (∀ i, W.frozen? ⟨b2, i, none⟩ = false)) ∧
  (∃ n k a b, W.cell? ⟨b3, 0, none⟩ = some (.int .i64 n) ∧ W.cell? ⟨b3, 1, none⟩ = some (.string k) ∧ W.cell? ⟨b3, 2, none⟩ = some (.int .i64 a) ∧ W.cell? ⟨b3, 3, none⟩ = some (.int .i64 b)) ∧ (∀ i, W.frozen? ⟨b3, i, none⟩ = false) := by
 obtain ⟨n, k, a, b, h3⟩ := v.h3
 exact ⟨⟨(cell_of_row W b0 0 _ _ _ v.h0).trans rfl, (cell_of_row W b0 2 _ _ _ v.h0).trans rfl, (cell_of_row W b0 3 _ _ _ v.h0).trans rfl⟩, v.h1.cells, v.h2.cells, ⟨n, k, a, b, h3.cells.1, h3.cells.2.1, h3.cells.2.2.1, h3.cells.2.2.2.1⟩, h3.cells.2.2.2.2⟩
theorem Vars.fin {w W3 W : World} {b0 : Nat} {n0 n1 n2 n3 : Value} {b1 b2 b3 : Nat} {h : Hld} {r : Rec} (v : Vars w W b0 n0 n1 n2 n3 b1 b2 b3 h r) {l : List Rec} {A : Option Addr} {c : Nat}
  (ho : OwnS W 44 3 A c l.length (l.flatMap recCells)) (hA : ∀ k, blk A = some k → W3.heap.size ≤ k) (h3 : b3 < W3.heap.size) (hw : w.heap.size ≤ W3.heap.size) (n : Int) (k : ByteArray) (a b : Int) :
  HVar (((((W.setCell ⟨b3, 0, none⟩ (.int .i64 n)).setCell ⟨b3, 1, none⟩ (.string k)).setCell ⟨b3, 2, none⟩ (.int .i64 a)).setCell ⟨b3, 3, none⟩ (.int .i64 b)).drew) b3 n k a b ∧
  OwnS (((((W.setCell ⟨b3, 0, none⟩ (.int .i64 n)).setCell ⟨b3, 1, none⟩ (.string k)).setCell ⟨b3, 2, none⟩ (.int .i64 a)).setCell ⟨b3, 3, none⟩ (.int .i64 b)).drew) 44 3 A c l.length (l.flatMap recCells) ∧
  (∀ k, blk A = some k → w.heap.size ≤ k) ∧
  Below w.heap.size w (((((W.setCell ⟨b3, 0, none⟩ (.int .i64 n)).setCell ⟨b3, 1, none⟩ (.string k)).setCell ⟨b3, 2, none⟩ (.int .i64 a)).setCell ⟨b3, 3, none⟩ (.int .i64 b)).drew) := by
 refine ⟨?_, ?_, fun k hk => Nat.le_trans hw (hA k hk), ?_⟩
 ·obtain ⟨n', k', a', b', hh⟩ := v.h3
  unfold HVar at hh ⊢
  show (World.heap _)[_]? = _
  simp [World.drew, World.setCell, Array.getElem?_modify, hh]
 ·have hne : ∀ i, blk A ≠ some (⟨b3, i, none⟩ : Addr).block := fun i e => by have := hA _ e; simp at this; omega
  exact ((((ho.setFar (hne 0) _).setFar (hne 1) _).setFar (hne 2) _).setFar (hne 3) _).keep fun _ _ => rfl
 ·exact ((((v.below.setCell (p := ⟨b3, 0, none⟩) v.ge3 _).setCell (p := ⟨b3, 1, none⟩) v.ge3 _).setCell (p := ⟨b3, 2, none⟩) v.ge3 _).setCell (p := ⟨b3, 3, none⟩) v.ge3 _).drew
theorem Vars.zero {w W : World} {b0 : Nat} {n0 n1 n2 n3 : Value} {b1 b2 b3 : Nat} {h : Hld} {r : Rec} (v : Vars w W b0 n0 n1 n2 n3 b1 b2 b3 h r) :
  Vars w ((((W.setCell ⟨b1, 0, none⟩ (.int .i64 0)).setCell ⟨b1, 1, none⟩ (.string ⟨#[]⟩)).setCell ⟨b1, 2, none⟩ (.int .i64 0)).setCell ⟨b1, 3, none⟩ (.int .i64 0)) b0 n0 n1 n2 n3 b1 b2 b3 ⟨0, ⟨#[]⟩, 0, 0⟩ r := (((v.node 0).hkey ⟨#[]⟩).a 0).b 0
end Go.Proofs.YtfndhfekbbbliaaGreatDoor
