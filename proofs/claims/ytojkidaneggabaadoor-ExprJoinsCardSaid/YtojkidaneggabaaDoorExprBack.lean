/-
  Expressions, plain: a tree's text is read as that tree. Conditions: its numbers and operators are some, its depth is at most 20, its text is short enough.
-/
import Derived.Test.YtojkidaneggabaaDoorExprText
import Derived.Test.YtojkidaneggabaaDoorExprJoin
namespace Go.Proofs.YtojkidaneggabaaDoor
open Go.RowKit
set_option linter.unusedVariables false

/-- What stands behind does not go on with what is so tight. -/
def PastL (L : Nat) (v : List UInt8) : Prop := ∀ c r, v = c :: r → isDig c = false ∧ (L ≤ 3 → c ∉ ([42, 47, 37] : List UInt8)) ∧ (L ≤ 2 → c ∉ ([43, 45] : List UInt8)) ∧ (L ≤ 1 → c ∉ ([61, 60, 62] : List UInt8)) ∧ (L ≤ 0 → c ≠ 63)
theorem pastL_nil (L : Nat) : PastL L [] := fun c r h => by cases h
theorem pastL_cons {L : Nat} {c : UInt8} (r : List UInt8) (h : isDig c = false ∧ (L ≤ 3 → c ∉ ([42, 47, 37] : List UInt8)) ∧ (L ≤ 2 → c ∉ ([43, 45] : List UInt8)) ∧ (L ≤ 1 → c ∉ ([61, 60, 62] : List UInt8)) ∧ (L ≤ 0 → c ≠ 63)) : PastL L (c :: r) := fun c' r' e => by injection e with e _; subst e; exact h
theorem PastL.up {L M : Nat} {v : List UInt8} (h : PastL L v) (hL : L ≤ M) : PastL M v := fun c r e => by
  obtain ⟨h1, h2, h3, h4, h5⟩ := h c r e
  exact ⟨h1, fun x => h2 (by omega), fun x => h3 (by omega), fun x => h4 (by omega), fun x => h5 (by omega)⟩
/-- The reader of each level. -/
def lvl (W : Reads) : Nat → Reads
  | 0 => wholeStep W
  | 1 => cmpRd W
  | 2 => addRd W
  | 3 => mulRd W
  | 4 => lessRd W
  | _ => oneRd W
theorem lift_one {W : Reads} {L d : Nat} {x v : List UInt8} {t : Tr} (hL : L < 5) (h : lvl W (L + 1) d x = .ok t v) (hv : PastL L v) : lvl W L d x = .ok t v := by
  match L, hL with
  | 4, _ =>
    cases x with
    | nil => exact h
    | cons c r =>
      show lessRd W d (c :: r) = _
      rw [less_other]
      · exact h
      · rintro rfl
        have h : oneRd W d (45 :: r) = .ok t v := h
        have : oneRd W d (45 :: r) = numRd (45 :: r) := by
          unfold oneRd
          split
          · rename_i e; injection e with e _; exact absurd e (by decide)
          · rename_i e; injection e with e _; exact absurd e (by decide)
          · rename_i e; injection e with e _; exact absurd e (by decide)
          · rename_i e; injection e with e _; exact absurd e (by decide)
          · rename_i e; injection e with e _; exact absurd e (by decide)
          · rfl
        rw [this] at h
        obtain ⟨c, r2, e, hc⟩ := num_head (num_ok h).1
        injection e with e _; subst e; exact absurd hc (by decide)
  | 3, _ =>
    have h : lessRd W d x = .ok t v := h
    show (lessRd W d x).bind _ = _
    rw [h]
    exact loop_stop (fun c r e => (hv c r e).2.1 (by omega)) _ _
  | 2, _ =>
    have h : mulRd W d x = .ok t v := h
    show (mulRd W d x).bind _ = _
    rw [h]
    exact loop_stop (fun c r e => (hv c r e).2.2.1 (by omega)) _ _
  | 1, _ =>
    have h : addRd W d x = .ok t v := h
    show (addRd W d x).bind _ = _
    rw [h]
    cases v with
    | nil => rfl
    | cons c r =>
      show cmpTl W d t (c :: r) = _
      simp only [cmpTl, if_neg ((hv c r rfl).2.2.2.1 (by omega))]
  | 0, _ =>
    have h : cmpRd W d x = .ok t v := h
    show (cmpRd W d x).bind _ = _
    rw [h]
    cases v with
    | nil => rfl
    | cons c r =>
      show selRd W d t (c :: r) = _
      simp only [selRd, if_neg ((hv c r rfl).2.2.2.2 (by omega))]
theorem lift {W : Reads} {L M d : Nat} {x v : List UInt8} {t : Tr} (hLM : L ≤ M) (hM : M ≤ 5) (h : lvl W M d x = .ok t v) (hv : PastL L v) : lvl W L d x = .ok t v := by
  obtain ⟨n, rfl⟩ : ∃ n, M = L + n := ⟨M - L, by omega⟩
  induction n with
  | zero => exact h
  | succ n ih => exact ih (by omega) (by omega) (lift_one (L := L + n) (by omega) h (hv.up (by omega)))

/-! ### The loop, whatever its fuel -/
theorem loop_fuel {next : List UInt8 → Rd} {ops : List UInt8} (hn : Short next) : ∀ k k' a l, l.length ≤ k → l.length ≤ k' → loopRd next ops k a l = loopRd next ops k' a l := by
  intro k
  induction k with
  | zero =>
    intro k' a l h1 h2
    obtain rfl := List.eq_nil_of_length_eq_zero (Nat.le_zero.1 h1)
    cases k' <;> rfl
  | succ k ih =>
    intro k' a l h1 h2
    cases l with
    | nil => cases k' <;> rfl
    | cons c r =>
      obtain ⟨k2, rfl⟩ : ∃ k2, k' = k2 + 1 := ⟨k' - 1, by simp only [List.length_cons] at h2; omega⟩
      simp only [loopRd, List.length_cons] at h1 h2 ⊢
      split
      · cases h : next r with
        | ok b l1 =>
          have := hn _ _ _ h
          exact ih k2 _ l1 (by omega) (by omega)
        | bad k e => rfl
      · rfl

/-! ### Texts are read back -/
/-- t's text, where it has to be L tight, is read at level L as t. -/
def BackL (t : Tr) (L : Nat) : Prop := ∀ k d v, (t.at_ L).length + v.length ≤ k + 1 → d + t.needs L ≤ 20 → PastL L v → lvl (wholeRd k) L d (t.at_ L ++ v) = .ok t v
/-- t's text, where it goes on: at the levels of rows. -/
def BackR (t : Tr) (L : Nat) (next : Nat → Reads) (ops : List UInt8) : Prop := ∀ k d v, (t.at_ L).length + v.length ≤ k + 1 → d + t.needs L ≤ 20 → PastL (L + 1) v → rowRd (next k d) ops (t.at_ L ++ v) = loopRd (next k d) ops v.length t v
structure Back (t : Tr) : Prop where
  all : ∀ L, L ≤ 5 → BackL t L
  mul : BackR t 3 (fun k => lessRd (wholeRd k)) [42, 47, 37]
  add : BackR t 2 (fun k => mulRd (wholeRd k)) [43, 45]
theorem at_pos (t : Tr) : 0 < t.raw.length := by
  cases t with
  | num k =>
    show 0 < (Lib.itoa k).length
    unfold Lib.itoa
    split
    · simp
    · rw [Lib.decDigits_length]; exact Lib.nDigits_pos _
  | nam n => cases n <;> simp [Tr.raw]
  | neg a => simp [Tr.raw]
  | bin op a b => simp only [Tr.raw]; split <;> (try split) <;> simp <;> omega
  | sel a b c => simp [Tr.raw]; omega
theorem at_pos' (t : Tr) (L : Nat) : 0 < (t.at_ L).length := by have := at_pos t; rw [at_length]; omega
/-- A reader of whole expressions, of strictly less. -/
theorem whole_of {k d : Nat} {x v : List UInt8} {t : Tr} (hx : 0 < x.length) (hk : x.length ≤ k) (h : ∀ k2, k = k2 + 1 → lvl (wholeRd k2) 0 d x = .ok t v) : wholeRd k d x = .ok t v := by
  obtain ⟨k2, rfl⟩ : ∃ k2, k = k2 + 1 := ⟨k - 1, by omega⟩
  exact h k2 rfl
/-- From the text itself to all levels. -/
theorem back_all {t : Tr} (h : ∀ k d v, t.raw.length + v.length ≤ k + 1 → d + t.need ≤ 20 → PastL t.tight v → lvl (wholeRd k) t.tight d (t.raw ++ v) = .ok t v) (ht : t.tight ≤ 5) : ∀ L, L ≤ 5 → BackL t L := by
  intro L hL k d v hlen hd hv
  by_cases hb : t.tight < L
  · have e1 : t.at_ L = 40 :: (t.raw ++ [41]) := by unfold Tr.at_; rw [decide_eq_true hb]; rfl
    have e2 : t.needs L = t.need + 1 := by unfold Tr.needs; rw [if_pos hb]
    rw [e1] at hlen ⊢
    rw [e2] at hd
    have hstop : ∀ M, PastL M (41 :: v) := fun M => pastL_cons v ⟨by decide, fun _ => by decide, fun _ => by decide, fun _ => by decide, fun _ => by decide⟩
    have hW : wholeRd k (d + 1) (t.raw ++ 41 :: v) = .ok t (41 :: v) := by
      simp only [List.length_append, List.length_cons, List.length_nil] at hlen
      refine whole_of (by have := at_pos t; rw [List.length_append]; omega) (by simp only [List.length_append, List.length_cons]; omega) fun k2 hk2 => ?_
      exact lift (Nat.zero_le _) ht (h k2 (d + 1) (41 :: v) (by simp only [List.length_cons]; omega) (by omega) (hstop _)) (hstop _)
    have h5 : lvl (wholeRd k) 5 d (40 :: (t.raw ++ [41]) ++ v) = .ok t v := by
      show oneRd (wholeRd k) d (40 :: ((t.raw ++ [41]) ++ v)) = _
      rw [List.append_assoc]
      show deepRd d _ _ = _
      unfold deepRd
      rw [if_neg (by omega), List.singleton_append, hW]
      simp [Rd.bind, wantRd]
    exact lift hL (Nat.le_refl _) h5 hv
  · obtain ⟨e1, e2⟩ := at_of_tight (t := t) (L := L) (by omega)
    rw [e1] at hlen ⊢
    rw [e2] at hd
    exact lift (by omega) ht (h k d v hlen hd (hv.up (by omega))) hv
/-- A row's text where it begins no row of its own. -/
theorem back_row {t : Tr} {L : Nat} (hL : L = 2 ∨ L = 3) (h : BackL t (L + 1)) (ht : t.at_ L = t.at_ (L + 1)) (ht2 : t.needs L = t.needs (L + 1)) (ops : List UInt8) : BackR t L (fun k => lvl (wholeRd k) (L + 1)) ops := by
  intro k d v hlen hd hv
  rw [ht] at hlen ⊢
  rw [ht2] at hd
  show (lvl (wholeRd k) (L + 1) d _).bind _ = _
  rw [h k d v hlen hd hv]
  rfl
theorem at_same {t : Tr} {L : Nat} (h : t.tight ≠ L) : t.at_ L = t.at_ (L + 1) ∧ t.needs L = t.needs (L + 1) := by
  unfold Tr.at_ Tr.needs
  by_cases h1 : t.tight < L
  · rw [decide_eq_true h1, decide_eq_true (show t.tight < L + 1 by omega), if_pos h1, if_pos (show t.tight < L + 1 by omega)]; exact ⟨rfl, rfl⟩
  · rw [decide_eq_false h1, decide_eq_false (show ¬ t.tight < L + 1 by omega), if_neg h1, if_neg (show ¬ t.tight < L + 1 by omega)]; exact ⟨rfl, rfl⟩
theorem back_of {t : Tr} (ht : t.tight ≤ 5) (h2 : t.tight ≠ 2) (h3 : t.tight ≠ 3) (h : ∀ k d v, t.raw.length + v.length ≤ k + 1 → d + t.need ≤ 20 → PastL t.tight v → lvl (wholeRd k) t.tight d (t.raw ++ v) = .ok t v) : Back t := by
  have ha := back_all h ht
  exact ⟨ha, back_row (.inr rfl) (ha 4 (by omega)) (at_same h3).1 (at_same h3).2 _, back_row (.inl rfl) (ha 3 (by omega)) (at_same h2).1 (at_same h2).2 _⟩

theorem isDig_no {c : UInt8} (h : c.toNat < 48 ∨ 57 < c.toNat) : isDig c = false := by
  unfold isDig
  rcases h with h | h
  · rw [decide_eq_false (by omega)]; rfl
  · rw [Bool.and_eq_false_iff]; right; exact decide_eq_false (by omega)
theorem digs_past {ds v : List UInt8} (h : ∀ c ∈ ds, isDig c = true) (hv : ∀ c r, v = c :: r → isDig c = false) : digsOf (ds ++ v) = ds := by
  induction ds with
  | nil =>
    cases v with
    | nil => rfl
    | cons c r => simp [digsOf, hv c r rfl]
  | cons c r ih =>
    unfold digsOf at ih ⊢
    rw [List.cons_append, List.takeWhile_cons, h c List.mem_cons_self, if_pos rfl, ih fun c hc => h c (List.mem_cons_of_mem _ hc)]
theorem num_back {k : Int} (h1 : 0 ≤ k) (h2 : k ≤ 9223372036854775807) {v : List UInt8} (hv : ∀ c r, v = c :: r → isDig c = false) : numRd (Lib.itoa k ++ v) = .ok (.num k) v := by
  obtain ⟨n, rfl⟩ := Int.eq_ofNat_of_zero_le h1
  rw [itoa_nat_]
  have hd : digsOf (Lib.decDigits n ++ v) = Lib.decDigits n := digs_past (dec_digs n) hv
  have hn : numOf (Lib.decDigits n ++ v) = Lib.decDigits n := by
    unfold numOf
    rw [hd]
    split
    · rename_i c d r e
      rw [if_neg]
      · exact e.symm
      · rintro rfl
        rcases Nat.eq_zero_or_pos n with rfl | hn
        · rw [dec_small (by decide)] at e; injection e with _ e; cases e
        · obtain ⟨c, r2, e2, hc⟩ := dec_head n hn
          rw [e] at e2; injection e2 with e2 _; exact hc e2.symm
    · rfl
  unfold numRd
  rw [hn, dec_val]
  have hne : Lib.decDigits n ≠ [] := fun e => by
    have := Lib.decDigits_length n
    rw [e] at this
    have := Lib.nDigits_pos n
    simp at *; omega
  rw [if_neg (by rintro (h | h); exact hne h; omega), List.drop_append_of_le_length (Nat.le_refl _), List.drop_length]
  rfl
theorem min_back {x y op : UInt8} (ho : (x = 105 ∧ y = 110 ∧ op = 109) ∨ (x = 97 ∧ y = 120 ∧ op = 77)) {a b : Tr} (ha : BackL a 0) (hb : BackL b 0) {k d : Nat} {v : List UInt8} (hlen : a.raw.length + b.raw.length + 6 + v.length ≤ k + 1) (hd : d + (1 + max a.need b.need) ≤ 20) :
    oneRd (wholeRd k) d ((109 :: x :: y :: 40 :: (a.raw ++ 44 :: (b.raw ++ [41]))) ++ v) = .ok (.bin op a b) v := by
  have e : (109 :: x :: y :: 40 :: (a.raw ++ 44 :: (b.raw ++ [41]))) ++ v = 109 :: x :: y :: 40 :: (a.raw ++ 44 :: (b.raw ++ 41 :: v)) := by simp
  have h1 : wholeRd k (d + 1) (a.raw ++ 44 :: (b.raw ++ 41 :: v)) = .ok a (44 :: (b.raw ++ 41 :: v)) := by
    refine whole_of (by have := at_pos a; rw [List.length_append]; omega) (by simp only [List.length_append, List.length_cons]; omega) fun k2 hk2 => ?_
    have := ha k2 (d + 1) (44 :: (b.raw ++ 41 :: v)) (by rw [at_zero]; simp only [List.length_append, List.length_cons]; omega) (by rw [needs_zero]; omega) (pastL_cons _ ⟨by decide, fun _ => by decide, fun _ => by decide, fun _ => by decide, fun _ => by decide⟩)
    rw [at_zero] at this; exact this
  have h2 : wholeRd k (d + 1) (b.raw ++ 41 :: v) = .ok b (41 :: v) := by
    refine whole_of (by have := at_pos b; rw [List.length_append]; omega) (by simp only [List.length_append, List.length_cons]; omega) fun k2 hk2 => ?_
    have := hb k2 (d + 1) (41 :: v) (by rw [at_zero]; simp only [List.length_cons]; omega) (by rw [needs_zero]; omega) (pastL_cons _ ⟨by decide, fun _ => by decide, fun _ => by decide, fun _ => by decide, fun _ => by decide⟩)
    rw [at_zero] at this; exact this
  have h3 : ∀ op, twoRd (wholeRd k) op (d + 1) (a.raw ++ 44 :: (b.raw ++ 41 :: v)) = .ok (.bin op a b) v := fun op => by
    unfold twoRd
    rw [h1]
    simp only [Rd.bind, wantRd, if_true, h2]
  rw [e]
  rcases ho with ⟨rfl, rfl, rfl⟩ | ⟨rfl, rfl, rfl⟩
  · show deepRd d _ _ = _
    unfold deepRd
    rw [if_neg (by omega)]; exact h3 _
  · show deepRd d _ _ = _
    unfold deepRd
    rw [if_neg (by omega)]; exact h3 _
/-- An operator of a row: its text goes on. -/
theorem bin_row {L : Nat} {ops : List UInt8} (hL : L = 2 ∨ L = 3) {op : UInt8} (ho : op ∈ ops) (hpast : ∀ r, PastL (L + 1) (op :: r)) {a b : Tr} (hS : ∀ k d, Short (lvl (wholeRd k) (L + 1) d)) (ha : BackR a L (fun k => lvl (wholeRd k) (L + 1)) ops) (hb : BackL b (L + 1)) {k d : Nat} {v : List UInt8}
    (hlen : (a.at_ L).length + (1 + (b.at_ (L + 1)).length) + v.length ≤ k + 1) (hd1 : d + a.needs L ≤ 20) (hd2 : d + b.needs (L + 1) ≤ 20) (hv : PastL (L + 1) v) :
    rowRd (lvl (wholeRd k) (L + 1) d) ops ((a.at_ L ++ op :: b.at_ (L + 1)) ++ v) = loopRd (lvl (wholeRd k) (L + 1) d) ops v.length (.bin op a b) v := by
  have e : (a.at_ L ++ op :: b.at_ (L + 1)) ++ v = a.at_ L ++ (op :: (b.at_ (L + 1) ++ v)) := by simp
  rw [e, ha k d (op :: (b.at_ (L + 1) ++ v)) (by simp only [List.length_cons, List.length_append]; omega) hd1 (hpast _)]
  simp only [List.length_cons, loopRd, if_pos ho]
  rw [hb k d v (by omega) hd2 hv]
  exact loop_fuel (hS k d) _ _ _ _ (by rw [List.length_append]; omega) (Nat.le_refl _)
theorem bin_parts {op : UInt8} {a b : Tr} (h1 : op ≠ 109) (h2 : op ≠ 77) : (Tr.bin op a b).raw = a.at_ (leftOf (tightOp op)) ++ op :: b.at_ (tightOp op + 1) ∧ (Tr.bin op a b).need = max (a.needs (leftOf (tightOp op))) (b.needs (tightOp op + 1)) := by
  refine ⟨?_, ?_⟩
  · simp only [Tr.raw, if_neg h1, if_neg h2]; rfl
  · simp only [Tr.need, if_neg (show ¬ (op = 109 ∨ op = 77) from fun h => h.elim h1 h2)]; rfl
theorem row_back {L : Nat} {ops : List UInt8} (hL : L = 2 ∨ L = 3) {op : UInt8} {a b : Tr} (ht : tightOp op = L) (hraw : (Tr.bin op a b).raw = a.at_ L ++ op :: b.at_ (L + 1)) (hneed : (Tr.bin op a b).need = max (a.needs L) (b.needs (L + 1)))
    (hlv : ∀ k d x, lvl (wholeRd k) L d x = rowRd (lvl (wholeRd k) (L + 1) d) ops x) (hstop : ∀ v, PastL L v → ∀ c r, v = c :: r → c ∉ ops)
    (hrow : ∀ k d v, (a.at_ L).length + (1 + (b.at_ (L + 1)).length) + v.length ≤ k + 1 → d + a.needs L ≤ 20 → d + b.needs (L + 1) ≤ 20 → PastL (L + 1) v → rowRd (lvl (wholeRd k) (L + 1) d) ops ((a.at_ L ++ op :: b.at_ (L + 1)) ++ v) = loopRd (lvl (wholeRd k) (L + 1) d) ops v.length (.bin op a b) v) :
    (∀ M, M ≤ 5 → BackL (.bin op a b) M) ∧ BackR (.bin op a b) L (fun k => lvl (wholeRd k) (L + 1)) ops := by
  have htt : (Tr.bin op a b).tight = L := ht
  obtain ⟨e1, e2⟩ := at_of_tight (t := .bin op a b) (L := L) (by rw [htt]; exact Nat.le_refl _)
  refine ⟨back_all (fun k d v hlen hd hv => ?_) (by rw [htt]; omega), fun k d v hlen hd hv => ?_⟩
  · rw [htt] at hv ⊢
    rw [hraw] at hlen ⊢
    rw [hneed] at hd
    rw [hlv, hrow k d v (by simp only [List.length_append, List.length_cons] at hlen; omega) (by omega) (by omega) (hv.up (by omega))]
    exact loop_stop (hstop v hv) _ _
  · rw [e1, hraw] at hlen ⊢
    rw [e2, hneed] at hd
    exact hrow k d v (by simp only [List.length_append, List.length_cons] at hlen; omega) (by omega) (by omega) hv
theorem back (t : Tr) (hf : t.fine) : Back t := by
  induction t with
  | num k =>
    refine back_of (Nat.le_refl _) (show (5 : Nat) ≠ 2 by omega) (show (5 : Nat) ≠ 3 by omega) fun k' d v hlen hd hv => ?_
    show oneRd _ d (Lib.itoa k ++ v) = _
    have hn : numRd (Lib.itoa k ++ v) = .ok (.num k) v := num_back hf.1 hf.2 fun c r e => (hv c r e).1
    obtain ⟨c, r, e, hc⟩ := num_head (num_ok hn).1
    rw [← hn, e]
    exact one_dig _ _ _ hc
  | nam n =>
    refine back_of (Nat.le_refl _) (show (5 : Nat) ≠ 2 by omega) (show (5 : Nat) ≠ 3 by omega) fun k' d v hlen hd hv => ?_
    cases n <;> rfl
  | neg a ih =>
    have ha := (ih hf).all 4 (by omega)
    refine back_of (show 4 ≤ 5 by omega) (show (4 : Nat) ≠ 2 by omega) (show (4 : Nat) ≠ 3 by omega) fun k d v hlen hd hv => ?_
    have e1 : (Tr.neg a).raw = 45 :: a.at_ 4 := rfl
    have e2 : (Tr.neg a).need = 1 + a.needs 4 := rfl
    rw [e1] at hlen ⊢
    rw [e2] at hd
    show lessRd _ d (45 :: (a.at_ 4 ++ v)) = _
    rw [less_minus]
    unfold deepRd
    rw [if_neg (by omega)]
    have h : lessRd (wholeRd k) (d + 1) (a.at_ 4 ++ v) = .ok a v := ha k (d + 1) v (by simp only [List.length_cons] at hlen; omega) (by omega) hv
    rw [h]; rfl
  | sel a b c iha ihb ihc =>
    obtain ⟨hfa, hfb, hfc⟩ := hf
    refine back_of (Nat.zero_le _) (show (0 : Nat) ≠ 2 by omega) (show (0 : Nat) ≠ 3 by omega) fun k d v hlen hd hv => ?_
    have e1 : (Tr.sel a b c).raw = a.at_ 1 ++ 63 :: (b.raw ++ 58 :: c.raw) := rfl
    have e2 : (Tr.sel a b c).need = max (a.needs 1) (max (1 + b.need) (1 + c.need)) := rfl
    rw [e1] at hlen ⊢
    rw [e2] at hd
    simp only [List.length_append, List.length_cons] at hlen
    have e3 : a.at_ 1 ++ 63 :: (b.raw ++ 58 :: c.raw) ++ v = a.at_ 1 ++ 63 :: (b.raw ++ 58 :: (c.raw ++ v)) := by simp
    have h1 : cmpRd (wholeRd k) d (a.at_ 1 ++ 63 :: (b.raw ++ 58 :: (c.raw ++ v))) = .ok a (63 :: (b.raw ++ 58 :: (c.raw ++ v))) :=
      (iha hfa).all 1 (by omega) k d _ (by simp only [List.length_append, List.length_cons]; omega) (by omega) (pastL_cons _ ⟨by decide, fun _ => by decide, fun _ => by decide, fun _ => by decide, fun h => absurd h (by omega)⟩)
    have h2 : wholeRd k (d + 1) (b.raw ++ 58 :: (c.raw ++ v)) = .ok b (58 :: (c.raw ++ v)) := by
      refine whole_of (by have := at_pos b; rw [List.length_append]; omega) (by simp only [List.length_append, List.length_cons]; omega) fun k2 hk2 => ?_
      have := (ihb hfb).all 0 (by omega) k2 (d + 1) (58 :: (c.raw ++ v)) (by rw [at_zero]; simp only [List.length_append, List.length_cons]; omega) (by rw [needs_zero]; omega) (pastL_cons _ ⟨by decide, fun _ => by decide, fun _ => by decide, fun _ => by decide, fun _ => by decide⟩)
      rw [at_zero] at this; exact this
    have h3 : wholeRd k (d + 1) (c.raw ++ v) = .ok c v := by
      refine whole_of (by have := at_pos c; rw [List.length_append]; omega) (by simp only [List.length_append]; omega) fun k2 hk2 => ?_
      have := (ihc hfc).all 0 (by omega) k2 (d + 1) v (by rw [at_zero]; omega) (by rw [needs_zero]; omega) hv
      rw [at_zero] at this; exact this
    rw [e3]
    show (cmpRd _ d _).bind _ = _
    rw [h1]
    show selRd _ d a (63 :: _) = _
    simp only [selRd, if_true]
    unfold deepRd
    rw [if_neg (by omega), h2]
    simp only [Rd.bind, wantRd, if_true, h3]
  | bin op a b iha ihb =>
    obtain ⟨ho, hfa, hfb⟩ := hf
    have ha := iha hfa
    have hb := ihb hfb
    have ho' : op = 109 ∨ op = 77 ∨ (op = 61 ∨ op = 60 ∨ op = 62) ∨ (op = 43 ∨ op = 45) ∨ (op = 42 ∨ op = 47 ∨ op = 37) := by
      simp only [isOp, Bool.or_eq_true, beq_iff_eq] at ho
      rcases ho with ((((((((h | h) | h) | h) | h) | h) | h) | h) | h) | h <;> simp [h]
    rcases ho' with rfl | rfl | ho | ho | ho
    · refine back_of (Nat.le_refl _) (show (5 : Nat) ≠ 2 by omega) (show (5 : Nat) ≠ 3 by omega) fun k d v hlen hd hv => ?_
      exact min_back (.inl ⟨rfl, rfl, rfl⟩) (ha.all 0 (by omega)) (hb.all 0 (by omega)) (by simp only [Tr.raw, if_true, List.length_append, List.length_cons, List.length_nil] at hlen; omega) hd
    · refine back_of (Nat.le_refl _) (show (5 : Nat) ≠ 2 by omega) (show (5 : Nat) ≠ 3 by omega) fun k d v hlen hd hv => ?_
      exact min_back (.inr ⟨rfl, rfl, rfl⟩) (ha.all 0 (by omega)) (hb.all 0 (by omega)) (by have e := (min_len_ 77 (.inr rfl) a b).1; rw [e] at hlen; omega) hd
    · have hk : tightOp op = 1 ∧ op ≠ 109 ∧ op ≠ 77 := by rcases ho with rfl | rfl | rfl <;> decide
      obtain ⟨hk, n1, n2⟩ := hk
      obtain ⟨p1, p2⟩ := bin_parts (a := a) (b := b) n1 n2
      rw [hk] at p1 p2
      have htt : (Tr.bin op a b).tight = 1 := hk
      refine back_of (by rw [htt]; omega) (by rw [htt]; omega) (by rw [htt]; omega) fun k d v hlen hd hv => ?_
      rw [htt] at hv ⊢
      have q1 : (Tr.bin op a b).raw = a.at_ 2 ++ op :: b.at_ 2 := p1
      have q2 : (Tr.bin op a b).need = max (a.needs 2) (b.needs 2) := p2
      rw [q1] at hlen ⊢
      rw [q2] at hd
      simp only [List.length_append, List.length_cons] at hlen
      have e3 : a.at_ 2 ++ op :: b.at_ 2 ++ v = a.at_ 2 ++ op :: (b.at_ 2 ++ v) := by simp
      have h1 : addRd (wholeRd k) d (a.at_ 2 ++ op :: (b.at_ 2 ++ v)) = .ok a (op :: (b.at_ 2 ++ v)) :=
        ha.all 2 (by omega) k d _ (by simp only [List.length_append, List.length_cons]; omega) (by omega) (pastL_cons _ (by rcases ho with rfl | rfl | rfl <;> exact ⟨by decide, fun _ => by decide, fun _ => by decide, fun h => absurd h (by omega), fun h => absurd h (by omega)⟩))
      have h2 : addRd (wholeRd k) d (b.at_ 2 ++ v) = .ok b v := hb.all 2 (by omega) k d v (by omega) (by omega) (hv.up (by omega))
      rw [e3]
      show (addRd _ d _).bind _ = _
      rw [h1]
      show cmpTl _ d a (op :: _) = _
      have hm : op ∈ ([61, 60, 62] : List UInt8) := by rcases ho with rfl | rfl | rfl <;> decide
      simp only [cmpTl, if_pos hm, h2, Rd.bind]
    · have hk : tightOp op = 2 ∧ op ≠ 109 ∧ op ≠ 77 := by rcases ho with rfl | rfl <;> decide
      obtain ⟨hk, n1, n2⟩ := hk
      obtain ⟨p1, p2⟩ := bin_parts (a := a) (b := b) n1 n2
      rw [hk] at p1 p2
      have hm : op ∈ ([43, 45] : List UInt8) := by rcases ho with rfl | rfl <;> decide
      have hp : ∀ r, PastL 3 (op :: r) := fun r => pastL_cons _ (by rcases ho with rfl | rfl <;> exact ⟨by decide, fun _ => by decide, fun h => absurd h (by omega), fun h => absurd h (by omega), fun h => absurd h (by omega)⟩)
      obtain ⟨r1, r2⟩ := row_back (ops := [43, 45]) (.inl rfl) hk p1 p2 (fun k d x => rfl) (fun v hv c r e => (hv c r e).2.2.1 (by omega)) (fun k d v g1 g2 g3 g4 => bin_row (.inl rfl) hm hp (fun k d => row_short (less_short (whole_short k) d) _) ha.add (hb.all 3 (by omega)) g1 g2 g3 g4)
      have htt : (Tr.bin op a b).tight = 2 := hk
      exact ⟨r1, back_row (.inr rfl) (r1 4 (by omega)) (at_same (by rw [htt]; omega)).1 (at_same (by rw [htt]; omega)).2 _, r2⟩
    · have hk : tightOp op = 3 ∧ op ≠ 109 ∧ op ≠ 77 := by rcases ho with rfl | rfl | rfl <;> decide
      obtain ⟨hk, n1, n2⟩ := hk
      obtain ⟨p1, p2⟩ := bin_parts (a := a) (b := b) n1 n2
      rw [hk] at p1 p2
      have hm : op ∈ ([42, 47, 37] : List UInt8) := by rcases ho with rfl | rfl | rfl <;> decide
      have hp : ∀ r, PastL 4 (op :: r) := fun r => pastL_cons _ (by rcases ho with rfl | rfl | rfl <;> exact ⟨by decide, fun h => absurd h (by omega), fun h => absurd h (by omega), fun h => absurd h (by omega), fun h => absurd h (by omega)⟩)
      obtain ⟨r1, r2⟩ := row_back (ops := [42, 47, 37]) (.inr rfl) hk p1 p2 (fun k d x => rfl) (fun v hv c r e => (hv c r e).2.1 (by omega)) (fun k d v g1 g2 g3 g4 => bin_row (.inr rfl) hm hp (fun k d => less_short (whole_short k) d) ha.mul (hb.all 4 (by omega)) g1 g2 g3 g4)
      have htt : (Tr.bin op a b).tight = 3 := hk
      exact ⟨r1, r2, back_row (.inl rfl) (r1 3 (by omega)) (at_same (by rw [htt]; omega)).1 (at_same (by rw [htt]; omega)).2 _⟩

/-- What is printed is read as it was, and is no longer. -/
theorem print_back {s : List UInt8} {t : Tr} (h : parseT s = .tree t) : parseT t.raw = .tree t ∧ t.raw.length ≤ s.length ∧ t.fine := by
  obtain ⟨hl, h⟩ := parse_ok h
  obtain ⟨hf, h1, h2⟩ := whole_fits _ _ _ _ _ (by omega) h
  rw [at_zero] at h1
  rw [needs_zero] at h2
  have hlen : t.raw.length ≤ s.length := by simpa using h1
  refine ⟨?_, hlen, hf⟩
  unfold parseT
  rw [if_neg (by omega)]
  have hp := at_pos t
  rw [whole_succ hp]
  have hb := (back t hf).all 0 (by omega) (t.raw.length - 1) 0 [] (by rw [at_zero]; simp; omega) (by rw [needs_zero]; omega) (pastL_nil 0)
  rw [at_zero, List.append_nil] at hb
  rw [show wholeStep (wholeRd (t.raw.length - 1)) 0 t.raw = _ from hb]
end Go.Proofs.YtojkidaneggabaaDoor
