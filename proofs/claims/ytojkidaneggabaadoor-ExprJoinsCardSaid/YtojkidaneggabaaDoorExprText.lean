/-
  Expressions, plain: the shortest text of a tree; how long it is, how deep it goes; what is read is no shorter and no less deep. No condition: plain definitions and lemmas.
-/
import Derived.Lib.ItoaNum
import Derived.Test.YtojkidaneggabaaDoorExprCtx
namespace Go.Proofs.YtojkidaneggabaaDoor
open Go.RowKit
set_option linter.unusedVariables false

def tightOp (op : UInt8) : Nat := if op = 61 ∨ op = 60 ∨ op = 62 then 1 else if op = 43 ∨ op = 45 then 2 else if op = 42 ∨ op = 47 ∨ op = 37 then 3 else 5
def Tr.tight : Tr → Nat
  | .num _ => 5
  | .nam _ => 5
  | .neg _ => 4
  | .bin op _ _ => tightOp op
  | .sel _ _ _ => 0
def brk (b : Bool) (r : List UInt8) : List UInt8 := if b then 40 :: (r ++ [41]) else r
def less_ (t : Tr) (least : Nat) : Bool := decide (t.tight < least)
/-- How tight the first operand of an operator so tight has to be. -/
def leftOf (k : Nat) : Nat := if k = 1 then 2 else k
def Tr.raw : Tr → List UInt8
  | .num k => Lib.itoa k
  | .nam n => if n then [110] else [115]
  | .neg a => 45 :: brk (decide (a.tight < 4)) a.raw
  | .bin op a b => if op = 109 then 109 :: 105 :: 110 :: 40 :: (a.raw ++ 44 :: (b.raw ++ [41])) else if op = 77 then 109 :: 97 :: 120 :: 40 :: (a.raw ++ 44 :: (b.raw ++ [41]))
    else brk (decide (a.tight < leftOf (tightOp op))) a.raw ++ op :: brk (decide (b.tight < tightOp op + 1)) b.raw
  | .sel a b c => brk (decide (a.tight < 1)) a.raw ++ 63 :: (b.raw ++ 58 :: c.raw)
/-- A tree's text where it has to be so tight. -/
def Tr.at_ (L : Nat) (t : Tr) : List UInt8 := brk (decide (t.tight < L)) t.raw
def Tr.need : Tr → Nat
  | .num _ => 0
  | .nam _ => 0
  | .neg a => 1 + (a.need + if a.tight < 4 then 1 else 0)
  | .bin op a b => if op = 109 ∨ op = 77 then 1 + max a.need b.need else max (a.need + if a.tight < leftOf (tightOp op) then 1 else 0) (b.need + if b.tight < tightOp op + 1 then 1 else 0)
  | .sel a b c => max (a.need + if a.tight < 1 then 1 else 0) (max (1 + b.need) (1 + c.need))
def Tr.needs (L : Nat) (t : Tr) : Nat := t.need + if t.tight < L then 1 else 0
def isOp (op : UInt8) : Bool := op == 109 || op == 77 || op == 61 || op == 60 || op == 62 || op == 43 || op == 45 || op == 42 || op == 47 || op == 37
def Tr.fine : Tr → Prop
  | .num k => 0 ≤ k ∧ k ≤ 9223372036854775807
  | .nam _ => True
  | .neg a => a.fine
  | .bin op a b => isOp op = true ∧ a.fine ∧ b.fine
  | .sel a b c => a.fine ∧ b.fine ∧ c.fine
theorem brk_length (b : Bool) (r : List UInt8) : (brk b r).length = r.length + if b then 2 else 0 := by cases b <;> simp [brk]
theorem at_length (L : Nat) (t : Tr) : (t.at_ L).length = t.raw.length + if t.tight < L then 2 else 0 := by
  unfold Tr.at_; rw [brk_length]; by_cases h : t.tight < L <;> simp [h]
theorem at_mono {L M : Nat} (h : L ≤ M) (t : Tr) : (t.at_ L).length ≤ (t.at_ M).length := by
  rw [at_length, at_length]; split <;> split <;> omega
theorem needs_mono {L M : Nat} (h : L ≤ M) (t : Tr) : t.needs L ≤ t.needs M := by
  unfold Tr.needs; split <;> split <;> omega
theorem at_zero (t : Tr) : t.at_ 0 = t.raw := by unfold Tr.at_; simp [brk]
theorem needs_zero (t : Tr) : t.needs 0 = t.need := by unfold Tr.needs; simp
theorem at_up {L : Nat} (t : Tr) : (t.at_ L).length ≤ t.raw.length + 2 := by rw [at_length]; split <;> omega
theorem needs_up {L : Nat} (t : Tr) : t.needs L ≤ t.need + 1 := by unfold Tr.needs; split <;> omega

/-! ### Digits -/
theorem dec_step {u : Nat} (h : ¬ u < 10) : Lib.decDigits u = Lib.decDigits (u / 10) ++ [UInt8.ofNat (48 + u % 10)] := by
  rw [Lib.decDigits, dif_neg h]
theorem dec_small {u : Nat} (h : u < 10) : Lib.decDigits u = [UInt8.ofNat (48 + u)] := by rw [Lib.decDigits, dif_pos h]
theorem digVal_snoc (l : List UInt8) (c : UInt8) : digVal (l ++ [c]) = digVal l * 10 + (c.toNat - 48) := by simp [digVal, List.foldl_append]
theorem dig_byte {k : Nat} (h : k < 10) : (UInt8.ofNat (48 + k)).toNat = 48 + k ∧ isDig (UInt8.ofNat (48 + k)) = true := by
  have e : (UInt8.ofNat (48 + k)).toNat = 48 + k := by rw [UInt8.toNat_ofNat']; omega
  refine ⟨e, ?_⟩
  unfold isDig
  rw [e]; simp; omega
theorem dec_val (u : Nat) : digVal (Lib.decDigits u) = u := by
  induction u using Nat.strongRecOn with
  | _ u ih =>
    by_cases h : u < 10
    · rw [dec_small h]; simp [digVal]; omega
    · rw [dec_step h, digVal_snoc, ih (u / 10) (by omega), (dig_byte (by omega)).1]; omega
theorem dec_digs (u : Nat) : ∀ c ∈ Lib.decDigits u, isDig c = true := by
  induction u using Nat.strongRecOn with
  | _ u ih =>
    by_cases h : u < 10
    · rw [dec_small h]; intro c hc; rw [List.mem_singleton.1 hc]; exact (dig_byte h).2
    · rw [dec_step h]; intro c hc
      rcases List.mem_append.1 hc with hc | hc
      · exact ih (u / 10) (by omega) c hc
      · rw [List.mem_singleton.1 hc]; exact (dig_byte (by omega)).2
theorem dec_head (u : Nat) (h : 0 < u) : ∃ c r, Lib.decDigits u = c :: r ∧ c ≠ 48 := by
  induction u using Nat.strongRecOn with
  | _ u ih =>
    by_cases hu : u < 10
    · rw [dec_small hu]
      refine ⟨_, _, rfl, fun e => ?_⟩
      have := (dig_byte hu).1
      rw [e] at this
      have h48 : (48 : UInt8).toNat = 48 := rfl
      omega
    · obtain ⟨c, r, e, hc⟩ := ih (u / 10) (by omega) (by omega)
      rw [dec_step hu, e]
      exact ⟨c, _, rfl, hc⟩
theorem digVal_lt (ds : List UInt8) (hd : ∀ c ∈ ds, isDig c = true) (a : Nat) : ds.foldl (fun a c => a * 10 + (c.toNat - 48)) a < (a + 1) * 10 ^ ds.length := by
  induction ds generalizing a with
  | nil => simp
  | cons c r ih =>
    have hc := hd c List.mem_cons_self
    unfold isDig at hc
    rw [Bool.and_eq_true, decide_eq_true_iff, decide_eq_true_iff] at hc
    have h1 := ih (fun c h => hd c (List.mem_cons_of_mem _ h)) (a * 10 + (c.toNat - 48))
    rw [List.foldl_cons, List.length_cons, Nat.pow_succ]
    have h2 : (a * 10 + (c.toNat - 48) + 1) * 10 ^ r.length ≤ ((a + 1) * 10) * 10 ^ r.length := Nat.mul_le_mul_right _ (by omega)
    have h3 : (a + 1) * 10 * 10 ^ r.length = (a + 1) * (10 ^ r.length * 10) := by rw [Nat.mul_assoc, Nat.mul_comm 10]
    omega
theorem dec_len (ds : List UInt8) (h : ds ≠ []) (hd : ∀ c ∈ ds, isDig c = true) : (Lib.decDigits (digVal ds)).length ≤ ds.length := by
  have hlt : digVal ds < 10 ^ ds.length := by have := digVal_lt ds hd 0; simpa [digVal] using this
  have hlen : 0 < ds.length := List.length_pos_iff.2 h
  have key : ∀ n u : Nat, 0 < n → u < 10 ^ n → (Lib.decDigits u).length ≤ n := by
    intro n
    induction n with
    | zero => intro u h; omega
    | succ n ih =>
      intro u _ hu
      by_cases h10 : u < 10
      · rw [dec_small h10]; simp
      · have hn : 0 < n := by
          rcases Nat.eq_zero_or_pos n with rfl | h
          · simp at hu; omega
          · exact h
        rw [dec_step h10, List.length_append, List.length_singleton]
        have := ih (u / 10) hn (by rw [Nat.pow_succ] at hu; omega)
        omega
  exact key _ _ hlen hlt
theorem itoa_nat_ (u : Nat) : Lib.itoa (u : Int) = Lib.decDigits u := by
  unfold Lib.itoa; rw [if_neg (by omega)]; simp
theorem numOf_dig (l : List UInt8) : ∀ c ∈ numOf l, isDig c = true := by
  have h : ∀ c ∈ digsOf l, isDig c = true := fun c hc => by
    unfold digsOf at hc
    exact List.all_eq_true.1 List.all_takeWhile c hc
  unfold numOf
  split
  · rename_i c d r e
    rw [e] at h
    split
    · intro c hc; rw [List.mem_singleton.1 hc]; decide
    · exact h
  · exact h

/-! ### What is read is no shorter than its text, and goes no less deep -/
def Fits (L d : Nat) (l : List UInt8) (t : Tr) (r : List UInt8) : Prop := t.fine ∧ (t.at_ L).length + r.length ≤ l.length ∧ d + t.needs L ≤ 20
theorem Fits.down {L M d : Nat} {l r : List UInt8} {t : Tr} (h : Fits M d l t r) (hL : L ≤ M) : Fits L d l t r :=
  ⟨h.1, by have := h.2.1; have := at_mono hL t; omega, by have := h.2.2; have := needs_mono hL t; omega⟩
def FitsX (L : Nat) (X : Reads) : Prop := ∀ d l t r, d ≤ 20 → X d l = .ok t r → Fits L d l t r
theorem min_len_ (op : UInt8) (h : op = 109 ∨ op = 77) (a b : Tr) : ((Tr.bin op a b).raw).length = a.raw.length + b.raw.length + 6 ∧ (Tr.bin op a b).need = 1 + max a.need b.need ∧ (Tr.bin op a b).tight = 5 := by
  rcases h with rfl | rfl
  · refine ⟨?_, rfl, rfl⟩; simp [Tr.raw]; omega
  · refine ⟨?_, rfl, rfl⟩; simp [Tr.raw]; omega
theorem at_of_tight {L : Nat} {t : Tr} (h : L ≤ t.tight) : t.at_ L = t.raw ∧ t.needs L = t.need := by
  unfold Tr.at_ Tr.needs
  rw [decide_eq_false (by omega), if_neg (by omega)]; exact ⟨rfl, rfl⟩
theorem two_fits {W : Reads} (hW : FitsX 0 W) (op : UInt8) (ho : op = 109 ∨ op = 77) {d : Nat} {l : List UInt8} {t : Tr} {r : List UInt8} (hd : d + 1 ≤ 20) (h : twoRd W op (d + 1) l = .ok t r) (n : Nat) (hn : n = l.length + 4) : t.fine ∧ (t.at_ 5).length + r.length ≤ n ∧ d + t.needs 5 ≤ 20 := by
  obtain ⟨a, l1, h1, h⟩ := Rd.bind_ok h
  obtain ⟨l2, rfl, h⟩ := want_ok h
  obtain ⟨b, l3, h3, h⟩ := Rd.bind_ok h
  obtain ⟨l4, rfl, h⟩ := want_ok h
  injection h with e h; subst h; subst e
  obtain ⟨a1, a2, a3⟩ := hW _ _ _ _ hd h1
  obtain ⟨b1, b2, b3⟩ := hW _ _ _ _ hd h3
  obtain ⟨m1, m2, m3⟩ := min_len_ op ho a b
  obtain ⟨e1, e2⟩ := at_of_tight (L := 5) (t := .bin op a b) (by rw [m3]; exact Nat.le_refl _)
  rw [at_zero] at a2 b2
  rw [needs_zero] at a3 b3
  rw [e1, e2, m1, m2]
  refine ⟨⟨by rcases ho with rfl | rfl <;> rfl, a1, b1⟩, ?_, ?_⟩
  · simp only [List.length_cons] at *; omega
  · omega
theorem one_fits {W : Reads} (hW : FitsX 0 W) : FitsX 5 (oneRd W) := fun d l t r hd h => by
  unfold oneRd at h
  split at h
  · obtain ⟨h20, h⟩ := deep_ok h
    exact two_fits hW 109 (.inl rfl) (by omega) h _ rfl
  · obtain ⟨h20, h⟩ := deep_ok h
    exact two_fits hW 77 (.inr rfl) (by omega) h _ rfl
  · injection h with e h; subst h; subst e
    refine ⟨trivial, ?_, ?_⟩
    · simp [at_length, Tr.raw, Tr.tight]; omega
    · simp [Tr.needs, Tr.need, Tr.tight]; exact hd
  · injection h with e h; subst h; subst e
    refine ⟨trivial, ?_, ?_⟩
    · simp [at_length, Tr.raw, Tr.tight]; omega
    · simp [Tr.needs, Tr.need, Tr.tight]; exact hd
  · obtain ⟨h20, h⟩ := deep_ok h
    obtain ⟨a, l1, h1, h⟩ := Rd.bind_ok h
    obtain ⟨l2, rfl, h⟩ := want_ok h
    injection h with e h; subst h; subst e
    obtain ⟨a1, a2, a3⟩ := hW _ _ _ _ (by omega) h1
    rw [at_zero] at a2
    rw [needs_zero] at a3
    have := at_up (L := 5) a
    have := needs_up (L := 5) a
    refine ⟨a1, ?_, by omega⟩
    simp only [List.length_cons] at *; omega
  · obtain ⟨h1, h2, rfl, rfl⟩ := num_ok h
    refine ⟨⟨by omega, by omega⟩, ?_, ?_⟩
    · obtain ⟨e1, e2⟩ := at_of_tight (L := 5) (t := .num (digVal (numOf l))) (Nat.le_refl _)
      rw [e1]
      show (Lib.itoa _).length + _ ≤ _
      rw [itoa_nat_, List.length_drop]
      have := dec_len (numOf l) h1 (numOf_dig l)
      have := numOf_le l
      omega
    · simp [Tr.needs, Tr.need, Tr.tight]; exact hd
theorem less_fits {W : Reads} (hW : FitsX 0 W) : FitsX 4 (lessRd W) := by
  intro d l
  induction l generalizing d with
  | nil => intro t r _ h; cases h
  | cons c l ih =>
    intro t r hd h
    by_cases e : c = 45
    · subst e
      rw [less_minus] at h
      obtain ⟨h20, h⟩ := deep_ok h
      obtain ⟨a, l1, h1, h⟩ := Rd.bind_ok h
      injection h with e h; subst h; subst e
      obtain ⟨a1, a2, a3⟩ := ih (d + 1) _ _ (by omega) h1
      obtain ⟨e1, e2⟩ := at_of_tight (L := 4) (t := .neg a) (Nat.le_refl _)
      refine ⟨a1, ?_, ?_⟩
      · rw [e1]
        show (45 :: a.at_ 4).length + _ ≤ _
        simp only [List.length_cons]; omega
      · rw [e2]
        show d + (1 + a.needs 4) ≤ 20
        omega
    · rw [less_other _ _ _ e] at h
      exact (one_fits hW d _ _ _ hd h).down (by decide)
/-- A row of operators, each so tight. -/
theorem loop_fits {next : Reads} {ops : List UInt8} {L : Nat} (hL : L = 2 ∨ L = 3) (hops : ∀ c ∈ ops, isOp c = true ∧ tightOp c = L ∧ c ≠ 109 ∧ c ≠ 77) (hn : FitsX (L + 1) next) (d : Nat) (hd : d ≤ 20) (l0 : List UInt8) : ∀ k a l t r, Fits L d l0 a l → loopRd (next d) ops k a l = .ok t r → Fits L d l0 t r := by
  intro k
  induction k with
  | zero => intro a l t r h0 h; injection h with e h; subst h; subst e; exact h0
  | succ k ih =>
    intro a l t r h0 h
    cases l with
    | nil => injection h with e h; subst h; subst e; exact h0
    | cons c l =>
      simp only [loopRd] at h
      split at h
      · rename_i hc
        obtain ⟨b, l1, h1, h⟩ := Rd.bind_ok h
        refine ih _ _ _ _ ?_ h
        obtain ⟨b1, b2, b3⟩ := hn _ _ _ _ hd h1
        obtain ⟨a1, a2, a3⟩ := h0
        obtain ⟨o1, o2, o3, o4⟩ := hops c hc
        have ht : (Tr.bin c a b).tight = L := o2
        have hl : leftOf L = L := by rcases hL with rfl | rfl <;> rfl
        obtain ⟨e1, e2⟩ := at_of_tight (L := L) (t := .bin c a b) (by rw [ht]; exact Nat.le_refl _)
        refine ⟨⟨o1, a1, b1⟩, ?_, ?_⟩
        · rw [e1]
          have : (Tr.bin c a b).raw = a.at_ L ++ c :: b.at_ (L + 1) := by
            simp only [Tr.raw, if_neg o3, if_neg o4, o2, hl]; rfl
          rw [this]
          simp only [List.length_append, List.length_cons] at *; omega
        · rw [e2]
          have : (Tr.bin c a b).need = max (a.needs L) (b.needs (L + 1)) := by
            simp only [Tr.need, if_neg (show ¬ (c = 109 ∨ c = 77) from fun h => h.elim o3 o4), o2, hl]; rfl
          rw [this]; omega
      · injection h with e h; subst h; subst e; exact h0
theorem row_fits {next : Reads} {ops : List UInt8} {L : Nat} (hL : L = 2 ∨ L = 3) (hops : ∀ c ∈ ops, isOp c = true ∧ tightOp c = L ∧ c ≠ 109 ∧ c ≠ 77) (hn : FitsX (L + 1) next) : FitsX L (fun d => rowRd (next d) ops) := fun d l t r hd h => by
  obtain ⟨a, l1, h1, h⟩ := Rd.bind_ok h
  exact loop_fits hL hops hn d hd l _ _ _ _ _ ((hn _ _ _ _ hd h1).down (by omega)) h
theorem mul_fits {W : Reads} (hW : FitsX 0 W) : FitsX 3 (mulRd W) := row_fits (.inr rfl) (by decide) (less_fits hW)
theorem add_fits {W : Reads} (hW : FitsX 0 W) : FitsX 2 (addRd W) := row_fits (.inl rfl) (by decide) (mul_fits hW)
theorem cmp_fits {W : Reads} (hW : FitsX 0 W) : FitsX 1 (cmpRd W) := fun d l t r hd h => by
  obtain ⟨a, l1, h1, h⟩ := Rd.bind_ok h
  have g1 := add_fits hW _ _ _ _ hd h1
  cases l1 with
  | nil => injection h with e h; subst h; subst e; exact g1.down (by decide)
  | cons c l1 =>
    simp only [cmpTl] at h
    split at h
    · rename_i hc
      obtain ⟨b, l2, h2, h⟩ := Rd.bind_ok h
      injection h with e h; subst h; subst e
      obtain ⟨a1, a2, a3⟩ := g1
      obtain ⟨b1, b2, b3⟩ := add_fits hW _ _ _ _ hd h2
      have hops : isOp c = true ∧ tightOp c = 1 ∧ c ≠ 109 ∧ c ≠ 77 := by
        simp only [List.mem_cons, List.not_mem_nil, or_false] at hc
        rcases hc with rfl | rfl | rfl <;> decide
      obtain ⟨o1, o2, o3, o4⟩ := hops
      obtain ⟨e1, e2⟩ := at_of_tight (L := 1) (t := .bin c a b) (by show 1 ≤ tightOp c; rw [o2]; exact Nat.le_refl _)
      refine ⟨⟨o1, a1, b1⟩, ?_, ?_⟩
      · rw [e1]
        have : (Tr.bin c a b).raw = a.at_ 2 ++ c :: b.at_ 2 := by
          simp only [Tr.raw, if_neg o3, if_neg o4, o2]; rfl
        rw [this]
        simp only [List.length_append, List.length_cons] at *; omega
      · rw [e2]
        have : (Tr.bin c a b).need = max (a.needs 2) (b.needs 2) := by
          simp only [Tr.need, if_neg (show ¬ (c = 109 ∨ c = 77) from fun h => h.elim o3 o4), o2]; rfl
        rw [this]; omega
    · injection h with e h; subst h; subst e; exact g1.down (by decide)
theorem step_fits {W : Reads} (hW : FitsX 0 W) : FitsX 0 (wholeStep W) := fun d l t r hd h => by
  obtain ⟨a, l1, h1, h⟩ := Rd.bind_ok h
  have g1 := cmp_fits hW _ _ _ _ hd h1
  cases l1 with
  | nil => injection h with e h; subst h; subst e; exact g1.down (by decide)
  | cons x l1 =>
    simp only [selRd] at h
    split at h
    · obtain ⟨h20, h⟩ := deep_ok h
      obtain ⟨b, l2, h2, h⟩ := Rd.bind_ok h
      obtain ⟨l3, rfl, h⟩ := want_ok h
      obtain ⟨c, l4, h4, h⟩ := Rd.bind_ok h
      injection h with e h; subst h; subst e
      obtain ⟨a1, a2, a3⟩ := g1
      obtain ⟨b1, b2, b3⟩ := hW _ _ _ _ (by omega) h2
      obtain ⟨c1, c2, c3⟩ := hW _ _ _ _ (by omega) h4
      rw [at_zero] at b2 c2
      rw [needs_zero] at b3 c3
      obtain ⟨e1, e2⟩ := at_of_tight (L := 0) (t := .sel a b c) (Nat.zero_le _)
      refine ⟨⟨a1, b1, c1⟩, ?_, ?_⟩
      · rw [e1]
        have : (Tr.sel a b c).raw = a.at_ 1 ++ 63 :: (b.raw ++ 58 :: c.raw) := rfl
        rw [this]
        simp only [List.length_append, List.length_cons] at *; omega
      · rw [e2]
        have : (Tr.sel a b c).need = max (a.needs 1) (max (1 + b.need) (1 + c.need)) := rfl
        rw [this]; omega
    · injection h with e h; subst h; subst e; exact g1.down (by decide)
theorem whole_fits (k : Nat) : FitsX 0 (wholeRd k) := by
  induction k with
  | zero => exact step_fits (fun d l t r _ h => by cases h)
  | succ k ih => exact step_fits ih
end Go.Proofs.YtojkidaneggabaaDoor
