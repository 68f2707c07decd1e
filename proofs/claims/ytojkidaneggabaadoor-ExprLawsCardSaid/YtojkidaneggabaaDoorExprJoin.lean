/-
  Expressions, plain: two in brackets with an operator between, one of two that a third one chooses, the least and the greatest of two: what they are read as. No condition: plain lemmas.
-/
import Derived.Test.YtojkidaneggabaaDoorExprCtx
namespace Go.Proofs.YtojkidaneggabaaDoor
open Go.RowKit
set_option linter.unusedVariables false

/-- Read as t, r is left; or (where p) it is too deep. -/
def Is (p : Prop) (A : Rd) (t : Tr) (r : List UInt8) : Prop := A = .ok t r ∨ (p ∧ ∃ k, A = .bad k 4)
section
variable {p : Prop}
theorem Is.bind {A : Rd} {t t' : Tr} {r r' : List UInt8} {f : Tr → List UInt8 → Rd} (h : Is p A t r) (hf : Is p (f t r) t' r') : Is p (A.bind f) t' r' := by
  rcases h with rfl | ⟨h, k, rfl⟩
  · exact hf
  · exact .inr ⟨h, k, rfl⟩
theorem Is.deep {d k : Nat} {A : Rd} {t : Tr} {r : List UInt8} (hd : d = 20 → p) (h : d ≠ 20 → Is p A t r) : Is p (deepRd d k A) t r := by
  unfold deepRd
  by_cases e : d = 20
  · rw [if_pos e]; exact .inr ⟨hd e, k, rfl⟩
  · rw [if_neg e]; exact h e
theorem Is.want {c : UInt8} {l : List UInt8} {f : List UInt8 → Rd} {t : Tr} {r : List UInt8} (h : Is p (f l) t r) : Is p (wantRd c (c :: l) f) t r := by
  simp only [wantRd, if_true]; exact h
theorem row_one {next : List UInt8 → Rd} {ops : List UInt8} {L v : List UInt8} {t : Tr} (h : Is p (next L) t v) (hv : ∀ c r, v = c :: r → c ∉ ops) : Is p (rowRd next ops L) t v :=
  h.bind (.inl (loop_stop hv _ _))
theorem row_two {next : List UInt8 → Rd} {ops : List UInt8} {L r v : List UInt8} {c : UInt8} {t u : Tr} (h : Is p (next L) t (c :: r)) (hc : c ∈ ops) (h2 : Is p (next r) u v) (hv : ∀ c r, v = c :: r → c ∉ ops) : Is p (rowRd next ops L) (.bin c t u) v := by
  refine h.bind ?_
  simp only [List.length_cons, loopRd, if_pos hc]
  exact h2.bind (.inl (loop_stop hv _ _))
variable {W : Reads} {d : Nat}
theorem less_one {L v : List UInt8} {t : Tr} (h : Is p (oneRd W d L) t v) (hL : ∀ r, L ≠ 45 :: r) : Is p (lessRd W d L) t v := by
  cases L with
  | nil => exact h
  | cons c r => rw [less_other _ _ _ (fun e => hL r (e ▸ rfl))]; exact h
/-- What a text that stands behind begins with: nothing that goes on with a row. -/
def Past (ops : List UInt8) (v : List UInt8) : Prop := ∀ c r, v = c :: r → c ∉ ops
theorem past_nil (ops : List UInt8) : Past ops [] := fun c r h => by cases h
theorem past_cons {ops : List UInt8} {c : UInt8} {r : List UInt8} (h : c ∉ ops) : Past ops (c :: r) := fun c' r' e => by injection e with e _; subst e; exact h
theorem whole_of_add {L v : List UInt8} {t : Tr} (h : Is p (addRd W d L) t v) (hv : Past [61, 60, 62, 63] v) : Is p (wholeStep W d L) t v := by
  refine (show Is p (cmpRd W d L) t v from h.bind ?_).bind ?_
  · cases v with
    | nil => exact .inl rfl
    | cons c r =>
      have := hv c r rfl
      exact .inl (by simp only [cmpTl]; rw [if_neg (fun h => this (by simp only [List.mem_cons, List.not_mem_nil, or_false] at h ⊢; rcases h with h | h | h <;> simp [h]))])
  · cases v with
    | nil => exact .inl rfl
    | cons c r =>
      have := hv c r rfl
      exact .inl (by simp only [selRd]; rw [if_neg (fun h => this (by simp [h]))])
theorem whole_of_cmp {L r v : List UInt8} {c : UInt8} {t u : Tr} (h : Is p (addRd W d L) t (c :: r)) (hc : c ∈ ([61, 60, 62] : List UInt8)) (h2 : Is p (addRd W d r) u v) (hv : Past [63] v) : Is p (wholeStep W d L) (.bin c t u) v := by
  refine (show Is p (cmpRd W d L) (.bin c t u) v from h.bind ?_).bind ?_
  · simp only [cmpTl, if_pos hc]; exact h2.bind (.inl rfl)
  · cases v with
    | nil => exact .inl rfl
    | cons c r =>
      have := hv c r rfl
      exact .inl (by simp only [selRd]; rw [if_neg (fun h => this (by simp [h]))])
theorem whole_of_sel {L r r2 v : List UInt8} {t u s : Tr} (h : Is p (addRd W d L) t (63 :: r)) (hd : d = 20 → p) (h2 : d ≠ 20 → Is p (W (d + 1) r) u (58 :: r2)) (h3 : d ≠ 20 → Is p (W (d + 1) r2) s v) : Is p (wholeStep W d L) (.sel t u s) v := by
  refine (show Is p (cmpRd W d L) t (63 :: r) from h.bind ?_).bind ?_
  · exact .inl rfl
  · simp only [selRd, if_true]
    exact Is.deep hd fun e => (h2 e).bind (Is.want ((h3 e).bind (.inl rfl)))
end

/-! ### Of two texts that are read whole -/
/-- a is read as t, at depth d; where p, it may be too deep. -/
def Reads1 (p : Prop) (a : List UInt8) (t : Tr) : Prop := ∀ k v, a.length ≤ k → Stops v → Is p (wholeRd k 1 (a ++ v)) t v
theorem reads_any {a : List UInt8} {t : Tr} (h : wholeRd a.length 0 a = .ok t []) : Reads1 True a t := fun k v hk hv => by
  have := whole_ext (p := True) hv _ _ hk 0 1 a (by omega) (by omega) (fun _ => trivial)
  rw [h] at this
  exact this
theorem reads_sure {a : List UInt8} {t : Tr} (h : wholeRd a.length 1 a = .ok t []) : Reads1 False a t := fun k v hk hv => by
  have := whole_ext (p := False) hv _ _ hk 1 1 a (by omega) (by omega) (fun h => absurd h (by omega))
  rw [h] at this
  exact this
theorem reads_deep {a : List UInt8} {e : Nat} (h : wholeRd a.length 1 a = .bad e 4) : ∀ k v, a.length ≤ k → Stops v → ∃ j, wholeRd k 1 (a ++ v) = .bad j 4 := fun k v hk hv => by
  have := whole_ext (p := False) hv _ _ hk 1 1 a (by omega) (by omega) (fun h => absurd h (by omega))
  rw [h] at this
  exact this rfl
/-- What was read at depth 0 is read so at depth 1, or it is too deep there. -/
theorem reads_one {a : List UInt8} {t : Tr} (h : wholeRd a.length 0 a = .ok t []) : wholeRd a.length 1 a = .ok t [] ∨ ∃ e, wholeRd a.length 1 a = .bad e 4 := by
  have := reads_any h a.length [] (Nat.le_refl _) (.inl rfl)
  rw [List.append_nil] at this
  rcases this with h | ⟨_, h⟩
  · exact .inl h
  · exact .inr h
section
variable {p : Prop} {a b c : List UInt8} {t u s : Tr} {k : Nat}
theorem stop_close (v : List UInt8) : Stops (41 :: v) := .inr ⟨41, v, rfl, .inl rfl⟩
theorem stop_comma (v : List UInt8) : Stops (44 :: v) := .inr ⟨44, v, rfl, .inr (.inl rfl)⟩
/-- In brackets. -/
theorem paren_is (h : Reads1 p a t) (hk : a.length ≤ k) (v : List UInt8) : Is p (oneRd (wholeRd k) 0 (40 :: (a ++ 41 :: v))) t v :=
  Is.deep (fun e => absurd e (by decide)) fun _ => (h k (41 :: v) hk (stop_close v)).bind (Is.want (.inl rfl))
theorem less_paren (h : Reads1 p a t) (hk : a.length ≤ k) (v : List UInt8) : Is p (lessRd (wholeRd k) 0 (40 :: (a ++ 41 :: v))) t v :=
  less_one (paren_is h hk v) fun r e => by injection e with e _; exact absurd e (by decide)
theorem mul_paren (h : Reads1 p a t) (hk : a.length ≤ k) {v : List UInt8} (hv : Past [42, 47, 37] v) : Is p (mulRd (wholeRd k) 0 (40 :: (a ++ 41 :: v))) t v :=
  row_one (less_paren h hk v) hv
theorem add_paren (h : Reads1 p a t) (hk : a.length ≤ k) {v : List UInt8} (hv : Past [42, 47, 37] v) (hv2 : Past [43, 45] v) : Is p (addRd (wholeRd k) 0 (40 :: (a ++ 41 :: v))) t v :=
  row_one (mul_paren h hk hv) hv2
def joinB (op : UInt8) (a b : List UInt8) : List UInt8 := 40 :: (a ++ 41 :: op :: 40 :: (b ++ [41]))
def selB (a b c : List UInt8) : List UInt8 := 40 :: (a ++ 41 :: 63 :: 40 :: (b ++ 41 :: 58 :: 40 :: (c ++ [41])))
def minB (x y : UInt8) (a b : List UInt8) : List UInt8 := 109 :: x :: y :: 40 :: (a ++ 44 :: (b ++ [41]))
theorem join_whole (op : UInt8) (ho : op = 43 ∨ op = 42 ∨ op = 60 ∨ op = 62 ∨ op = 61) (ha : Reads1 p a t) (hb : Reads1 p b u) (hka : a.length ≤ k) (hkb : b.length ≤ k) : Is p (wholeStep (wholeRd k) 0 (joinB op a b)) (.bin op t u) [] := by
  rcases ho with rfl | rfl | ho
  · refine whole_of_add ?_ (past_nil _)
    exact row_two (mul_paren ha hka (past_cons (by decide))) (by decide) (mul_paren hb hkb (past_nil _)) (past_nil _)
  · refine whole_of_add ?_ (past_nil _)
    exact row_one (row_two (less_paren ha hka _) (by decide) (less_paren hb hkb []) (past_nil _)) (past_nil _)
  · have h1 : op ∈ ([61, 60, 62] : List UInt8) := by rcases ho with rfl | rfl | rfl <;> decide
    have h2 : op ∉ ([42, 47, 37] : List UInt8) := by rcases ho with rfl | rfl | rfl <;> decide
    have h3 : op ∉ ([43, 45] : List UInt8) := by rcases ho with rfl | rfl | rfl <;> decide
    exact whole_of_cmp (add_paren ha hka (past_cons h2) (past_cons h3)) h1 (add_paren hb hkb (past_nil _) (past_nil _)) (past_nil _)
theorem min_whole (x y : UInt8) (op : UInt8) (ho : (x = 105 ∧ y = 110 ∧ op = 109) ∨ (x = 97 ∧ y = 120 ∧ op = 77)) (ha : Reads1 p a t) (hb : Reads1 p b u) (hka : a.length ≤ k) (hkb : b.length ≤ k) : Is p (wholeStep (wholeRd k) 0 (minB x y a b)) (.bin op t u) [] := by
  have h2 : Is p (twoRd (wholeRd k) op 1 (a ++ 44 :: (b ++ [41]))) (.bin op t u) [] :=
    (ha k _ hka (stop_comma _)).bind (Is.want ((hb k [41] hkb (stop_close [])).bind (Is.want (.inl rfl))))
  have h1 : Is p (oneRd (wholeRd k) 0 (minB x y a b)) (.bin op t u) [] := by
    rcases ho with ⟨rfl, rfl, rfl⟩ | ⟨rfl, rfl, rfl⟩
    · exact Is.deep (fun e => absurd e (by decide)) fun _ => h2
    · exact Is.deep (fun e => absurd e (by decide)) fun _ => h2
  exact whole_of_add (row_one (row_one (less_one h1 fun r e => by injection e with e _; exact absurd e (by decide)) (past_nil _)) (past_nil _)) (past_nil _)
/-- The third one is at the end: nothing is behind it. -/
theorem sel_whole (ha : Reads1 p a t) (hb : Reads1 p b u) (hc : Reads1 p c s) (hb2 : ∀ v, Stops v → Is p (wholeRd k 1 (40 :: (b ++ 41 :: v))) u v) (hc2 : Is p (wholeRd k 1 (40 :: (c ++ [41]))) s []) (hka : a.length ≤ k) : Is p (wholeStep (wholeRd k) 0 (selB a b c)) (.sel t u s) [] :=
  whole_of_sel (add_paren ha hka (past_cons (by decide)) (past_cons (by decide))) (fun e => absurd e (by decide)) (fun _ => hb2 _ (.inr ⟨58, _, rfl, .inr (.inr rfl)⟩)) (fun _ => hc2)
end
/-- In brackets, at depth 1, where p holds. -/
theorem deep_paren {b : List UInt8} {u : Tr} (h : wholeRd b.length 0 b = .ok u []) {k : Nat} (hk : b.length + 1 ≤ k) (v : List UInt8) (hv : Stops v) : Is True (wholeRd k 1 (40 :: (b ++ 41 :: v))) u v := by
  obtain ⟨k2, rfl⟩ : ∃ k2, k = k2 + 1 := ⟨k - 1, by omega⟩
  have hb : Is True (wholeRd k2 2 (b ++ 41 :: v)) u (41 :: v) := by
    have := whole_ext (p := True) (stop_close v) _ _ (show b.length ≤ k2 by omega) 0 2 b (by omega) (by omega) (fun _ => trivial)
    rw [h] at this
    exact this
  have h1 : Is True (oneRd (wholeRd k2) 1 (40 :: (b ++ 41 :: v))) u v := Is.deep (fun e => absurd e (by decide)) fun _ => hb.bind (Is.want (.inl rfl))
  have hp : ∀ ops : List UInt8, 41 ∉ ops → 44 ∉ ops → 58 ∉ ops → Past ops v := fun ops h1 h2 h3 c r e => by
    rcases hv.head e with rfl | rfl | rfl
    · exact h1
    · exact h2
    · exact h3
  exact whole_of_add (row_one (row_one (less_one h1 fun r e => by injection e with e _; exact absurd e (by decide)) (hp _ (by decide) (by decide) (by decide))) (hp _ (by decide) (by decide) (by decide))) (hp _ (by decide) (by decide) (by decide))

/-! ### Texts -/
def IsTree (s : List UInt8) (t : Tr) : Prop := parseT s = .tree t ∨ ∃ k, parseT s = .fault k 4
theorem parse_ok {s : List UInt8} {t : Tr} (h : parseT s = .tree t) : s.length ≤ 120 ∧ wholeRd s.length 0 s = .ok t [] := by
  unfold parseT at h
  split at h
  · cases h
  · refine ⟨by omega, ?_⟩
    split at h
    · rename_i e; injection h with h; subst h; exact e
    · cases h
    · cases h
theorem parse_is {p : Prop} {s : List UInt8} {t : Tr} (hl : s.length ≤ 120) (h : Is p (wholeRd s.length 0 s) t []) : parseT s = .tree t ∨ (p ∧ ∃ k, parseT s = .fault k 4) := by
  unfold parseT
  rw [if_neg (by omega)]
  rcases h with h | ⟨hp, k, h⟩
  · rw [h]; exact .inl rfl
  · rw [h]; exact .inr ⟨hp, _, rfl⟩
theorem whole_succ {s : List UInt8} (h : 0 < s.length) : wholeRd s.length = wholeStep (wholeRd (s.length - 1)) := by
  obtain ⟨n, hn⟩ : ∃ n, s.length = n + 1 := ⟨s.length - 1, by omega⟩
  rw [hn]; rfl
theorem long_fault {s : List UInt8} (h : 120 < s.length) : parseT s = .fault 0 4 := by unfold parseT; rw [if_pos h]
theorem join_tree (op : UInt8) (ho : op = 43 ∨ op = 42 ∨ op = 60 ∨ op = 62 ∨ op = 61) {a b : List UInt8} {t u : Tr} (ha : parseT a = .tree t) (hb : parseT b = .tree u) : IsTree (joinB op a b) (.bin op t u) := by
  rcases Nat.lt_or_ge 120 (joinB op a b).length with hl | hl
  · exact .inr ⟨_, long_fault hl⟩
  · have hlen : (joinB op a b).length = a.length + b.length + 5 := by simp [joinB]; omega
    have h := join_whole (k := (joinB op a b).length - 1) op ho (reads_any (parse_ok ha).2) (reads_any (parse_ok hb).2) (by omega) (by omega)
    rw [← whole_succ (by omega)] at h
    rcases parse_is hl h with h | ⟨_, h⟩
    · exact .inl h
    · exact .inr h
theorem min_tree (x y : UInt8) (op : UInt8) (ho : (x = 105 ∧ y = 110 ∧ op = 109) ∨ (x = 97 ∧ y = 120 ∧ op = 77)) {a b : List UInt8} {t u : Tr} (ha : parseT a = .tree t) (hb : parseT b = .tree u) : IsTree (minB x y a b) (.bin op t u) := by
  rcases Nat.lt_or_ge 120 (minB x y a b).length with hl | hl
  · exact .inr ⟨_, long_fault hl⟩
  · have hlen : (minB x y a b).length = a.length + b.length + 6 := by simp [minB]; omega
    have h := min_whole (k := (minB x y a b).length - 1) x y op ho (reads_any (parse_ok ha).2) (reads_any (parse_ok hb).2) (by omega) (by omega)
    rw [← whole_succ (by omega)] at h
    rcases parse_is hl h with h | ⟨_, h⟩
    · exact .inl h
    · exact .inr h
theorem sel_tree {a b c : List UInt8} {t u s : Tr} (ha : parseT a = .tree t) (hb : parseT b = .tree u) (hc : parseT c = .tree s) : IsTree (selB a b c) (.sel t u s) := by
  rcases Nat.lt_or_ge 120 (selB a b c).length with hl | hl
  · exact .inr ⟨_, long_fault hl⟩
  · have hlen : (selB a b c).length = a.length + b.length + c.length + 8 := by simp [selB]; omega
    have h := sel_whole (k := (selB a b c).length - 1) (reads_any (parse_ok ha).2) (reads_any (parse_ok hb).2) (reads_any (parse_ok hc).2) (fun v hv => deep_paren (parse_ok hb).2 (by omega) v hv) (deep_paren (parse_ok hc).2 (by omega) [] (.inl rfl)) (by omega)
    rw [← whole_succ (by omega)] at h
    rcases parse_is hl h with h | ⟨_, h⟩
    · exact .inl h
    · exact .inr h

/-! ### Where one is right, all are -/
theorem sure_of_join {a b : List UInt8} {t u w : Tr} (ha : parseT a = .tree t) (hb : parseT b = .tree u) (h : parseT (joinB 43 a b) = .tree w) : wholeRd a.length 1 a = .ok t [] ∧ wholeRd b.length 1 b = .ok u [] := by
  have h1 := (parse_ok h).2
  have hlen : (joinB 43 a b).length = a.length + b.length + 5 := by simp [joinB]; omega
  rw [whole_succ (by omega)] at h1
  have hka : a.length ≤ (joinB 43 a b).length - 1 := by omega
  have hkb : b.length ≤ (joinB 43 a b).length - 1 := by omega
  generalize (joinB 43 a b).length - 1 = k at h1 hka hkb
  obtain ⟨a1, l1, h1, -⟩ := Rd.bind_ok h1
  obtain ⟨a2, l2, h2, -⟩ := Rd.bind_ok h1
  have hadd := h2
  obtain ⟨a3, l3, h3, -⟩ := Rd.bind_ok h2
  obtain ⟨a4, l4, h4, -⟩ := Rd.bind_ok h3
  have hl : lessRd (wholeRd k) 0 (joinB 43 a b) = oneRd (wholeRd k) 0 (joinB 43 a b) := less_other _ _ _ (by decide)
  rw [hl] at h4
  obtain ⟨a5, l5, h5, -⟩ := Rd.bind_ok (deep_ok h4).2
  have hA : wholeRd a.length 1 a = .ok t [] := by
    rcases reads_one (parse_ok ha).2 with hA | ⟨e, hA⟩
    · exact hA
    · obtain ⟨j, hj⟩ := reads_deep hA k _ hka (stop_close (43 :: 40 :: (b ++ [41])))
      rw [hj] at h5; cases h5
  refine ⟨hA, ?_⟩
  rcases reads_one (parse_ok hb).2 with hB | ⟨e, hB⟩
  · exact hB
  exfalso
  obtain ⟨j, hj⟩ := reads_deep hB k _ hkb (stop_close [])
  have hbad : oneRd (wholeRd k) 0 (40 :: (b ++ [41])) = .bad j 4 := by
    show deepRd 0 _ _ = _
    unfold deepRd
    rw [if_neg (by decide), hj]; rfl
  have hless : lessRd (wholeRd k) 0 (40 :: (b ++ [41])) = .bad j 4 := (less_other _ _ _ (by decide)).trans hbad
  have hmul : mulRd (wholeRd k) 0 (40 :: (b ++ [41])) = .bad j 4 := by unfold mulRd rowRd; rw [hless]; rfl
  rcases mul_paren (reads_sure hA) hka (v := 43 :: 40 :: (b ++ [41])) (past_cons (by decide)) with hm | ⟨hm, _⟩
  · have : addRd (wholeRd k) 0 (joinB 43 a b) = .bad j 4 := by
      show (mulRd (wholeRd k) 0 (joinB 43 a b)).bind _ = _
      rw [show mulRd (wholeRd k) 0 (joinB 43 a b) = _ from hm]
      simp only [Rd.bind, List.length_cons, loopRd]
      rw [if_pos (by decide), hmul]
    rw [this] at hadd; cases hadd
  · exact hm
section
variable {a b : List UInt8} {t u : Tr} (hA : wholeRd a.length 1 a = .ok t []) (hB : wholeRd b.length 1 b = .ok u [])
include hA hB
theorem join_sure (op : UInt8) (ho : op = 43 ∨ op = 42 ∨ op = 60 ∨ op = 62 ∨ op = 61) (hl : a.length + b.length + 5 ≤ 120) : parseT (joinB op a b) = .tree (.bin op t u) := by
  have hlen : (joinB op a b).length = a.length + b.length + 5 := by simp [joinB]; omega
  have h := join_whole (k := (joinB op a b).length - 1) op ho (reads_sure hA) (reads_sure hB) (by omega) (by omega)
  rw [← whole_succ (by omega)] at h
  rcases parse_is (by omega) h with h | ⟨h, _⟩
  · exact h
  · exact absurd h id
theorem min_sure (x y : UInt8) (op : UInt8) (ho : (x = 105 ∧ y = 110 ∧ op = 109) ∨ (x = 97 ∧ y = 120 ∧ op = 77)) (hl : a.length + b.length + 6 ≤ 120) : parseT (minB x y a b) = .tree (.bin op t u) := by
  have hlen : (minB x y a b).length = a.length + b.length + 6 := by simp [minB]; omega
  have h := min_whole (k := (minB x y a b).length - 1) x y op ho (reads_sure hA) (reads_sure hB) (by omega) (by omega)
  rw [← whole_succ (by omega)] at h
  rcases parse_is (by omega) h with h | ⟨h, _⟩
  · exact h
  · exact absurd h id
end
theorem join_len {op : UInt8} {a b : List UInt8} {w : Tr} (h : parseT (joinB op a b) = .tree w) : a.length + b.length + 5 ≤ 120 := by
  have := (parse_ok h).1
  have hlen : (joinB op a b).length = a.length + b.length + 5 := by simp [joinB]; omega
  omega
theorem min_len {x y : UInt8} {a b : List UInt8} {w : Tr} (h : parseT (minB x y a b) = .tree w) : a.length + b.length + 6 ≤ 120 := by
  have := (parse_ok h).1
  have hlen : (minB x y a b).length = a.length + b.length + 6 := by simp [minB]; omega
  omega
end Go.Proofs.YtojkidaneggabaaDoor
