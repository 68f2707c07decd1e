/-
  Expressions, plain: what is read of a text is read of it with other bytes behind that do not go on, at the same or a greater depth, or it is too deep there. No condition: plain lemmas.
-/
import Derived.Test.YtmbhfadidpkkhaaDoorExprTree
namespace Go.Proofs.YtmbhfadidpkkhaaDoor
open Go.RowKit
set_option linter.unusedVariables false

theorem Rd.bind_ok {r : Rd} {f : Tr → List UInt8 → Rd} {t : Tr} {l : List UInt8} (h : r.bind f = .ok t l) : ∃ a l1, r = .ok a l1 ∧ f a l1 = .ok t l := by
  cases r with
  | ok a l1 => exact ⟨a, l1, rfl, h⟩
  | bad k e => cases h
theorem want_ok {c : UInt8} {l : List UInt8} {f : List UInt8 → Rd} {t : Tr} {r : List UInt8} (h : wantRd c l f = .ok t r) : ∃ l1, l = c :: l1 ∧ f l1 = .ok t r := by
  cases l with
  | nil => cases h
  | cons x l1 =>
    by_cases e : x = c
    · subst e
      refine ⟨l1, rfl, ?_⟩
      simpa [wantRd] using h
    · simp [wantRd, e] at h
theorem deep_ok {d k : Nat} {f : Rd} {t : Tr} {r : List UInt8} (h : deepRd d k f = .ok t r) : d ≠ 20 ∧ f = .ok t r := by
  unfold deepRd at h
  split at h
  · cases h
  · exact ⟨by assumption, h⟩

/-! ### Nothing is read for nothing -/
def Short (X : List UInt8 → Rd) : Prop := ∀ l t r, X l = .ok t r → r.length < l.length
theorem two_short {W : Reads} (hW : ∀ d, Short (W d)) (op : UInt8) (d : Nat) : Short (twoRd W op d) := fun l t r h => by
  obtain ⟨a, l1, h1, h⟩ := Rd.bind_ok h
  obtain ⟨l2, rfl, h⟩ := want_ok h
  obtain ⟨b, l3, h3, h⟩ := Rd.bind_ok h
  obtain ⟨l4, rfl, h⟩ := want_ok h
  injection h with _ h; subst h
  have := hW d _ _ _ h1; have := hW d _ _ _ h3
  simp only [List.length_cons] at *; omega
theorem numOf_le (l : List UInt8) : (numOf l).length ≤ l.length := by
  have h : (digsOf l).length ≤ l.length := (List.takeWhile_prefix _).length_le
  unfold numOf
  split
  · rename_i c d r e
    rw [e] at h
    split
    · simp only [List.length_cons, List.length_nil] at *; omega
    · exact h
  · exact h
theorem num_ok {l : List UInt8} {t : Tr} {r : List UInt8} (h : numRd l = .ok t r) : numOf l ≠ [] ∧ digVal (numOf l) ≤ 9223372036854775807 ∧ t = .num (digVal (numOf l)) ∧ r = l.drop (numOf l).length := by
  unfold numRd at h
  split at h
  · cases h
  · rename_i hn
    injection h with h1 h2
    refine ⟨fun e => hn (.inl e), ?_, h1.symm, h2.symm⟩
    rcases Nat.lt_or_ge 9223372036854775807 (digVal (numOf l)) with h | h
    · exact absurd (.inr h) hn
    · exact h
theorem num_short : Short numRd := fun l t r h => by
  obtain ⟨h1, _, _, rfl⟩ := num_ok h
  have h2 := numOf_le l
  have h3 : 0 < (numOf l).length := List.length_pos_iff.2 h1
  rw [List.length_drop]; omega
theorem one_short {W : Reads} (hW : ∀ d, Short (W d)) (d : Nat) : Short (oneRd W d) := fun l t r h => by
  unfold oneRd at h
  split at h
  · have := two_short hW _ _ _ _ _ (deep_ok h).2; simp only [List.length_cons]; omega
  · have := two_short hW _ _ _ _ _ (deep_ok h).2; simp only [List.length_cons]; omega
  · injection h with _ h; subst h; simp
  · injection h with _ h; subst h; simp
  · obtain ⟨a, l1, h1, h⟩ := Rd.bind_ok (deep_ok h).2
    obtain ⟨l2, rfl, h⟩ := want_ok h
    injection h with _ h; subst h
    have := hW _ _ _ _ h1
    simp only [List.length_cons] at *; omega
  · exact num_short _ _ _ h
theorem less_other (W : Reads) (d : Nat) {c : UInt8} (r : List UInt8) (h : c ≠ 45) : lessRd W d (c :: r) = oneRd W d (c :: r) := by
  unfold lessRd
  split
  · rename_i e; injection e with e _; exact absurd e h
  · rfl
theorem less_nil (W : Reads) (d : Nat) : lessRd W d [] = .bad 0 2 := rfl
theorem less_minus (W : Reads) (d : Nat) (r : List UInt8) : lessRd W d (45 :: r) = deepRd d (r.length + 1) ((lessRd W (d + 1) r).bind fun a l1 => .ok (.neg a) l1) := rfl
theorem less_short {W : Reads} (hW : ∀ d, Short (W d)) (d : Nat) : Short (lessRd W d) := fun l => by
  induction l generalizing d with
  | nil => intro t r h; cases h
  | cons c l ih =>
    intro t r h
    by_cases e : c = 45
    · subst e
      rw [less_minus] at h
      obtain ⟨a, l1, h1, h⟩ := Rd.bind_ok (deep_ok h).2
      injection h with _ h; subst h
      have := ih _ _ _ h1
      simp only [List.length_cons]; omega
    · rw [less_other _ _ _ e] at h
      exact one_short hW d _ _ _ h
theorem loop_le {next : List UInt8 → Rd} (hn : Short next) (ops : List UInt8) : ∀ k a l t r, loopRd next ops k a l = .ok t r → r.length ≤ l.length := by
  intro k
  induction k with
  | zero => intro a l t r h; injection h with _ h; subst h; exact Nat.le_refl _
  | succ k ih =>
    intro a l t r h
    cases l with
    | nil => injection h with _ h; subst h; exact Nat.le_refl _
    | cons c l =>
      simp only [loopRd] at h
      split at h
      · obtain ⟨b, l1, h1, h⟩ := Rd.bind_ok h
        have := ih _ _ _ _ h
        have := hn _ _ _ h1
        simp only [List.length_cons]; omega
      · injection h with _ h; subst h; exact Nat.le_refl _
theorem row_short {next : List UInt8 → Rd} (hn : Short next) (ops : List UInt8) : Short (rowRd next ops) := fun l t r h => by
  obtain ⟨a, l1, h1, h⟩ := Rd.bind_ok h
  have := hn _ _ _ h1; have := loop_le hn ops _ _ _ _ _ h
  omega
theorem add_short {W : Reads} (hW : ∀ d, Short (W d)) (d : Nat) : Short (addRd W d) := row_short (row_short (less_short hW d) _) _
theorem cmp_short {W : Reads} (hW : ∀ d, Short (W d)) (d : Nat) : Short (cmpRd W d) := fun l t r h => by
  obtain ⟨a, l1, h1, h⟩ := Rd.bind_ok h
  have g1 := add_short hW d _ _ _ h1
  cases l1 with
  | nil => injection h with _ h; subst h; exact g1
  | cons c l1 =>
    simp only [cmpTl] at h
    split at h
    · obtain ⟨b, l2, h2, h⟩ := Rd.bind_ok h
      injection h with _ h; subst h
      have := add_short hW d _ _ _ h2
      simp only [List.length_cons] at *; omega
    · injection h with _ h; subst h; exact g1
theorem step_short {W : Reads} (hW : ∀ d, Short (W d)) (d : Nat) : Short (wholeStep W d) := fun l t r h => by
  obtain ⟨a, l1, h1, h⟩ := Rd.bind_ok h
  have g1 := cmp_short hW d _ _ _ h1
  cases l1 with
  | nil => injection h with _ h; subst h; exact g1
  | cons x l1 =>
    simp only [selRd] at h
    split at h
    · obtain ⟨b, l2, h2, h⟩ := Rd.bind_ok (deep_ok h).2
      obtain ⟨l3, rfl, h⟩ := want_ok h
      obtain ⟨c, l4, h4, h⟩ := Rd.bind_ok h
      injection h with _ h; subst h
      have := hW _ _ _ _ h2; have := hW _ _ _ _ h4
      simp only [List.length_cons] at *; omega
    · injection h with _ h; subst h; exact g1
theorem bad_short (e : Int) : ∀ d : Nat, Short ((fun (_ : Nat) (l : List UInt8) => Rd.bad l.length e) d) := fun d l t r h => by cases h
theorem whole_short (k : Nat) : ∀ d, Short (wholeRd k d) := by
  induction k with
  | zero => exact step_short (bad_short 2)
  | succ k ih => exact step_short ih

/-! ### Other bytes behind -/
def Stops (v : List UInt8) : Prop := v = [] ∨ ∃ c r, v = c :: r ∧ (c = 41 ∨ c = 44 ∨ c = 58)
def Ext (p : Prop) (v : List UInt8) (A B : Rd) : Prop := match A with
  | .ok t r => B = .ok t (r ++ v) ∨ (p ∧ ∃ k, B = .bad k 4)
  | .bad _ e => e = 4 → ∃ k, B = .bad k 4
theorem Ext.two {p : Prop} {v : List UInt8} {k : Nat} {B : Rd} : Ext p v (.bad k 2) B := fun h => absurd h (by decide)
theorem Ext.four {p : Prop} {v : List UInt8} (A : Rd) {k : Nat} (h : p) : Ext p v A (.bad k 4) := by
  cases A with
  | ok t r => exact .inr ⟨h, k, rfl⟩
  | bad k e => exact fun _ => ⟨_, rfl⟩
theorem Ext.bind {p : Prop} {v : List UInt8} {A B : Rd} {f g : Tr → List UInt8 → Rd} (h : Ext p v A B) (hf : ∀ t r, A = .ok t r → Ext p v (f t r) (g t (r ++ v))) : Ext p v (A.bind f) (B.bind g) := by
  cases A with
  | ok t r =>
    rcases h with rfl | ⟨h, k, rfl⟩
    · exact hf t r rfl
    · exact Ext.four _ h
  | bad k e =>
    intro he
    obtain ⟨k2, rfl⟩ := h he
    exact ⟨k2, rfl⟩
theorem Ext.want {p : Prop} {v : List UInt8} {c : UInt8} {l : List UInt8} {f g : List UInt8 → Rd} (h : ∀ r, l = c :: r → Ext p v (f r) (g (r ++ v))) : Ext p v (wantRd c l f) (wantRd c (l ++ v) g) := by
  cases l with
  | nil => exact Ext.two
  | cons x r =>
    by_cases e : x = c
    · subst e
      have := h r rfl
      simpa [wantRd] using this
    · simp only [wantRd, if_neg e]; exact Ext.two
theorem Ext.deep {p : Prop} {v : List UInt8} {d d' k k' : Nat} {A B : Rd} (h1 : d ≤ d') (h2 : d' ≤ 20) (h3 : d < d' → p) (h : d' + 1 ≤ 20 → Ext p v A B) : Ext p v (deepRd d k A) (deepRd d' k' B) := by
  unfold deepRd
  by_cases e : d' = 20
  · rw [if_pos e]
    by_cases e2 : d = 20
    · rw [if_pos e2]; exact fun _ => ⟨_, rfl⟩
    · exact Ext.four _ (h3 (by omega))
  · rw [if_neg e, if_neg (show ¬ d = 20 by omega)]
    exact h (by omega)
def ExtW (p : Prop) (v : List UInt8) (W W' : Reads) : Prop := ∀ d d' l, d ≤ d' → d' ≤ 20 → (d < d' → p) → Ext p v (W d l) (W' d' (l ++ v))
section
variable {p : Prop} {v : List UInt8} {W W' : Reads}
theorem two_ext (hW : ExtW p v W W') (op : UInt8) {d d' : Nat} (l : List UInt8) (h1 : d ≤ d') (h2 : d' ≤ 20) (h3 : d < d' → p) : Ext p v (twoRd W op d l) (twoRd W' op d' (l ++ v)) :=
  (hW d d' l h1 h2 h3).bind fun _ l1 _ => Ext.want fun l2 _ => (hW d d' l2 h1 h2 h3).bind fun _ l3 _ => Ext.want fun l4 _ => .inl rfl
theorem digs_app (hv : Stops v) (l : List UInt8) : digsOf (l ++ v) = digsOf l := by
  induction l with
  | nil =>
    rcases hv with rfl | ⟨c, r, rfl, h⟩
    · rfl
    · rcases h with rfl | rfl | rfl <;> rfl
  | cons c l ih =>
    unfold digsOf at ih ⊢
    rw [List.cons_append, List.takeWhile_cons, List.takeWhile_cons, ih]
theorem num_app (hv : Stops v) (l : List UInt8) : numOf (l ++ v) = numOf l := by
  unfold numOf; rw [digs_app hv]
theorem num_ext (hv : Stops v) (l : List UInt8) : Ext p v (numRd l) (numRd (l ++ v)) := by
  unfold numRd
  rw [num_app hv]
  split
  · exact Ext.two
  · left
    rw [List.drop_append_of_le_length (numOf_le l)]
theorem one_dig (W : Reads) (d : Nat) {c : UInt8} (r : List UInt8) (h : isDig c = true) : oneRd W d (c :: r) = numRd (c :: r) := by
  unfold oneRd
  split
  · rename_i e; injection e with e _; subst e; exact absurd h (by decide)
  · rename_i e; injection e with e _; subst e; exact absurd h (by decide)
  · rename_i e; injection e with e _; subst e; exact absurd h (by decide)
  · rename_i e; injection e with e _; subst e; exact absurd h (by decide)
  · rename_i e; injection e with e _; subst e; exact absurd h (by decide)
  · rfl
theorem num_head {l : List UInt8} (h : numOf l ≠ []) : ∃ c r, l = c :: r ∧ isDig c = true := by
  cases l with
  | nil => exact absurd rfl h
  | cons c r =>
    refine ⟨c, r, rfl, ?_⟩
    cases hc : isDig c with
    | true => rfl
    | false =>
      have : digsOf (c :: r) = [] := by unfold digsOf; rw [List.takeWhile_cons, hc]; rfl
      exact absurd (by unfold numOf; rw [this]) h
theorem one_ext (hv : Stops v) (hW : ExtW p v W W') {d d' : Nat} (l : List UInt8) (h1 : d ≤ d') (h2 : d' ≤ 20) (h3 : d < d' → p) : Ext p v (oneRd W d l) (oneRd W' d' (l ++ v)) := by
  have hn : oneRd W d l = numRd l → Ext p v (numRd l) (oneRd W' d' (l ++ v)) := fun _ => by
    cases hr : numRd l with
    | bad k e =>
      have : e = 2 := by
        unfold numRd at hr
        split at hr
        · injection hr with _ hr; exact hr.symm
        · cases hr
      subst this; exact Ext.two
    | ok t r =>
      obtain ⟨c, r2, rfl, hc⟩ := num_head (num_ok hr).1
      rw [List.cons_append, one_dig W' d' _ hc, ← hr]
      exact num_ext hv (c :: r2)
  unfold oneRd at hn ⊢
  split
  · exact Ext.deep h1 h2 h3 fun h => two_ext hW _ _ (by omega) h (fun h => h3 (by omega))
  · exact Ext.deep h1 h2 h3 fun h => two_ext hW _ _ (by omega) h (fun h => h3 (by omega))
  · exact .inl rfl
  · exact .inl rfl
  · exact Ext.deep h1 h2 h3 fun h => (hW _ _ _ (by omega) h (fun h => h3 (by omega))).bind fun _ _ _ => Ext.want fun _ _ => .inl rfl
  · rename_i g1 g2 g3 g4 g5
    refine hn ?_
    split
    · exact absurd rfl (g1 _)
    · exact absurd rfl (g2 _)
    · exact absurd rfl (g3 _)
    · exact absurd rfl (g4 _)
    · exact absurd rfl (g5 _)
    · rfl
theorem less_ext (hv : Stops v) (hW : ExtW p v W W') (l : List UInt8) : ∀ {d d' : Nat}, d ≤ d' → d' ≤ 20 → (d < d' → p) → Ext p v (lessRd W d l) (lessRd W' d' (l ++ v)) := by
  induction l with
  | nil => intro d d' h1 h2 h3; exact Ext.two
  | cons c l ih =>
    intro d d' h1 h2 h3
    by_cases e : c = 45
    · subst e
      rw [List.cons_append, less_minus, less_minus]
      exact Ext.deep h1 h2 h3 fun h => (ih (by omega) h (fun h => h3 (by omega))).bind fun _ _ _ => .inl rfl
    · rw [List.cons_append, less_other _ _ _ e, less_other _ _ _ e]
      exact one_ext hv hW (c :: l) h1 h2 h3
theorem loop_stop {next : List UInt8 → Rd} {ops : List UInt8} (h : ∀ c r, v = c :: r → c ∉ ops) (k : Nat) (a : Tr) : loopRd next ops k a v = .ok a v := by
  cases k with
  | zero => rfl
  | succ k =>
    cases v with
    | nil => rfl
    | cons c r => simp [loopRd, h c r rfl]
theorem loop_ext {next next' : List UInt8 → Rd} {ops : List UInt8} (hs : ∀ c r, v = c :: r → c ∉ ops) (hS : Short next) (hn : ∀ l, Ext p v (next l) (next' (l ++ v))) : ∀ k k' a l, l.length ≤ k → l.length ≤ k' → Ext p v (loopRd next ops k a l) (loopRd next' ops k' a (l ++ v)) := by
  intro k
  induction k with
  | zero =>
    intro k' a l h1 h2
    obtain rfl := List.eq_nil_of_length_eq_zero (Nat.le_zero.1 h1)
    exact .inl (loop_stop hs k' a)
  | succ k ih =>
    intro k' a l h1 h2
    cases l with
    | nil => exact .inl (loop_stop hs k' a)
    | cons c r =>
      obtain ⟨k2, rfl⟩ : ∃ k2, k' = k2 + 1 := ⟨k' - 1, by simp only [List.length_cons] at h2; omega⟩
      simp only [List.cons_append, loopRd, List.length_cons] at h1 h2 ⊢
      split
      · refine (hn r).bind fun b l1 e => ?_
        have := hS _ _ _ e
        exact ih k2 _ l1 (by omega) (by omega)
      · exact .inl rfl
theorem row_ext {next next' : List UInt8 → Rd} {ops : List UInt8} (hs : ∀ c r, v = c :: r → c ∉ ops) (hS : Short next) (hn : ∀ l, Ext p v (next l) (next' (l ++ v))) (l : List UInt8) : Ext p v (rowRd next ops l) (rowRd next' ops (l ++ v)) :=
  (hn l).bind fun a l1 _ => loop_ext hs hS hn _ _ _ _ (Nat.le_refl _) (by rw [List.length_append]; omega)
theorem Stops.head (hv : Stops v) {c : UInt8} {r : List UInt8} (e : v = c :: r) : c = 41 ∨ c = 44 ∨ c = 58 := by
  rcases hv with h | ⟨c', r', h, hc⟩
  · rw [h] at e; cases e
  · rw [h] at e; injection e with e _; subst e; exact hc
theorem add_ext (hv : Stops v) (hS : ∀ d, Short (W d)) (hW : ExtW p v W W') {d d' : Nat} (l : List UInt8) (h1 : d ≤ d') (h2 : d' ≤ 20) (h3 : d < d' → p) : Ext p v (addRd W d l) (addRd W' d' (l ++ v)) :=
  row_ext (fun c r e => by rcases hv.head e with rfl | rfl | rfl <;> decide) (row_short (less_short hS d) _) (fun l => row_ext (fun c r e => by rcases hv.head e with rfl | rfl | rfl <;> decide) (less_short hS d) (fun l => less_ext hv hW l h1 h2 h3) l) l
theorem cmp_ext (hv : Stops v) (hS : ∀ d, Short (W d)) (hW : ExtW p v W W') {d d' : Nat} (l : List UInt8) (h1 : d ≤ d') (h2 : d' ≤ 20) (h3 : d < d' → p) : Ext p v (cmpRd W d l) (cmpRd W' d' (l ++ v)) := by
  refine (add_ext hv hS hW l h1 h2 h3).bind fun a l1 _ => ?_
  cases l1 with
  | nil =>
    left
    cases hv2 : v with
    | nil => rfl
    | cons c r =>
      have : c ∉ ([61, 60, 62] : List UInt8) := by rcases hv.head hv2 with rfl | rfl | rfl <;> decide
      simp only [cmpTl, if_neg this, List.nil_append]
  | cons c r =>
    simp only [List.cons_append, cmpTl]
    split
    · exact (add_ext hv hS hW r h1 h2 h3).bind fun b l2 _ => .inl rfl
    · exact .inl rfl
theorem step_ext (hv : Stops v) (hS : ∀ d, Short (W d)) (hW : ExtW p v W W') : ExtW p v (wholeStep W) (wholeStep W') := by
  intro d d' l h1 h2 h3
  refine (cmp_ext hv hS hW l h1 h2 h3).bind fun a l1 _ => ?_
  cases l1 with
  | nil =>
    left
    cases hv2 : v with
    | nil => rfl
    | cons c r =>
      have : c ≠ 63 := by rcases hv.head hv2 with rfl | rfl | rfl <;> decide
      simp only [selRd, if_neg this, List.nil_append]
  | cons c r =>
    simp only [List.cons_append, selRd]
    split
    · exact Ext.deep h1 h2 h3 fun h => (hW _ _ _ (by omega) h (fun h => h3 (by omega))).bind fun b l2 _ => Ext.want fun l3 _ => (hW _ _ _ (by omega) h (fun h => h3 (by omega))).bind fun c l4 _ => .inl rfl
    · exact .inl rfl
end
theorem whole_ext {p : Prop} {v : List UInt8} (hv : Stops v) : ∀ k k', k ≤ k' → ExtW p v (wholeRd k) (wholeRd k') := by
  intro k
  induction k with
  | zero =>
    intro k' _
    have : ∀ W', ExtW p v (fun _ l => .bad l.length 2) W' := fun W' d d' l _ _ _ => Ext.two
    cases k' with
    | zero => exact step_ext hv (bad_short 2) (this _)
    | succ k' => exact step_ext hv (bad_short 2) (this _)
  | succ k ih =>
    intro k' h
    obtain ⟨k2, rfl⟩ : ∃ k2, k' = k2 + 1 := ⟨k' - 1, by omega⟩
    exact step_ext hv (whole_short k) (ih k2 (by omega))
end Go.Proofs.YtmbhfadidpkkhaaDoor
