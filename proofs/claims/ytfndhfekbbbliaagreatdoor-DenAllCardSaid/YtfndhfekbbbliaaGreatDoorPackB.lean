/-
  Several texts of this claim in one, in build order; each begins with its own remark, which says what it proves and under which conditions.
-/
import Derived.Test.YtfndhfekbbbliaaGreatDoorPackA
import Derived.Deep.RegionWith
import Derived.RegionDies
import Derived.Deep.RegionHeld2
import Derived.Shelf.Strconv.AtoiAll
import Derived.Deep.Cut

/-
  Expressions, plain: what is read of a text is read of it with other bytes behind that do not go on, at the same or a greater depth, or it is too deep there. No condition: plain lemmas.
-/
namespace Go.Proofs.YtfndhfekbbbliaaGreatDoor
open Go.RowKit
set_option linter.unusedVariables false
theorem Rd.bind_ok {r : Rd} {f : Tr → List UInt8 → Rd} {t : Tr} {l : List UInt8} (h : r.bind f = .ok t l) : ∃ a l1, r = .ok a l1 ∧ f a l1 = .ok t l := by
 cases r with
 | ok a l1 => exact ⟨a, l1, rfl, h⟩
 | bad k e => cases h
theorem want_ok {c : UInt8} {l : List UInt8} {f : List UInt8 → Rd} {t : Tr} {r : List UInt8} (h : wantRd c l f = .ok t r) : ∃ l1, l = c :: l1 ∧ f l1 = .ok t r := by
 cases l with
 | nil => cases h
 | cons x l1 =>
  by_cases e : x = c
  ·subst e
   refine ⟨l1, rfl, ?_⟩
   simpa [wantRd] using h
  ·simp [wantRd, e] at h
theorem deep_ok {d k : Nat} {f : Rd} {t : Tr} {r : List UInt8} (h : deepRd d k f = .ok t r) : d ≠ 20 ∧ f = .ok t r := by
 unfold deepRd at h
 split at h
 ·cases h
 ·exact ⟨by assumption, h⟩
def Short (X : List UInt8 → Rd) : Prop := ∀ l t r, X l = .ok t r → r.length < l.length
theorem two_short {W : Reads} (hW : ∀ d, Short (W d)) (op : UInt8) (d : Nat) : Short (twoRd W op d) := fun l t r h => by
 obtain ⟨a, l1, h1, h⟩ := Rd.bind_ok h
 obtain ⟨l2, rfl, h⟩ := want_ok h
 obtain ⟨b, l3, h3, h⟩ := Rd.bind_ok h
 obtain ⟨l4, rfl, h⟩ := want_ok h
 injection h with _ h; subst h
 have := hW d _ _ _ h1; have := hW d _ _ _ h3
 simp only [List.length_cons] at *; omega
theorem numOf_le (l : List UInt8) : (numOf l).length ≤ l.length := by
 have h : (digsOf l).length ≤ l.length := (List.takeWhile_prefix _).length_le
 unfold numOf
 split
 ·rename_i c d r e
  rw [e] at h
  split
  ·simp only [List.length_cons, List.length_nil] at *; omega
  ·exact h
 ·exact h
theorem num_ok {l : List UInt8} {t : Tr} {r : List UInt8} (h : numRd l = .ok t r) : numOf l ≠ [] ∧ digVal (numOf l) ≤ 9223372036854775807 ∧ t = .num (digVal (numOf l)) ∧ r = l.drop (numOf l).length := by
 unfold numRd at h
 split at h
 ·cases h
 ·rename_i hn
  injection h with h1 h2
  refine ⟨fun e => hn (.inl e), ?_, h1.symm, h2.symm⟩
  rcases Nat.lt_or_ge 9223372036854775807 (digVal (numOf l)) with h | h
  ·exact absurd (.inr h) hn
  ·exact h
theorem num_short : Short numRd := fun l t r h => by
 obtain ⟨h1, _, _, rfl⟩ := num_ok h
 have h2 := numOf_le l
 have h3 : 0 < (numOf l).length := List.length_pos_iff.2 h1
 rw [List.length_drop]; omega
theorem one_short {W : Reads} (hW : ∀ d, Short (W d)) (d : Nat) : Short (oneRd W d) := fun l t r h => by
 unfold oneRd at h
 split at h
 ·have := two_short hW _ _ _ _ _ (deep_ok h).2; simp only [List.length_cons]; omega
 ·have := two_short hW _ _ _ _ _ (deep_ok h).2; simp only [List.length_cons]; omega
 ·injection h with _ h; subst h; simp
 ·injection h with _ h; subst h; simp
 ·obtain ⟨a, l1, h1, h⟩ := Rd.bind_ok (deep_ok h).2
  obtain ⟨l2, rfl, h⟩ := want_ok h
  injection h with _ h; subst h
  have := hW _ _ _ _ h1
  simp only [List.length_cons] at *; omega
 ·exact num_short _ _ _ h
theorem less_other (W : Reads) (d : Nat) {c : UInt8} (r : List UInt8) (h : c ≠ 45) : lessRd W d (c :: r) = oneRd W d (c :: r) := by
 unfold lessRd
 split
 ·rename_i e; injection e with e _; exact absurd e h
 ·rfl
theorem less_minus (W : Reads) (d : Nat) (r : List UInt8) : lessRd W d (45 :: r) = deepRd d (r.length + 1) ((lessRd W (d + 1) r).bind fun a l1 => .ok (.neg a) l1) := rfl
theorem less_short {W : Reads} (hW : ∀ d, Short (W d)) (d : Nat) : Short (lessRd W d) := fun l => by
 induction l generalizing d with
 | nil => intro t r h; cases h
 | cons c l ih =>
  intro t r h
  by_cases e : c = 45
  ·subst e
   rw [less_minus] at h
   obtain ⟨a, l1, h1, h⟩ := Rd.bind_ok (deep_ok h).2
   injection h with _ h; subst h
   have := ih _ _ _ h1
   simp only [List.length_cons]; omega
  ·rw [less_other _ _ _ e] at h
   exact one_short hW d _ _ _ h
theorem loop_le {next : List UInt8 → Rd} (hn : Short next) (ops : List UInt8) : ∀ k a l t r, loopRd next ops k a l = .ok t r → r.length ≤ l.length := by
 intro k
 induction k with
 | zero => intro a l t r h; injection h with _ h; subst h; exact Nat.le_refl _
 | succ k ih =>
  intro a l t r h
  cases l with
  | nil => injection h with _ h; subst h; exact Nat.le_refl _
  | cons c l =>
   simp only [loopRd] at h
   split at h
   ·obtain ⟨b, l1, h1, h⟩ := Rd.bind_ok h
    have := ih _ _ _ _ h
    have := hn _ _ _ h1
    simp only [List.length_cons]; omega
   ·injection h with _ h; subst h; exact Nat.le_refl _
theorem row_short {next : List UInt8 → Rd} (hn : Short next) (ops : List UInt8) : Short (rowRd next ops) := fun l t r h => by
 obtain ⟨a, l1, h1, h⟩ := Rd.bind_ok h
 have := hn _ _ _ h1; have := loop_le hn ops _ _ _ _ _ h
 omega
theorem add_short {W : Reads} (hW : ∀ d, Short (W d)) (d : Nat) : Short (addRd W d) := row_short (row_short (less_short hW d) _) _
theorem cmp_short {W : Reads} (hW : ∀ d, Short (W d)) (d : Nat) : Short (cmpRd W d) := fun l t r h => by
 obtain ⟨a, l1, h1, h⟩ := Rd.bind_ok h
 have g1 := add_short hW d _ _ _ h1
 cases l1 with
 | nil => injection h with _ h; subst h; exact g1
 | cons c l1 =>
  simp only [cmpTl] at h
  split at h
  ·obtain ⟨b, l2, h2, h⟩ := Rd.bind_ok h
   injection h with _ h; subst h
   have := add_short hW d _ _ _ h2
   simp only [List.length_cons] at *; omega
  ·injection h with _ h; subst h; exact g1
theorem step_short {W : Reads} (hW : ∀ d, Short (W d)) (d : Nat) : Short (wholeStep W d) := fun l t r h => by
 obtain ⟨a, l1, h1, h⟩ := Rd.bind_ok h
 have g1 := cmp_short hW d _ _ _ h1
 cases l1 with
 | nil => injection h with _ h; subst h; exact g1
 | cons x l1 =>
  simp only [selRd] at h
  split at h
  ·obtain ⟨b, l2, h2, h⟩ := Rd.bind_ok (deep_ok h).2
   obtain ⟨l3, rfl, h⟩ := want_ok h
   obtain ⟨c, l4, h4, h⟩ := Rd.bind_ok h
   injection h with _ h; subst h
   have := hW _ _ _ _ h2; have := hW _ _ _ _ h4
   simp only [List.length_cons] at *; omega
  ·injection h with _ h; subst h; exact g1
theorem bad_short (e : Int) : ∀ d : Nat, Short ((fun (_ : Nat) (l : List UInt8) => Rd.bad l.length e) d) := fun d l t r h => by cases h
theorem whole_short (k : Nat) : ∀ d, Short (wholeRd k d) := by
 induction k with
 | zero => exact step_short (bad_short 2)
 | succ k ih => exact step_short ih
section
variable {p : Prop} {v : List UInt8} {W W' : Reads}
theorem one_dig (W : Reads) (d : Nat) {c : UInt8} (r : List UInt8) (h : isDig c = true) : oneRd W d (c :: r) = numRd (c :: r) := by
 unfold oneRd
 split
 ·rename_i e; injection e with e _; subst e; exact absurd h (by decide)
 ·rename_i e; injection e with e _; subst e; exact absurd h (by decide)
 ·rename_i e; injection e with e _; subst e; exact absurd h (by decide)
 ·rename_i e; injection e with e _; subst e; exact absurd h (by decide)
 ·rename_i e; injection e with e _; subst e; exact absurd h (by decide)
 ·rfl
theorem num_head {l : List UInt8} (h : numOf l ≠ []) : ∃ c r, l = c :: r ∧ isDig c = true := by
 cases l with
 | nil => exact absurd rfl h
 | cons c r =>
  refine ⟨c, r, rfl, ?_⟩
  cases hc : isDig c with
  | true => rfl
  | false =>
   have : digsOf (c :: r) = [] := by unfold digsOf; rw [List.takeWhile_cons, hc]; rfl
   exact absurd (by unfold numOf; rw [this]) h
theorem loop_stop {next : List UInt8 → Rd} {ops : List UInt8} (h : ∀ c r, v = c :: r → c ∉ ops) (k : Nat) (a : Tr) : loopRd next ops k a v = .ok a v := by
 cases k with
 | zero => rfl
 | succ k =>
  cases v with
  | nil => rfl
  | cons c r => simp [loopRd, h c r rfl]
end
end Go.Proofs.YtfndhfekbbbliaaGreatDoor

/-
  Package expr: the reader's methods by what is left of the text; the contract of less. Conditions: the text takes at most 120 bytes, the depth is at most 20.
-/
namespace Go.Proofs.YtfndhfekbbbliaaGreatDoor
open Go.RowKit Go.Shelf
set_option linter.unusedVariables false
theorem RdL.keep {w w' : World} {R : Nat} {s : ByteArray} {l : List UInt8} {d : Nat} (h : RdL w R s l d) (hs : w'.heap[R]? = w.heap[R]?) : RdL w' R s l d := ⟨h.1, h.2.1, h.2.2.keep hs⟩
theorem RdL.lt {w : World} {R : Nat} {s : ByteArray} {l : List UInt8} {d : Nat} (h : RdL w R s l d) : R < w.heap.size := h.2.2.lt
theorem RdL.on {w w' : World} {R : Nat} {s : ByteArray} {l r : List UInt8} {n d : Nat} (h : RdL w R s l d) (hl : l.length = n + r.length) (hr : r = l.drop n) (h' : RdAt w' R s (s.size - l.length + n) d) : RdL w' R s r d := by
 obtain ⟨h1, h2, h3⟩ := h
 have e : s.size - l.length + n = s.size - r.length := by omega
 rw [e] at h'
 refine ⟨by omega, ?_, h'⟩
 rw [← e, ← List.drop_drop, ← h2]
 exact hr
theorem RdL.allocs {w : World} {R d : Nat} {s : ByteArray} {l : List UInt8} (h : RdL w R s l d) : ∀ ob, (w.alloc ob).cell? ⟨R, 1, none⟩ = some (.int .i64 ((s.size - l.length : Nat) : Int)) := fun ob => (RdL.keep (w' := w.alloc ob) h (heap_alloc_old _ _ h.lt)).2.2.cells.2.1
theorem peekL (R : Nat) (s : ByteArray) (l : List UInt8) (d : Nat) (w : World) (h : RdL w R s l d) : Calls Tryz.prog 142 #[.pointer (some ⟨R, 0, none⟩)] w fun e w' => e = .returned (.int .u8 (headB l)) ∧ ∃ q, w' = w.drewN q := by
 have := peek_ok R s (s.size - l.length) d w h.2.2 (by omega)
 rw [← h.2.1] at this
 exact this
theorem has_eq {w : World} {R : Nat} {s t : ByteArray} {l : List UInt8} {d : Nat} (h : RdL w R s l d) : hasB s (s.size - l.length) t = Lib.hasPrefix l t.data.toList := by
 unfold hasB; rw [← h.2.1]
theorem hasL_yes (R : Nat) (s t : ByteArray) (l r : List UInt8) (d : Nat) (w : World) (h : RdL w R s l d) (hs : s.size ≤ 120) (ht : l = t.data.toList ++ r) :
  Calls Tryz.prog 117 #[.pointer (some ⟨R, 0, none⟩), .string t] w fun e w' => e = .returned (.bool true) ∧ RdL w' R s r d ∧ Frm (· = R) w w' := by
 have hb : hasB s (s.size - l.length) t = true := by rw [has_eq h, ht]; exact List.isPrefixOf_iff_prefix.2 (List.prefix_append _ _)
 have e2 : t.data.toList.length = t.size := by simp
 refine (has_ok R s t _ d w h.2.2 (by omega) hs).mono ?_
 rintro e w' ⟨h1, h2, h3⟩
 rw [hb] at h1 h2
 exact ⟨h1, h.on (n := t.size) (by rw [ht, List.length_append, e2]) (by rw [ht, ← e2, List.drop_left]) (by simpa using h2), h3⟩
theorem hasL_no (R : Nat) (s t : ByteArray) (l : List UInt8) (d : Nat) (w : World) (h : RdL w R s l d) (hs : s.size ≤ 120) (ht : Lib.hasPrefix l t.data.toList = false) :
  Calls Tryz.prog 117 #[.pointer (some ⟨R, 0, none⟩), .string t] w fun e w' => e = .returned (.bool false) ∧ RdL w' R s l d ∧ Frm (· = R) w w' := by
 have hb : hasB s (s.size - l.length) t = false := by rw [has_eq h]; exact ht
 refine (has_ok R s t _ d w h.2.2 (by omega) hs).mono ?_
 rintro e w' ⟨h1, h2, h3⟩
 rw [hb] at h1 h2
 exact ⟨h1, ⟨h.1, h.2.1, by simpa using h2⟩, h3⟩
theorem wantL_yes (R : Nat) (s : ByteArray) (c : UInt8) (r : List UInt8) (d : Nat) (w : World) (h : RdL w R s (c :: r) d) (hs : s.size ≤ 120) :
  Calls Tryz.prog 119 #[.pointer (some ⟨R, 0, none⟩), .string ⟨#[c]⟩] w fun e w' => e = .returned (.tuple #[]) ∧ RdL w' R s r d ∧ Frm (· = R) w w' := by
 have hb : hasB s (s.size - (c :: r).length) ⟨#[c]⟩ = true := by rw [has_eq h]; simp [Lib.hasPrefix]
 refine (want_yes R s ⟨#[c]⟩ _ d w h.2.2 (by omega) hs hb).mono ?_
 rintro e w' ⟨h1, h2, h3⟩
 exact ⟨h1, h.on (n := 1) (by simp; omega) rfl h2, h3⟩
theorem wantL_no (R : Nat) (s : ByteArray) (c : UInt8) (l : List UInt8) (d : Nat) (w : World) (h : RdL w R s l d) (hs : s.size ≤ 120) (hc : ∀ r, l ≠ c :: r) :
  Calls Tryz.prog 119 #[.pointer (some ⟨R, 0, none⟩), .string ⟨#[c]⟩] w fun e w' => e = faultE (s.size - l.length) 2 ∧ RdL w' R s l d ∧ Frm (· = R) w w' := by
 have hb : hasB s (s.size - l.length) ⟨#[c]⟩ = false := by
  rw [has_eq h]
  cases l with
  | nil => rfl
  | cons x r =>
   have : ¬ c = x := fun e => hc r (e ▸ rfl)
   simp [Lib.hasPrefix, List.isPrefixOf, this]
 refine (want_no R s ⟨#[c]⟩ _ d w h.2.2 (by omega) hs hb).mono ?_
 rintro e w' ⟨h1, h2, h3⟩
 exact ⟨h1, ⟨h.1, h.2.1, h2⟩, h3⟩
theorem withinL (R k0 d K : Nat) (s : ByteArray) (l : List UInt8) (first cap : Array Value) (w : World) (r : Rd) (h : RdL w R s l d) (hd2 : d ≤ 20)
  (hK : ∀ args w, (callFunc K args).run Tryz.prog w = .ok (.enter K args) w)
  (hC : d ≠ 20 → ∀ W, RdL W R s l (d + 1) → Frm (· = R) w W → Calls Tryz.prog K (first ++ cap) W (Reads_ R s (d + 1) W r)) :
  Calls Tryz.prog 118 #[.pointer (some ⟨R, 0, none⟩), .int .i64 ((s.size - k0 : Nat) : Int), .func (.func K) first cap] w (Reads_ R s d w (deepRd d k0 r)) := by
 by_cases hd : d = 20
 ·subst hd
  have e : deepRd 20 k0 r = .bad k0 4 := rfl
  rw [e]
  refine (within_full R _ (s.size - k0) s _ w h.2.2).mono ?_
  rintro e w' ⟨h1, h2, h3⟩
  exact ⟨h1, ⟨_, h2⟩, h3⟩
 ·have e : deepRd d k0 r = r := by unfold deepRd; rw [if_neg hd]
  rw [e]
  exact within_ok R _ (s.size - k0) d K s first cap w r h.2.2 hd hd2 hK fun W hW hF => hC hd W ⟨h.1, h.2.1, hW⟩ hF
def ReadsAs (f : Nat) (X : Reads) (m : Nat) : Prop := ∀ (R : Nat) (s : ByteArray) (l : List UInt8) (d : Nat) (w : World), RdL w R s l d → s.size ≤ 120 → d ≤ 20 → l.length ≤ m → NumVars w R → Calls Tryz.prog f #[.pointer (some ⟨R, 0, none⟩)] w (Reads_ R s d w (X d l))
theorem deep_bind (d k : Nat) (r : Rd) (f : Tr → List UInt8 → Rd) : (deepRd d k r).bind f = deepRd d k (r.bind f) := by
 unfold deepRd; split <;> rfl
theorem TVar.new (w : World) (x y z : Value) : TVar (w.alloc (.cells #[x, y, z] 86)) w.heap.size x y z := heap_alloc_new w _
theorem TVar.frm {w w' : World} {R k : Nat} {x y z : Value} (h : TVar w k x y z) (hF : Frm (· = R) w w') (hk : k ≠ R) : TVar w' k x y z := (hF.block k (block_lt h) hk).trans h
theorem TVar.allocs {w : World} {k : Nat} {x y z : Value} (h : TVar w k x y z) : (∀ ob, (w.alloc ob).cell? ⟨k, 0, none⟩ = some x) ∧ (∀ ob, (w.alloc ob).cell? ⟨k, 1, none⟩ = some y) ∧ (∀ ob, (w.alloc ob).cell? ⟨k, 2, none⟩ = some z) ∧ (∀ ob i, (w.alloc ob).frozen? ⟨k, i, none⟩ = false) := by
 have h2 : ∀ ob, TVar (w.alloc ob) k x y z := fun ob => (heap_alloc_old _ _ (block_lt h)).trans h
 exact ⟨fun ob => (h2 ob).cells.1, fun ob => (h2 ob).cells.2.1, fun ob => (h2 ob).cells.2.2.1, fun ob => (h2 ob).cells.2.2.2⟩
theorem frm_trans {R : Nat} {a b c : World} (h : Frm (· = R) a b) (h' : Frm (· = R) b c) : Frm (· = R) a c := h.trans h' (fun _ h => h) (fun _ h => .inl h)
section
variable {F : Nat → Prop} {w0 w3 : World} {k R : Nat} {x y z : Value} {ob : Obj}
theorem four_far {j : Nat} (h1 : j < w3.heap.size) (h2 : j ≠ k) : (tset (w3.alloc ob) k x y z).heap[j]? = w3.heap[j]? := (tset_far _ h2 _ _ _).trans (heap_alloc_old _ _ h1)
theorem four_new (hk : k < w3.heap.size) : (tset (w3.alloc ob) k x y z).heap[w3.heap.size]? = some ob := (tset_far _ (by omega) _ _ _).trans (heap_alloc_new _ _)
theorem four_tree {t : Tr} {cs : List Value} (h : TrC F w3 t cs) (hF : ∀ j, F j → j ≠ k ∧ w0.heap.size ≤ j) : TrC (w0.heap.size ≤ ·) (tset (w3.alloc ob) k x y z) t cs := by
 have h1 : TrC (fun j => F j ∧ j < w3.heap.size) w3 t cs := h.in_ fun j h1 h2 => ⟨h1, h2⟩
 exact (h1.keep fun j hj => four_far hj.2 (hF j hj.1).1).in_ fun j hj _ => (hF j hj.1).2
theorem four_rd {s : ByteArray} {l : List UInt8} {d : Nat} (h : RdL w3 R s l d) (hk : R ≠ k) : RdL (tset (w3.alloc ob) k x y z) R s l d := h.keep (four_far h.lt hk)
theorem four_frm (h : Frm (· = R) w0 w3) (hk : w0.heap.size ≤ k) : Frm (· = R) w0 (tset (w3.alloc ob) k x y z) := (h.alloc ob).tset (.inr hk) _ _ _
theorem four_var {a b c : Value} (h : TVar w3 k a b c) : TVar (tset (w3.alloc ob) k x y z) k x y z := TVar.put (x := a) (y := b) (z := c) ((heap_alloc_old _ _ (block_lt h)).trans h) _ _ _
end
section
variable {w0 w3 : World} {k R d : Nat} {s : ByteArray} {x y z : Value}
theorem pass_var {a b c : Value} (h : TVar w3 k a b c) : TVar (tset w3 k x y z) k x y z := TVar.put (x := a) (y := b) (z := c) h _ _ _
theorem pass_ok {F : Nat → Prop} {t : Tr} {l : List UInt8} {o n : Int} {A : Option Addr} {c : Nat} (h : TrC F w3 t (trL o n A c)) (hF : ∀ j, F j → j ≠ k ∧ w0.heap.size ≤ j) (hl : RdL w3 R s l d) (hf : Frm (· = R) w0 w3) (hR : R ≠ k) (hk : w0.heap.size ≤ k) : Reads_ R s d w0 (.ok t l) (.returned (.agg (trA o n A c))) (tset w3 k x y z) :=
 ⟨o, n, A, c, rfl, (h.keep fun j hj => tset_far _ (hF j hj).1 _ _ _).in_ fun j hj _ => (hF j hj).2, hl.keep (tset_far _ hR _ _ _), hf.tset (.inr hk) _ _ _⟩
end
set_option maxRecDepth 100000 in
set_option maxHeartbeats 4000000 in
theorem less_one_reads {W : Reads} {m : Nat} (hone : ReadsAs 177 (oneRd W) m) (R : Nat) (s : ByteArray) (l : List UInt8) (d : Nat) (w : World) (h : RdL w R s l d) (hs : s.size ≤ 120) (hd : d ≤ 20) (hm : l.length ≤ m) (hnv : NumVars w R) (hl : ∀ r, l ≠ 45 :: r) :
  Calls Tryz.prog 141 #[.pointer (some ⟨R, 0, none⟩)] w (Reads_ R s d w (oneRd W d l)) := by
 obtain ⟨r0, hr0⟩ : ∃ r0, r0 = oneRd W d l := ⟨_, rfl⟩
 have HR0 := Lib.hid hr0
 rw [← hr0]
 have hb : Lib.hasPrefix l [45] = false := by
  cases l with
  | nil => rfl
  | cons x r =>
   have : ¬ 45 = x := fun e => hl r (e ▸ rfl)
   simp [Lib.hasPrefix, List.isPrefixOf, this]
 have HH := Lib.hid h
 obtain ⟨c0, c1, c2, cf⟩ := h.2.2.cells
 have hlt := h.lt
 have HLT := Lib.hid hlt
 clear hr0
 go_enter Tryz.func141, Tryz.ntmps141
 go_wp2_with fail
 have HH1 : Hid (RdL (w.alloc (.cells #[.int .u8 0, .int .i64 0, .slice none 0 0] 86)) R s l d) := HH.out.keep (heap_alloc_old _ _ hlt)
 have HF1 : Hid (Frm (· = R) w (w.alloc (.cells #[.int .u8 0, .int .i64 0, .slice none 0 0] 86))) := (Frm.refl _ _).alloc _
 have HV1 : Hid (TVar (w.alloc (.cells #[.int .u8 0, .int .i64 0, .slice none 0 0] 86)) w.heap.size (.int .u8 0) (.int .i64 0) (.slice none 0 0)) := TVar.new _ _ _ _
 clear c0 c1 c2 cf h hlt
 refine (hasL_no R s ⟨#[45]⟩ l d _ HH1.out hs hb).mono ?_
 rintro e w2 ⟨rfl, h2, f2⟩
 have HH2 := Lib.hid h2
 have HF2 := Lib.hid (frm_trans HF1.out f2)
 have HV2 := Lib.hid (HV1.out.frm f2 (by have := HLT.out; omega))
 clear h2 f2 HH1 HF1 HV1
 go_wp2_with fail
 refine (hone R s l d w2 HH2.out hs hd hm (hnv.frm HF2.out)).mono ?_
 intro e w3 hr
 rw [← HR0.out] at hr
 clear HR0
 cases r0 with
 | bad k j =>
  obtain ⟨rfl, hp, hf⟩ := hr
  exact ⟨rfl, rfl, hp, frm_trans HF2.out hf⟩
 | ok a l1 =>
  obtain ⟨o, n, A, ca, rfl, ht, hl, hf⟩ := hr
  have HT := Lib.hid ht
  have HL := Lib.hid hl
  have HF3 := Lib.hid (frm_trans HF2.out hf)
  have hV := HV2.out.frm hf (by have := HLT.out; omega)
  have HV3 := Lib.hid hV
  obtain ⟨v0, v1, v2, vf⟩ := hV.cells
  have hk2 : w.heap.size < w2.heap.size := block_lt HV2.out
  clear ht hl hf hV HV2 HH2 HF2
  simp only [trA]
  go_wp2_with fail
  obtain ⟨q0, q1, q2, qf⟩ := (pass_var (x := .int .u8 o) (y := .int .i64 n) (z := .slice A ca ca) HV3.out).cells
  simp only [tset] at q0 q1 q2
  refine ⟨rfl, .agg (trA o n A ca), ?_, pass_ok HT.out (fun j hj => by omega) HL.out HF3.out (by have := HLT.out; omega) (Nat.le_refl _)⟩
  simp only [results, Tryz.results141]
  simp [go_sem, q0, q1, q2, trA]
set_option maxRecDepth 100000 in
set_option maxHeartbeats 4000000 in
theorem less_reads {W : Reads} {m : Nat} (hone : ReadsAs 177 (oneRd W) m) : ReadsAs 141 (lessRd W) m := by
 intro R s l
 induction l with
 | nil => intro d w h hs hd hm hnv; exact less_one_reads hone R s [] d w h hs hd hm hnv (fun r e => by cases e)
 | cons c l ih =>
  intro d w h hs hd hm hnv
  have hmf : ∀ (fn : Fn) (first cap : Array Value) (w : World), (Instr.makeFunc fn first cap).run Tryz.prog w = .ok (.func fn first cap) w := fun _ _ _ _ => rfl
  have hK : ∀ args w, (callFunc 141 args).run Tryz.prog w = .ok (.enter 141 args) w := fun _ _ => rfl
  by_cases ec : c = 45
  ·subst ec
   rw [less_minus, ← deep_bind]
   obtain ⟨r0, hr0⟩ : ∃ r0, r0 = deepRd d (l.length + 1) (lessRd W (d + 1) l) := ⟨_, rfl⟩
   rw [← hr0]
   have HR0 := Lib.hid hr0
   clear hr0
   have HH := Lib.hid h
   have HIH := Lib.hid ih
   obtain ⟨c0, c1, c2, cf⟩ := h.2.2.cells
   have hlt := h.lt
   have HLT := Lib.hid hlt
   clear ih
   go_enter Tryz.func141, Tryz.ntmps141
   go_wp2_with fail
   have HH1 : Hid (RdL (w.alloc (.cells #[.int .u8 0, .int .i64 0, .slice none 0 0] 86)) R s (45 :: l) d) := HH.out.keep (heap_alloc_old _ _ hlt)
   have HF1 : Hid (Frm (· = R) w (w.alloc (.cells #[.int .u8 0, .int .i64 0, .slice none 0 0] 86))) := (Frm.refl _ _).alloc _
   have HV1 : Hid (TVar (w.alloc (.cells #[.int .u8 0, .int .i64 0, .slice none 0 0] 86)) w.heap.size (.int .u8 0) (.int .i64 0) (.slice none 0 0)) := TVar.new _ _ _ _
   clear c0 c1 c2 cf h hlt
   refine (hasL_yes R s ⟨#[45]⟩ (45 :: l) l d _ HH1.out hs rfl).mono ?_
   rintro e w2 ⟨rfl, h2, f2⟩
   have HH2 := Lib.hid h2
   have HF2 := Lib.hid (frm_trans HF1.out f2)
   have HV2 := Lib.hid (HV1.out.frm f2 (by have := HLT.out; omega))
   clear h2 f2 HH1 HF1 HV1
   go_wp2_with fail
   refine (withinL R (l.length + 1) d 141 s l #[.pointer (some ⟨R, 0, none⟩)] #[] w2 (lessRd W (d + 1) l) HH2.out hd hK (fun hne W2 hW hF => HIH.out (d + 1) W2 hW hs (by omega) (by simp only [List.length_cons] at hm; omega) (hnv.frm (frm_trans HF2.out hF)))).mono ?_
   intro e w3 hr
   rw [← HR0.out] at hr
   clear HR0
   cases r0 with
   | bad k j =>
    obtain ⟨rfl, hp, hf⟩ := hr
    exact ⟨rfl, rfl, hp, frm_trans HF2.out hf⟩
   | ok a l1 =>
    obtain ⟨o, n, A, ca, rfl, ht, hl, hf⟩ := hr
    have HT := Lib.hid ht
    have HL := Lib.hid hl
    have HF3 := Lib.hid (frm_trans HF2.out hf)
    have hV := HV2.out.frm hf (by have := HLT.out; omega)
    have HV3 := Lib.hid hV
    obtain ⟨v0, v1, v2, vf⟩ := hV.allocs
    have hk2 : w.heap.size < w2.heap.size := block_lt HV2.out
    clear ht hl hf hV HV2 HH2 HF2
    simp only [trA]
    go_wp2_with fail
    have hk : w.heap.size < w3.heap.size := block_lt HV3.out
    obtain ⟨q0, q1, q2, qf⟩ := (four_var (x := .int .u8 126) (y := .int .i64 0) (z := .slice (some ⟨w3.heap.size, 0, none⟩) 1 1) (ob := .cells #[.int .u8 o, .int .i64 n, .slice A ca ca] 86) HV3.out).cells
    simp only [tset] at q0 q1 q2
    refine ⟨rfl, .agg (trA 126 0 (some ⟨w3.heap.size, 0, none⟩) 1), ?_, 126, 0, some ⟨w3.heap.size, 0, none⟩, 1, rfl, ⟨w3.heap.size, trL o n A ca, rfl, ⟨by omega, four_new hk⟩, four_tree HT.out fun j hj => by omega⟩, four_rd HL.out (by have := HLT.out; omega), four_frm HF3.out (Nat.le_refl _)⟩
    simp only [results, Tryz.results141]
    simp [go_sem, q0, q1, q2, trA]
  ·rw [less_other _ _ _ ec]
   exact less_one_reads hone R s (c :: l) d w h hs hd hm hnv (fun r e => by injection e with e _; exact ec e)
end Go.Proofs.YtfndhfekbbbliaaGreatDoor

/-
  Package expr: the contracts of one's closures: two between brackets; one in brackets. Conditions: the text takes at most 120 bytes, the depth is at most 20.
-/
namespace Go.Proofs.YtfndhfekbbbliaaGreatDoor
open Go.RowKit Go.Shelf
set_option linter.unusedVariables false
def ReadsLt_ (X : Reads) (m : Nat) : Prop := ∀ (R : Nat) (s : ByteArray) (l : List UInt8) (d : Nat) (w : World), RdL w R s l d → s.size ≤ 120 → d ≤ 20 → l.length < m → NumVars w R → Calls Tryz.prog 84 #[.pointer (some ⟨R, 0, none⟩)] w (Reads_ R s d w (X d l))
def PBox (w : World) (B R : Nat) : Prop := w.heap[B]? = some (.cells #[.pointer (some ⟨R, 0, none⟩)] 149 (0, 0))
theorem PBox.cell {w : World} {B R : Nat} (h : PBox w B R) : w.cell? ⟨B, 0, none⟩ = some (.pointer (some ⟨R, 0, none⟩)) := (cell_of_row w B 0 _ _ _ h).trans rfl
theorem PBox.frm {w w' : World} {B R : Nat} (h : PBox w B R) (hF : Frm (· = R) w w') (hB : B ≠ R) : PBox w' B R := (hF.block B (block_lt h) hB).trans h
theorem PBox.alloc {w : World} {B R : Nat} (h : PBox w B R) (ob : Obj) : PBox (w.alloc ob) B R := (heap_alloc_old _ _ (block_lt h)).trans h
def BVar (w : World) (B : Nat) (c : Int) : Prop := w.heap[B]? = some (.cells #[.int .u8 c] 5 (0, 0))
theorem BVar.cell {w : World} {B : Nat} {c : Int} (h : BVar w B c) : w.cell? ⟨B, 0, none⟩ = some (.int .u8 c) := (cell_of_row w B 0 _ _ _ h).trans rfl
theorem BVar.frm {w w' : World} {B R : Nat} {c : Int} (h : BVar w B c) (hF : Frm (· = R) w w') (hB : B ≠ R) : BVar w' B c := (hF.block B (block_lt h) hB).trans h
theorem BVar.alloc {w : World} {B : Nat} {c : Int} (h : BVar w B c) (ob : Obj) : BVar (w.alloc ob) B c := (heap_alloc_old _ _ (block_lt h)).trans h
theorem new_tree_ {F : Nat → Prop} {w2 : World} {R d : Nat} {s : ByteArray} {l : List UInt8} {t : Tr} {o n : Int} {A : Option Addr} {c : Nat} (ht : TrC F w2 t (trL o n A c)) (hl : RdL w2 R s l d) :
  ∃ w3, w3 = w2.alloc (.cells #[.int .u8 o, .int .i64 n, .slice A c c] 86) ∧ Hid (RdL w3 R s l d) ∧ Hid (TVar w3 w2.heap.size (.int .u8 o) (.int .i64 n) (.slice A c c)) ∧ Hid (TrC (fun j => F j ∧ j < w2.heap.size) w3 t (trL o n A c)) ∧ Hid (Frm (· = R) w2 w3) ∧ w3.heap.size = w2.heap.size + 1 := by
 refine ⟨_, rfl, hl.keep (heap_alloc_old _ _ hl.lt), TVar.new _ _ _ _, ?_, (Frm.refl _ _).alloc _, by simp⟩
 have h1 : TrC (fun j => F j ∧ j < w2.heap.size) w2 t (trL o n A c) := ht.in_ fun j h1 h2 => ⟨h1, h2⟩
 exact h1.keep fun j hj => heap_alloc_old _ _ hj.2
theorem TrC.frm_ {F : Nat → Prop} {w w' : World} {R : Nat} {t : Tr} {cs : List Value} (h : TrC F w t cs) (hF : Frm (· = R) w w') (hR : ∀ j, F j → j ≠ R) : TrC F w' t cs := by
 have h1 : TrC (fun j => F j ∧ j < w.heap.size) w t cs := h.in_ fun j h1 h2 => ⟨h1, h2⟩
 exact (h1.keep fun j hj => hF.block j hj.2 (hR j hj.1)).in_ fun j h _ => h.1
theorem want_fails_ {c : UInt8} {l : List UInt8} (f : List UInt8 → Rd) (h : ∀ r, l ≠ c :: r) : wantRd c l f = .bad l.length 2 := by
 cases l with
 | nil => rfl
 | cons x r => simp only [wantRd, if_neg (fun e : x = c => h r (e ▸ rfl))]
set_option maxRecDepth 100000 in
set_option maxHeartbeats 8000000 in
theorem one2_reads {W : Reads} {m : Nat} (hW : ReadsLt_ W m) (R B : Nat) (s : ByteArray) (l : List UInt8) (d : Nat) (w : World) (hB : PBox w B R) (hBR : B ≠ R) (h : RdL w R s l d) (hs : s.size ≤ 120) (hd : d ≤ 20) (hm : l.length < m) (hnv : NumVars w R) :
  Calls Tryz.prog 199 #[.pointer (some ⟨B, 0, none⟩)] w (Reads_ R s d w ((W d l).bind fun a l1 => wantRd 41 l1 fun l2 => .ok a l2)) := by
 obtain ⟨r1, hr1⟩ : ∃ r1, r1 = W d l := ⟨_, rfl⟩
 obtain ⟨r0, hr0⟩ : ∃ r0, r0 = (W d l).bind fun a l1 => wantRd 41 l1 fun l2 => .ok a l2 := ⟨_, rfl⟩
 have e0 : r0 = r1.bind fun a l1 => wantRd 41 l1 fun l2 => .ok a l2 := by rw [hr0, hr1]
 rw [← hr0]
 have HR1 := Lib.hid hr1
 have HR0 := Lib.hid e0
 have HH := Lib.hid h
 have HB := Lib.hid hB
 have hb0 := fun ob => (hB.alloc ob).cell
 have hlt := h.lt
 have HLT := Lib.hid hlt
 have HBL : Hid (B < w.heap.size) := block_lt hB
 clear hr0 hr1 e0 h hB
 go_enter Tryz.func199, Tryz.ntmps199
 go_wp2_with fail
 have HH1 : Hid (RdL (w.alloc (.cells #[.int .u8 0, .int .i64 0, .slice none 0 0] 86)) R s l d) := HH.out.keep (heap_alloc_old _ _ hlt)
 have HF1 : Hid (Frm (· = R) w (w.alloc (.cells #[.int .u8 0, .int .i64 0, .slice none 0 0] 86))) := (Frm.refl _ _).alloc _
 have HV1 : Hid (TVar (w.alloc (.cells #[.int .u8 0, .int .i64 0, .slice none 0 0] 86)) w.heap.size (.int .u8 0) (.int .i64 0) (.slice none 0 0)) := TVar.new _ _ _ _
 have HB1 : Hid (PBox (w.alloc (.cells #[.int .u8 0, .int .i64 0, .slice none 0 0] 86)) B R) := HB.out.alloc _
 have HC : Hid (Calls Tryz.prog 84 #[.pointer (some ⟨R, 0, none⟩)] (w.alloc (.cells #[.int .u8 0, .int .i64 0, .slice none 0 0] 86)) (Reads_ R s d (w.alloc (.cells #[.int .u8 0, .int .i64 0, .slice none 0 0] 86)) r1)) := by
  rw [HR1.out]; exact hW R s l d _ HH1.out hs hd hm (hnv.frm HF1.out)
 refine HC.out.mono ?_
 clear HC hlt hb0
 intro e w2 hr
 cases r1 with
 | bad k j =>
  obtain ⟨rfl, hp, hf⟩ := hr
  have e0 : r0 = .bad k j := HR0.out
  clear HR0
  subst e0
  exact ⟨rfl, rfl, hp, frm_trans HF1.out hf⟩
 | ok a l1 =>
  obtain ⟨o, n, A, c, rfl, ht, hl, hf⟩ := hr
  have HE0 : Hid (r0 = wantRd 41 l1 fun l2 => .ok a l2) := HR0.out
  have hRw := HLT.out
  have hBw := HBL.out
  obtain ⟨w3, hw3, HL3, HV3, HT3, HF3, hs3⟩ := new_tree_ ht hl
  have hz2 := HV1.out.frm hf (by omega)
  have hb2 := HB1.out.frm hf hBR
  have HZ3 := Lib.hid (hz2.frm HF3.out (by omega))
  have HFW := Lib.hid (frm_trans (frm_trans HF1.out hf) HF3.out)
  have HG : Hid (w.heap.size < w2.heap.size) := block_lt hz2
  obtain ⟨ga, hga⟩ : ∃ ga, ga = w2.heap.size := ⟨_, rfl⟩
  have HT3b : Hid (TrC (fun j => w.heap.size < j ∧ j < ga) w3 a (trL o n A c)) := HT3.out.in_ fun j h1 _ => by have := h1.1; simp at this; omega
  have hb0 := fun ob => (hb2.alloc ob).cell
  clear ht hl hf HH1 HF1 HV1 HB1 HR0 HR1 hz2 HH HT3 HF3 HB hb2
  simp only [trA]
  go_wp2_with fail
  rw [← hw3]
  rw [← hga] at HV3 HG ⊢
  clear hw3 hga hs3 hb0
  by_cases hq : ∃ l2, l1 = 41 :: l2
  ·obtain ⟨l2, rfl⟩ := hq
   have e0 : r0 = .ok a l2 := HE0.out
   clear HE0
   subst e0
   refine (wantL_yes R s 41 l2 d _ HL3.out hs).mono ?_
   rintro e w4 ⟨rfl, h4, f4⟩
   have hg := HG.out
   have hz4 := HZ3.out.frm f4 (by omega)
   obtain ⟨z0, z1, z2, zf⟩ := hz4.cells
   obtain ⟨y0, y1, y2, yf⟩ := (HV3.out.frm f4 (by omega)).cells
   obtain ⟨q0, q1, q2, qf⟩ := (pass_var (x := .int .u8 o) (y := .int .i64 n) (z := .slice A c c) hz4).cells
   have hr : Reads_ R s d w (.ok a l2) (.returned (.agg (trA o n A c))) (tset w4 w.heap.size (.int .u8 o) (.int .i64 n) (.slice A c c)) :=
    pass_ok (HT3b.out.frm_ f4 fun j hj => by omega) (fun j hj => by omega) h4 (frm_trans HFW.out f4) (by omega) (Nat.le_refl _)
   have HRR := Lib.hid hr
   simp only [tset] at q0 q1 q2
   clear h4 f4 hz4 hr
   go_wp2_with fail
   refine ⟨rfl, .agg (trA o n A c), ?_, HRR.out⟩
   simp only [results, Tryz.results199]
   simp [go_sem, q0, q1, q2, trA]
  ·have e0 : r0 = .bad l1.length 2 := HE0.out.trans (want_fails_ _ fun r e => hq ⟨r, e⟩)
   clear HE0
   subst e0
   refine (wantL_no R s 41 l1 d _ HL3.out hs fun r e => hq ⟨r, e⟩).mono ?_
   rintro e w7 ⟨rfl, h7, f7⟩
   exact ⟨rfl, rfl, ⟨_, h7.2.2⟩, frm_trans HFW.out f7⟩
end Go.Proofs.YtfndhfekbbbliaaGreatDoor

/-
  Package expr: the contract of the closure that reads two between brackets. Conditions: the text takes at most 120 bytes, the depth is at most 20.
-/
namespace Go.Proofs.YtfndhfekbbbliaaGreatDoor
open Go.RowKit Go.Shelf
set_option linter.unusedVariables false
structure NodeOut (R : Nat) (s : ByteArray) (l : List UInt8) (d : Nat) (w : World) (B : Nat) (t : Tr) (tv g : Nat) (op : Int) (W9 : World) : Prop where
 rd : RdL W9 R s l d
 box : PBox W9 B R
 res : TVar W9 w.heap.size (.int .u8 0) (.int .i64 0) (.slice none 0 0)
 var : TVar W9 tv (.int .u8 op) (.int .i64 0) (.slice (some ⟨g, 0, none⟩) 2 2)
 tree : TrC (fun j => w.heap.size < j ∧ j ≠ tv) W9 t (trL op 0 (some ⟨g, 0, none⟩) 2)
 frm : Frm (· = R) w W9
 tv : w.heap.size < tv
theorem node_out {R d B k : Nat} {s : ByteArray} {l : List UInt8} {w w3 : World} {a b : Tr} {op : UInt8} {o n o2 n2 : Int} {A A2 : Option Addr} {c c2 : Nat} {x y z : Value} (hl : RdL w3 R s l d) (hB : PBox w3 B R) (hr : TVar w3 w.heap.size (.int .u8 0) (.int .i64 0) (.slice none 0 0)) (hv : TVar w3 k x y z)
  (ha : TrC (fun j => w.heap.size < j ∧ j ≠ k) w3 a (trL o n A c)) (hb : TrC (fun j => w.heap.size < j ∧ j ≠ k) w3 b (trL o2 n2 A2 c2)) (hF : Frm (· = R) w w3) (hk : w.heap.size < k) (hRk : R < w.heap.size) (hBk : B < w.heap.size) :
  NodeOut R s l d w B (.bin op a b) k w3.heap.size (op.toNat : Int) (tset (w3.alloc (.cells #[.int .u8 o, .int .i64 n, .slice A c c, .int .u8 o2, .int .i64 n2, .slice A2 c2 c2] 86)) k (.int .u8 (op.toNat : Int)) (.int .i64 0) (.slice (some ⟨w3.heap.size, 0, none⟩) 2 2)) := by
 have hk3 := block_lt hv
 have tr : ∀ {t : Tr} {cs : List Value}, TrC (fun j => w.heap.size < j ∧ j ≠ k) w3 t cs → TrC (fun j => w.heap.size < j ∧ j ≠ k) (tset (w3.alloc (.cells #[.int .u8 o, .int .i64 n, .slice A c c, .int .u8 o2, .int .i64 n2, .slice A2 c2 c2] 86)) k (.int .u8 (op.toNat : Int)) (.int .i64 0) (.slice (some ⟨w3.heap.size, 0, none⟩) 2 2)) t cs := fun h => by
  have h1 := h.in_ (G := fun j => (w.heap.size < j ∧ j ≠ k) ∧ j < w3.heap.size) fun j h1 h2 => ⟨h1, h2⟩
  exact (h1.keep fun j hj => four_far hj.2 hj.1.2).in_ fun j hj _ => hj.1
 exact ⟨four_rd hl (by omega), (four_far (block_lt hB) (by omega)).trans hB, (four_far (block_lt hr) (by omega)).trans hr, four_var hv,
  ⟨w3.heap.size, trL o n A c, trL o2 n2 A2 c2, rfl, ⟨⟨by omega, by omega⟩, four_new hk3⟩, tr ha, tr hb⟩, four_frm hF (by omega), hk⟩
theorem node_two {R d B g tv : Nat} {s : ByteArray} {l : List UInt8} {w w3 W9 : World} {a b : Tr} {op : UInt8} {o n o2 n2 : Int} {A A2 : Option Addr} {c c2 : Nat} (hl : RdL w3 R s l d) (hB : PBox w3 B R) (hr : TVar w3 w.heap.size (.int .u8 0) (.int .i64 0) (.slice none 0 0))
  (ha : TrC (fun j => w.heap.size < j) w3 a (trL o n A c)) (hb : TrC (fun j => w.heap.size < j) w3 b (trL o2 n2 A2 c2)) (hF : Frm (· = R) w W9) (hold : ∀ j, j < w3.heap.size → W9.heap[j]? = w3.heap[j]?) (htv : w3.heap.size ≤ tv) (hg : w3.heap.size ≤ g) (hne : g ≠ tv)
  (hk : W9.heap[g]? = some (.cells #[.int .u8 o, .int .i64 n, .slice A c c, .int .u8 o2, .int .i64 n2, .slice A2 c2 c2] 86 (0, 0))) (hv : TVar W9 tv (.int .u8 (op.toNat : Int)) (.int .i64 0) (.slice (some ⟨g, 0, none⟩) 2 2)) :
  NodeOut R s l d w B (.bin op a b) tv g (op.toNat : Int) W9 := by
 have hr3 := block_lt hr
 have tr : ∀ {t : Tr} {cs : List Value}, TrC (fun j => w.heap.size < j) w3 t cs → TrC (fun j => w.heap.size < j ∧ j ≠ tv) W9 t cs := fun h => by
  have h1 := h.in_ (G := fun j => w.heap.size < j ∧ j < w3.heap.size) fun j h1 h2 => ⟨h1, h2⟩
  exact (h1.keep fun j hj => hold j hj.2).in_ fun j hj _ => ⟨hj.1, by omega⟩
 exact ⟨hl.keep (hold _ hl.lt), (hold _ (block_lt hB)).trans hB, (hold _ hr3).trans hr, hv, ⟨g, trL o n A c, trL o2 n2 A2 c2, rfl, ⟨⟨by omega, hne⟩, hk⟩, tr ha, tr hb⟩, hF, by omega⟩
set_option maxRecDepth 100000 in
set_option maxHeartbeats 8000000 in
theorem one1_reads {W : Reads} {m : Nat} (hS : ∀ d, Short (W d)) (hW : ReadsLt_ W m) (R B G : Nat) (op : UInt8) (s : ByteArray) (l : List UInt8) (d : Nat) (w : World) (hB : PBox w B R) (hBR : B ≠ R) (hG : BVar w G (op.toNat : Int)) (hGR : G ≠ R) (h : RdL w R s l d) (hs : s.size ≤ 120) (hd : d ≤ 20) (hm : l.length < m) (hnv : NumVars w R) :
  Calls Tryz.prog 198 #[.pointer (some ⟨B, 0, none⟩), .pointer (some ⟨G, 0, none⟩)] w (Reads_ R s d w (twoRd W op d l)) := by
 obtain ⟨r1, hr1⟩ : ∃ r1, r1 = W d l := ⟨_, rfl⟩
 obtain ⟨r0, hr0⟩ : ∃ r0, r0 = twoRd W op d l := ⟨_, rfl⟩
 have e0 : r0 = r1.bind fun a l1 => wantRd 44 l1 fun l2 => (W d l2).bind fun b l3 => wantRd 41 l3 fun l4 => .ok (.bin op a b) l4 := by rw [hr0, hr1]; rfl
 rw [← hr0]
 have HR1 := Lib.hid hr1
 have HR0 := Lib.hid e0
 have HH := Lib.hid h
 have HB := Lib.hid hB
 have HGV := Lib.hid hG
 have hb0 := fun ob => (hB.alloc ob).cell
 have hlt := h.lt
 have HLT := Lib.hid hlt
 have HBL : Hid (B < w.heap.size) := block_lt hB
 have HGL : Hid (G < w.heap.size) := block_lt hG
 have HS := Lib.hid hS
 clear hr0 hr1 e0 h hB hG hS
 go_enter Tryz.func198, Tryz.ntmps198
 go_wp2_with fail
 have HH1 : Hid (RdL (w.alloc (.cells #[.int .u8 0, .int .i64 0, .slice none 0 0] 86)) R s l d) := HH.out.keep (heap_alloc_old _ _ hlt)
 have HF1 : Hid (Frm (· = R) w (w.alloc (.cells #[.int .u8 0, .int .i64 0, .slice none 0 0] 86))) := (Frm.refl _ _).alloc _
 have HV1 : Hid (TVar (w.alloc (.cells #[.int .u8 0, .int .i64 0, .slice none 0 0] 86)) w.heap.size (.int .u8 0) (.int .i64 0) (.slice none 0 0)) := TVar.new _ _ _ _
 have HB1 : Hid (PBox (w.alloc (.cells #[.int .u8 0, .int .i64 0, .slice none 0 0] 86)) B R) := HB.out.alloc _
 have HG1 : Hid (BVar (w.alloc (.cells #[.int .u8 0, .int .i64 0, .slice none 0 0] 86)) G (op.toNat : Int)) := HGV.out.alloc _
 have HC : Hid (Calls Tryz.prog 84 #[.pointer (some ⟨R, 0, none⟩)] (w.alloc (.cells #[.int .u8 0, .int .i64 0, .slice none 0 0] 86)) (Reads_ R s d (w.alloc (.cells #[.int .u8 0, .int .i64 0, .slice none 0 0] 86)) r1)) := by
  rw [HR1.out]; exact hW R s l d _ HH1.out hs hd hm (hnv.frm HF1.out)
 refine HC.out.mono ?_
 clear HC hlt hb0
 intro e w2 hr
 cases r1 with
 | bad k j =>
  obtain ⟨rfl, hp, hf⟩ := hr
  have e0 : r0 = .bad k j := HR0.out
  clear HR0
  subst e0
  exact ⟨rfl, rfl, hp, frm_trans HF1.out hf⟩
 | ok a l1 =>
  obtain ⟨o, n, A, c, rfl, ht, hl, hf⟩ := hr
  have HE0 : Hid (r0 = wantRd 44 l1 fun l2 => (W d l2).bind fun b l3 => wantRd 41 l3 fun l4 => .ok (.bin op a b) l4) := HR0.out
  have HM : Hid (l1.length < m) := by have := HS.out d l a l1 HR1.out.symm; show _ < _; omega
  have hRw := HLT.out
  have hBw := HBL.out
  have hGw := HGL.out
  obtain ⟨w3, hw3, HL3, HV3, HT3, HF3, hs3⟩ := new_tree_ ht hl
  have hz2 := HV1.out.frm hf (by omega)
  have hb2 := HB1.out.frm hf hBR
  have hg2 := HG1.out.frm hf hGR
  have HZ3 := Lib.hid (hz2.frm HF3.out (by omega))
  have HB3 := Lib.hid (hb2.frm HF3.out hBR)
  have HG3 := Lib.hid (hg2.frm HF3.out hGR)
  have HFW := Lib.hid (frm_trans (frm_trans HF1.out hf) HF3.out)
  have HG : Hid (w.heap.size < w2.heap.size) := block_lt hz2
  obtain ⟨ga, hga⟩ : ∃ ga, ga = w2.heap.size := ⟨_, rfl⟩
  have HT3b : Hid (TrC (fun j => w.heap.size < j ∧ j < ga) w3 a (trL o n A c)) := HT3.out.in_ fun j h1 _ => by have := h1.1; simp at this; omega
  have hb0 := fun ob => (hb2.alloc ob).cell
  clear ht hl hf HH1 HF1 HV1 HB1 HG1 HR0 HR1 hz2 HH HT3 HF3 HB HGV hb2 hg2
  simp only [trA]
  go_wp2_with fail
  rw [← hw3]
  rw [← hga] at HV3 HG ⊢
  clear hw3 hga hs3 hb0
  by_cases hq : ∃ l2, l1 = 44 :: l2
  ·obtain ⟨l2, rfl⟩ := hq
   refine (wantL_yes R s 44 l2 d _ HL3.out hs).mono ?_
   rintro e w4 ⟨rfl, h4, f4⟩
   have hg := HG.out
   have HL4 := Lib.hid h4
   have HV4 := Lib.hid (HV3.out.frm f4 (by omega))
   have HZ4 := Lib.hid (HZ3.out.frm f4 (by omega))
   have HB4 := Lib.hid (HB3.out.frm f4 hBR)
   have HG4 := Lib.hid (HG3.out.frm f4 hGR)
   have HT4 := Lib.hid (HT3b.out.frm_ f4 fun j hj => by omega)
   have HF4 := Lib.hid (frm_trans HFW.out f4)
   clear h4 f4 HL3 HV3 HZ3 HB3 HG3 HT3b HFW
   go_wp2_with fail
   obtain ⟨rn, hrn⟩ : ∃ rn, rn = W d l2 := ⟨_, rfl⟩
   have HE5 : Hid (r0 = rn.bind fun b l3 => wantRd 41 l3 fun l4 => .ok (.bin op a b) l4) := by
    show _ = _
    rw [hrn, HE0.out]; simp only [wantRd, if_true]
   have HC5 : Hid (∀ W4, RdL W4 R s l2 d → Frm (· = R) w4 W4 → Calls Tryz.prog 84 #[.pointer (some ⟨R, 0, none⟩)] W4 (Reads_ R s d W4 rn)) := fun W4 h4 hf4 => by
    have hm2 := HM.out
    rw [hrn]; exact hW R s l2 d W4 h4 hs hd (by simp only [List.length_cons] at hm2; omega) (hnv.frm (frm_trans HF4.out hf4))
   have hg4 := block_lt HV4.out
   have hcells : ∀ W8 : World, W8.heap[G]? = w4.heap[G]? → W8.heap[ga]? = w4.heap[ga]? → W8.heap[B]? = w4.heap[B]? → (W8.cell? ⟨G, 0, none⟩ = some (.int .u8 (op.toNat : Int)) ∧ W8.cell? ⟨ga, 0, none⟩ = some (.int .u8 o) ∧ W8.cell? ⟨ga, 1, none⟩ = some (.int .i64 n) ∧ W8.cell? ⟨ga, 2, none⟩ = some (.slice A c c) ∧ W8.cell? ⟨B, 0, none⟩ = some (.pointer (some ⟨R, 0, none⟩))) := fun W8 h1 h2 h3 =>
    ⟨BVar.cell (h1.trans HG4.out), (TVar.cells (h2.trans HV4.out : TVar W8 ga (.int .u8 o) (.int .i64 n) (.slice A c c))).1, (TVar.cells (h2.trans HV4.out : TVar W8 ga (.int .u8 o) (.int .i64 n) (.slice A c c))).2.1, (TVar.cells (h2.trans HV4.out : TVar W8 ga (.int .u8 o) (.int .i64 n) (.slice A c c))).2.2.1, PBox.cell (h3.trans HB4.out)⟩
   have hGw4 : G < w4.heap.size := block_lt HG4.out
   have hBw4 : B < w4.heap.size := block_lt HB4.out
   have hS0 : (w4.drew.cell? ⟨G, 0, none⟩ = some (.int .u8 (op.toNat : Int)) ∧ w4.drew.cell? ⟨ga, 0, none⟩ = some (.int .u8 o) ∧ w4.drew.cell? ⟨ga, 1, none⟩ = some (.int .i64 n) ∧ w4.drew.cell? ⟨ga, 2, none⟩ = some (.slice A c c) ∧ w4.drew.cell? ⟨B, 0, none⟩ = some (.pointer (some ⟨R, 0, none⟩))) := hcells w4.drew rfl rfl rfl
   have hS0a : ∀ ob, ((w4.alloc ob).drew.cell? ⟨G, 0, none⟩ = some (.int .u8 (op.toNat : Int)) ∧ (w4.alloc ob).drew.cell? ⟨ga, 0, none⟩ = some (.int .u8 o) ∧ (w4.alloc ob).drew.cell? ⟨ga, 1, none⟩ = some (.int .i64 n) ∧ (w4.alloc ob).drew.cell? ⟨ga, 2, none⟩ = some (.slice A c c) ∧ (w4.alloc ob).drew.cell? ⟨B, 0, none⟩ = some (.pointer (some ⟨R, 0, none⟩))) := fun ob => hcells (w4.alloc ob).drew (heap_alloc_old _ _ hGw4) (heap_alloc_old _ _ hg4) (heap_alloc_old _ _ hBw4)
   have hpost : ∀ W4 : World, RdL W4 R s l2 d → Frm (· = R) w4 W4 → Calls Tryz.prog 84 #[.pointer (some ⟨R, 0, none⟩)] W4 fun e w8 => (∃ k j, rn = .bad k j ∧ e = faultE (s.size - k) j ∧ (∃ p, RdAt w8 R s p d) ∧ Frm (· = R) w4 w8) ∨
       ∃ b l3 o8 n8 A8 d8, Hid (rn = .ok b l3) ∧ e = .returned (.agg #[.int .u8 o8, .int .i64 n8, .slice A8 d8 d8]) ∧ Hid (TrC (fun j => W4.heap.size ≤ j ∧ j < w8.heap.size) w8 b (trL o8 n8 A8 d8)) ∧ Hid (RdL w8 R s l3 d) ∧ Hid (Frm (· = R) W4 w8) ∧
       (w8.cell? ⟨G, 0, none⟩ = some (.int .u8 (op.toNat : Int)) ∧ w8.cell? ⟨ga, 0, none⟩ = some (.int .u8 o) ∧ w8.cell? ⟨ga, 1, none⟩ = some (.int .i64 n) ∧ w8.cell? ⟨ga, 2, none⟩ = some (.slice A c c) ∧ w8.cell? ⟨B, 0, none⟩ = some (.pointer (some ⟨R, 0, none⟩))) ∧ (∀ ob, ((w8.alloc ob).cell? ⟨G, 0, none⟩ = some (.int .u8 (op.toNat : Int)) ∧ (w8.alloc ob).cell? ⟨ga, 0, none⟩ = some (.int .u8 o) ∧ (w8.alloc ob).cell? ⟨ga, 1, none⟩ = some (.int .i64 n) ∧ (w8.alloc ob).cell? ⟨ga, 2, none⟩ = some (.slice A c c) ∧ (w8.alloc ob).cell? ⟨B, 0, none⟩ = some (.pointer (some ⟨R, 0, none⟩)))) ∧ (∀ ob ob2, (((w8.alloc ob).alloc ob2).cell? ⟨G, 0, none⟩ = some (.int .u8 (op.toNat : Int)) ∧ ((w8.alloc ob).alloc ob2).cell? ⟨ga, 0, none⟩ = some (.int .u8 o) ∧ ((w8.alloc ob).alloc ob2).cell? ⟨ga, 1, none⟩ = some (.int .i64 n) ∧ ((w8.alloc ob).alloc ob2).cell? ⟨ga, 2, none⟩ = some (.slice A c c) ∧ ((w8.alloc ob).alloc ob2).cell? ⟨B, 0, none⟩ = some (.pointer (some ⟨R, 0, none⟩)))) ∧ (∀ ob x y z, (((((w8.alloc ob).setCell ⟨w4.heap.size, 0, none⟩ x).setCell ⟨w4.heap.size, 1, none⟩ y).setCell ⟨w4.heap.size, 2, none⟩ z).cell? ⟨G, 0, none⟩ = some (.int .u8 (op.toNat : Int)) ∧ ((((w8.alloc ob).setCell ⟨w4.heap.size, 0, none⟩ x).setCell ⟨w4.heap.size, 1, none⟩ y).setCell ⟨w4.heap.size, 2, none⟩ z).cell? ⟨ga, 0, none⟩ = some (.int .u8 o) ∧ ((((w8.alloc ob).setCell ⟨w4.heap.size, 0, none⟩ x).setCell ⟨w4.heap.size, 1, none⟩ y).setCell ⟨w4.heap.size, 2, none⟩ z).cell? ⟨ga, 1, none⟩ = some (.int .i64 n) ∧ ((((w8.alloc ob).setCell ⟨w4.heap.size, 0, none⟩ x).setCell ⟨w4.heap.size, 1, none⟩ y).setCell ⟨w4.heap.size, 2, none⟩ z).cell? ⟨ga, 2, none⟩ = some (.slice A c c) ∧ ((((w8.alloc ob).setCell ⟨w4.heap.size, 0, none⟩ x).setCell ⟨w4.heap.size, 1, none⟩ y).setCell ⟨w4.heap.size, 2, none⟩ z).cell? ⟨B, 0, none⟩ = some (.pointer (some ⟨R, 0, none⟩)))) ∧ (∀ ob ob2 x y z, ((((((w8.alloc ob).alloc ob2).setCell ⟨w8.heap.size, 0, none⟩ x).setCell ⟨w8.heap.size, 1, none⟩ y).setCell ⟨w8.heap.size, 2, none⟩ z).cell? ⟨G, 0, none⟩ = some (.int .u8 (op.toNat : Int)) ∧ (((((w8.alloc ob).alloc ob2).setCell ⟨w8.heap.size, 0, none⟩ x).setCell ⟨w8.heap.size, 1, none⟩ y).setCell ⟨w8.heap.size, 2, none⟩ z).cell? ⟨ga, 0, none⟩ = some (.int .u8 o) ∧ (((((w8.alloc ob).alloc ob2).setCell ⟨w8.heap.size, 0, none⟩ x).setCell ⟨w8.heap.size, 1, none⟩ y).setCell ⟨w8.heap.size, 2, none⟩ z).cell? ⟨ga, 1, none⟩ = some (.int .i64 n) ∧ (((((w8.alloc ob).alloc ob2).setCell ⟨w8.heap.size, 0, none⟩ x).setCell ⟨w8.heap.size, 1, none⟩ y).setCell ⟨w8.heap.size, 2, none⟩ z).cell? ⟨ga, 2, none⟩ = some (.slice A c c) ∧ (((((w8.alloc ob).alloc ob2).setCell ⟨w8.heap.size, 0, none⟩ x).setCell ⟨w8.heap.size, 1, none⟩ y).setCell ⟨w8.heap.size, 2, none⟩ z).cell? ⟨B, 0, none⟩ = some (.pointer (some ⟨R, 0, none⟩)))) ∧ (∀ ob ob2 x y z, ((((((w8.alloc ob).alloc ob2).setCell ⟨w8.heap.size + 1, 0, none⟩ x).setCell ⟨w8.heap.size + 1, 1, none⟩ y).setCell ⟨w8.heap.size + 1, 2, none⟩ z).cell? ⟨G, 0, none⟩ = some (.int .u8 (op.toNat : Int)) ∧ (((((w8.alloc ob).alloc ob2).setCell ⟨w8.heap.size + 1, 0, none⟩ x).setCell ⟨w8.heap.size + 1, 1, none⟩ y).setCell ⟨w8.heap.size + 1, 2, none⟩ z).cell? ⟨ga, 0, none⟩ = some (.int .u8 o) ∧ (((((w8.alloc ob).alloc ob2).setCell ⟨w8.heap.size + 1, 0, none⟩ x).setCell ⟨w8.heap.size + 1, 1, none⟩ y).setCell ⟨w8.heap.size + 1, 2, none⟩ z).cell? ⟨ga, 1, none⟩ = some (.int .i64 n) ∧ (((((w8.alloc ob).alloc ob2).setCell ⟨w8.heap.size + 1, 0, none⟩ x).setCell ⟨w8.heap.size + 1, 1, none⟩ y).setCell ⟨w8.heap.size + 1, 2, none⟩ z).cell? ⟨ga, 2, none⟩ = some (.slice A c c) ∧ (((((w8.alloc ob).alloc ob2).setCell ⟨w8.heap.size + 1, 0, none⟩ x).setCell ⟨w8.heap.size + 1, 1, none⟩ y).setCell ⟨w8.heap.size + 1, 2, none⟩ z).cell? ⟨B, 0, none⟩ = some (.pointer (some ⟨R, 0, none⟩)))) := by
    intro W4 h4 hf4
    refine (HC5.out W4 h4 hf4).mono ?_
    intro e w8 hr
    cases hcr : rn with
    | bad k j =>
     rw [hcr] at hr
     obtain ⟨h1, h2, h3⟩ := hr
     exact .inl ⟨k, j, rfl, h1, h2, frm_trans hf4 h3⟩
    | ok b l3 =>
     rw [hcr] at hr
     obtain ⟨o8, n8, A8, d8, rfl, ht, hl, hf⟩ := hr
     have hf2 : Frm (· = R) w4 w8 := frm_trans hf4 hf
     have hs8 := hf2.size
     have k1 : ∀ j, j < w4.heap.size → j ≠ R → w8.heap[j]? = w4.heap[j]? := fun j h1 h2 => hf2.block j h1 h2
     have far1 : ∀ ob j, j < w4.heap.size → j ≠ R → (w8.alloc ob).heap[j]? = w4.heap[j]? := fun ob j h1 h2 => (heap_alloc_old _ _ (by omega)).trans (k1 j h1 h2)
     have far2 : ∀ ob ob2 j, j < w4.heap.size → j ≠ R → ((w8.alloc ob).alloc ob2).heap[j]? = w4.heap[j]? := fun ob ob2 j h1 h2 => (heap_alloc_old _ _ (by simp; omega)).trans (far1 ob j h1 h2)
     exact .inr ⟨b, l3, o8, n8, A8, d8, rfl, rfl, ht.in_ fun j h1 h2 => ⟨h1, h2⟩, hl, hf, hcells w8 (k1 G hGw4 hGR) (k1 ga hg4 (by omega)) (k1 B hBw4 hBR), fun ob => hcells _ (far1 ob G hGw4 hGR) (far1 ob ga hg4 (by omega)) (far1 ob B hBw4 hBR), fun ob ob2 => hcells _ (far2 ob ob2 G hGw4 hGR) (far2 ob ob2 ga hg4 (by omega)) (far2 ob ob2 B hBw4 hBR),
      fun ob x y z => hcells _ ((tset_far _ (by omega) x y z).trans (far1 ob G hGw4 hGR)) ((tset_far _ (by omega) x y z).trans (far1 ob ga hg4 (by omega))) ((tset_far _ (by omega) x y z).trans (far1 ob B hBw4 hBR)),
      fun ob ob2 x y z => hcells _ ((tset_far _ (by omega) x y z).trans (far2 ob ob2 G hGw4 hGR)) ((tset_far _ (by omega) x y z).trans (far2 ob ob2 ga hg4 (by omega))) ((tset_far _ (by omega) x y z).trans (far2 ob ob2 B hBw4 hBR)),
      fun ob ob2 x y z => hcells _ ((tset_far _ (by omega) x y z).trans (far2 ob ob2 G hGw4 hGR)) ((tset_far _ (by omega) x y z).trans (far2 ob ob2 ga hg4 (by omega))) ((tset_far _ (by omega) x y z).trans (far2 ob ob2 B hBw4 hBR))⟩
   have HCA := Lib.hid (hpost w4.drew (HL4.out.keep rfl) (Frm.refl _ _).drew)
   have HCB := Lib.hid (hpost (w4.alloc (.cells #[.int .u8 0, .int .i64 0, .slice none 0 0] 86)).drew (HL4.out.keep (heap_alloc_old _ _ HL4.out.lt)) ((Frm.refl _ _).alloc _).drew)
   have HBAD : Hid (∀ k j w8, rn = .bad k j → (∃ p, RdAt w8 R s p d) → Frm (· = R) w4 w8 → Reads_ R s d w r0 (faultE (s.size - k) j) w8) := fun k j w8 h1 h2 h3 => by
    have e0 : r0 = .bad k j := by rw [HE5.out, h1]; rfl
    rw [e0]; exact ⟨rfl, h2, frm_trans HF4.out h3⟩
   have HTV : Hid (∀ w8, Hid (Frm (· = R) (w4.alloc (.cells #[.int .u8 0, .int .i64 0, .slice none 0 0] 86)).drew w8) → TVar w8 w4.heap.size (.int .u8 0) (.int .i64 0) (.slice none 0 0)) := fun w8 h8 =>
    TVar.frm (w := (w4.alloc (.cells #[.int .u8 0, .int .i64 0, .slice none 0 0] 86)).drew) (TVar.new w4 _ _ _) h8.out (by have := HL4.out.lt; omega)
   clear hpost HE0 hrn hcells
   go_region_held2 (fun W => W.cell? ⟨G, 0, none⟩ = some (.int .u8 (op.toNat : Int)) ∧ W.cell? ⟨ga, 0, none⟩ = some (.int .u8 o) ∧ W.cell? ⟨ga, 1, none⟩ = some (.int .i64 n) ∧ W.cell? ⟨ga, 2, none⟩ = some (.slice A c c) ∧ W.cell? ⟨B, 0, none⟩ = some (.pointer (some ⟨R, 0, none⟩))) (first | with_reducible exact hS0 | with_reducible exact hS0a _ | with_reducible exact hS8 | with_reducible exact hS8a _ | with_reducible exact hS8b _ _ | with_reducible exact hS8c _ _ _ _ | with_reducible exact hS8d _ _ _ _ _ | with_reducible exact hS8e _ _ _ _ _) (first
    | (go_at_call 84; refine HCA.out.mono ?_; rintro e w8 (⟨k, j, h1, rfl, h2, h3⟩ | ⟨b, l3, o8, n8, A8, d8, HRN, rfl, HT8, HL8, HF8, hS8, hS8a, hS8b, hS8c, hS8d, hS8e⟩); exact ⟨rfl, HBAD.out k j w8 h1 h2 h3⟩)
    | (go_at_call 84; refine HCB.out.mono ?_; rintro e w8 (⟨k, j, h1, rfl, h2, h3⟩ | ⟨b, l3, o8, n8, A8, d8, HRN, rfl, HT8, HL8, HF8, hS8, hS8a, hS8b, hS8c, hS8d, hS8e⟩); exact ⟨rfl, HBAD.out k j w8 h1 h2 h3⟩; obtain ⟨t0, t1, t2, tf⟩ := (HTV.out w8 HF8).allocs))
   ·skip
    have hw84 : Frm (· = R) w4 w8 := frm_trans (Frm.refl _ _).drew HF8.out
    have hs8 := hw84.size
    have e0 : r0 = wantRd 41 l3 fun l4 => .ok (.bin op a b) l4 := by rw [HE5.out, HRN.out]; rfl
    have HEF := Lib.hid e0
    have ha8 : TrC (fun j => w.heap.size < j ∧ j < ga) w8 a (trL o n A c) := HT4.out.frm_ hw84 fun j hj => by omega
    have hb8 := HB4.out.frm hw84 hBR
    have hz8 := HZ4.out.frm hw84 (by omega)
    have hf8 := frm_trans HF4.out hw84
    have hb9 : TrC (fun j => w4.heap.size ≤ j ∧ j < w8.heap.size) w8 b (trL o8 n8 A8 d8) := HT8.out.in_ fun j hj _ => by have h1 := hj.1; have h2 := hj.2; exact ⟨h1, h2⟩
    obtain ⟨W9, hW9⟩ : ∃ W9, W9 = (w8.alloc (.cells #[.int .u8 o, .int .i64 n, .slice A c c, .int .u8 o8, .int .i64 n8, .slice A8 d8 d8] 86)).alloc (.cells #[.int .u8 (op.toNat : Int), .int .i64 0, .slice (some ⟨w8.heap.size, 0, none⟩) 2 2] 86) := ⟨_, rfl⟩
    have HN : Hid (NodeOut R s l3 d w B (.bin op a b) (w8.heap.size + 1) (w8.heap.size) (op.toNat : Int) W9) := by
     rw [hW9]
     refine node_two HL8.out hb8 hz8 (ha8.in_ fun j hj _ => hj.1) (hb9.in_ fun j hj _ => by omega) ((hf8.alloc _).alloc _) (fun j hj => (heap_alloc_old _ _ (by simp; omega)).trans (heap_alloc_old _ _ hj)) (by omega) (Nat.le_refl _) (by omega) ((heap_alloc_old _ _ (by simp)).trans (heap_alloc_new _ _)) ?_
     have h := heap_alloc_new (w8.alloc (.cells #[.int .u8 o, .int .i64 n, .slice A c c, .int .u8 o8, .int .i64 n8, .slice A8 d8 d8] 86)) (.cells #[.int .u8 (op.toNat : Int), .int .i64 0, .slice (some ⟨w8.heap.size, 0, none⟩) 2 2] 86)
     rw [show (w8.alloc (.cells #[.int .u8 o, .int .i64 n, .slice A c c, .int .u8 o8, .int .i64 n8, .slice A8 d8 d8] 86)).heap.size = w8.heap.size + 1 from by simp] at h
     exact h
    skip
    rw [← hW9]
    clear hW9 HT8 HL8 HF8 HRN hS8 hS8a hS8b hS8c hS8d hS8e hS0 hS0a HCA HCB HTV HBAD HC5 HE5 e0 ha8 hb8 hz8 hf8 hb9 HT4 HV4 HZ4 HB4 HG4 HF4 HL4
    obtain ⟨m0, m1, m2, mf⟩ := HN.out.var.cells
    have hbx := HN.out.box.cell
    go_wp2_with fail
    by_cases hq2 : ∃ l4, l3 = 41 :: l4
    ·obtain ⟨l4, rfl⟩ := hq2
     have e1 : r0 = .ok (.bin op a b) l4 := HEF.out
     clear HEF
     subst e1
     refine (wantL_yes R s 41 l4 d _ HN.out.rd hs).mono ?_
     rintro e w10 ⟨rfl, h10, f10⟩
     have htv := HN.out.tv
     have hzz := HN.out.res.frm f10 (by omega)
     obtain ⟨z0, z1, z2, zf⟩ := hzz.cells
     obtain ⟨y0, y1, y2, yf⟩ := (HN.out.var.frm f10 (by omega)).cells
     obtain ⟨q0, q1, q2, qf⟩ := (pass_var (x := .int .u8 (op.toNat : Int)) (y := .int .i64 0) (z := .slice (some ⟨w8.heap.size, 0, none⟩) 2 2) hzz).cells
     have hr : Reads_ R s d w (.ok (.bin op a b) l4) (.returned (.agg (trA (op.toNat : Int) 0 (some ⟨w8.heap.size, 0, none⟩) 2))) (tset w10 w.heap.size (.int .u8 (op.toNat : Int)) (.int .i64 0) (.slice (some ⟨w8.heap.size, 0, none⟩) 2 2)) :=
      pass_ok (HN.out.tree.frm_ f10 fun j hj => by omega) (fun j hj => by omega) h10 (frm_trans HN.out.frm f10) (by omega) (Nat.le_refl _)
     have HRR := Lib.hid hr
     simp only [tset] at q0 q1 q2
     clear h10 f10 hzz hr
     go_wp2_with fail
     refine ⟨rfl, .agg (trA (op.toNat : Int) 0 (some ⟨w8.heap.size, 0, none⟩) 2), ?_, HRR.out⟩
     simp only [results, Tryz.results198]
     simp [go_sem, q0, q1, q2, trA]
    ·have e1 : r0 = .bad l3.length 2 := HEF.out.trans (want_fails_ _ fun r e => hq2 ⟨r, e⟩)
     clear HEF
     subst e1
     refine (wantL_no R s 41 l3 d _ HN.out.rd hs fun r e => hq2 ⟨r, e⟩).mono ?_
     rintro e w10 ⟨rfl, h10, f10⟩
     exact ⟨rfl, rfl, ⟨_, h10.2.2⟩, frm_trans HN.out.frm f10⟩
   ·skip
    have hw84 : Frm (· = R) w4 w8 := frm_trans (Frm.refl _ _).drew HF8.out
    have hs8 := hw84.size
    have e0 : r0 = wantRd 41 l3 fun l4 => .ok (.bin op a b) l4 := by rw [HE5.out, HRN.out]; rfl
    have HEF := Lib.hid e0
    have ha8 : TrC (fun j => w.heap.size < j ∧ j < ga) w8 a (trL o n A c) := HT4.out.frm_ hw84 fun j hj => by omega
    have hb8 := HB4.out.frm hw84 hBR
    have hz8 := HZ4.out.frm hw84 (by omega)
    have hf8 := frm_trans HF4.out hw84
    have hb9 : TrC (fun j => w4.heap.size ≤ j ∧ j < w8.heap.size) w8 b (trL o8 n8 A8 d8) := HT8.out.in_ fun j hj _ => by have h1 := hj.1; have h2 := hj.2; exact ⟨h1, h2⟩
    obtain ⟨W9, hW9⟩ : ∃ W9, W9 = (w8.alloc (.cells #[.int .u8 (op.toNat : Int), .int .i64 0, .slice (some ⟨w8.heap.size + 1, 0, none⟩) 2 2] 86)).alloc (.cells #[.int .u8 o, .int .i64 n, .slice A c c, .int .u8 o8, .int .i64 n8, .slice A8 d8 d8] 86) := ⟨_, rfl⟩
    have HN : Hid (NodeOut R s l3 d w B (.bin op a b) (w8.heap.size) ((w8.heap.size + 1)) (op.toNat : Int) W9) := by
     rw [hW9]
     refine node_two HL8.out hb8 hz8 (ha8.in_ fun j hj _ => hj.1) (hb9.in_ fun j hj _ => by omega) ((hf8.alloc _).alloc _) (fun j hj => (heap_alloc_old _ _ (by simp; omega)).trans (heap_alloc_old _ _ hj)) (Nat.le_refl _) (by omega) (by omega) ?_ ((heap_alloc_old _ _ (by simp)).trans (heap_alloc_new _ _))
     have h := heap_alloc_new (w8.alloc (.cells #[.int .u8 (op.toNat : Int), .int .i64 0, .slice (some ⟨w8.heap.size + 1, 0, none⟩) 2 2] 86)) (.cells #[.int .u8 o, .int .i64 n, .slice A c c, .int .u8 o8, .int .i64 n8, .slice A8 d8 d8] 86)
     rw [show (w8.alloc (.cells #[.int .u8 (op.toNat : Int), .int .i64 0, .slice (some ⟨w8.heap.size + 1, 0, none⟩) 2 2] 86)).heap.size = w8.heap.size + 1 from by simp] at h
     exact h
    skip
    rw [← hW9]
    clear hW9 HT8 HL8 HF8 HRN hS8 hS8a hS8b hS8c hS8d hS8e hS0 hS0a HCA HCB HTV HBAD HC5 HE5 e0 ha8 hb8 hz8 hf8 hb9 HT4 HV4 HZ4 HB4 HG4 HF4 HL4
    obtain ⟨m0, m1, m2, mf⟩ := HN.out.var.cells
    have hbx := HN.out.box.cell
    go_wp2_with fail
    by_cases hq2 : ∃ l4, l3 = 41 :: l4
    ·obtain ⟨l4, rfl⟩ := hq2
     have e1 : r0 = .ok (.bin op a b) l4 := HEF.out
     clear HEF
     subst e1
     refine (wantL_yes R s 41 l4 d _ HN.out.rd hs).mono ?_
     rintro e w10 ⟨rfl, h10, f10⟩
     have htv := HN.out.tv
     have hzz := HN.out.res.frm f10 (by omega)
     obtain ⟨z0, z1, z2, zf⟩ := hzz.cells
     obtain ⟨y0, y1, y2, yf⟩ := (HN.out.var.frm f10 (by omega)).cells
     obtain ⟨q0, q1, q2, qf⟩ := (pass_var (x := .int .u8 (op.toNat : Int)) (y := .int .i64 0) (z := .slice (some ⟨(w8.heap.size + 1), 0, none⟩) 2 2) hzz).cells
     have hr : Reads_ R s d w (.ok (.bin op a b) l4) (.returned (.agg (trA (op.toNat : Int) 0 (some ⟨(w8.heap.size + 1), 0, none⟩) 2))) (tset w10 w.heap.size (.int .u8 (op.toNat : Int)) (.int .i64 0) (.slice (some ⟨(w8.heap.size + 1), 0, none⟩) 2 2)) :=
      pass_ok (HN.out.tree.frm_ f10 fun j hj => by omega) (fun j hj => by omega) h10 (frm_trans HN.out.frm f10) (by omega) (Nat.le_refl _)
     have HRR := Lib.hid hr
     simp only [tset] at q0 q1 q2
     clear h10 f10 hzz hr
     go_wp2_with fail
     refine ⟨rfl, .agg (trA (op.toNat : Int) 0 (some ⟨(w8.heap.size + 1), 0, none⟩) 2), ?_, HRR.out⟩
     simp only [results, Tryz.results198]
     simp [go_sem, q0, q1, q2, trA]
    ·have e1 : r0 = .bad l3.length 2 := HEF.out.trans (want_fails_ _ fun r e => hq2 ⟨r, e⟩)
     clear HEF
     subst e1
     refine (wantL_no R s 41 l3 d _ HN.out.rd hs fun r e => hq2 ⟨r, e⟩).mono ?_
     rintro e w10 ⟨rfl, h10, f10⟩
     exact ⟨rfl, rfl, ⟨_, h10.2.2⟩, frm_trans HN.out.frm f10⟩
   ·skip
    have hw84 : Frm (· = R) w4 w8 := frm_trans ((Frm.refl _ _).alloc _).drew HF8.out
    have hs8 := hw84.size
    have e0 : r0 = wantRd 41 l3 fun l4 => .ok (.bin op a b) l4 := by rw [HE5.out, HRN.out]; rfl
    have HEF := Lib.hid e0
    have ha8 : TrC (fun j => w.heap.size < j ∧ j < ga) w8 a (trL o n A c) := HT4.out.frm_ hw84 fun j hj => by omega
    have hb8 := HB4.out.frm hw84 hBR
    have hz8 := HZ4.out.frm hw84 (by omega)
    have hf8 := frm_trans HF4.out hw84
    have hb9 : TrC (fun j => w4.heap.size + 1 ≤ j ∧ j < w8.heap.size) w8 b (trL o8 n8 A8 d8) := HT8.out.in_ fun j hj _ => by have h1 := hj.1; have h2 := hj.2; exact ⟨by simpa using h1, h2⟩
    obtain ⟨W9, hW9⟩ : ∃ W9, W9 = tset (w8.alloc (.cells #[.int .u8 o, .int .i64 n, .slice A c c, .int .u8 o8, .int .i64 n8, .slice A8 d8 d8] 86)) w4.heap.size (.int .u8 (op.toNat : Int)) (.int .i64 0) (.slice (some ⟨w8.heap.size, 0, none⟩) 2 2) := ⟨_, rfl⟩
    have HN : Hid (NodeOut R s l3 d w B (.bin op a b) (w4.heap.size) (w8.heap.size) (op.toNat : Int) W9) := by
     rw [hW9]
     exact node_out HL8.out hb8 hz8 (HTV.out w8 HF8) (ha8.in_ fun j hj _ => ⟨hj.1, by omega⟩) (hb9.in_ fun j hj _ => ⟨by omega, by omega⟩) hf8 (by omega) hRw hBw
    simp only [tset] at hW9
    rw [← hW9]
    clear hW9 HT8 HL8 HF8 HRN hS8 hS8a hS8b hS8c hS8d hS8e hS0 hS0a HCA HCB HTV HBAD HC5 HE5 e0 ha8 hb8 hz8 hf8 hb9 HT4 HV4 HZ4 HB4 HG4 HF4 HL4
    obtain ⟨m0, m1, m2, mf⟩ := HN.out.var.cells
    have hbx := HN.out.box.cell
    go_wp2_with fail
    by_cases hq2 : ∃ l4, l3 = 41 :: l4
    ·obtain ⟨l4, rfl⟩ := hq2
     have e1 : r0 = .ok (.bin op a b) l4 := HEF.out
     clear HEF
     subst e1
     refine (wantL_yes R s 41 l4 d _ HN.out.rd hs).mono ?_
     rintro e w10 ⟨rfl, h10, f10⟩
     have htv := HN.out.tv
     have hzz := HN.out.res.frm f10 (by omega)
     obtain ⟨z0, z1, z2, zf⟩ := hzz.cells
     obtain ⟨y0, y1, y2, yf⟩ := (HN.out.var.frm f10 (by omega)).cells
     obtain ⟨q0, q1, q2, qf⟩ := (pass_var (x := .int .u8 (op.toNat : Int)) (y := .int .i64 0) (z := .slice (some ⟨w8.heap.size, 0, none⟩) 2 2) hzz).cells
     have hr : Reads_ R s d w (.ok (.bin op a b) l4) (.returned (.agg (trA (op.toNat : Int) 0 (some ⟨w8.heap.size, 0, none⟩) 2))) (tset w10 w.heap.size (.int .u8 (op.toNat : Int)) (.int .i64 0) (.slice (some ⟨w8.heap.size, 0, none⟩) 2 2)) :=
      pass_ok (HN.out.tree.frm_ f10 fun j hj => by omega) (fun j hj => by omega) h10 (frm_trans HN.out.frm f10) (by omega) (Nat.le_refl _)
     have HRR := Lib.hid hr
     simp only [tset] at q0 q1 q2
     clear h10 f10 hzz hr
     go_wp2_with fail
     refine ⟨rfl, .agg (trA (op.toNat : Int) 0 (some ⟨w8.heap.size, 0, none⟩) 2), ?_, HRR.out⟩
     simp only [results, Tryz.results198]
     simp [go_sem, q0, q1, q2, trA]
    ·have e1 : r0 = .bad l3.length 2 := HEF.out.trans (want_fails_ _ fun r e => hq2 ⟨r, e⟩)
     clear HEF
     subst e1
     refine (wantL_no R s 41 l3 d _ HN.out.rd hs fun r e => hq2 ⟨r, e⟩).mono ?_
     rintro e w10 ⟨rfl, h10, f10⟩
     exact ⟨rfl, rfl, ⟨_, h10.2.2⟩, frm_trans HN.out.frm f10⟩
  ·have e0 : r0 = .bad l1.length 2 := HE0.out.trans (want_fails_ _ fun r e => hq ⟨r, e⟩)
   clear HE0
   subst e0
   refine (wantL_no R s 44 l1 d _ HL3.out hs fun r e => hq ⟨r, e⟩).mono ?_
   rintro e w7 ⟨rfl, h7, f7⟩
   exact ⟨rfl, rfl, ⟨_, h7.2.2⟩, frm_trans HFW.out f7⟩
end Go.Proofs.YtfndhfekbbbliaaGreatDoor

/-
  Package expr: the contract of one. Conditions: the text takes at most 120 bytes, the depth is at most 20.
-/
namespace Go.Proofs.YtfndhfekbbbliaaGreatDoor
open Go.RowKit Go.Shelf
set_option linter.unusedVariables false
def minS : ByteArray := ⟨#[109, 105, 110, 40]⟩
def maxS : ByteArray := ⟨#[109, 97, 120, 40]⟩
structure OneInv (R : Nat) (s : ByteArray) (l : List UInt8) (d : Nat) (w wx : World) : Prop where
 rd : RdL wx R s l d
 box : PBox wx w.heap.size R
 res : TVar wx (w.heap.size + 1) (.int .u8 0) (.int .i64 0) (.slice none 0 0)
 row : wx.heap[w.heap.size + 2]? = some (.cells #[.string minS, .string maxS] 9 (0, 0))
 frm : Frm (· = R) w wx
theorem OneInv.on {R d : Nat} {s : ByteArray} {l : List UInt8} {w wx w' : World} (h : OneInv R s l d w wx) (hR : R < w.heap.size) (hl : RdL w' R s l d) (hf : Frm (· = R) wx w') : OneInv R s l d w w' :=
 ⟨hl, h.box.frm hf (by omega), h.res.frm hf (by omega), (hf.block _ (block_lt h.row) (by omega)).trans h.row, frm_trans h.frm hf⟩
def decSet : ByteArray := ⟨#[48, 49, 50, 51, 52, 53, 54, 55, 56, 57]⟩
theorem dec_all : ∀ n : Fin 256, decSet.data.toList.contains (UInt8.ofNat n.1) = isDig (UInt8.ofNat n.1) := by decide +kernel
theorem dec_contains (c : UInt8) : decSet.data.toList.contains c = isDig c := by
 have h := dec_all ⟨c.toNat, c.toNat_lt⟩
 have e : UInt8.ofNat c.toNat = c := by simp
 simp only [e] at h
 exact h
theorem trim_split (l : List UInt8) : l = digsOf l ++ Lib.trimLeftS l decSet.data.toList := by
 unfold Lib.trimLeftS digsOf
 rw [show (fun c => decSet.data.toList.contains c) = isDig from funext dec_contains]
 exact List.takeWhile_append_dropWhile.symm
theorem triml_ok (t : ByteArray) (w : World) : Calls Tryz.prog 200 #[.string t, .string decSet] w fun e w' => e = .returned (.string ⟨(Lib.trimLeftS t.data.toList decSet.data.toList).toArray⟩) ∧ Below w.heap.size w w' :=
 Any.strings_TrimLeft_laid Tryz.triml (by kernel_rfl) t decSet w (by decide) (fun j b h => by
  have hm := List.mem_of_getElem? h
  have hd := dec_contains b
  rw [List.contains_iff_mem.2 hm] at hd
  unfold isDig at hd
  have := hd.symm
  rw [Bool.and_eq_true, decide_eq_true_iff, decide_eq_true_iff] at this
  omega)
def foldDig (a : Nat) (ds : List UInt8) : Nat := ds.foldl (fun a c => a * 10 + (c.toNat - 48)) a
theorem fold_ge (ds : List UInt8) : ∀ a, a ≤ foldDig a ds := by
 induction ds with
 | nil => intro a; exact Nat.le_refl _
 | cons c r ih => intro a; exact Nat.le_trans (by omega) (ih (a * 10 + (c.toNat - 48)))
theorem parse_dig (ds : List UInt8) : ∀ a, (∀ c ∈ ds, isDig c = true) → Lib.parseUint10 a ds = .ok (foldDig a ds) ∨ (Lib.parseUint10 a ds = .range ∧ 18446744073709551616 ≤ foldDig a ds) := by
 induction ds with
 | nil => intro a _; exact .inl rfl
 | cons c r ih =>
  intro a h
  have hc := h c List.mem_cons_self
  unfold isDig at hc
  rw [Bool.and_eq_true, decide_eq_true_iff, decide_eq_true_iff] at hc
  have hf := fold_ge r (a * 10 + (c.toNat - 48))
  have e : foldDig a (c :: r) = foldDig (a * 10 + (c.toNat - 48)) r := rfl
  rw [e]
  simp only [Lib.parseUint10, if_pos hc]
  split
  ·exact .inr ⟨rfl, by omega⟩
  ·split
   ·exact .inr ⟨rfl, by omega⟩
   ·exact ih _ fun c hc => h c (List.mem_cons_of_mem _ hc)
theorem atoi_digits (D : List UInt8) (h : ∀ c ∈ D, isDig c = true) : (D = [] → Lib.atoiAll D = Lib.NumEnd.syntax) ∧ (D ≠ [] → digVal D ≤ 9223372036854775807 → Lib.atoiAll D = .ok (digVal D)) ∧ (D ≠ [] → 9223372036854775807 < digVal D → Lib.atoiAll D = .range) := by
 cases D with
 | nil => exact ⟨fun _ => rfl, fun h => absurd rfl h, fun h => absurd rfl h⟩
 | cons c r =>
  have hc := h c List.mem_cons_self
  unfold isDig at hc
  rw [Bool.and_eq_true, decide_eq_true_iff, decide_eq_true_iff] at hc
  have n1 : ¬ (c.toNat = 43 ∨ c.toNat = 45) := by omega
  have n2 : ¬ c.toNat = 45 := by omega
  have e : foldDig 0 (c :: r) = digVal (c :: r) := rfl
  have hp := parse_dig (c :: r) 0 h
  rw [e] at hp
  have hm : Lib.parseMag (c :: r) = Lib.parseUint10 0 (c :: r) := by simp [Lib.parseMag]
  refine ⟨nofun, fun _ h1 => ?_, fun _ h1 => ?_⟩
  ·rcases hp with hp | ⟨_, hp⟩
   ·simp only [Lib.atoiAll, if_neg n1, hm, hp]
    rw [if_neg (by omega), if_neg (by omega), if_neg n2]
   ·omega
  ·rcases hp with hp | ⟨hp, _⟩
   ·simp only [Lib.atoiAll, if_neg n1, hm, hp]
    rw [if_pos ⟨n2, by omega⟩]
   ·simp only [Lib.atoiAll, if_neg n1, hm, hp]
theorem atoi_num (R : Nat) (v : ByteArray) (D : List UInt8) (hD : v.data.toList = D) (w : World) (hd : ∀ c ∈ D, isDig c = true) (hs : v.size ≤ 1000) (hnv : NumVars w R) : Calls Tryz.prog 135 #[.string v] w fun e w' => Below w.heap.size w w' ∧ ((D ≠ [] ∧ digVal D ≤ 9223372036854775807 ∧ e = .returned (.tuple #[.int .i64 (digVal D : Int), .nilIface])) ∨
  ((D = [] ∨ 9223372036854775807 < digVal D) ∧ ∃ n N, e = .returned (.tuple #[.int .i64 n, .iface 258 (.pointer (some ⟨N, 0, none⟩))]))) := by
 obtain ⟨a1, a2, a3⟩ := atoi_digits D hd
 obtain ⟨⟨_, ev1, hv1, hw1⟩, ⟨_, ev2, hv2, hw2⟩⟩ := hnv
 by_cases h0 : D = []
 ·refine (Any.strconv_Atoi_syntax Tryz.atoi v (by omega) (hD ▸ a1 h0) ev1 w hv1 hw1).mono ?_
  rintro e w' ⟨N, he, _, _, hb⟩
  exact ⟨hb, .inr ⟨.inl h0, _, N, he⟩⟩
 ·rcases Nat.lt_or_ge 9223372036854775807 (digVal D) with h1 | h1
  ·refine (Any.strconv_Atoi_range Tryz.atoi v (by omega) (hD ▸ a3 h0 h1) ev2 w hv2 hw2).mono ?_
   rintro e w' ⟨N, he, _, _, hb⟩
   exact ⟨hb, .inr ⟨.inr h1, _, N, he⟩⟩
  ·refine (Any.strconv_Atoi_ok Tryz.atoi v (by omega) (digVal D : Int) (by rw [hD]; exact a2 h0 h1) w).mono ?_
   rintro e w' ⟨he, hw⟩
   refine ⟨?_, .inl ⟨h0, h1, he⟩⟩
   rcases hw with rfl | ⟨t, rfl⟩
   ·exact Below.refl _ _
   ·exact Lib.bytesWorld_below _ _ _
set_option maxRecDepth 100000 in
set_option maxHeartbeats 8000000 in
theorem one_reads {W : Reads} {m : Nat} (hS : ∀ d, Short (W d)) (hW : ReadsLt_ W m) : ReadsAs 177 (oneRd W) m := by
 intro R s l d w h hs hd hm hnv
 obtain ⟨r0, hr0⟩ : ∃ r0, r0 = oneRd W d l := ⟨_, rfl⟩
 rw [← hr0]
 have hmf : ∀ (fn : Fn) (first cap : Array Value) (w : World), (Instr.makeFunc fn first cap).run Tryz.prog w = .ok (.func fn first cap) w := fun _ _ _ _ => rfl
 have hK1 : ∀ args w, (callFunc 198 args).run Tryz.prog w = .ok (.enter 198 args) w := fun _ _ => rfl
 have hK2 : ∀ args w, (callFunc 199 args).run Tryz.prog w = .ok (.enter 199 args) w := fun _ _ => rfl
 have HR0 := Lib.hid hr0
 have HH := Lib.hid h
 have hlt := h.lt
 have HLT := Lib.hid hlt
 have hc1 : ∀ ob ob2, ((w.alloc ob).alloc ob2).cell? ⟨R, 1, none⟩ = some (.int .i64 ((s.size - l.length : Nat) : Int)) := fun ob ob2 => RdL.allocs (HH.out.keep (w' := w.alloc ob) (heap_alloc_old _ _ hlt)) ob2
 clear hr0 h
 go_enter Tryz.func177, Tryz.ntmps177
 go_wp2_with fail
 obtain ⟨W1, hW1⟩ : ∃ W1, W1 = ((w.alloc (.cells #[.pointer (some ⟨R, 0, none⟩)] 149)).alloc (.cells #[.int .u8 0, .int .i64 0, .slice none 0 0] 86)).alloc (.cells #[.string ⟨#[109, 105, 110, 40]⟩, .string ⟨#[109, 97, 120, 40]⟩] 9) := ⟨_, rfl⟩
 have HI1 : Hid (OneInv R s l d w W1) := by
  show OneInv _ _ _ _ _ _
  rw [hW1]
  obtain ⟨wa, hwa⟩ : ∃ wa, wa = w.alloc (.cells #[.pointer (some ⟨R, 0, none⟩)] 149) := ⟨_, rfl⟩
  have sa : wa.heap.size = w.heap.size + 1 := by rw [hwa]; simp
  have la : RdL wa R s l d := by rw [hwa]; exact HH.out.keep (heap_alloc_old _ _ hlt)
  have ba : PBox wa w.heap.size R := by rw [hwa]; exact heap_alloc_new _ _
  have fa : Frm (· = R) w wa := by rw [hwa]; exact (Frm.refl _ _).alloc _
  rw [← hwa]
  obtain ⟨wb, hwb⟩ : ∃ wb, wb = wa.alloc (.cells #[.int .u8 0, .int .i64 0, .slice none 0 0] 86) := ⟨_, rfl⟩
  have sb : wb.heap.size = w.heap.size + 2 := by rw [hwb]; simp [sa]
  have lb : RdL wb R s l d := by rw [hwb]; exact la.keep (heap_alloc_old _ _ la.lt)
  have bb : PBox wb w.heap.size R := by rw [hwb]; exact ba.alloc _
  have zb : TVar wb (w.heap.size + 1) (.int .u8 0) (.int .i64 0) (.slice none 0 0) := by rw [hwb, ← sa]; exact TVar.new _ _ _ _
  have fb : Frm (· = R) w wb := by rw [hwb]; exact fa.alloc _
  rw [← hwb]
  exact ⟨lb.keep (heap_alloc_old _ _ lb.lt), bb.alloc _, (heap_alloc_old _ _ (block_lt zb)).trans zb, by rw [← sb]; exact heap_alloc_new _ _, fb.alloc _⟩
 rw [← hW1]
 clear hW1 HH hc1 hlt
 go_loopw [5, 17] (fun fv iv wx => ∃ i : Nat, i ≤ 2 ∧ iv = .int .i64 i ∧ Hid (OneInv R s l d w wx) ∧ Hid (1 ≤ i → ∀ r, l ≠ 109 :: 105 :: 110 :: 40 :: r) ∧ Hid (2 ≤ i → ∀ r, l ≠ 109 :: 97 :: 120 :: 40 :: r)) (fun _ iv _ => 2 - (intOf iv).toNat)
 case atStart => exact ⟨0, by omega, rfl, HI1.out, fun h => by omega, fun h => by omega⟩
 case round =>
  obtain ⟨i, hi, rfl, HJ, HN1, HN2⟩ := hrel
  have hg0 : wr.cell? ⟨w.heap.size + 2, 0, none⟩ = some (.string ⟨#[109, 105, 110, 40]⟩) := (cell_of_row wr _ 0 _ _ _ HJ.out.row).trans rfl
  have hg1 : wr.cell? ⟨w.heap.size + 2, 1, none⟩ = some (.string ⟨#[109, 97, 120, 40]⟩) := (cell_of_row wr _ 1 _ _ _ HJ.out.row).trans rfl
  have hb := HJ.out.box.cell
  have hRw := HLT.out
  match i, hi with
  | 0, _ =>
   go_wp2_with fail
   by_cases hq : ∃ l2, l = 109 :: 105 :: 110 :: 40 :: l2
   ·obtain ⟨l2, rfl⟩ := hq
    refine (hasL_yes R s ⟨#[109, 105, 110, 40]⟩ (109 :: 105 :: 110 :: 40 :: l2) l2 d _ HJ.out.rd hs rfl).mono ?_
    rintro e w2 ⟨rfl, h2, f2⟩
    have hl2 : l2.length + 4 ≤ m := by simpa using hm
    have e0 : r0 = deepRd d (l2.length + 4) (twoRd W 109 (d + 1) l2) := HR0.out
    have HE0 := Lib.hid e0
    have HL2 := Lib.hid h2
    have HB2 := Lib.hid (HJ.out.box.frm f2 (by omega))
    have HZ2 := Lib.hid (HJ.out.res.frm f2 (by omega))
    have HF2 := Lib.hid (frm_trans HJ.out.frm f2)
    have hz2 := block_lt HZ2.out
    have hb2 := fun ob => (HB2.out.alloc ob).cell
    clear h2 f2 HJ HN1 HN2 hg0 hg1 hb e0 HR0
    go_wp2_with fail
    obtain ⟨w3, hw3⟩ : ∃ w3, w3 = w2.alloc (.cells #[.int .u8 109] 5) := ⟨_, rfl⟩
    have HL3 : Hid (RdL w3 R s l2 d) := by rw [hw3]; exact HL2.out.keep (heap_alloc_old _ _ HL2.out.lt)
    have HB3 : Hid (PBox w3 w.heap.size R) := by rw [hw3]; exact HB2.out.alloc _
    have HZ3 : Hid (TVar w3 (w.heap.size + 1) (.int .u8 0) (.int .i64 0) (.slice none 0 0)) := by rw [hw3]; exact (heap_alloc_old _ _ hz2).trans HZ2.out
    have HF3 : Hid (Frm (· = R) w w3) := by rw [hw3]; exact HF2.out.alloc _
    have HO3 : Hid (BVar w3 w2.heap.size 109) := by rw [hw3]; exact heap_alloc_new _ _
    have hs23 : w3.heap.size = w2.heap.size + 1 := by rw [hw3]; simp
    rw [← hw3]
    obtain ⟨gp, hgp⟩ : ∃ gp, gp = w2.heap.size := ⟨_, rfl⟩
    rw [← hgp] at HO3 hs23 hz2 ⊢
    clear hw3 hgp HL2 HB2 HZ2 HF2 hb2
    have hcall := withinL R (l2.length + 4) d 198 s l2 #[] #[.pointer (some ⟨w.heap.size, 0, none⟩), .pointer (some ⟨gp, 0, none⟩)] w3 (twoRd W 109 (d + 1) l2) HL3.out hd hK1 (fun hne W2 hW2 hF => one1_reads hS hW R w.heap.size gp 109 s l2 (d + 1) W2 (HB3.out.frm hF (by omega)) (by omega) (HO3.out.frm hF (by omega)) (by omega) hW2 hs (by omega) (by omega) (hnv.frm (frm_trans HF3.out hF)))
    rw [← HE0.out] at hcall
    clear HE0
    refine hcall.mono ?_
    clear hcall
    intro e w4 hr
    cases r0 with
    | bad k j =>
     obtain ⟨rfl, hp, hf⟩ := hr
     exact ⟨rfl, rfl, hp, frm_trans HF3.out hf⟩
    | ok a l1 =>
     obtain ⟨o, n, A, ca, rfl, ht, hl, hf⟩ := hr
     have hzz := HZ3.out.frm hf (by omega)
     obtain ⟨z0, z1, z2, zf⟩ := hzz.cells
     obtain ⟨q0, q1, q2, qf⟩ := (pass_var (x := .int .u8 o) (y := .int .i64 n) (z := .slice A ca ca) hzz).cells
     have hrr := pass_ok (w0 := w) (k := w.heap.size + 1) (x := .int .u8 o) (y := .int .i64 n) (z := .slice A ca ca) ht (fun j hj => by have h9 : w3.heap.size ≤ j := hj; omega) hl (frm_trans HF3.out hf) (by omega) (by omega)
     have HRR := Lib.hid hrr
     simp only [tset] at q0 q1 q2
     clear ht hl hf hzz hrr HL3 HB3 HZ3 HF3 HO3
     simp only [trA]
     go_wp2_with fail
     refine ⟨rfl, .agg (trA o n A ca), ?_, HRR.out⟩
     simp only [results, Tryz.results177]
     simp [go_sem, q0, q1, q2, trA]
   ·have hbn : Lib.hasPrefix l [109, 105, 110, 40] = false := by
     cases hb : Lib.hasPrefix l [109, 105, 110, 40] with
     | false => rfl
     | true =>
      obtain ⟨r, e⟩ := List.isPrefixOf_iff_prefix.1 hb
      exact absurd ⟨r, e.symm⟩ hq
    refine (hasL_no R s ⟨#[109, 105, 110, 40]⟩ l d _ HJ.out.rd hs hbn).mono ?_
    rintro e w2 ⟨rfl, h2, f2⟩
    have HJ2 := Lib.hid (HJ.out.on hRw h2 f2)
    clear h2 f2 HJ
    go_wp2_with fail
    refine ⟨⟨1, by omega, by congr 1, HJ2.out, fun _ r e => hq ⟨r, e⟩, fun h => by omega⟩, ?_⟩
    simp [intOf]
  | 1, _ =>
   go_wp2_with fail
   by_cases hq : ∃ l2, l = 109 :: 97 :: 120 :: 40 :: l2
   ·obtain ⟨l2, rfl⟩ := hq
    refine (hasL_yes R s ⟨#[109, 97, 120, 40]⟩ (109 :: 97 :: 120 :: 40 :: l2) l2 d _ HJ.out.rd hs rfl).mono ?_
    rintro e w2 ⟨rfl, h2, f2⟩
    have hl2 : l2.length + 4 ≤ m := by simpa using hm
    have e0 : r0 = deepRd d (l2.length + 4) (twoRd W 77 (d + 1) l2) := HR0.out
    have HE0 := Lib.hid e0
    have HL2 := Lib.hid h2
    have HB2 := Lib.hid (HJ.out.box.frm f2 (by omega))
    have HZ2 := Lib.hid (HJ.out.res.frm f2 (by omega))
    have HF2 := Lib.hid (frm_trans HJ.out.frm f2)
    have hz2 := block_lt HZ2.out
    have hb2 := fun ob => (HB2.out.alloc ob).cell
    clear h2 f2 HJ HN1 HN2 hg0 hg1 hb e0 HR0
    go_wp2_with fail
    obtain ⟨w3, hw3⟩ : ∃ w3, w3 = w2.alloc (.cells #[.int .u8 77] 5) := ⟨_, rfl⟩
    have HL3 : Hid (RdL w3 R s l2 d) := by rw [hw3]; exact HL2.out.keep (heap_alloc_old _ _ HL2.out.lt)
    have HB3 : Hid (PBox w3 w.heap.size R) := by rw [hw3]; exact HB2.out.alloc _
    have HZ3 : Hid (TVar w3 (w.heap.size + 1) (.int .u8 0) (.int .i64 0) (.slice none 0 0)) := by rw [hw3]; exact (heap_alloc_old _ _ hz2).trans HZ2.out
    have HF3 : Hid (Frm (· = R) w w3) := by rw [hw3]; exact HF2.out.alloc _
    have HO3 : Hid (BVar w3 w2.heap.size 77) := by rw [hw3]; exact heap_alloc_new _ _
    have hs23 : w3.heap.size = w2.heap.size + 1 := by rw [hw3]; simp
    rw [← hw3]
    obtain ⟨gp, hgp⟩ : ∃ gp, gp = w2.heap.size := ⟨_, rfl⟩
    rw [← hgp] at HO3 hs23 hz2 ⊢
    clear hw3 hgp HL2 HB2 HZ2 HF2 hb2
    have hcall := withinL R (l2.length + 4) d 198 s l2 #[] #[.pointer (some ⟨w.heap.size, 0, none⟩), .pointer (some ⟨gp, 0, none⟩)] w3 (twoRd W 77 (d + 1) l2) HL3.out hd hK1 (fun hne W2 hW2 hF => one1_reads hS hW R w.heap.size gp 77 s l2 (d + 1) W2 (HB3.out.frm hF (by omega)) (by omega) (HO3.out.frm hF (by omega)) (by omega) hW2 hs (by omega) (by omega) (hnv.frm (frm_trans HF3.out hF)))
    rw [← HE0.out] at hcall
    clear HE0
    refine hcall.mono ?_
    clear hcall
    intro e w4 hr
    cases r0 with
    | bad k j =>
     obtain ⟨rfl, hp, hf⟩ := hr
     exact ⟨rfl, rfl, hp, frm_trans HF3.out hf⟩
    | ok a l1 =>
     obtain ⟨o, n, A, ca, rfl, ht, hl, hf⟩ := hr
     have hzz := HZ3.out.frm hf (by omega)
     obtain ⟨z0, z1, z2, zf⟩ := hzz.cells
     obtain ⟨q0, q1, q2, qf⟩ := (pass_var (x := .int .u8 o) (y := .int .i64 n) (z := .slice A ca ca) hzz).cells
     have hrr := pass_ok (w0 := w) (k := w.heap.size + 1) (x := .int .u8 o) (y := .int .i64 n) (z := .slice A ca ca) ht (fun j hj => by have h9 : w3.heap.size ≤ j := hj; omega) hl (frm_trans HF3.out hf) (by omega) (by omega)
     have HRR := Lib.hid hrr
     simp only [tset] at q0 q1 q2
     clear ht hl hf hzz hrr HL3 HB3 HZ3 HF3 HO3
     simp only [trA]
     go_wp2_with fail
     refine ⟨rfl, .agg (trA o n A ca), ?_, HRR.out⟩
     simp only [results, Tryz.results177]
     simp [go_sem, q0, q1, q2, trA]
   ·have hbn : Lib.hasPrefix l [109, 97, 120, 40] = false := by
     cases hb : Lib.hasPrefix l [109, 97, 120, 40] with
     | false => rfl
     | true =>
      obtain ⟨r, e⟩ := List.isPrefixOf_iff_prefix.1 hb
      exact absurd ⟨r, e.symm⟩ hq
    refine (hasL_no R s ⟨#[109, 97, 120, 40]⟩ l d _ HJ.out.rd hs hbn).mono ?_
    rintro e w2 ⟨rfl, h2, f2⟩
    have HJ2 := Lib.hid (HJ.out.on hRw h2 f2)
    clear h2 f2 HJ
    go_wp2_with fail
    refine ⟨⟨2, by omega, by congr 1, HJ2.out, fun _ => HN1.out (Nat.le_refl _), fun _ r e => hq ⟨r, e⟩⟩, ?_⟩
    simp [intOf]
  | 2, _ =>
   go_wp2_with fail
   refine (peekL R s l d _ HJ.out.rd).mono ?_
   rintro e w2 ⟨rfl, q, rfl⟩
   have HJ2 : Hid (OneInv R s l d w (wr.drewN q)) := HJ.out.on hRw (HJ.out.rd.keep rfl) ((Frm.refl _ _).drewN q)
   generalize wr.drewN q = w2 at HJ2 ⊢
   have hN1 : Hid (∀ r, l ≠ 109 :: 105 :: 110 :: 40 :: r) := HN1.out (by omega)
   have hN2 : Hid (∀ r, l ≠ 109 :: 97 :: 120 :: 40 :: r) := HN2.out (by omega)
   clear HJ HN1 HN2 hg0 hg1 hb
   obtain ⟨c0, c1, c2, cf⟩ := HJ2.out.rd.2.2.cells
   have hb := HJ2.out.box.cell
   obtain ⟨z0, z1, z2, zf⟩ := HJ2.out.res.cells
   by_cases hn : ∃ c r, l = c :: r ∧ (c = 110 ∨ c = 115)
   ·obtain ⟨c, r, rfl, hc⟩ := hn
    have e0 : r0 = .ok (.nam (c == 110)) r := by
     rw [HR0.out]
     rcases hc with rfl | rfl <;> rfl
    clear HR0
    subst e0
    have eh : headB (c :: r) = (c.toNat : Int) := rfl
    rw [eh]
    have HRR : Hid (Reads_ R s d w (.ok (.nam (c == 110)) r) (.returned (.agg (trA (c.toNat : Int) 0 none 0))) (tset (w2.setCell ⟨R, 1, none⟩ (.int .i64 (((s.size - (r.length + 1) : Nat) : Int) + 1))) (w.heap.size + 1) (.int .u8 (c.toNat : Int)) (.int .i64 0) (.slice none 0 0))) := by
     have h1 := HJ2.out.rd.2.2.moved (s.size - (r.length + 1) + 1)
     have e2 : (((s.size - (r.length + 1) : Nat) : Int) + 1) = ((s.size - (r.length + 1) + 1 : Nat) : Int) := by omega
     have h2 : RdL (w2.setCell ⟨R, 1, none⟩ (.int .i64 (((s.size - (r.length + 1) : Nat) : Int) + 1))) R s r d := by
      rw [e2]; exact HJ2.out.rd.on (n := 1) (by simp only [List.length_cons]; omega) rfl h1
     have h3 := HJ2.out.frm.setCell (p := ⟨R, 1, none⟩) (.inl rfl) (.int .i64 (((s.size - (r.length + 1) : Nat) : Int) + 1))
     refine pass_ok (F := fun _ => False) ?_ (fun j hj => hj.elim) h2 h3 (by omega) (by omega)
     rcases hc with rfl | rfl <;> rfl
    have hz3 : TVar (w2.setCell ⟨R, 1, none⟩ (.int .i64 (((s.size - (r.length + 1) : Nat) : Int) + 1))) (w.heap.size + 1) (.int .u8 0) (.int .i64 0) (.slice none 0 0) := (Below.heap_setCell _ _ _ _ (by simp; omega)).trans HJ2.out.res
    obtain ⟨q0, q1, q2, qf⟩ := (pass_var (x := .int .u8 (c.toNat : Int)) (y := .int .i64 0) (z := .slice none 0 0) hz3).cells
    simp only [tset] at q0 q1 q2
    clear hz3 HJ2
    have key : ((c.toNat : Int) == 110) = true ∨ (((c.toNat : Int) == 110) = false ∧ ((c.toNat : Int) == 115) = true) := by
     rcases hc with e | e
     ·exact .inl (by rw [e]; rfl)
     ·exact .inr ⟨by rw [e]; rfl, by rw [e]; rfl⟩
    clear hc
    rcases key with m1 | ⟨m1, m2⟩
    all_goals
     go_wp2_with fail
     refine ⟨rfl, .agg (trA (c.toNat : Int) 0 none 0), ?_, HRR.out⟩
     simp only [results, Tryz.results177]
     simp [go_sem, q0, q1, q2, trA]
   ·by_cases hp : ∃ r, l = 40 :: r
    ·obtain ⟨r, rfl⟩ := hp
     have e0 : r0 = deepRd d (r.length + 1) ((W (d + 1) r).bind fun a l1 => wantRd 41 l1 fun l2 => .ok a l2) := HR0.out
     have HE0 := Lib.hid e0
     clear HR0 e0
     have eh : headB (40 :: r) = 40 := rfl
     rw [eh]
     go_wp2_with fail
     obtain ⟨w3, hw3⟩ : ∃ w3, w3 = w2.setCell ⟨R, 1, none⟩ (.int .i64 (((s.size - (r.length + 1) : Nat) : Int) + 1)) := ⟨_, rfl⟩
     have HL3 : Hid (RdL w3 R s r d) := by
      have h1 := HJ2.out.rd.2.2.moved (s.size - (r.length + 1) + 1)
      have e2 : (((s.size - (r.length + 1) : Nat) : Int) + 1) = ((s.size - (r.length + 1) + 1 : Nat) : Int) := by omega
      rw [hw3, e2]; exact HJ2.out.rd.on (n := 1) (by simp only [List.length_cons]; omega) rfl h1
     have h3o : ∀ j, j ≠ R → w3.heap[j]? = w2.heap[j]? := fun j hj => by rw [hw3]; exact Below.heap_setCell _ _ _ _ (by simpa using hj)
     have HB3 : Hid (PBox w3 w.heap.size R) := (h3o _ (by omega)).trans HJ2.out.box
     have HZ3 : Hid (TVar w3 (w.heap.size + 1) (.int .u8 0) (.int .i64 0) (.slice none 0 0)) := (h3o _ (by omega)).trans HJ2.out.res
     have HF3 : Hid (Frm (· = R) w w3) := by rw [hw3]; exact HJ2.out.frm.setCell (p := ⟨R, 1, none⟩) (.inl rfl) _
     rw [← hw3]
     have hzw := block_lt HZ3.out
     clear hw3 h3o HJ2 c0 c1 c2 cf hb z0 z1 z2 zf
     have hcall := withinL R (r.length + 1) d 199 s r #[] #[.pointer (some ⟨w.heap.size, 0, none⟩)] w3 ((W (d + 1) r).bind fun a l1 => wantRd 41 l1 fun l2 => .ok a l2) HL3.out hd hK2 (fun hne W2 hW2 hF => one2_reads hW R w.heap.size s r (d + 1) W2 (HB3.out.frm hF (by omega)) (by omega) hW2 hs (by omega) (by simp only [List.length_cons] at hm; omega) (hnv.frm (frm_trans HF3.out hF)))
     rw [← HE0.out] at hcall
     clear HE0
     refine hcall.mono ?_
     clear hcall
     intro e w4 hr
     cases r0 with
     | bad k j =>
      obtain ⟨rfl, hp, hf⟩ := hr
      exact ⟨rfl, rfl, hp, frm_trans HF3.out hf⟩
     | ok a l1 =>
      obtain ⟨o, n, A, ca, rfl, ht, hl, hf⟩ := hr
      have hzz := HZ3.out.frm hf (by omega)
      obtain ⟨z0, z1, z2, zf⟩ := hzz.cells
      obtain ⟨q0, q1, q2, qf⟩ := (pass_var (x := .int .u8 o) (y := .int .i64 n) (z := .slice A ca ca) hzz).cells
      have hrr := pass_ok (w0 := w) (k := w.heap.size + 1) (x := .int .u8 o) (y := .int .i64 n) (z := .slice A ca ca) ht (fun j hj => by have h9 : w3.heap.size ≤ j := hj; omega) hl (frm_trans HF3.out hf) (by omega) (by omega)
      have HRR := Lib.hid hrr
      simp only [tset] at q0 q1 q2
      clear ht hl hf hzz hrr HL3 HB3 HZ3 HF3
      simp only [trA]
      go_wp2_with fail
      refine ⟨rfl, .agg (trA o n A ca), ?_, HRR.out⟩
      simp only [results, Tryz.results177]
      simp [go_sem, q0, q1, q2, trA]
    ·have e0 : r0 = numRd l := by
      rw [HR0.out]
      unfold oneRd
      split
      ·exact absurd rfl (hN1.out _)
      ·exact absurd rfl (hN2.out _)
      ·exact absurd ⟨110, _, rfl, .inl rfl⟩ hn
      ·exact absurd ⟨115, _, rfl, .inr rfl⟩ hn
      ·exact absurd ⟨_, rfl⟩ hp
      ·rfl
     have HE0 := Lib.hid e0
     have hh : ¬ headB l = 110 ∧ ¬ headB l = 115 ∧ ¬ headB l = 40 := by
      cases l with
      | nil => refine ⟨?_, ?_, ?_⟩ <;> (show ¬ (0 : Int) = _; omega)
      | cons c r =>
       refine ⟨fun e => hn ⟨c, r, rfl, .inl (UInt8.toNat_inj.1 ?_)⟩, fun e => hn ⟨c, r, rfl, .inr (UInt8.toNat_inj.1 ?_)⟩, fun e => hp ⟨r, ?_⟩⟩
       ·have e : (c.toNat : Int) = 110 := e
        show c.toNat = 110; omega
       ·have e : (c.toNat : Int) = 115 := e
        show c.toNat = 115; omega
       ·have e : (c.toNat : Int) = 40 := e
        rw [show c = 40 from UInt8.toNat_inj.1 (by show c.toNat = 40; omega)]
     obtain ⟨h1, h2, h3⟩ := hh
     have m1 : (headB l == 110) = false := beq_eq_false_iff_ne.2 h1
     have m2 : (headB l == 115) = false := beq_eq_false_iff_ne.2 h2
     have m3 : (headB l == 40) = false := beq_eq_false_iff_ne.2 h3
     have dp : ¬ s.size < s.size - l.length := by omega
     clear HR0 e0 h1 h2 hN1 hN2 hn hp
     go_wp2_with fail
     obtain ⟨t8, ht8⟩ : ∃ t8, t8 = s.extract (s.size - l.length) s.size := ⟨_, rfl⟩
     have ht8l : t8.data.toList = l := by rw [ht8, slice_drop]; exact HJ2.out.rd.2.1.symm
     obtain ⟨u8, hu8⟩ : ∃ u8 : ByteArray, u8 = ⟨(Lib.trimLeftS l decSet.data.toList).toArray⟩ := ⟨_, rfl⟩
     have hu8s : u8.size = (Lib.trimLeftS l decSet.data.toList).length := by rw [hu8]; show (Lib.trimLeftS l decSet.data.toList).toArray.size = _; simp
     have hspl := trim_split l
     have hll : l.length = (digsOf l).length + u8.size := by
      have h := congrArg List.length hspl
      rw [List.length_append] at h
      rw [hu8s]; exact h
     have ht8s : t8.size = l.length := by rw [← ht8l]; simp
     have HT8 := Lib.hid (triml_ok t8 w2)
     rw [ht8l, ← hu8] at HT8
     rw [← ht8]
     have HU8 := Lib.hid hu8
     have HL8 := Lib.hid ht8l
     have HSPL := Lib.hid hspl
     have hls : l.length ≤ s.size := HJ2.out.rd.1
     clear ht8 hu8 ht8l hspl hu8s
     refine HT8.out.mono ?_
     rintro e w3 ⟨rfl, hb3⟩
     have HJ3 : Hid (OneInv R s l d w w3) := HJ2.out.on hRw (HJ2.out.rd.keep (hb3.block _ HJ2.out.rd.lt)) (Frm.ofBelow hb3)
     clear HT8 hb3 HJ2 c0 c1 c2 cf hb z0 z1 z2 zf
     obtain ⟨k, hk⟩ : ∃ k, k = (digsOf l).length := ⟨_, rfl⟩
     rw [← hk] at hll
     have ht8k : t8.size = k + u8.size := by omega
     have HK := Lib.hid hk
     have hk120 : k + u8.size ≤ 120 := by omega
     clear hk ht8s
     go_upto_region 20 with (fail)
     obtain ⟨dd, hdd⟩ : ∃ dd, dd = t8.extract 0 (s.size - (s.size - (k + u8.size)) - u8.size) := ⟨_, rfl⟩
     have hX : s.size - (s.size - (k + u8.size)) - u8.size = k := by omega
     have hdl : dd.data.toList = digsOf l := by
      rw [hdd, hX]
      have e1 : (t8.extract 0 k).data.toList = t8.data.toList.take k := by simp [ByteArray.data_extract]
      rw [e1, HL8.out, HK.out]
      have h := congrArg (List.take (digsOf l).length) HSPL.out
      rw [List.take_left] at h
      exact h
     have hdk : dd.size = k := by rw [HK.out, ← hdl]; simp
     rw [← hdd]
     have HDL := Lib.hid hdl
     have hdig : ∀ c ∈ digsOf l, isDig c = true := fun c hc => List.all_eq_true.1 List.all_takeWhile c hc
     have HDIG := Lib.hid hdig
     clear hdd hX hdl hdig HU8 HL8 HSPL ht8k
     by_cases hk1 : 1 < k
     ·obtain ⟨x, y, r, hxy⟩ : ∃ x y r, digsOf l = x :: y :: r := by
       have hkk := HK.out
       match hdd : digsOf l with
       | [] => rw [hdd] at hkk; simp at hkk; omega
       | [x] => rw [hdd] at hkk; simp at hkk; omega
       | x :: y :: r => exact ⟨x, y, r, rfl⟩
      have hd1 : decide ((1 : Int) < (k : Int)) = true := decide_eq_true (by omega)
      have hx : ∀ h : 0 < dd.size, dd[0]'h = x := fun h => by
       have h1 : dd.data.toList[0]? = some x := by rw [HDL.out, hxy]; rfl
       have h2 : dd.data[0]? = some x := by rw [← Array.getElem?_toList]; exact h1
       obtain ⟨h3, h4⟩ := Array.getElem?_eq_some_iff.1 h2
       exact h4
      by_cases h48 : x = 48
      ·have hx48 : ((x.toNat : Int) == 48) = true := by rw [h48]; rfl
       have hnum : numOf l = [48] := by unfold numOf; rw [hxy]; simp [h48]
       have HNDIG : Hid (∀ c ∈ numOf l, isDig c = true) := by
        show ∀ c ∈ numOf l, _
        rw [hnum]; intro c hc; rw [List.mem_singleton.1 hc]; decide
       have hnl : (numOf l).length = 1 := by rw [hnum]; rfl
       have hvl : (⟨#[48]⟩ : ByteArray).data.toList = numOf l := by rw [hnum]
       clear hxy hnum h48
       have HRR : Hid (∀ w4, Below w3.heap.size w3 w4 → numRd l = .ok (.num (digVal (numOf l))) (l.drop (numOf l).length) → Reads_ R s d w r0 (.returned (.agg (trA 48 (digVal (numOf l) : Int) none 0))) (tset (w4.setCell ⟨R, 1, none⟩ (.int .i64 (((s.size - (k + u8.size) : Nat) : Int) + 1))) (w.heap.size + 1) (.int .u8 48) (.int .i64 (digVal (numOf l) : Int)) (.slice none 0 0)) ∧ TVar (w4.setCell ⟨R, 1, none⟩ (.int .i64 (((s.size - (k + u8.size) : Nat) : Int) + 1))) (w.heap.size + 1) (.int .u8 0) (.int .i64 0) (.slice none 0 0)) := fun w4 hb4 he => by
        have HJ4 : OneInv R s l d w w4 := HJ3.out.on hRw (HJ3.out.rd.keep (hb4.block _ HJ3.out.rd.lt)) (Frm.ofBelow hb4)
        have h1 := HJ4.rd.2.2.moved (s.size - l.length + 1)
        have e2 : (((s.size - (k + u8.size) : Nat) : Int) + 1) = ((s.size - l.length + 1 : Nat) : Int) := by rw [hll]; omega
        have h2 : RdL (w4.setCell ⟨R, 1, none⟩ (.int .i64 (((s.size - (k + u8.size) : Nat) : Int) + 1))) R s (l.drop 1) d := by
         rw [e2]; exact HJ4.rd.on (n := 1) (by rw [List.length_drop]; omega) rfl h1
        refine ⟨?_, (Below.heap_setCell _ _ _ _ (by simp; omega)).trans HJ4.res⟩
        rw [HE0.out, he, hnl]
        refine pass_ok (F := fun _ => False) ?_ (fun j hj => hj.elim) h2 (HJ4.frm.setCell (p := ⟨R, 1, none⟩) (.inl rfl) _) (by omega) (by omega)
        exact rfl
       have HVL := Lib.hid hvl
       clear hvl hnl
       go_wp2_with fail
       refine (atoi_num R ⟨#[48]⟩ (numOf l) HVL.out w3 HNDIG.out (by decide) (hnv.frm HJ3.out.frm)).mono ?_
       rintro e w4 ⟨hb4, hor⟩
       have HJ4 : OneInv R s l d w w4 := HJ3.out.on hRw (HJ3.out.rd.keep (hb4.block _ HJ3.out.rd.lt)) (Frm.ofBelow hb4)
       obtain ⟨c0, c1, c2, cf⟩ := HJ4.rd.2.2.cells
       have hb := HJ4.box.cell
       obtain ⟨z0, z1, z2, zf⟩ := HJ4.res.cells
       have HJ4h := Lib.hid HJ4
       rcases hor with ⟨h1, h2, rfl⟩ | ⟨h1, n, N, rfl⟩
       ·have he : numRd l = .ok (.num (digVal (numOf l))) (l.drop (numOf l).length) := by
         unfold numRd
         rw [if_neg (by rintro (h | h); exact h1 h; omega)]
        obtain ⟨hr, hz3⟩ := HRR.out w4 hb4 he
        have HRF := Lib.hid hr
        obtain ⟨q0, q1, q2, qf⟩ := (pass_var (x := .int .u8 48) (y := .int .i64 (digVal (numOf l) : Int)) (z := .slice none 0 0) hz3).cells
        simp only [tset] at q0 q1 q2
        rw [hll] at c1
        clear hr hz3 he h1 h2 HJ4 hb4 HRR
        go_wp2_with fail
        refine ⟨rfl, .agg (trA 48 (digVal (numOf l) : Int) none 0), ?_, HRF.out⟩
        simp only [results, Tryz.results177]
        simp [go_sem, q0, q1, q2, trA]
       ·have he : r0 = .bad l.length 2 := by
         rw [HE0.out]
         unfold numRd
         rw [if_pos h1]
        subst he
        rw [hll] at c1
        clear h1 HJ4 HRR
        go_wp2_with fail
        rw [← hll]
        refine (fail_ok R (s.size - l.length) 2 w4).mono ?_
        rintro e w5 ⟨rfl, rfl⟩
        exact ⟨rfl, rfl, ⟨_, HJ4h.out.rd.2.2⟩, HJ4h.out.frm⟩
      ·have hx48 : ((x.toNat : Int) == 48) = false := beq_eq_false_iff_ne.2 fun e => h48 (UInt8.toNat_inj.1 (by show x.toNat = 48; omega))
       have hnum : numOf l = digsOf l := by unfold numOf; rw [hxy]; simp [h48]
       have HNDIG : Hid (∀ c ∈ numOf l, isDig c = true) := by
        show ∀ c ∈ numOf l, _
        rw [hnum]; exact HDIG.out
       have hnl : (numOf l).length = k := by rw [hnum]; exact HK.out.symm
       have hvl : dd.data.toList = numOf l := by rw [hnum]; exact HDL.out
       clear hxy hnum
       have HRR : Hid (∀ w4, Below w3.heap.size w3 w4 → numRd l = .ok (.num (digVal (numOf l))) (l.drop (numOf l).length) → Reads_ R s d w r0 (.returned (.agg (trA 48 (digVal (numOf l) : Int) none 0))) (tset (w4.setCell ⟨R, 1, none⟩ (.int .i64 (((s.size - (k + u8.size) : Nat) : Int) + (k : Int)))) (w.heap.size + 1) (.int .u8 48) (.int .i64 (digVal (numOf l) : Int)) (.slice none 0 0)) ∧ TVar (w4.setCell ⟨R, 1, none⟩ (.int .i64 (((s.size - (k + u8.size) : Nat) : Int) + (k : Int)))) (w.heap.size + 1) (.int .u8 0) (.int .i64 0) (.slice none 0 0)) := fun w4 hb4 he => by
        have HJ4 : OneInv R s l d w w4 := HJ3.out.on hRw (HJ3.out.rd.keep (hb4.block _ HJ3.out.rd.lt)) (Frm.ofBelow hb4)
        have h1 := HJ4.rd.2.2.moved (s.size - l.length + k)
        have e2 : (((s.size - (k + u8.size) : Nat) : Int) + (k : Int)) = ((s.size - l.length + k : Nat) : Int) := by rw [hll]; omega
        have h2 : RdL (w4.setCell ⟨R, 1, none⟩ (.int .i64 (((s.size - (k + u8.size) : Nat) : Int) + (k : Int)))) R s (l.drop k) d := by
         rw [e2]; exact HJ4.rd.on (n := k) (by rw [List.length_drop]; omega) rfl h1
        refine ⟨?_, (Below.heap_setCell _ _ _ _ (by simp; omega)).trans HJ4.res⟩
        rw [HE0.out, he, hnl]
        refine pass_ok (F := fun _ => False) ?_ (fun j hj => hj.elim) h2 (HJ4.frm.setCell (p := ⟨R, 1, none⟩) (.inl rfl) _) (by omega) (by omega)
        exact rfl
       have HVL := Lib.hid hvl
       clear hvl hnl
       go_wp2_with fail
       refine (atoi_num R dd (numOf l) HVL.out w3 HNDIG.out (by omega) (hnv.frm HJ3.out.frm)).mono ?_
       rintro e w4 ⟨hb4, hor⟩
       have HJ4 : OneInv R s l d w w4 := HJ3.out.on hRw (HJ3.out.rd.keep (hb4.block _ HJ3.out.rd.lt)) (Frm.ofBelow hb4)
       obtain ⟨c0, c1, c2, cf⟩ := HJ4.rd.2.2.cells
       have hb := HJ4.box.cell
       obtain ⟨z0, z1, z2, zf⟩ := HJ4.res.cells
       have HJ4h := Lib.hid HJ4
       rcases hor with ⟨h1, h2, rfl⟩ | ⟨h1, n, N, rfl⟩
       ·have he : numRd l = .ok (.num (digVal (numOf l))) (l.drop (numOf l).length) := by
         unfold numRd
         rw [if_neg (by rintro (h | h); exact h1 h; omega)]
        obtain ⟨hr, hz3⟩ := HRR.out w4 hb4 he
        have HRF := Lib.hid hr
        obtain ⟨q0, q1, q2, qf⟩ := (pass_var (x := .int .u8 48) (y := .int .i64 (digVal (numOf l) : Int)) (z := .slice none 0 0) hz3).cells
        simp only [tset] at q0 q1 q2
        rw [hll] at c1
        clear hr hz3 he h1 h2 HJ4 hb4 HRR
        go_wp2_with fail
        refine ⟨rfl, .agg (trA 48 (digVal (numOf l) : Int) none 0), ?_, HRF.out⟩
        simp only [results, Tryz.results177]
        simp [go_sem, q0, q1, q2, trA]
       ·have he : r0 = .bad l.length 2 := by
         rw [HE0.out]
         unfold numRd
         rw [if_pos h1]
        subst he
        rw [hll] at c1
        clear h1 HJ4 HRR
        go_wp2_with fail
        rw [← hll]
        refine (fail_ok R (s.size - l.length) 2 w4).mono ?_
        rintro e w5 ⟨rfl, rfl⟩
        exact ⟨rfl, rfl, ⟨_, HJ4h.out.rd.2.2⟩, HJ4h.out.frm⟩
     ·have hd1 : decide ((1 : Int) < (k : Int)) = false := decide_eq_false (by omega)
      have hnum : numOf l = digsOf l := by
       unfold numOf
       split
       ·rename_i c d r e
        have := HK.out
        rw [e] at this; simp at this; omega
       ·rfl
      have HNDIG : Hid (∀ c ∈ numOf l, isDig c = true) := by
       show ∀ c ∈ numOf l, _
       rw [hnum]; exact HDIG.out
      have hnl : (numOf l).length = k := by rw [hnum]; exact HK.out.symm
      have hvl : dd.data.toList = numOf l := by rw [hnum]; exact HDL.out
      clear hnum
      have HRR : Hid (∀ w4, Below w3.heap.size w3 w4 → numRd l = .ok (.num (digVal (numOf l))) (l.drop (numOf l).length) → Reads_ R s d w r0 (.returned (.agg (trA 48 (digVal (numOf l) : Int) none 0))) (tset (w4.setCell ⟨R, 1, none⟩ (.int .i64 (((s.size - (k + u8.size) : Nat) : Int) + (k : Int)))) (w.heap.size + 1) (.int .u8 48) (.int .i64 (digVal (numOf l) : Int)) (.slice none 0 0)) ∧ TVar (w4.setCell ⟨R, 1, none⟩ (.int .i64 (((s.size - (k + u8.size) : Nat) : Int) + (k : Int)))) (w.heap.size + 1) (.int .u8 0) (.int .i64 0) (.slice none 0 0)) := fun w4 hb4 he => by
       have HJ4 : OneInv R s l d w w4 := HJ3.out.on hRw (HJ3.out.rd.keep (hb4.block _ HJ3.out.rd.lt)) (Frm.ofBelow hb4)
       have h1 := HJ4.rd.2.2.moved (s.size - l.length + k)
       have e2 : (((s.size - (k + u8.size) : Nat) : Int) + (k : Int)) = ((s.size - l.length + k : Nat) : Int) := by rw [hll]; omega
       have h2 : RdL (w4.setCell ⟨R, 1, none⟩ (.int .i64 (((s.size - (k + u8.size) : Nat) : Int) + (k : Int)))) R s (l.drop k) d := by
        rw [e2]; exact HJ4.rd.on (n := k) (by rw [List.length_drop]; omega) rfl h1
       refine ⟨?_, (Below.heap_setCell _ _ _ _ (by simp; omega)).trans HJ4.res⟩
       rw [HE0.out, he, hnl]
       refine pass_ok (F := fun _ => False) ?_ (fun j hj => hj.elim) h2 (HJ4.frm.setCell (p := ⟨R, 1, none⟩) (.inl rfl) _) (by omega) (by omega)
       exact rfl
      have HVL := Lib.hid hvl
      clear hvl hnl
      go_wp2_with fail
      refine (atoi_num R dd (numOf l) HVL.out w3 HNDIG.out (by omega) (hnv.frm HJ3.out.frm)).mono ?_
      rintro e w4 ⟨hb4, hor⟩
      have HJ4 : OneInv R s l d w w4 := HJ3.out.on hRw (HJ3.out.rd.keep (hb4.block _ HJ3.out.rd.lt)) (Frm.ofBelow hb4)
      obtain ⟨c0, c1, c2, cf⟩ := HJ4.rd.2.2.cells
      have hb := HJ4.box.cell
      obtain ⟨z0, z1, z2, zf⟩ := HJ4.res.cells
      have HJ4h := Lib.hid HJ4
      rcases hor with ⟨h1, h2, rfl⟩ | ⟨h1, n, N, rfl⟩
      ·have he : numRd l = .ok (.num (digVal (numOf l))) (l.drop (numOf l).length) := by
        unfold numRd
        rw [if_neg (by rintro (h | h); exact h1 h; omega)]
       obtain ⟨hr, hz3⟩ := HRR.out w4 hb4 he
       have HRF := Lib.hid hr
       obtain ⟨q0, q1, q2, qf⟩ := (pass_var (x := .int .u8 48) (y := .int .i64 (digVal (numOf l) : Int)) (z := .slice none 0 0) hz3).cells
       simp only [tset] at q0 q1 q2
       rw [hll] at c1
       clear hr hz3 he h1 h2 HJ4 hb4 HRR
       go_wp2_with fail
       refine ⟨rfl, .agg (trA 48 (digVal (numOf l) : Int) none 0), ?_, HRF.out⟩
       simp only [results, Tryz.results177]
       simp [go_sem, q0, q1, q2, trA]
      ·have he : r0 = .bad l.length 2 := by
        rw [HE0.out]
        unfold numRd
        rw [if_pos h1]
       subst he
       rw [hll] at c1
       clear h1 HJ4 HRR
       go_wp2_with fail
       rw [← hll]
       refine (fail_ok R (s.size - l.length) 2 w4).mono ?_
       rintro e w5 ⟨rfl, rfl⟩
       exact ⟨rfl, rfl, ⟨_, HJ4h.out.rd.2.2⟩, HJ4h.out.frm⟩
end Go.Proofs.YtfndhfekbbbliaaGreatDoor
