/-
  Tables in plain Lean: what bytes they are, what their parts are, and that parts put together are the whole. No condition: definitions and lemmas.
-/
import Derived.Test.YthobnigjhedjaaaDoorElts
import Derived.Test.YthobnigjhedjaaaDoorSort
import Derived.Test.YthobnigjhedjaaaDoorSeal
namespace Go.Proofs.YthobnigjhedjaaaDoor
open Go.RowKit
open Go.Sort hiding Below
set_option linter.unusedVariables false

instance : Inhabited Ent := ⟨⟨ByteArray.empty, ByteArray.empty, false⟩⟩
def entOk (e : Ent) : Prop := e.key.size ≤ 120 ∧ e.value.size ≤ 120 ∧ (e.dead = true → e.value.size = 0)
def kLt (a b : ByteArray) : Bool := ltStr a.data.toList b.data.toList
theorem kLt_irrefl (a : ByteArray) : kLt a a = false := swo_ltStr.irrefl _
theorem kLt_trans {a b c : ByteArray} (h : kLt a b = true) (h' : kLt b c = true) : kLt a c = true := swo_ltStr.trans _ _ _ h h'
theorem kLt_asymm {a b : ByteArray} (h : kLt a b = true) : kLt b a = false := by
  cases h' : kLt b a with
  | false => rfl
  | true => have := kLt_trans h h'; rw [kLt_irrefl] at this; cases this
theorem kLt_tri {a b : ByteArray} (h : kLt a b = false) (h' : kLt b a = false) : a = b := by
  simp only [kLt, ltStr, decide_eq_false_iff_not, List.not_lt] at h h'
  have := List.le_antisymm h' h
  cases a; cases b
  congr 1
  exact Array.toList_inj.1 this
def Rises (l : List Ent) : Prop := l.Pairwise fun a b => kLt a.key b.key = true
def TabOk (l : List Ent) : Prop := l.length ≤ 400 ∧ (∀ e ∈ l, entOk e) ∧ Rises l
def entB (e : Ent) : List UInt8 := textB e.key ++ [if e.dead then 1 else 0] ++ textB e.value
def rowsB (l : List Ent) : List UInt8 := l.flatMap entB
def bodyB (l : List Ent) : List UInt8 := numB l.length ++ rowsB l
def tabB (l : List Ent) : List UInt8 := sealB (bodyB l)
theorem rowsB_snoc (l : List Ent) (e : Ent) : rowsB (l ++ [e]) = rowsB l ++ entB e := by simp [rowsB]
theorem textB_len (s : ByteArray) (h : s.size ≤ 120) : (textB s).length ≤ 130 := by
  unfold textB
  have h1 := numB_len s.size
  have h2 : s.data.toList.length = s.size := by rw [Array.length_toList]; rfl
  rw [List.length_append]; omega
theorem entB_len {e : Ent} (h : entOk e) : (entB e).length ≤ 261 := by
  have h1 := textB_len e.key h.1
  have h2 := textB_len e.value h.2.1
  simp only [entB, List.length_append, List.length_cons, List.length_nil]; omega
theorem rowsB_len : ∀ {l : List Ent}, (∀ e ∈ l, entOk e) → (rowsB l).length ≤ 261 * l.length
  | [], _ => by simp [rowsB]
  | e :: l, h => by
    have h1 := entB_len (h e (by simp))
    have h2 := rowsB_len (l := l) fun x hx => h x (List.mem_cons_of_mem _ hx)
    have e1 : rowsB (e :: l) = entB e ++ rowsB l := rfl
    rw [e1, List.length_append, List.length_cons]; omega
theorem bodyB_len {l : List Ent} (h : TabOk l) : (bodyB l).length ≤ 104410 := by
  have h1 := numB_len l.length
  have h2 := rowsB_len h.2.1
  have h3 := h.1
  unfold bodyB; rw [List.length_append]; omega
/-- Rising is told by neighbours. -/
theorem rises_snoc {l : List Ent} {e : Ent} (h : Rises l) (hn : ∀ x, l.getLast? = some x → kLt x.key e.key = true) : Rises (l ++ [e]) := by
  refine List.pairwise_append.2 ⟨h, List.pairwise_singleton _ _, fun a ha b hb => ?_⟩
  rw [List.mem_singleton.1 hb]
  rcases List.eq_nil_or_concat l with rfl | ⟨l', x, rfl⟩
  · simp at ha
  · have hx := hn x (by simp)
    rw [List.concat_eq_append] at ha h
    rcases List.mem_append.1 ha with ha | ha
    · exact kLt_trans ((List.pairwise_append.1 h).2.2 a ha x (by simp)) hx
    · rw [List.mem_singleton.1 ha]; exact hx

/-! ### Places -/
/-- How many keys lie below one. -/
def below (key : ByteArray) (l : List Ent) : Nat := l.countP fun e => kLt e.key key
theorem below_le (key : ByteArray) (l : List Ent) : below key l ≤ l.length := List.countP_le_length
theorem below_empty (l : List Ent) : below ByteArray.empty l = 0 := by
  unfold below
  rw [List.countP_eq_zero]
  intro e _
  simp [kLt, ltStr]
theorem below_iff {l : List Ent} (h : Rises l) (key : ByteArray) : ∀ (i : Nat) (hi : i < l.length), kLt l[i].key key = true ↔ i < below key l := by
  unfold Rises at h
  induction l with
  | nil => intro i hi; simp at hi
  | cons x l ih =>
    have h1 := List.pairwise_cons.1 h
    intro i hi
    unfold below at ih ⊢
    rw [List.countP_cons]
    cases i with
    | zero =>
      simp only [List.getElem_cons_zero]
      cases hx : kLt x.key key with
      | true => simp
      | false =>
        have h0 : l.countP (fun e => kLt e.key key) = 0 := by
          rw [List.countP_eq_zero]
          intro e he hk
          have := kLt_trans (h1.1 e he) hk
          rw [hx] at this; cases this
        simp [h0]
    | succ i =>
      simp only [List.getElem_cons_succ]
      have hi' : i < l.length := by simpa using hi
      rw [ih h1.2 i hi']
      cases hx : kLt x.key key with
      | true => simp
      | false =>
        have h0 : l.countP (fun e => kLt e.key key) = 0 := by
          rw [List.countP_eq_zero]
          intro e he hk
          have := kLt_trans (h1.1 e he) hk
          rw [hx] at this; cases this
        simp [h0]
def part (l : List Ent) (low high : ByteArray) : List Ent := (l.take (if high.size = 0 then l.length else below high l)).drop (below low l)

/-! ### Mixed -/
def fresh (e : Ent) (m : List Ent) : Bool := !m.any fun x => decide (x.key = e.key)
def mixAdd (m : List Ent) (e : Ent) : List Ent := if fresh e m then m ++ [e] else m
def mixed (ls : List (List Ent)) : List Ent := ls.flatten.foldl mixAdd []
def entCf (a b : Ent) : Int := cmpS a.key b.key
theorem entLt (a b : Ent) : ltOf entCf a b = kLt a.key b.key := by
  unfold ltOf entCf cmpS kLt
  cases h1 : ltStr a.key.data.toList b.key.data.toList with
  | true => simp
  | false => cases h2 : ltStr b.key.data.toList a.key.data.toList <;> simp
theorem entSwo : SWO (ltOf entCf) := by
  refine ⟨fun x => ?_, fun x y z h1 h2 => ?_, fun x y z h1 h2 => ?_⟩
  · rw [entLt]; exact kLt_irrefl _
  · rw [entLt] at *; exact kLt_trans h1 h2
  · rw [entLt] at *; exact swo_ltStr.ntrans _ _ _ h1 h2
def KeysApart (m : List Ent) : Prop := m.Pairwise fun a b => a.key ≠ b.key
theorem fresh_iff {e : Ent} {m : List Ent} : fresh e m = true ↔ ∀ x ∈ m, x.key ≠ e.key := by
  simp [fresh]
theorem mixAdd_apart {m : List Ent} {e : Ent} (h : KeysApart m) : KeysApart (mixAdd m e) := by
  unfold mixAdd
  split
  · rename_i hf
    exact List.pairwise_append.2 ⟨h, List.pairwise_singleton _ _, fun a ha b hb => by rw [List.mem_singleton.1 hb]; exact fresh_iff.1 hf a ha⟩
  · exact h
theorem mixFold_apart : ∀ {l m : List Ent}, KeysApart m → KeysApart (l.foldl mixAdd m)
  | [], _, h => h
  | e :: l, m, h => mixFold_apart (l := l) (mixAdd_apart h)
theorem mixed_apart (ls : List (List Ent)) : KeysApart (mixed ls) := mixFold_apart .nil
theorem apart_of_rises {l : List Ent} (h : Rises l) : KeysApart l := h.imp fun {a b} hk e => by rw [e, kLt_irrefl] at hk; cases hk
/-- What is new in turn is appended as it is. -/
theorem mixFold_new : ∀ {l m : List Ent}, KeysApart l → (∀ x ∈ l, ∀ y ∈ m, y.key ≠ x.key) → l.foldl mixAdd m = m ++ l
  | [], m, _, _ => by simp
  | e :: l, m, h, hn => by
    have h1 := List.pairwise_cons.1 h
    have hf : mixAdd m e = m ++ [e] := by unfold mixAdd; rw [if_pos (fresh_iff.2 (hn e (by simp)))]
    rw [List.foldl_cons, hf, mixFold_new h1.2 (fun x hx y hy => ?_), List.append_assoc]; rfl
    rcases List.mem_append.1 hy with hy | hy
    · exact hn x (List.mem_cons_of_mem _ hx) y hy
    · rw [List.mem_singleton.1 hy]; exact h1.1 x hx
theorem mixFold_old : ∀ {l m : List Ent}, (∀ x ∈ l, ∃ y ∈ m, y.key = x.key) → l.foldl mixAdd m = m
  | [], _, _ => rfl
  | e :: l, m, h => by
    have hf : mixAdd m e = m := by
      unfold mixAdd
      rw [if_neg]
      intro hf
      obtain ⟨y, hy, hk⟩ := h e (by simp)
      exact fresh_iff.1 hf y hy hk
    rw [List.foldl_cons, hf]
    exact mixFold_old fun x hx => h x (List.mem_cons_of_mem _ hx)
theorem mixed_self {l : List Ent} (h : Rises l) : mixed [l, l] = l := by
  unfold mixed
  have e : [l, l].flatten = l ++ l := by simp
  have h0 : l.foldl mixAdd [] = l := by rw [mixFold_new (apart_of_rises h) (fun x _ y hy => absurd hy (List.not_mem_nil)), List.nil_append]
  rw [e, List.foldl_append, h0]
  exact mixFold_old fun x hx => ⟨x, hx, rfl⟩
theorem mixed_parts {l : List Ent} (h : Rises l) (k : Nat) : (mixed [l.drop k, l.take k]).Perm l := by
  unfold mixed
  have e : [l.drop k, l.take k].flatten = l.drop k ++ l.take k := by simp
  have hl : Rises (l.take k ++ l.drop k) := by rw [List.take_append_drop]; exact h
  have hp := List.pairwise_append.1 hl
  have h0 : (l.drop k).foldl mixAdd [] = l.drop k := by rw [mixFold_new (apart_of_rises hp.2.1) (fun x _ y hy => absurd hy (List.not_mem_nil)), List.nil_append]
  rw [e, List.foldl_append, h0, mixFold_new (apart_of_rises hp.1) (fun x hx y hy e => ?_)]
  · exact List.perm_append_comm.trans (by rw [List.take_append_drop])
  · have := hp.2.2 x hx y hy
    rw [e, kLt_irrefl] at this; cases this
theorem sorted_eq {l q : List Ent} (hr : Rises l) (hp : q.Perm l) (hs : q.Pairwise (fun a b => ltOf entCf b a = false)) : q = l := by
  have ha : KeysApart q := ((hp.symm).pairwise_iff (fun {x y} hxy e => hxy e.symm)).1 (apart_of_rises hr)
  have hq : q.Pairwise fun a b => kLt a.key b.key = true := by
    unfold KeysApart at ha
    clear hp hr
    induction q with
    | nil => exact .nil
    | cons x q ih =>
      have h1 := List.pairwise_cons.1 hs
      have h2 := List.pairwise_cons.1 ha
      refine List.pairwise_cons.2 ⟨fun y hy => ?_, ih h1.2 h2.2⟩
      have h3 := h1.1 y hy
      rw [entLt] at h3
      cases h4 : kLt x.key y.key with
      | true => rfl
      | false => exact absurd (kLt_tri h4 h3) (h2.1 y hy)
  unfold Rises at hr
  clear hs ha
  induction q generalizing l with
  | nil => exact hp.nil_eq
  | cons x q ih =>
    cases l with
    | nil => have := hp.length_eq; simp at this
    | cons y l =>
      have h1 := List.pairwise_cons.1 hq
      have h2 := List.pairwise_cons.1 hr
      have hxy : x = y := by
        rcases List.mem_cons.1 (hp.mem_iff.1 (List.mem_cons_self (a := x))) with h | h
        · exact h
        · rcases List.mem_cons.1 (hp.mem_iff.2 (List.mem_cons_self (a := y))) with h' | h'
          · exact h'.symm
          · have := kLt_trans (h2.1 x h) (h1.1 y h'); rw [kLt_irrefl] at this; cases this
      subst hxy
      rw [ih h2.2 hp.cons_inv h1.2]
theorem tab_sub {l : List Ent} (h : TabOk l) {m : List Ent} (hm : m.Sublist l) : TabOk m := ⟨Nat.le_trans hm.length_le h.1, fun e he => h.2.1 e (hm.subset he), List.Pairwise.sublist hm h.2.2⟩
theorem part_low (l : List Ent) (key : ByteArray) (hk : key.size ≠ 0) : part l ByteArray.empty key = l.take (below key l) := by
  unfold part; rw [if_neg hk, below_empty]; rfl
theorem part_high (l : List Ent) (key : ByteArray) : part l key ByteArray.empty = l.drop (below key l) := by
  unfold part; rw [if_pos (by simp), List.take_length]
end Go.Proofs.YthobnigjhedjaaaDoor
