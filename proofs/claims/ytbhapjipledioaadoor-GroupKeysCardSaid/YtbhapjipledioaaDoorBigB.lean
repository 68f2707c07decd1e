/-
  The statements' own whole numbers, further: compare, divide (of at most two words), Set, QuoRem, Quo, Rem, DivMod, Mod. No condition but that the divisor is not 0.
-/
import Derived.Test.YtbhapjipledioaaDoorBig
import Derived.Laws.CopyOwn
import Derived.Deep.RegionHeld3
namespace Go.Proofs.YtbhapjipledioaaDoor
open Go.RowKit Go.ChangeShapes Go.WideShapes
set_option linter.unusedVariables false

/-! ### Words, plain -/
theorem wVal_split : ∀ (l : List Nat) (m : Nat), m ≤ l.length → wVal l = wVal (l.take m) + 4294967296 ^ m * wVal (l.drop m)
  | l, 0, _ => by simp [wVal]
  | [], m + 1, h => by simp at h
  | a :: l, m + 1, h => by
    rw [List.take_succ_cons, List.drop_succ_cons, wVal, wVal, wVal_split l m (by simpa using h), Nat.pow_succ, Nat.mul_add, Nat.mul_comm (4294967296 ^ m) 4294967296, Nat.mul_assoc]
    omega
theorem wVal_lt : ∀ {l : List Nat}, (∀ x ∈ l, x < 4294967296) → wVal l < 4294967296 ^ l.length
  | [], _ => by simp [wVal]
  | a :: l, h => by
    have h1 := h a List.mem_cons_self
    have h2 := wVal_lt (l := l) fun x hx => h x (List.mem_cons_of_mem _ hx)
    rw [wVal, List.length_cons, Nat.pow_succ]
    omega
theorem wVal_ge {l : List Nat} {k x : Nat} (h : l[k]? = some x) (h0 : x ≠ 0) : 4294967296 ^ k ≤ wVal l := by
  have hk : k < l.length := (List.getElem?_eq_some_iff.1 h).1
  rw [wVal_split l k (by omega), List.drop_eq_getElem_cons hk, wVal]
  have e : l[k] = x := (List.getElem?_eq_some_iff.1 h).2
  have h1 : 4294967296 ^ k * 1 ≤ 4294967296 ^ k * (l[k] + 4294967296 * wVal (l.drop (k + 1))) := Nat.mul_le_mul_left _ (by omega)
  omega
theorem words_lt {F : Nat → Prop} {w : World} {A : Option Addr} {c : Nat} {l : List Nat} (h : SlA u32E F w A c l) : ∀ x ∈ l, x < 4294967296 := fun x hx => by
  obtain ⟨i, hi⟩ := List.getElem?_of_mem hx
  obtain ⟨b, off, cs, _, _, _, hr⟩ := h.2.2 i x hi
  exact hr.2
def wCmp (a b : Nat) : Int := if a < b then -1 else if a = b then 0 else 1
theorem cmp_len {a b : List Nat} (hb : TrimOf b b.length) (ha : ∀ x ∈ a, x < 4294967296) (h : a.length < b.length) : wVal a < wVal b := by
  have h1 := wVal_lt ha
  rcases hb.2 with h2 | ⟨x, hx, h0⟩
  · omega
  · exact Nat.lt_of_lt_of_le h1 (Nat.le_trans (Nat.pow_le_pow_right (by decide) (by omega)) (wVal_ge hx h0))
theorem cmp_at {a b : List Nat} {m : Nat} (ha : ∀ x ∈ a, x < 4294967296) (h1 : m < a.length) (h2 : m < b.length) (hd : a.drop (m + 1) = b.drop (m + 1)) (h : a[m] < b[m]) : wVal a < wVal b := by
  rw [wVal_split a m (by omega), wVal_split b m (by omega), List.drop_eq_getElem_cons h1, List.drop_eq_getElem_cons h2, wVal, wVal, hd]
  have h3 := wVal_lt (l := a.take m) fun x hx => ha x (List.mem_of_mem_take hx)
  rw [List.length_take, Nat.min_eq_left (by omega)] at h3
  have h4 : 4294967296 ^ m * (a[m] + 4294967296 * wVal (b.drop (m + 1)) + 1) ≤ 4294967296 ^ m * (b[m] + 4294967296 * wVal (b.drop (m + 1))) := Nat.mul_le_mul_left _ (by omega)
  rw [Nat.mul_add, Nat.mul_one] at h4
  omega

/-- Words, trimmed, in memory. -/
def WordsAt (w : World) (F : Nat → Prop) (A : Option Addr) (n c V : Nat) : Prop := ∃ l : List Nat, l.length = n ∧ TrimOf l l.length ∧ SlA u32E F w A c l ∧ wVal l = V ∧ n ≤ 1000
theorem WordsAt.of_trim {w : World} {F : Nat → Prop} {A : Option Addr} {c n : Nat} {l : List Nat} (hn : n ≤ l.length) (ht : TrimOf l n) (hs : SlA u32E F w A c l) (hl : l.length ≤ 1000) : WordsAt w F A n c (wVal l) := by
  have e : (l.take n).length = n := by rw [List.length_take]; omega
  refine ⟨l.take n, e, ⟨by rw [List.drop_eq_nil_of_le (Nat.le_refl _)]; nofun, ?_⟩, hs.head hn, ht.val, by omega⟩
  rw [e]
  rcases ht.2 with h | ⟨x, hx, h0⟩
  · exact .inl h
  · by_cases h1 : n = 0
    · exact .inl h1
    · exact .inr ⟨x, by rw [List.getElem?_take, if_pos (by omega)]; exact hx, h0⟩
theorem WordsAt.keep {w w' : World} {F : Nat → Prop} {A : Option Addr} {c n V : Nat} (h : WordsAt w F A n c V) (hs : Same F w w') : WordsAt w' F A n c V := by
  obtain ⟨l, h1, h2, h3, h4, h5⟩ := h; exact ⟨l, h1, h2, h3.keep hs, h4, h5⟩
theorem WordsAt.more {w : World} {F F' : Nat → Prop} {A : Option Addr} {c n V : Nat} (h : WordsAt w F A n c V) (hF : ∀ k, F k → F' k) : WordsAt w F' A n c V := by
  obtain ⟨l, h1, h2, h3, h4, h5⟩ := h; exact ⟨l, h1, h2, h3.more hF, h4, h5⟩
theorem WordsAt.nil (w : World) (F : Nat → Prop) : WordsAt w F none 0 0 0 := ⟨[], rfl, ⟨nofun, .inl rfl⟩, SlA.nil _ _ _ _ _ (Nat.zero_le _), rfl, by omega⟩
theorem WordsAt.zero {w : World} {F : Nat → Prop} {A : Option Addr} {c n V : Nat} (h : WordsAt w F A n c V) : V = 0 ↔ n = 0 := by
  obtain ⟨l, h1, h2, h3, h4, h5⟩ := h
  rw [← h4, ← h1]; exact h2.zero (Nat.le_refl _)
theorem WordsAt.len {w : World} {F : Nat → Prop} {A : Option Addr} {c n V k : Nat} (h : WordsAt w F A n c V) (hV : V < 4294967296 ^ k) : n ≤ k := by
  obtain ⟨l, h1, h2, h3, h4, h5⟩ := h
  rcases h2.2 with h6 | ⟨x, hx, h0⟩
  · omega
  · have h7 := wVal_ge hx h0
    rw [h4] at h7
    rcases Nat.lt_or_ge k n with h8 | h8
    · have h9 : 4294967296 ^ k ≤ 4294967296 ^ (l.length - 1) := Nat.pow_le_pow_right (by decide) (by omega)
      omega
    · exact h8
theorem BigAt.words {w : World} {g : Nat} {f : Bool} {V : Nat} (h : BigAt w g f V) : ∃ A n c, w.heap[g]? = some (.cells #[.bool f, .slice A n c] 40 (0, 0)) ∧ WordsAt w (· < w.heap.size) A n c V ∧ (f = true → 0 < V) := by
  obtain ⟨A, n, c, l, hg, hn, ht, hs, hv, hl, hf⟩ := h.ex
  exact ⟨A, n, c, hg, by rw [← hv]; exact WordsAt.of_trim hn ht hs hl, hf⟩
theorem BigAt.of {w : World} {g : Nat} {f : Bool} {V n c : Nat} {A : Option Addr} (hg : w.heap[g]? = some (.cells #[.bool f, .slice A n c] 40 (0, 0))) (h : WordsAt w (· < w.heap.size) A n c V) (hf : f = true → 0 < V) : BigAt w g f V := by
  obtain ⟨l, h1, h2, h3, h4, h5⟩ := h
  exact ⟨A, n, c, l, hg, by omega, by rw [← h1]; exact h2, h3, h4, by omega, hf⟩
/-- A block that is a whole number's. -/
def IntObj (w : World) (k : Nat) : Prop := ∃ (f : Bool) (A : Option Addr) (n c : Nat), w.heap[k]? = some (.cells #[.bool f, .slice A n c] 40 (0, 0))
theorem BigAt.obj {w : World} {g : Nat} {f : Bool} {V : Nat} (h : BigAt w g f V) : IntObj w g := by
  obtain ⟨A, n, c, h1, _⟩ := h.words; exact ⟨f, A, n, c, h1⟩
/-- Words are kept where only numbers' own blocks turn. -/
theorem u32_keep {w w' : World} {A : Option Addr} {c : Nat} {l : List Nat} {F : Nat → Prop} (h4 : SlA u32E (· < w.heap.size) w A c l) (hb : Frm F w w') (hF : ∀ k, F k → IntObj w k) : SlA u32E (· < w'.heap.size) w' A c l := by
  refine ⟨h4.1, h4.2.1, fun i x hx => ?_⟩
  obtain ⟨b, off, cs, e, hb2, hc, hr⟩ := h4.2.2 i x hx
  refine ⟨b, off, cs, e, Nat.lt_of_lt_of_le hb2 hb.size, fun j u hj => ?_, hr⟩
  have h8 := hc j u hj
  by_cases hFb : F b
  · obtain ⟨f, A', n, c', ho⟩ := hF b hFb
    rw [hr.1] at hj
    match j, hj with
    | 0, hj =>
      simp at hj; subst hj
      rw [cell_of_row w b _ _ _ _ ho] at h8
      generalize off + (i * u32E.sz + 0) = p at h8
      match p, h8 with
      | 0, h8 => simp at h8
      | 1, h8 => simp at h8
  · exact (World.cell?_of_block (a := ⟨b, _, none⟩) (hb.block b hb2 hFb)).trans h8
theorem WordsAt.frm {w w' : World} {A : Option Addr} {n c V : Nat} {F : Nat → Prop} (h : WordsAt w (· < w.heap.size) A n c V) (hb : Frm F w w') (hF : ∀ k, F k → IntObj w k) : WordsAt w' (· < w'.heap.size) A n c V := by
  obtain ⟨l, h2, h3, h4, h5, h6⟩ := h; exact ⟨l, h2, h3, u32_keep h4 hb hF, h5, h6⟩
/-- Another number's block turns, and new blocks come. -/
theorem BigAt.frm {w w' : World} {g : Nat} {f : Bool} {V : Nat} {F : Nat → Prop} (h : BigAt w g f V) (hb : Frm F w w') (hg : ¬ F g) (hF : ∀ k, F k → IntObj w k) : BigAt w' g f V := by
  obtain ⟨A, n, c, h1, h2, h7⟩ := h.words
  exact BigAt.of (A := A) (n := n) (c := c) ((hb.block g (block_lt h1) hg).trans h1) (h2.frm hb hF) h7
theorem BigAt.below {w w' : World} {g : Nat} {f : Bool} {V : Nat} (h : BigAt w g f V) (hb : Below w.heap.size w w') : BigAt w' g f V := h.frm (F := fun _ => False) (Frm.ofBelow hb) id (fun _ h => h.elim)
theorem IntObj.frm {w w' : World} {g : Nat} {F : Nat → Prop} (h : IntObj w g) (hb : Frm F w w') (hg : ¬ F g) : IntObj w' g := by
  obtain ⟨f, A, n, c, h1⟩ := h; exact ⟨f, A, n, c, (hb.block g (block_lt h1) hg).trans h1⟩

/-! ### The words' functions -/
theorem words_at (x : Nat) (w : World) (hx : x < 18446744073709551616) :
    Calls Tryd.prog 22 #[.int .u64 (x : Int)] w fun e w' => ∃ A n c, e = .returned (.slice A n c) ∧ WordsAt w' (fun k => w.heap.size ≤ k ∧ k < w'.heap.size) A n c x ∧ Below w.heap.size w w' := by
  refine (words_ok x w hx).mono ?_
  rintro e w2 ⟨n, rfl, hn, ht, hs, hb, hz⟩
  refine ⟨_, n, 2, rfl, ?_, hb⟩
  have h := WordsAt.of_trim (l := wsOf x) hn ht (hs.more (F' := fun k => w.heap.size ≤ k ∧ k < w2.heap.size) fun k hk => by omega) (by show 2 ≤ 1000; omega)
  rw [wsOf_val] at h; exact h
theorem twin_at (F : Nat → Prop) (A : Option Addr) (n c V : Nat) (w : World) (h : WordsAt w F A n c V) :
    Calls Tryd.prog 32 #[.slice A n c] w fun e w' => ∃ A' c', e = .returned (.slice A' n c') ∧ WordsAt w' (fun k => w.heap.size ≤ k ∧ k < w'.heap.size) A' n c' V ∧ Below w.heap.size w w' := by
  obtain ⟨l, rfl, h2, h3, h4, h5⟩ := h
  refine (twin_ok F A c l w h3 h5).mono ?_
  rintro e w2 ⟨A', c', rfl, hs, hb⟩
  exact ⟨A', c', rfl, ⟨l, rfl, h2, hs, h4, h5⟩, hb⟩
set_option maxRecDepth 100000 in
theorem cmp_ok (F G : Nat → Prop) (A B : Option Addr) (n m c d U V : Nat) (w : World) (ha : WordsAt w F A n c U) (hb : WordsAt w G B m d V) :
    Calls Tryd.prog 38 #[.slice A n c, .slice B m d] w fun e w' => e = .returned (.int .i64 (wCmp U V)) ∧ ∃ q, w' = w.drewN q := by
  obtain ⟨la, rfl, ta, sa, va, na⟩ := ha
  obtain ⟨lb, rfl, tb, sb, vb, nb⟩ := hb
  have wa := words_lt sa
  have wb := words_lt sb
  have HA := Lib.hid sa
  have HB := Lib.hid sb
  have hca := sa.1
  have hcb := sb.1
  clear sa sb
  by_cases hl : la.length = lb.length
  · have HT : Hid (∀ k, (h1 : k < la.length) → (h2 : k < lb.length) → la.drop (k + 1) = lb.drop (k + 1) → (la[k] < lb[k] → wCmp U V = -1) ∧ (lb[k] < la[k] → wCmp U V = 1)) := fun k h1 h2 hd => by
      refine ⟨fun h => ?_, fun h => ?_⟩
      · have := cmp_at wa h1 h2 hd h
        rw [va, vb] at this
        unfold wCmp; rw [if_pos this]
      · have := cmp_at wb h2 h1 hd.symm h
        rw [va, vb] at this
        unfold wCmp; rw [if_neg (by omega), if_neg (by omega)]
    have HE : Hid (la = lb → wCmp U V = 0) := fun e => by
      subst e
      have : U = V := va.symm.trans vb
      unfold wCmp; rw [if_neg (by omega), if_pos this]
    clear ta tb va vb wa wb
    obtain ⟨N, hN⟩ : ∃ N, N = la.length := ⟨_, rfl⟩
    have HNB : Hid (lb.length = N) := hl.symm.trans hN.symm
    rw [← hl]
    rw [← hl] at nb hcb
    rw [← hN] at hca hcb na nb ⊢
    have HNA : Hid (la.length = N) := hN.symm
    clear hl hN
    go_enter Tryd.func38, Tryd.ntmps38
    go_wp2_with fail
    go_loopw [5] (fun iv wx => ∃ k q : Nat, k ≤ N ∧ iv = .int .i64 ((k : Int) - 1) ∧ Hid (la.drop k = lb.drop k) ∧ wx = w.drewN q) (fun iv _ => (intOf iv + 1).toNat)
    case atStart => exact ⟨N, 0, Nat.le_refl _, rfl, (by have h1 := HNA.out; have h2 := HNB.out; show _ = _; rw [List.drop_eq_nil_of_le (by omega), List.drop_eq_nil_of_le (by omega)]), rfl⟩
    case round =>
      obtain ⟨k, q, hk, rfl, HD, rfl⟩ := hrel
      by_cases h0 : k = 0
      · subst h0
        have HR : Hid (wCmp U V = 0) := HE.out (by simpa using HD.out)
        clear HE HT HD
        go_wp2_with fail
        go_ret
        exact ⟨by rw [HR.out]; rfl, q, rfl⟩
      · obtain ⟨m, rfl⟩ : ∃ m, k = m + 1 := ⟨k - 1, by omega⟩
        have hma : m < la.length := by have := HNA.out; omega
        have hmb : m < lb.length := by have := HNB.out; omega
        obtain ⟨b, off, rfl, _, c0, hw0⟩ := HA.out.u32_ hma
        obtain ⟨b', off', rfl, _, d0, hw1⟩ := HB.out.u32_ hmb
        have e1 : ((m + 1 : Nat) : Int) - 1 = (m : Int) := by omega
        have HTM := Lib.hid (HT.out m hma hmb HD.out)
        have HDE : Hid (la[m] = lb[m] → la.drop m = lb.drop m) := fun e => by rw [List.drop_eq_getElem_cons hma, List.drop_eq_getElem_cons hmb, e, HD.out]
        generalize la[m] = x at c0 hw0 HTM HDE
        generalize lb[m] = y at d0 hw1 HTM HDE
        clear HT HE HD hma hmb
        by_cases hxy : x = y
        · subst hxy
          have HD2 : Hid (la.drop m = lb.drop m) := HDE.out rfl
          clear HDE HTM
          go_upto_region 8 with (fail)
          go_quiet (fail)
          go_wp2_with fail
          go_roundw
          case rel => exact ⟨m, q + nq, by omega, by go_num, HD2, by simp⟩
          case measure => simp [intOf]
        · have dxy : ((x : Int) == (y : Int)) = false := by rw [beq_eq_false_iff_ne]; omega
          by_cases hlt : x < y
          · have dl : decide (x < y) = true := decide_eq_true hlt
            have HR : Hid (wCmp U V = -1) := HTM.out.1 hlt
            clear HDE HTM
            go_upto_region 8 with (fail)
            go_quiet (fail)
            go_upto_region 9 with (fail)
            go_quiet (fail)
            go_wp2_with fail
            go_ret
            exact ⟨by rw [HR.out]; rfl, _, by first | rfl | (simp; rfl)⟩
          · have dl : decide (x < y) = false := decide_eq_false hlt
            have HR : Hid (wCmp U V = 1) := HTM.out.2 (by omega)
            clear HDE HTM
            go_upto_region 8 with (fail)
            go_quiet (fail)
            go_upto_region 9 with (fail)
            go_quiet (fail)
            go_wp2_with fail
            go_ret
            exact ⟨by rw [HR.out]; rfl, _, by first | rfl | (simp; rfl)⟩
  · have dne : ((la.length : Int) == (lb.length : Int)) = false := by rw [beq_eq_false_iff_ne]; omega
    by_cases hlt : la.length < lb.length
    · have dl : decide (la.length < lb.length) = true := decide_eq_true hlt
      have h1 := cmp_len tb wa hlt
      rw [va, vb] at h1
      rw [show wCmp U V = -1 by unfold wCmp; rw [if_pos h1]]
      clear ta tb wa wb va vb HA HB h1
      go_enter Tryd.func38, Tryd.ntmps38
      go_wp2_with fail
      go_ret
      exact ⟨rfl, 0, rfl⟩
    · have dl : decide (la.length < lb.length) = false := decide_eq_false hlt
      have h1 := cmp_len ta wb (by omega)
      rw [va, vb] at h1
      rw [show wCmp U V = 1 by unfold wCmp; rw [if_neg (by omega), if_neg (by omega)]]
      clear ta tb wa wb va vb HA HB h1
      go_enter Tryd.func38, Tryd.ntmps38
      go_wp2_with fail
      go_ret
      exact ⟨rfl, 0, rfl⟩
theorem or_add2 (a r : Nat) (h : a < 4294967296) (hr : r * 4294967296 + a < 18446744073709551616) : bits BinOp.or IntKind.u64 (a : Int) ((r : Int) * 4294967296) = ((r * 4294967296 + a : Nat) : Int) := by
  have h1 := or_add r a h hr
  unfold bits at h1 ⊢
  rw [← h1]
  simp only [BitVec.or_comm]
set_option maxRecDepth 100000 in
theorem plain_ok (F : Nat → Prop) (A : Option Addr) (n c V : Nat) (w : World) (h : WordsAt w F A n c V) (hn : n ≤ 2) :
    Calls Tryd.prog 39 #[.slice A n c] w fun e w' => e = .returned (.int .u64 (V : Int)) ∧ V < 18446744073709551616 ∧ w = w' := by
  obtain ⟨l, rfl, _, hs, hv, _⟩ := h
  have wl := words_lt hs
  have hc := hs.1
  match l, hn, hs, hv, wl, hc with
  | [], _, hs, hv, wl, hc =>
    subst hv
    rw [show wVal [] = 0 from rfl, show List.length ([] : List Nat) = 0 from rfl]
    clear hs wl
    go_enter Tryd.func39, Tryd.ntmps39
    go_wp2_with fail
    go_ret
    first | exact ⟨rfl, by decide, rfl⟩ | exact ⟨rfl, rfl⟩ | rfl
  | [x], _, hs, hv, wl, hc =>
    subst hv
    obtain ⟨b, off, rfl, _, c0, hw0⟩ := hs.u32_ (k := 0) (by simp)
    simp only [List.getElem_cons_zero, Nat.add_zero] at c0 hw0
    rw [show wVal [x] = x by simp [wVal]]
    rw [show List.length [x] = 1 from rfl] at hc ⊢
    clear hs wl
    go_enter Tryd.func39, Tryd.ntmps39
    go_wp2_with fail
    go_ret
    exact ⟨rfl, by omega, rfl⟩
  | [x, y], _, hs, hv, wl, hc =>
    subst hv
    obtain ⟨b, off, rfl, _, c0, hw0⟩ := hs.u32_ (k := 0) (by simp)
    obtain ⟨b', off', e, _, c1, hw1⟩ := hs.u32_ (k := 1) (by simp)
    injection e with e; injection e with e1 e2; subst e1; subst e2
    simp only [List.getElem_cons_zero, List.getElem_cons_succ, Nat.add_zero] at c0 hw0 c1 hw1
    have hV : wVal [x, y] = y * 4294967296 + x := by simp [wVal]; omega
    rw [hV]
    have hor := or_add2 x y hw0 (by omega)
    have hb : y * 4294967296 + x < 18446744073709551616 := by omega
    obtain ⟨T, hT⟩ : ∃ T, T = y * 4294967296 + x := ⟨_, rfl⟩
    rw [← hT] at hor hb ⊢
    rw [show List.length [x, y] = 2 from rfl] at hc ⊢
    clear hs wl hT hV
    go_enter Tryd.func39, Tryd.ntmps39
    go_wp2_with fail
    go_ret
    first | exact ⟨rfl, hb, rfl⟩ | exact ⟨rfl, rfl⟩ | rfl
set_option maxRecDepth 100000 in
set_option maxHeartbeats 2000000 in
theorem div_ok (F G : Nat → Prop) (A B : Option Addr) (n m c d U V : Nat) (w : World) (ha : WordsAt w F A n c U) (hb : WordsAt w G B m d V) (hF : ∀ k, F k → k < w.heap.size) (hG : ∀ k, G k → k < w.heap.size) (hU : U < 18446744073709551616) (hV : V ≠ 0) :
    Calls Tryd.prog 33 #[.slice A n c, .slice B m d] w fun e w' => ∃ A1 n1 c1 A2 n2 c2, e = .returned (.tuple #[.slice A1 n1 c1, .slice A2 n2 c2]) ∧ WordsAt w' (fun k => w.heap.size ≤ k ∧ k < w'.heap.size) A1 n1 c1 (U / V) ∧ WordsAt w' (fun k => w.heap.size ≤ k ∧ k < w'.heap.size) A2 n2 c2 (U % V) ∧ Below w.heap.size w w' := by
  have hm : m ≠ 0 := fun e => hV (hb.zero.2 e)
  have hn2 := ha.len (k := 2) hU
  have hncap : n ≤ c := by obtain ⟨l, h1, _, h3, _⟩ := ha; have := h3.1; omega
  have hmcap : m ≤ d := by obtain ⟨l, h1, _, h3, _⟩ := hb; have := h3.1; omega
  have hm1 : m ≤ 1000 := by obtain ⟨l, h1, _, _, _, h5⟩ := hb; exact h5
  have HC := Lib.hid (cmp_ok F G A B n m c d U V w ha hb)
  have HA := Lib.hid ha
  have HB := Lib.hid hb
  clear ha hb
  by_cases hlt : U < V
  · rw [show wCmp U V = -1 by unfold wCmp; rw [if_pos hlt]] at HC
    rw [Nat.div_eq_of_lt hlt, Nat.mod_eq_of_lt hlt]
    go_enter Tryd.func33, Tryd.ntmps33
    go_wp2_with fail
    refine HC.out.mono ?_
    rintro e w2 ⟨rfl, q, rfl⟩
    go_wp2_with fail
    refine (twin_at F A n c U (w.drewN q) (HA.out.keep fun k _ => rfl)).mono ?_
    rintro e w2 ⟨A', c', rfl, hw, hb⟩
    have HR : Hid (WordsAt w2 (fun k => w.heap.size ≤ k ∧ k < w2.heap.size) A' n c' U ∧ Below w.heap.size w w2) := And.intro hw ((bdrewN (Below.refl _ _) q).trans hb)
    clear hw hb
    go_wp2_with fail
    go_ret2
    exact ⟨none, 0, 0, A', n, c', rfl, WordsAt.nil _ _, HR.out⟩
  · obtain ⟨cv, hcv⟩ : ∃ cv, cv = wCmp U V := ⟨_, rfl⟩
    have hcv0 : 0 ≤ cv ∧ cv ≤ 1 := by rw [hcv]; unfold wCmp; rw [if_neg hlt]; split <;> omega
    rw [← hcv] at HC
    clear hcv
    have hVm : V < 18446744073709551616 := by omega
    have HPA := Lib.hid (plain_ok F A n c U w HA.out hn2)
    have HPB := Lib.hid (plain_ok G B m d V w HB.out (HB.out.len (k := 2) hVm))
    have hq1 : ((U : Int) / (V : Int)) = ((U / V : Nat) : Int) := rfl
    have hr1 : ((U : Int).tmod (V : Int)) = ((U % V : Nat) : Int) := rfl
    have hr2 : ((U : Int) % (V : Int)) = ((U % V : Nat) : Int) := rfl
    have hqb : U / V < 18446744073709551616 := Nat.lt_of_le_of_lt (Nat.div_le_self _ _) hU
    have hrb : U % V < 18446744073709551616 := Nat.lt_of_le_of_lt (Nat.mod_le _ _) hU
    obtain ⟨Q, hQ⟩ : ∃ Q, Q = U / V := ⟨_, rfl⟩
    obtain ⟨R, hR⟩ : ∃ R, R = U % V := ⟨_, rfl⟩
    rw [← hQ] at hq1 hqb ⊢
    rw [← hR] at hr1 hr2 hrb ⊢
    clear hQ hR
    go_enter Tryd.func33, Tryd.ntmps33
    go_wp2_with fail
    refine HC.out.mono ?_
    rintro e w2 ⟨rfl, q, rfl⟩
    have dcv : decide (cv < 0) = false := decide_eq_false (by omega)
    have dn2 : decide (n ≤ 2) = true := decide_eq_true hn2
    have HPA := Lib.hid (plain_ok F A n c U (w.drewN q) (HA.out.keep fun k _ => rfl) hn2)
    have HPB := Lib.hid (plain_ok G B m d V (w.drewN q) (HB.out.keep fun k _ => rfl) (HB.out.len (k := 2) hVm))
    have hqw : IntKind.u64.wrap (Q : Int) = (Q : Int) := by show (Q : Int) % 18446744073709551616 = _; omega
    have hrw : IntKind.u64.wrap (R : Int) = (R : Int) := by show (R : Int) % 18446744073709551616 = _; omega
    have HWQ := Lib.hid (fun W => words_at Q W hqb)
    have HWR := Lib.hid (fun W => words_at R W hrb)
    have hV0 : ((V : Int) == 0) = false := by rw [beq_eq_false_iff_ne]; omega
    clear HA HB HC
    go_wp2_with fail
    refine HPA.out.mono ?_
    rintro e w2 ⟨rfl, _, rfl⟩
    go_wp2_with fail
    refine HPB.out.mono ?_
    rintro e w2 ⟨rfl, _, rfl⟩
    clear HPA HPB
    go_upto_region 7 with (fail)
    go_region_held3 (fun W => True) (trivial) (first | (with_reducible refine (HWQ.out _).mono ?_; rintro e W1 ⟨A1, n1, c1, rfl, hw1, hb1⟩) | (with_reducible refine (HWR.out _).mono ?_; rintro e W2 ⟨A2, n2, c2, rfl, hw2, hb2⟩))
    have hbb : Below w.heap.size w W1 := (bdrewN (Below.refl _ _) _).trans hb1
    have HR : Hid (WordsAt W2 (fun k => w.heap.size ≤ k ∧ k < W2.heap.size) A1 n1 c1 Q ∧ WordsAt W2 (fun k => w.heap.size ≤ k ∧ k < W2.heap.size) A2 n2 c2 R ∧ Below w.heap.size w W2) :=
      ⟨(hw1.keep fun k hk => hb2.block k hk.2).more fun k hk => ⟨hk.1, Nat.lt_of_lt_of_le hk.2 hb2.size⟩, hw2.more fun k hk => ⟨Nat.le_trans hbb.size hk.1, hk.2⟩, hbb.trans (hb2.mono hbb.size)⟩
    clear hw1 hw2 hb1 hb2 hbb
    go_wp2_with fail
    go_ret2
    exact ⟨A1, n1, c1, A2, n2, c2, rfl, HR.out⟩

/-! ### Numbers -/
theorem give_at (g : Nat) (neg : Bool) (A : Option Addr) (n c V : Nat) (w : World) (hg : IntObj w g) (hw : WordsAt w (· < w.heap.size) A n c V) :
    Calls Tryd.prog 17 #[.pointer (some ⟨g, 0, none⟩), .bool neg, .slice A n c] w fun e w' => e = .returned (.pointer (some ⟨g, 0, none⟩)) ∧ BigAt w' g (neg && decide (0 < V)) V ∧ w'.heap.size = w.heap.size ∧ Frm (· = g) w w' := by
  obtain ⟨f, A0, n0, c0, h1⟩ := hg
  have hn : n ≤ 1000 := by obtain ⟨l, _, _, _, _, h5⟩ := hw; exact h5
  refine (give_ok g f neg _ A n c 40 w h1 (by omega)).mono ?_
  rintro e w2 ⟨rfl, h2, h3, h4⟩
  have hz : decide (0 < n) = decide (0 < V) := by
    have := hw.zero
    by_cases h0 : n = 0
    · rw [h0, this.2 h0]
    · rw [decide_eq_true (by omega), decide_eq_true (by have : V ≠ 0 := fun e => h0 (this.1 e); omega)]
  rw [hz] at h2
  refine ⟨rfl, BigAt.of h2 (hw.frm h4 (fun k hk => by rw [hk]; exact ⟨f, A0, n0, c0, h1⟩)) (fun e => ?_), h3, h4⟩
  rw [Bool.and_eq_true] at e
  exact of_decide_eq_true e.2
set_option maxRecDepth 100000 in
theorem quoRem_ok (gz gx gy gr : Nat) (fx fy : Bool) (U V : Nat) (w : World) (hz : IntObj w gz) (hr : IntObj w gr) (hne : gz ≠ gr) (hx : BigAt w gx fx U) (hy : BigAt w gy fy V) (hU : U < 18446744073709551616) (hV : V ≠ 0) :
    Calls Tryd.prog 25 #[.pointer (some ⟨gz, 0, none⟩), .pointer (some ⟨gx, 0, none⟩), .pointer (some ⟨gy, 0, none⟩), .pointer (some ⟨gr, 0, none⟩)] w fun e w' =>
      e = .returned (.tuple #[.pointer (some ⟨gz, 0, none⟩), .pointer (some ⟨gr, 0, none⟩)]) ∧ BigAt w' gz ((fx != fy) && decide (0 < U / V)) (U / V) ∧ BigAt w' gr (fx && decide (0 < U % V)) (U % V) ∧ Frm (fun k => k = gz ∨ k = gr) w w' := by
  obtain ⟨Ax, nx, cx, bx, wx, _⟩ := hx.words
  obtain ⟨Ay, ny, cy, by_, wy, _⟩ := hy.words
  have x0 := cell_of_row w gx 0 _ _ _ bx
  have x1 := cell_of_row w gx 1 _ _ _ bx
  have y0 := cell_of_row w gy 0 _ _ _ by_
  have y1 := cell_of_row w gy 1 _ _ _ by_
  simp at x0 x1 y0 y1
  have hdiv : ∀ q, Calls Tryd.prog 33 #[.slice Ax nx cx, .slice Ay ny cy] (w.drewN q) fun e w' => ∃ A1 n1 c1 A2 n2 c2, e = .returned (.tuple #[.slice A1 n1 c1, .slice A2 n2 c2]) ∧ WordsAt w' (fun k => w.heap.size ≤ k ∧ k < w'.heap.size) A1 n1 c1 (U / V) ∧ WordsAt w' (fun k => w.heap.size ≤ k ∧ k < w'.heap.size) A2 n2 c2 (U % V) ∧ Below w.heap.size w w' := fun q =>
    (div_ok (· < w.heap.size) (· < w.heap.size) Ax Ay nx ny cx cy U V (w.drewN q) (wx.keep fun k _ => rfl) (wy.keep fun k _ => rfl) (fun _ h => h) (fun _ h => h) hU hV).mono (by
      rintro e w1 ⟨A1, n1, c1, A2, n2, c2, rfl, h1, h2, hb⟩
      exact ⟨A1, n1, c1, A2, n2, c2, rfl, h1, h2, (bdrewN (Below.refl _ _) q).trans hb⟩)
  have HD := Lib.hid hdiv
  have HZ := Lib.hid hz
  have HR := Lib.hid hr
  have hzl : gz < w.heap.size := by obtain ⟨_, _, _, _, h⟩ := hz; exact block_lt h
  have hrl : gr < w.heap.size := by obtain ⟨_, _, _, _, h⟩ := hr; exact block_lt h
  have hxl := block_lt bx
  have hyl := block_lt by_
  clear hx hy bx by_ wx wy hz hr hdiv
  generalize U / V = Q at HD ⊢
  generalize U % V = R at HD ⊢
  go_enter Tryd.func25, Tryd.ntmps25
  go_upto_region 1 with (fail)
  go_quiet (fail)
  go_upto_region 2 with (fail)
  go_region_held3 (fun W => W.cell? ⟨gx, 1, none⟩ = some (.slice Ax nx cx) ∧ W.cell? ⟨gy, 1, none⟩ = some (.slice Ay ny cy)) (first | exact ⟨x1, y1⟩ | exact ⟨k1, k2⟩) (first | (with_reducible refine (HD.out _).mono ?_; rintro e w1 ⟨A1, n1, c1, A2, n2, c2, rfl, h1, h2, hb⟩; have k1 := (hb.cell (p := ⟨gx, 1, none⟩) hxl).trans x1; have k2 := (hb.cell (p := ⟨gy, 1, none⟩) hyl).trans y1))
  have hb0 := Frm.ofBelow (F := fun _ => False) hb
  have HG1 := Lib.hid (give_at gz (fx != fy) A1 n1 c1 Q w1 (HZ.out.frm hb0 id) (h1.more fun k hk => hk.2))
  have H2 := Lib.hid (h2.more (F' := (· < w1.heap.size)) fun k hk => hk.2)
  have HB := Lib.hid hb0
  have HZ1 := Lib.hid (HZ.out.frm hb0 id)
  have HR1 := Lib.hid (HR.out.frm hb0 id)
  clear h1 h2 hb hb0 HD x0 x1 y0 y1 k1 k2 HZ HR
  go_wp2_with fail
  refine HG1.out.mono ?_
  rintro e w2 ⟨rfl, hz2, hs2, hf2⟩
  have HF1 : Hid (∀ k, k = gz → IntObj w1 k) := fun k hk => by rw [hk]; exact HZ1.out
  have HG2 := Lib.hid (give_at gr fx A2 n2 c2 R w2 (HR1.out.frm hf2 (fun e => hne e.symm)) (H2.out.frm hf2 HF1.out))
  have HZ2 := Lib.hid hz2
  have HR2 : Hid (∀ k, k = gr → IntObj w2 k) := fun k hk => by rw [hk]; exact HR1.out.frm hf2 (fun e => hne e.symm)
  have HF2 : Hid (Frm (fun k => k = gz ∨ k = gr) w w2) := HB.out.trans hf2 (fun _ h => h.elim) (fun k h => .inl (.inl h))
  clear hz2 hs2 hf2 HG1 H2 HZ1 HR1 HB HF1
  go_wp2_with fail
  refine HG2.out.mono ?_
  rintro e w3 ⟨rfl, hr3, hs3, hf3⟩
  have HE : Hid (BigAt w3 gz ((fx != fy) && decide (0 < Q)) Q ∧ BigAt w3 gr (fx && decide (0 < R)) R ∧ Frm (fun k => k = gz ∨ k = gr) w w3) :=
    ⟨HZ2.out.frm hf3 hne HR2.out, hr3, HF2.out.trans hf3 (fun _ h => h) (fun k h => .inl (.inr h))⟩
  clear hr3 hs3 hf3 HG2 HZ2 HR2 HF2
  go_wp2_with fail
  go_ret2
  exact ⟨rfl, HE.out⟩
end Go.Proofs.YtbhapjipledioaaDoor
