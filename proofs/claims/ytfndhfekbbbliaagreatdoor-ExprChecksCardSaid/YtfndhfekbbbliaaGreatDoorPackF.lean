/-
  Several texts of this claim in one, in build order; each begins with its own remark, which says what it proves and under which conditions.
-/
import Derived.Test.YtfndhfekbbbliaaGreatDoorPackE
import Derived.Test.YtfndhfekbbbliaaGreatDoorPackA
import Derived.BigQuiet
import Derived.MapKept
import Derived.Test.YtfndhfekbbbliaaGreatDoorPackB
import Derived.Deep.LoopGhost

/-
  The statements' own whole numbers: Uint64, Int64. No condition.
-/
namespace Go.Proofs.YtfndhfekbbbliaaGreatDoor
open Go.RowKit Go.ChangeShapes Go.WideShapes
set_option linter.unusedVariables false

set_option maxRecDepth 100000 in
theorem uint64_ok (g : Nat) (f : Bool) (V : Nat) (w : World) (h : BigAt w g f V) (hV : V < 18446744073709551616) :
    Calls Tryz.prog 92 #[.pointer (some ⟨g, 0, none⟩)] w fun e w' => e = .returned (.int .u64 (V : Int)) ∧ w = w' := by
  obtain ⟨A, n, c, hb, hw, _⟩ := h.words
  have x1 := cell_of_row w g 1 _ _ _ hb
  simp at x1
  have hn := hw.len (k := 2) hV
  obtain ⟨l, hl, _, hs, hv, _⟩ := hw
  have wl := words_lt hs
  have hc := hs.1
  clear h hb
  subst hl
  match l, hn, hs, hv, wl, hc with
  | [], _, hs, hv, wl, hc =>
    subst hv
    rw [show wVal [] = 0 from rfl]
    rw [show List.length ([] : List Nat) = 0 from rfl] at x1
    clear hs wl
    go_enter Tryz.func92, Tryz.ntmps92
    go_wp2_with fail
    go_ret
    first | exact ⟨rfl, rfl⟩ | rfl
  | [x], _, hs, hv, wl, hc =>
    subst hv
    obtain ⟨b, off, rfl, _, c0, hw0⟩ := hs.u32_ (k := 0) (by simp)
    simp only [List.getElem_cons_zero, Nat.add_zero] at c0 hw0
    rw [show wVal [x] = x by simp [wVal]]
    rw [show List.length [x] = 1 from rfl] at hc x1
    clear hs wl hV
    go_enter Tryz.func92, Tryz.ntmps92
    go_wp2_with fail
    go_ret
    exact ⟨rfl, rfl⟩
  | [x, y], _, hs, hv, wl, hc =>
    subst hv
    obtain ⟨b, off, rfl, _, c0, hw0⟩ := hs.u32_ (k := 0) (by simp)
    obtain ⟨b', off', e, _, c1, hw1⟩ := hs.u32_ (k := 1) (by simp)
    injection e with e; injection e with e1 e2; subst e1; subst e2
    simp only [List.getElem_cons_zero, List.getElem_cons_succ, Nat.add_zero] at c0 hw0 c1 hw1
    have hV2 : wVal [x, y] = y * 4294967296 + x := by simp [wVal]; omega
    rw [hV2]
    have hor := or_add2 x y hw0 (by omega)
    obtain ⟨T, hT⟩ : ∃ T, T = y * 4294967296 + x := ⟨_, rfl⟩
    rw [← hT] at hor ⊢
    rw [show List.length [x, y] = 2 from rfl] at hc x1
    clear hs wl hT hV2 hV
    go_enter Tryz.func92, Tryz.ntmps92
    go_wp2_with fail
    go_ret
    exact ⟨rfl, rfl⟩
set_option maxRecDepth 100000 in
theorem int64_ok (g : Nat) (f : Bool) (V : Nat) (w : World) (h : BigAt w g f V) (hV : V ≤ 9223372036854775808) (hf : f = false → V < 9223372036854775808) :
    Calls Tryz.prog 46 #[.pointer (some ⟨g, 0, none⟩)] w fun e w' => e = .returned (.int .i64 (if f then -(V : Int) else (V : Int))) ∧ w = w' := by
  have HU := Lib.hid (uint64_ok g f V w h (by omega))
  obtain ⟨A, n, c, hb, _, _⟩ := h.words
  have x0 := cell_of_row w g 0 _ _ _ hb
  simp at x0
  clear h hb
  cases f with
  | false =>
    have hV2 := hf rfl
    clear hf
    have hcv : IntKind.i64.wrap (V : Int) = (V : Int) := IntWalk.i64_in _ (by omega)
    go_enter Tryz.func46, Tryz.ntmps46
    go_wp2_with fail
    refine HU.out.mono ?_
    rintro e w2 ⟨rfl, rfl⟩
    go_wp2_with fail
    go_ret
    exact ⟨rfl, rfl⟩
  | true =>
    clear hf
    have hcv : wrap64 (-wrap64 (V : Int)) = -(V : Int) := by
      by_cases h0 : V = 9223372036854775808
      · subst h0; show wrap64 (-wrap64 9223372036854775808) = -9223372036854775808; unfold wrap64; omega
      · rw [IntWalk.wrap64_in (V : Int) (by omega)]; exact IntWalk.wrap64_in _ (by omega)
    go_enter Tryz.func46, Tryz.ntmps46
    go_wp2_with fail
    refine HU.out.mono ?_
    rintro e w2 ⟨rfl, rfl⟩
    go_wp2_with fail
    go_ret
    exact ⟨rfl, rfl⟩
end Go.Proofs.YtfndhfekbbbliaaGreatDoor

/-
  The statements' own whole numbers: Quo, Rem; the length in bits; IsInt64. No condition but that the divisor is not 0.
-/
namespace Go.Proofs.YtfndhfekbbbliaaGreatDoor
open Go.RowKit Go.ChangeShapes Go.WideShapes
set_option linter.unusedVariables false

theorem new_objQ (w : World) : IntObj (w.alloc (.cells #[.bool false, .slice none 0 0] 98)) w.heap.size := ⟨false, none, 0, 0, heap_alloc_new _ _⟩
set_option maxRecDepth 100000 in
theorem quo_ok (gz gx gy : Nat) (fx fy : Bool) (U V : Nat) (w : World) (hz : IntObj w gz) (hx : BigAt w gx fx U) (hy : BigAt w gy fy V) (hU : U < 18446744073709551616) (hV : V ≠ 0) :
    Calls Tryz.prog 42 #[.pointer (some ⟨gz, 0, none⟩), .pointer (some ⟨gx, 0, none⟩), .pointer (some ⟨gy, 0, none⟩)] w fun e w' =>
      e = .returned (.pointer (some ⟨gz, 0, none⟩)) ∧ BigAt w' gz ((fx != fy) && decide (0 < U / V)) (U / V) ∧ Frm (· = gz) w w' := by
  obtain ⟨W1, hW1⟩ : ∃ W1, W1 = w.alloc (.cells #[.bool false, .slice none 0 0] 98) := ⟨_, rfl⟩
  have hb1 : Below w.heap.size w W1 := by rw [hW1]; exact (Below.refl _ _).alloc (Nat.le_refl _) _
  have hzl : gz < w.heap.size := by obtain ⟨_, _, _, _, h⟩ := hz; exact block_lt h
  have HQ := Lib.hid (quoRem_ok gz gx gy w.heap.size fx fy U V W1 (hz.frm (Frm.ofBelow (F := fun _ => False) hb1) id) (by rw [hW1]; exact new_objQ w) (by omega) (hx.below hb1) (hy.below hb1) hU hV)
  have HB1 := Lib.hid hb1
  have HW := Lib.hid hW1
  clear hx hy hz hb1 hW1
  go_enter Tryz.func42, Tryz.ntmps42
  go_wp2_with fail
  rw [← HW.out]
  clear HW
  refine HQ.out.mono ?_
  rintro e w2 ⟨rfl, h2, _, hf2⟩
  have HR : Hid (BigAt w2 gz ((fx != fy) && decide (0 < U / V)) (U / V) ∧ Frm (· = gz) w w2) := ⟨h2, (Frm.ofBelow (F := fun _ => False) HB1.out).trans hf2 (fun _ h => h.elim) (fun k h => by rcases h with h | h; exact .inl h; exact .inr (by omega))⟩
  clear h2 hf2 HQ HB1
  go_wp2_with fail
  go_ret
  exact ⟨rfl, HR.out⟩
set_option maxRecDepth 100000 in
theorem rem_ok (gz gx gy : Nat) (fx fy : Bool) (U V : Nat) (w : World) (hz : IntObj w gz) (hx : BigAt w gx fx U) (hy : BigAt w gy fy V) (hU : U < 18446744073709551616) (hV : V ≠ 0) :
    Calls Tryz.prog 44 #[.pointer (some ⟨gz, 0, none⟩), .pointer (some ⟨gx, 0, none⟩), .pointer (some ⟨gy, 0, none⟩)] w fun e w' =>
      e = .returned (.pointer (some ⟨gz, 0, none⟩)) ∧ BigAt w' gz (fx && decide (0 < U % V)) (U % V) ∧ Frm (· = gz) w w' := by
  obtain ⟨W1, hW1⟩ : ∃ W1, W1 = w.alloc (.cells #[.bool false, .slice none 0 0] 98) := ⟨_, rfl⟩
  have hb1 : Below w.heap.size w W1 := by rw [hW1]; exact (Below.refl _ _).alloc (Nat.le_refl _) _
  have hzl : gz < w.heap.size := by obtain ⟨_, _, _, _, h⟩ := hz; exact block_lt h
  have HQ := Lib.hid (quoRem_ok w.heap.size gx gy gz fx fy U V W1 (by rw [hW1]; exact new_objQ w) (hz.frm (Frm.ofBelow (F := fun _ => False) hb1) id) (by omega) (hx.below hb1) (hy.below hb1) hU hV)
  have HB1 := Lib.hid hb1
  have HW := Lib.hid hW1
  clear hx hy hz hb1 hW1
  go_enter Tryz.func44, Tryz.ntmps44
  go_wp2_with fail
  rw [← HW.out]
  clear HW
  refine HQ.out.mono ?_
  rintro e w2 ⟨rfl, _, h2, hf2⟩
  have HR : Hid (BigAt w2 gz (fx && decide (0 < U % V)) (U % V) ∧ Frm (· = gz) w w2) := ⟨h2, (Frm.ofBelow (F := fun _ => False) HB1.out).trans hf2 (fun _ h => h.elim) (fun k h => by rcases h with h | h; exact .inr (by omega); exact .inl h)⟩
  clear h2 hf2 HQ HB1
  go_wp2_with fail
  go_ret
  exact ⟨rfl, HR.out⟩
/-- How many bits. -/
def BitLen (V k : Nat) : Prop := V < 2 ^ k ∧ (k = 0 ∨ 2 ^ (k - 1) ≤ V)
theorem bitLen_words {l : List Nat} {m n top : Nat} (hl : l.length = m + 1) (hw : ∀ x ∈ l, x < 4294967296) (ht : l[m]? = some top) (h1 : top < 2 ^ n) (h2 : 2 ^ (n - 1) ≤ top) (hn : 1 ≤ n) : BitLen (wVal l) (m * 32 + n) := by
  have hml : m < l.length := by omega
  have hte : l[m] = top := (List.getElem?_eq_some_iff.1 ht).2
  have hsp := wVal_split l m (by omega)
  rw [List.drop_eq_getElem_cons hml, List.drop_eq_nil_of_le (by omega), hte] at hsp
  simp only [wVal, Nat.mul_zero, Nat.add_zero] at hsp
  have hlo := wVal_lt (l := l.take m) fun x hx => hw x (List.mem_of_mem_take hx)
  rw [List.length_take, Nat.min_eq_left (by omega)] at hlo
  have hp : (4294967296 : Nat) ^ m = 2 ^ (m * 32) := by rw [show (4294967296 : Nat) = 2 ^ 32 by decide, ← Nat.pow_mul, Nat.mul_comm]
  rw [hp] at hsp hlo
  obtain ⟨B, hB⟩ : ∃ B, B = 2 ^ (m * 32) := ⟨_, rfl⟩
  rw [← hB] at hsp hlo
  refine ⟨?_, .inr ?_⟩
  · rw [Nat.pow_add, ← hB, hsp]
    have h3 : B * (top + 1) ≤ B * 2 ^ n := Nat.mul_le_mul_left _ h1
    rw [Nat.mul_add, Nat.mul_one] at h3
    omega
  · rw [show m * 32 + n - 1 = m * 32 + (n - 1) by omega, Nat.pow_add, ← hB, hsp]
    have h3 : B * 2 ^ (n - 1) ≤ B * top := Nat.mul_le_mul_left _ h2
    omega
theorem half_step (x n : Nat) : x / 2 ^ n / 2 = x / 2 ^ (n + 1) := by rw [Nat.div_div_eq_div_mul, Nat.pow_succ]
theorem half_done {x n : Nat} (h : x / 2 ^ n = 0) : x < 2 ^ n := by
  rcases Nat.lt_or_ge x (2 ^ n) with h1 | h1
  · exact h1
  · have := Nat.div_pos h1 (Nat.two_pow_pos n); omega
set_option maxRecDepth 100000 in
theorem length_ok (F : Nat → Prop) (A : Option Addr) (n c V : Nat) (w : World) (h : WordsAt w F A n c V) :
    Calls Tryz.prog 90 #[.slice A n c] w fun e w' => ∃ k : Nat, e = .returned (.int .i64 k) ∧ BitLen V k ∧ k ≤ 32000 ∧ w = w' := by
  have hz := h.zero
  obtain ⟨l, hl, ht, hs, hv, hn⟩ := h
  have wl := words_lt hs
  have hc := hs.1
  rw [hl] at hc
  cases n with
  | zero =>
    have hV := hz.2 rfl
    have HR : Hid (BitLen V 0) := ⟨by rw [hV]; decide, .inl rfl⟩
    clear hz ht hs hv wl hl
    go_enter Tryz.func90, Tryz.ntmps90
    go_wp2_with fail
    go_ret
    exact ⟨0, rfl, HR.out, by omega, rfl⟩
  | succ m =>
    obtain ⟨b, off, rfl, _, c0, hw0⟩ := hs.u32_ (k := m) (by omega)
    have htop : l[m]'(by omega) ≠ 0 := by
      rcases ht.2 with h0 | ⟨x, hx, h0⟩
      · omega
      · rw [hl, Nat.add_sub_cancel, List.getElem?_eq_getElem (by omega)] at hx
        injection hx with hx; rw [hx]; exact h0
    have hget : l[m]? = some (l[m]'(by omega)) := List.getElem?_eq_getElem (by omega)
    generalize l[m]'(by omega) = top at c0 hw0 htop hget
    have HB : Hid (∀ k, top < 2 ^ k → 2 ^ (k - 1) ≤ top → 1 ≤ k → BitLen V (m * 32 + k)) := fun k h1 h2 h3 => by rw [← hv]; exact bitLen_words hl wl hget h1 h2 h3
    have e1 : ((m + 1 : Nat) : Int) - 1 = (m : Int) := by omega
    clear hz ht hs hv wl hl hget
    go_enter Tryz.func90, Tryz.ntmps90
    go_wp2_with fail
    go_loop [3, 4] (fun nv tv => ∃ k t : Nat, k ≤ 32 ∧ nv = .int .i64 k ∧ tv = .int .u32 (t : Int) ∧ Hid (t = top / 2 ^ k) ∧ Hid (k = 0 ∨ 2 ^ (k - 1) ≤ top)) (fun nv _ => 33 - (intOf nv).toNat)
    case atStart => exact ⟨0, top, by omega, rfl, rfl, (by show _ = _; rw [Nat.pow_zero, Nat.div_one]), .inl rfl⟩
    case round =>
      obtain ⟨k, t, hk, rfl, rfl, HT, HK⟩ := hrel
      by_cases h0 : t = 0
      · subst h0
        have hlt := half_done HT.out.symm
        have hk1 : 1 ≤ k := by
          rcases Nat.eq_zero_or_pos k with h | h
          · subst h; rw [Nat.pow_zero] at hlt; omega
          · exact h
        have HR : Hid (BitLen V (m * 32 + k)) := HB.out k hlt (by rcases HK.out with h | h; omega; exact h) hk1
        clear HT HK HB hlt
        go_wp2_with fail
        go_ret
        exact ⟨m * 32 + k, by simp, HR.out, by omega, rfl⟩
      · have d0 : ((t : Int) == 0) = false := by rw [beq_eq_false_iff_ne]; omega
        have hle : 2 ^ k ≤ top := by
          rcases Nat.lt_or_ge top (2 ^ k) with h | h
          · exact absurd (HT.out.trans (Nat.div_eq_of_lt h)) h0
          · exact h
        have hk32 : k < 32 := by
          rcases Nat.lt_or_ge k 32 with h | h
          · exact h
          · have : 2 ^ 32 ≤ 2 ^ k := Nat.pow_le_pow_right (by decide) h
            omega
        have ht32 : t < 4294967296 := by rw [HT.out]; exact Nat.lt_of_le_of_lt (Nat.div_le_self _ _) hw0
        have HT2 : Hid (t / 2 = top / 2 ^ (k + 1)) := by show _ = _; rw [HT.out, half_step]
        have HK2 : Hid (k + 1 = 0 ∨ 2 ^ (k + 1 - 1) ≤ top) := .inr hle
        obtain ⟨t2, ht2⟩ : ∃ t2, t2 = t / 2 := ⟨_, rfl⟩
        have hdv : (t : Int) / 2 = (t2 : Int) := by omega
        rw [← ht2] at HT2
        clear HT HK hle ht2
        go_wp2_with fail
        go_round
        case rel => exact ⟨k + 1, t2, by omega, by go_num, rfl, HT2, HK2⟩
        case measure => simp [intOf]; omega
theorem bit_fin : ∀ j : Fin 32, bits BinOp.and IntKind.u64 (IntKind.u64.wrap ((2147483648 : Int) / 2 ^ j.1)) 1 = if j.1 = 31 then 1 else 0 := by decide
theorem bit_low (F : Nat → Prop) (A : Option Addr) (c i : Nat) (w : World) (h : SlA u32E F w A c [0, 2147483648]) (hi : i < 64) :
    Calls Tryz.prog 128 #[.slice A 2 c, .int .i64 (i : Int)] w fun e w' => e = .returned (.int .u64 (if i = 63 then 1 else 0)) ∧ w = w' := by
  have hc : 2 ≤ c := h.1
  obtain ⟨b, off, rfl, _, c0, _⟩ := h.u32_ (k := 0) (by simp)
  obtain ⟨b', off', e, _, c1, _⟩ := h.u32_ (k := 1) (by simp)
  injection e with e; injection e with e1 e2; subst e1; subst e2
  simp only [List.getElem_cons_zero, List.getElem_cons_succ, Nat.add_zero] at c0 c1
  clear h
  by_cases h32 : i < 32
  · have hq : (i : Int).tdiv 32 = 0 := by rw [Int.tdiv_eq_ediv_of_nonneg (by omega)]; omega
    have hq2 : (i : Int) / 32 = 0 := by omega
    rw [if_neg (by omega)]
    go_enter Tryz.func128, Tryz.ntmps128
    have hb : bits BinOp.and IntKind.u64 0 1 = 0 := by decide
    go_wp2_with fail
    go_ret
    exact ⟨rfl, rfl⟩
  · have hq : (i : Int).tdiv 32 = 1 := by rw [Int.tdiv_eq_ediv_of_nonneg (by omega)]; omega
    have hq2 : (i : Int) / 32 = 1 := by omega
    obtain ⟨j, hj0⟩ : ∃ j, j = i - 32 := ⟨_, rfl⟩
    have hj : j < 32 := by omega
    have hm : (i : Int) % 32 = (j : Int) := by omega
    have hif : (if i = 63 then (1 : Int) else 0) = if j = 31 then 1 else 0 := by
      by_cases h : i = 63
      · rw [if_pos h, if_pos (by omega)]
      · rw [if_neg h, if_neg (by omega)]
    rw [hif]
    have hv : bits BinOp.and IntKind.u64 (IntKind.u64.wrap ((2147483648 : Int) / 2 ^ j)) 1 = if j = 31 then 1 else 0 := bit_fin ⟨j, hj⟩
    obtain ⟨r, hr⟩ : ∃ r : Int, r = if j = 31 then 1 else 0 := ⟨_, rfl⟩
    rw [← hr] at hv ⊢
    clear hif hj0 hr
    go_enter Tryz.func128, Tryz.ntmps128
    go_wp2_with fail
    go_ret
    exact ⟨rfl, rfl⟩
set_option maxRecDepth 100000 in
/-- Of the least int: 63. -/
theorem zeros_ok (g : Nat) (f : Bool) (w : World) (h : BigAt w g f 9223372036854775808) :
    Calls Tryz.prog 91 #[.pointer (some ⟨g, 0, none⟩)] w fun e w' => e = .returned (.int .u64 63) ∧ w = w' := by
  obtain ⟨A, n, c, hb, hw, _⟩ := h.words
  have x1 := cell_of_row w g 1 _ _ _ hb
  simp at x1
  obtain ⟨l, hl, ht, hs, hv, _⟩ := hw
  have wl := words_lt hs
  have hn2 : n = 2 ∧ l = [0, 2147483648] := by
    match l, hl, ht, hv, wl with
    | [], _, _, hv, _ => simp [wVal] at hv
    | [x], _, _, hv, wl => have := wl x (by simp); simp [wVal] at hv; omega
    | [x, y], hl, _, hv, wl =>
      have h1 := wl x (by simp)
      have h2 := wl y (by simp)
      simp only [wVal, Nat.mul_zero, Nat.add_zero] at hv
      have e1 : x = 0 := by omega
      have e2 : y = 2147483648 := by omega
      exact ⟨hl.symm, by rw [e1, e2]⟩
    | x :: y :: z :: r, _, ht, hv, wl =>
      rcases ht.2 with h0 | ⟨t, hx, h0⟩
      · simp at h0
      · have h3 := wVal_ge hx h0
        rw [hv] at h3
        have h4 : (4294967296 : Nat) ^ 2 ≤ 4294967296 ^ ((x :: y :: z :: r).length - 1) := Nat.pow_le_pow_right (by decide) (by simp)
        have h5 : (4294967296 : Nat) ^ 2 = 18446744073709551616 := by decide
        omega
  obtain ⟨rfl, rfl⟩ := hn2
  have HBT := Lib.hid (fun i hi => bit_low (· < w.heap.size) A c i w hs hi)
  clear hs hv ht wl hl hb h
  go_enter Tryz.func91, Tryz.ntmps91
  go_wp2_with fail
  go_loop [3] (fun nv => ∃ k : Nat, k ≤ 63 ∧ nv = .int .u64 (k : Int)) (fun nv => 64 - (intOf nv).toNat)
  case atStart => exact ⟨0, by omega, rfl⟩
  case round =>
    obtain ⟨k, hk, rfl⟩ := hrel
    have hcv : IntKind.i64.wrap (k : Int) = (k : Int) := IntWalk.i64_in _ (by omega)
    by_cases h63 : k = 63
    · subst h63
      have HB2 := Lib.hid (HBT.out 63 (by omega))
      rw [if_pos rfl] at HB2
      go_wp2_with fail
      refine HB2.out.mono ?_
      rintro e w2 ⟨rfl, rfl⟩
      go_wp2_with fail
      go_ret
      exact ⟨rfl, rfl⟩
    · have HB2 := Lib.hid (HBT.out k (by omega))
      rw [if_neg h63] at HB2
      go_wp2_with fail
      refine HB2.out.mono ?_
      rintro e w2 ⟨rfl, rfl⟩
      clear HB2
      go_wp2_with fail
      go_round
      case rel => exact ⟨k + 1, by omega, by go_num⟩
      case measure => simp [intOf]; omega
theorem bitLen_small {V k : Nat} (h : BitLen V k) : (k < 64 ↔ V < 9223372036854775808) := by
  obtain ⟨h1, h2⟩ := h
  constructor
  · intro hk
    have : 2 ^ k ≤ 2 ^ 63 := Nat.pow_le_pow_right (by decide) (by omega)
    have h3 : (2 : Nat) ^ 63 = 9223372036854775808 := by decide
    omega
  · intro hV
    rcases h2 with h2 | h2
    · omega
    · rcases Nat.lt_or_ge k 64 with h | h
      · exact h
      · have : 2 ^ 63 ≤ 2 ^ (k - 1) := Nat.pow_le_pow_right (by decide) (by omega)
        have h3 : (2 : Nat) ^ 63 = 9223372036854775808 := by decide
        omega
set_option maxRecDepth 100000 in
theorem isInt64_ok (g : Nat) (f : Bool) (V : Nat) (w : World) (h : BigAt w g f V) (hf : f = true → V ≤ 9223372036854775808) :
    Calls Tryz.prog 45 #[.pointer (some ⟨g, 0, none⟩)] w fun e w' => e = .returned (.bool (decide (V < 9223372036854775808) || f)) ∧ w = w' := by
  obtain ⟨A, n, c, hb, hw, _⟩ := h.words
  have x0 := cell_of_row w g 0 _ _ _ hb
  have x1 := cell_of_row w g 1 _ _ _ hb
  simp at x0 x1
  have HL := Lib.hid (length_ok _ A n c V w hw)
  have HZ := Lib.hid (fun (e : V = 9223372036854775808) => zeros_ok g f w (by rw [← e]; exact h))
  clear h hb hw
  by_cases hV : V < 9223372036854775808
  · rw [decide_eq_true hV, Bool.true_or]
    go_enter Tryz.func45, Tryz.ntmps45
    go_wp2_with fail
    refine HL.out.mono ?_
    rintro e w2 ⟨k, rfl, hk, hk2, rfl⟩
    have h64 := (bitLen_small hk).2 hV
    have d64 : decide (k < 64) = true := decide_eq_true h64
    clear hk
    go_wp2_with fail
    go_ret
    exact ⟨rfl, rfl⟩
  · rw [decide_eq_false hV, Bool.false_or]
    cases f with
    | false =>
      go_enter Tryz.func45, Tryz.ntmps45
      go_wp2_with fail
      refine HL.out.mono ?_
      rintro e w2 ⟨k, rfl, hk, hk2, rfl⟩
      have h64 : ¬ k < 64 := fun hh => hV ((bitLen_small hk).1 hh)
      have d64 : decide (k < 64) = false := decide_eq_false h64
      have d64i : decide ((k : Int) < 64) = false := decide_eq_false (by omega)
      clear hk
      go_wp2_with fail
      all_goals (go_ret; exact ⟨rfl, rfl⟩)
    | true =>
      have hVe : V = 9223372036854775808 := by have := hf rfl; omega
      have HZ2 := Lib.hid (HZ.out hVe)
      clear HZ
      go_enter Tryz.func45, Tryz.ntmps45
      go_wp2_with fail
      refine HL.out.mono ?_
      rintro e w2 ⟨k, rfl, hk, hk2, rfl⟩
      have h64 : k = 64 := by
        have h1 : ¬ k < 64 := fun hh => hV ((bitLen_small hk).1 hh)
        rcases Nat.lt_or_ge k 65 with h | h
        · omega
        · obtain ⟨_, h2⟩ := hk
          rcases h2 with h2 | h2
          · omega
          · have : 2 ^ 64 ≤ 2 ^ (k - 1) := Nat.pow_le_pow_right (by decide) (by omega)
            have h3 : (2 : Nat) ^ 64 = 18446744073709551616 := by decide
            omega
      subst h64
      clear hk
      go_wp2_with fail
      refine HZ2.out.mono ?_
      rintro e w2 ⟨rfl, rfl⟩
      clear HZ2 HL
      go_wp2_with fail
      go_ret
      exact ⟨rfl, rfl⟩
end Go.Proofs.YtfndhfekbbbliaaGreatDoor

/-
  The reference's trees in memory; the contract of its Value. Conditions: n and s are ints.
-/
namespace Go.Proofs.YtfndhfekbbbliaaGreatDoor
open Go.RowKit Go.ChangeShapes Go.WideShapes
set_option linter.unusedVariables false

def binOps : List UInt8 := [109, 77, 43, 45, 42, 61, 60, 62, 47, 37]
/-- A tree's value: its operator, its number, its operands in blocks F. -/
inductive TreeAt (F : Nat → Prop) (w : World) : Value → Tr → Prop
  | num {k : Int} (h : (Lit.int .i64 k).wf = true) : TreeAt F w (.agg #[.int .i64 0, .int .i64 k, .slice none 0 0]) (.num k)
  | nam (x : Bool) : TreeAt F w (.agg #[.int .i64 (if x then 110 else 115), .int .i64 0, .slice none 0 0]) (.nam x)
  | neg {b : Nat} {o n s : Value} {a : Tr} (hb : F b) (h0 : w.cell? ⟨b, 0, none⟩ = some o) (h1 : w.cell? ⟨b, 1, none⟩ = some n) (h2 : w.cell? ⟨b, 2, none⟩ = some s) (ha : TreeAt F w (.agg #[o, n, s]) a) :
      TreeAt F w (.agg #[.int .i64 126, .int .i64 0, .slice (some ⟨b, 0, none⟩) 1 1]) (.neg a)
  | bin {b : Nat} {o n s o' n' s' : Value} {op : UInt8} {x y : Tr} (hop : op ∈ binOps) (hb : F b) (h0 : w.cell? ⟨b, 0, none⟩ = some o) (h1 : w.cell? ⟨b, 1, none⟩ = some n) (h2 : w.cell? ⟨b, 2, none⟩ = some s) (hx : TreeAt F w (.agg #[o, n, s]) x)
      (h3 : w.cell? ⟨b, 3, none⟩ = some o') (h4 : w.cell? ⟨b, 4, none⟩ = some n') (h5 : w.cell? ⟨b, 5, none⟩ = some s') (hy : TreeAt F w (.agg #[o', n', s']) y) :
      TreeAt F w (.agg #[.int .i64 (op.toNat : Int), .int .i64 0, .slice (some ⟨b, 0, none⟩) 2 2]) (.bin op x y)
  | sel {b : Nat} {o n s o' n' s' o'' n'' s'' : Value} {x y z : Tr} (hb : F b) (h0 : w.cell? ⟨b, 0, none⟩ = some o) (h1 : w.cell? ⟨b, 1, none⟩ = some n) (h2 : w.cell? ⟨b, 2, none⟩ = some s) (hx : TreeAt F w (.agg #[o, n, s]) x)
      (h3 : w.cell? ⟨b, 3, none⟩ = some o') (h4 : w.cell? ⟨b, 4, none⟩ = some n') (h5 : w.cell? ⟨b, 5, none⟩ = some s') (hy : TreeAt F w (.agg #[o', n', s']) y)
      (h6 : w.cell? ⟨b, 6, none⟩ = some o'') (h7 : w.cell? ⟨b, 7, none⟩ = some n'') (h8 : w.cell? ⟨b, 8, none⟩ = some s'') (hz : TreeAt F w (.agg #[o'', n'', s'']) z) :
      TreeAt F w (.agg #[.int .i64 63, .int .i64 0, .slice (some ⟨b, 0, none⟩) 3 3]) (.sel x y z)
theorem TreeAt.keep {F : Nat → Prop} {w w' : World} {v : Value} {t : Tr} (h : TreeAt F w v t) (hs : Same F w w') : TreeAt F w' v t := by
  have c : ∀ {b : Nat} {j : Nat} {u : Value}, F b → w.cell? ⟨b, j, none⟩ = some u → w'.cell? ⟨b, j, none⟩ = some u := fun {b j u} hb h => (hs.cell (p := ⟨b, j, none⟩) hb).trans h
  induction h with
  | num h => exact .num h
  | nam x => exact .nam x
  | neg hb h0 h1 h2 _ ih => exact .neg hb (c hb h0) (c hb h1) (c hb h2) ih
  | bin hop hb h0 h1 h2 _ h3 h4 h5 _ i1 i2 => exact .bin hop hb (c hb h0) (c hb h1) (c hb h2) i1 (c hb h3) (c hb h4) (c hb h5) i2
  | sel hb h0 h1 h2 _ h3 h4 h5 _ h6 h7 h8 _ i1 i2 i3 => exact .sel hb (c hb h0) (c hb h1) (c hb h2) i1 (c hb h3) (c hb h4) (c hb h5) i2 (c hb h6) (c hb h7) (c hb h8) i3
theorem TreeAt.more {F F' : Nat → Prop} {w : World} {v : Value} {t : Tr} (h : TreeAt F w v t) (hF : ∀ k, F k → F' k) : TreeAt F' w v t := by
  induction h with
  | num h => exact .num h
  | nam x => exact .nam x
  | neg hb h0 h1 h2 _ ih => exact .neg (hF _ hb) h0 h1 h2 ih
  | bin hop hb h0 h1 h2 _ h3 h4 h5 _ i1 i2 => exact .bin hop (hF _ hb) h0 h1 h2 i1 h3 h4 h5 i2
  | sel hb h0 h1 h2 _ h3 h4 h5 _ h6 h7 h8 _ i1 i2 i3 => exact .sel (hF _ hb) h0 h1 h2 i1 h3 h4 h5 i2 h6 h7 h8 i3
theorem TreeAt.under {w w' : World} {v : Value} {t : Tr} (h : TreeAt (· < w.heap.size) w v t) (hb : Below w.heap.size w w') : TreeAt (· < w'.heap.size) w' v t :=
  (h.keep fun k hk => hb.block k hk).more fun k hk => Nat.lt_of_lt_of_le hk hb.size

/-! ### Value -/
def I64s (n : Int) : Prop := -9223372036854775808 ≤ n ∧ n ≤ 9223372036854775807
def ValuePost (t : Tr) (n s : Int) (w : World) (e : Ending) (w' : World) : Prop := e = .returned (.int .i64 (t.val n s)) ∧ I64s (t.val n s) ∧ Below w.heap.size w w'
def ValueOk (t : Tr) : Prop := ∀ (v : Value) (n s : Int) (w : World), TreeAt (· < w.heap.size) w v t → I64s n → I64s s → Calls Tryz.prog 13 #[v, .int .i64 n, .int .i64 s] w (ValuePost t n s w)
set_option maxRecDepth 100000 in
theorem value_num (k : Int) : ValueOk (.num k) := by
  intro v n s w h hn hs
  cases h with
  | num hk =>
    have hk2 : I64s k := by
      simp only [Lit.wf, IntKind.min, IntKind.max, IntKind.signed, IntKind.bits, Bool.and_eq_true, decide_eq_true_eq, if_true] at hk
      exact ⟨by omega, by omega⟩
    have HK := Lib.hid hk2
    clear hk hk2 hn hs
    have hend : Below w.heap.size w (w.alloc (.cells #[.int .i64 0, .int .i64 k, .slice none 0 0] 24)) := (Below.refl _ _).alloc (Nat.le_refl _) _
    have HE := Lib.hid hend
    clear hend
    go_enter Tryz.func13, Tryz.ntmps13
    go_wp2_with fail
    go_ret
    exact ⟨rfl, HK.out, HE.out⟩
set_option maxRecDepth 100000 in
theorem value_nam (x : Bool) : ValueOk (.nam x) := by
  intro v n s w h hn hs
  have HN := Lib.hid hn
  have HS := Lib.hid hs
  cases h with
  | nam =>
    clear hn hs
    cases x with
    | true =>
      have hend : Below w.heap.size w (w.alloc (.cells #[.int .i64 110, .int .i64 0, .slice none 0 0] 24)) := (Below.refl _ _).alloc (Nat.le_refl _) _
      have HE := Lib.hid hend
      clear hend
      go_enter Tryz.func13, Tryz.ntmps13
      go_wp2_with fail
      go_ret
      exact ⟨rfl, HN.out, HE.out⟩
    | false =>
      have hend : Below w.heap.size w (w.alloc (.cells #[.int .i64 115, .int .i64 0, .slice none 0 0] 24)) := (Below.refl _ _).alloc (Nat.le_refl _) _
      have HE := Lib.hid hend
      clear hend
      go_enter Tryz.func13, Tryz.ntmps13
      go_wp2_with fail
      go_ret
      exact ⟨rfl, HS.out, HE.out⟩
theorem wrap_i64s (x : Int) : I64s (wrap64 x) := by unfold I64s wrap64; omega
set_option maxRecDepth 100000 in
theorem value_neg (a : Tr) (ha : ValueOk a) : ValueOk (.neg a) := by
  intro v n s w h hn hs
  cases h with
  | @neg b o nn ss _ hb h0 h1 h2 hx =>
    obtain ⟨W1, hW1⟩ : ∃ W1, W1 = w.alloc (.cells #[.int .i64 126, .int .i64 0, .slice (some ⟨b, 0, none⟩) 1 1] 24) := ⟨_, rfl⟩
    have hb1 : Below w.heap.size w W1 := by rw [hW1]; exact (Below.refl _ _).alloc (Nat.le_refl _) _
    have HA := Lib.hid (ha _ n s W1 (hx.under hb1) hn hs)
    have HB1 := Lib.hid hb1
    have g1 := heap_alloc_new w (.cells #[.int .i64 126, .int .i64 0, .slice (some ⟨b, 0, none⟩) 1 1] 24)
    rw [← hW1] at g1
    have z0 := (hb1.cell (p := ⟨b, 0, none⟩) hb).trans h0
    have z1 := (hb1.cell (p := ⟨b, 1, none⟩) hb).trans h1
    have z2 := (hb1.cell (p := ⟨b, 2, none⟩) hb).trans h2
    have y0 := cell_of_row W1 w.heap.size 0 _ _ _ g1
    simp at y0
    have hl1 := block_lt g1
    have HW := Lib.hid hW1
    have HY := Lib.hid y0
    clear hx hn hs hb1 hW1 g1 ha
    go_enter Tryz.func13, Tryz.ntmps13
    go_wp2_with fail
    rw [← HW.out]
    clear HW
    refine HA.out.mono ?_
    rintro e w2 ⟨rfl, hx2, hb2⟩
    have u0 := (hb2.cell (p := ⟨w.heap.size, 0, none⟩) hl1).trans HY.out
    have HB2 := Lib.hid (HB1.out.trans (hb2.mono HB1.out.size))
    have HV : Hid ((Tr.neg a).val n s = wrap64 (-(a.val n s))) := rfl
    generalize a.val n s = x at hx2 HV
    clear HA HB1 hb2 z0 z1 z2 HY
    have hx3 := hx2.1
    have hx4 := hx2.2
    clear hx2
    go_wp2_with fail
    go_ret
    refine ⟨?_, by rw [HV.out]; exact wrap_i64s _, HB2.out⟩
    rw [HV.out]; rfl
set_option maxRecDepth 100000 in
theorem value_sel (x y z : Tr) (ix : ValueOk x) (iy : ValueOk y) (iz : ValueOk z) : ValueOk (.sel x y z) := by
  intro v n s w h hn hs
  cases h with
  | @sel b o nn ss o' n' s' o'' n'' s'' _ _ _ hb h0 h1 h2 hx h3 h4 h5 hy h6 h7 h8 hz =>
    obtain ⟨W1, hW1⟩ : ∃ W1, W1 = w.alloc (.cells #[.int .i64 63, .int .i64 0, .slice (some ⟨b, 0, none⟩) 3 3] 24) := ⟨_, rfl⟩
    have hb1 : Below w.heap.size w W1 := by rw [hW1]; exact (Below.refl _ _).alloc (Nat.le_refl _) _
    have g1 := heap_alloc_new w (.cells #[.int .i64 63, .int .i64 0, .slice (some ⟨b, 0, none⟩) 3 3] 24)
    rw [← hW1] at g1
    have HX := Lib.hid (ix _ n s W1 (hx.under hb1) hn hs)
    have HYZ : Hid (∀ W, Below w.heap.size w W → Calls Tryz.prog 13 #[.agg #[o', n', s'], .int .i64 n, .int .i64 s] W (ValuePost y n s W) ∧ Calls Tryz.prog 13 #[.agg #[o'', n'', s''], .int .i64 n, .int .i64 s] W (ValuePost z n s W)) := fun W hW => ⟨iy _ n s W (hy.under hW) hn hs, iz _ n s W (hz.under hW) hn hs⟩
    have HC : Hid (∀ W, Below w.heap.size w W → (W.cell? ⟨b, 0, none⟩ = some o ∧ W.cell? ⟨b, 1, none⟩ = some nn ∧ W.cell? ⟨b, 2, none⟩ = some ss) ∧ (W.cell? ⟨b, 3, none⟩ = some o' ∧ W.cell? ⟨b, 4, none⟩ = some n' ∧ W.cell? ⟨b, 5, none⟩ = some s') ∧ (W.cell? ⟨b, 6, none⟩ = some o'' ∧ W.cell? ⟨b, 7, none⟩ = some n'' ∧ W.cell? ⟨b, 8, none⟩ = some s'')) := fun W hW =>
      ⟨⟨(hW.cell (p := ⟨b, 0, none⟩) hb).trans h0, (hW.cell (p := ⟨b, 1, none⟩) hb).trans h1, (hW.cell (p := ⟨b, 2, none⟩) hb).trans h2⟩, ⟨(hW.cell (p := ⟨b, 3, none⟩) hb).trans h3, (hW.cell (p := ⟨b, 4, none⟩) hb).trans h4, (hW.cell (p := ⟨b, 5, none⟩) hb).trans h5⟩, ⟨(hW.cell (p := ⟨b, 6, none⟩) hb).trans h6, (hW.cell (p := ⟨b, 7, none⟩) hb).trans h7, (hW.cell (p := ⟨b, 8, none⟩) hb).trans h8⟩⟩
    have HB1 := Lib.hid hb1
    have y0 := cell_of_row W1 w.heap.size 0 _ _ _ g1
    have y2 := cell_of_row W1 w.heap.size 2 _ _ _ g1
    simp at y0 y2
    have hl1 := block_lt g1
    have HW := Lib.hid hW1
    have HY := Lib.hid (And.intro y0 y2)
    obtain ⟨⟨z0, z1, z2⟩, _⟩ := HC.out W1 hb1
    clear hx hy hz hn hs hb1 hW1 g1 ix iy iz h3 h4 h5 h6 h7 h8 y0 y2
    go_enter Tryz.func13, Tryz.ntmps13
    go_wp2_with fail
    rw [← HW.out]
    clear HW h0 h1 h2
    refine HX.out.mono ?_
    rintro e w2 ⟨rfl, hx2, hb2⟩
    have u0 := (hb2.cell (p := ⟨w.heap.size, 0, none⟩) hl1).trans HY.out.1
    have u2 := (hb2.cell (p := ⟨w.heap.size, 2, none⟩) hl1).trans HY.out.2
    have hB2 := HB1.out.trans (hb2.mono HB1.out.size)
    have HB2 := Lib.hid hB2
    have HV : Hid ((Tr.sel x y z).val n s = if x.val n s = 0 then z.val n s else y.val n s) := rfl
    obtain ⟨cy, cz⟩ := HYZ.out w2 hB2
    have HYC := Lib.hid cy
    have HZC := Lib.hid cz
    obtain ⟨_, ⟨p0, p1, p2⟩, ⟨q0, q1, q2⟩⟩ := HC.out w2 hB2
    generalize x.val n s = xv at hx2 HV
    clear HX HB1 hb2 z0 z1 z2 HY HYZ HC hB2 cy cz
    have hx3 := hx2.1
    have hx4 := hx2.2
    clear hx2
    by_cases h0 : xv = 0
    · subst h0
      rw [if_pos rfl] at HV
      go_wp2_with fail
      refine HZC.out.mono ?_
      rintro e w3 ⟨rfl, hz2, hb3⟩
      have HR : Hid (I64s (z.val n s) ∧ Below w.heap.size w w3) := ⟨hz2, HB2.out.trans (hb3.mono HB2.out.size)⟩
      clear hz2 hb3 HZC HYC
      go_wp2_with fail
      go_ret
      exact ⟨by rw [HV.out]; rfl, by rw [HV.out]; exact HR.out.1, HR.out.2⟩
    · rw [if_neg h0] at HV
      have d0 : (xv == 0) = false := by rw [beq_eq_false_iff_ne]; exact h0
      go_wp2_with fail
      refine HYC.out.mono ?_
      rintro e w3 ⟨rfl, hz2, hb3⟩
      have HR : Hid (I64s (y.val n s) ∧ Below w.heap.size w w3) := ⟨hz2, HB2.out.trans (hb3.mono HB2.out.size)⟩
      clear hz2 hb3 HZC HYC
      go_wp2_with fail
      go_ret
      exact ⟨by rw [HV.out]; rfl, by rw [HV.out]; exact HR.out.1, HR.out.2⟩
end Go.Proofs.YtfndhfekbbbliaaGreatDoor

/-
  The reference's reader in memory; the contracts of its small methods. No condition of ours.
-/
namespace Go.Proofs.YtfndhfekbbbliaaGreatDoor
open Go.RowKit Go.ChangeShapes Go.WideShapes
set_option linter.unusedVariables false

/-- A reader of s in block R: its place, its depth, where and what went wrong. -/
def PAt (w : World) (R : Nat) (s : ByteArray) (p d : Nat) (wr bad : Int) : Prop := w.heap[R]? = some (.cells #[.string s, .int .i64 p, .int .i64 d, .int .i64 wr, .int .i64 bad] 81 (0, 0))
theorem PAt.lt {w : World} {R : Nat} {s : ByteArray} {p d : Nat} {wr bad : Int} (h : PAt w R s p d wr bad) : R < w.heap.size := block_lt h
theorem PAt.cells {w : World} {R : Nat} {s : ByteArray} {p d : Nat} {wr bad : Int} (h : PAt w R s p d wr bad) : w.cell? ⟨R, 0, none⟩ = some (.string s) ∧ w.cell? ⟨R, 1, none⟩ = some (.int .i64 p) ∧ w.cell? ⟨R, 2, none⟩ = some (.int .i64 d)
    ∧ w.cell? ⟨R, 3, none⟩ = some (.int .i64 wr) ∧ w.cell? ⟨R, 4, none⟩ = some (.int .i64 bad) ∧ (∀ i, w.frozen? ⟨R, i, none⟩ = false) :=
  ⟨(cell_of_row w R 0 _ _ _ h).trans rfl, (cell_of_row w R 1 _ _ _ h).trans rfl, (cell_of_row w R 2 _ _ _ h).trans rfl, (cell_of_row w R 3 _ _ _ h).trans rfl, (cell_of_row w R 4 _ _ _ h).trans rfl, fun i => by simp [World.frozen?, PAt] at h ⊢; simp [h]⟩
theorem PAt.keep {w w' : World} {R : Nat} {s : ByteArray} {p d : Nat} {wr bad : Int} (h : PAt w R s p d wr bad) (hs : w'.heap[R]? = w.heap[R]?) : PAt w' R s p d wr bad := hs.trans h
theorem PAt.moved {w : World} {R : Nat} {s : ByteArray} {p d : Nat} {wr bad : Int} (h : PAt w R s p d wr bad) (q : Nat) : PAt (w.setCell ⟨R, 1, none⟩ (.int .i64 q)) R s q d wr bad := by
  unfold PAt at h ⊢
  simp [World.setCell, Array.getElem?_modify, h]
theorem PAt.deeper {w : World} {R : Nat} {s : ByteArray} {p d : Nat} {wr bad : Int} (h : PAt w R s p d wr bad) (q : Nat) : PAt (w.setCell ⟨R, 2, none⟩ (.int .i64 q)) R s p q wr bad := by
  unfold PAt at h ⊢
  simp [World.setCell, Array.getElem?_modify, h]
theorem PAt.failed {w : World} {R : Nat} {s : ByteArray} {p d : Nat} {wr bad : Int} (h : PAt w R s p d wr bad) (a e : Int) : PAt ((w.setCell ⟨R, 4, none⟩ (.int .i64 e)).setCell ⟨R, 3, none⟩ (.int .i64 a)) R s p d a e := by
  unfold PAt at h ⊢
  simp [World.setCell, Array.getElem?_modify, h]
def headR (l : List UInt8) : Int := match l with
  | [] => 0
  | c :: _ => (c.toNat : Int)
theorem drop_headR {s : ByteArray} {p : Nat} (h : p < s.size) : s.data.toList.drop p = s.data[p]'h :: s.data.toList.drop (p + 1) := by
  rw [List.drop_eq_getElem_cons (by simpa using h)]; simp
/-- A text is there. -/
def hasR (s : ByteArray) (p : Nat) (t : ByteArray) : Bool := Lib.hasPrefix (s.data.toList.drop p) t.data.toList
theorem hasR_le {s t : ByteArray} {p : Nat} (h : hasR s p t = true) (hp : p ≤ s.size) : p + t.size ≤ s.size := by
  have h1 := (List.isPrefixOf_iff_prefix.1 h).length_le
  rw [List.length_drop] at h1
  have e1 : s.data.toList.length = s.size := by simp
  have e2 : t.data.toList.length = t.size := by simp
  omega
theorem hasR_iff {s t : ByteArray} {p : Nat} (hp : p + t.size ≤ s.size) : hasR s p t = true ↔ s.extract p (p + t.size) = t := by
  have e2 : t.data.toList.length = t.size := by simp
  have e3 : (s.extract p (p + t.size)).data.toList = (s.data.toList.drop p).take t.size := by
    simp [ByteArray.data_extract, List.take_drop]
  have h1 : hasR s p t = true ↔ t.data.toList <+: s.data.toList.drop p := List.isPrefixOf_iff_prefix
  rw [h1, List.prefix_iff_eq_take, e2, ← e3]
  constructor
  · intro h
    apply ByteArray.ext
    exact Array.toList_inj.1 h.symm
  · intro h; rw [h]
set_option maxRecDepth 100000 in
theorem pfail_ok (R p d : Nat) (s : ByteArray) (a e wr : Int) (w : World) (h : PAt w R s p d wr 0) :
    Calls Tryz.prog 36 #[.pointer (some ⟨R, 0, none⟩), .int .i64 a, .int .i64 e] w fun en w' => en = .returned (.tuple #[]) ∧ PAt w' R s p d a e ∧ Frm (· = R) w w' := by
  obtain ⟨c0, c1, c2, c3, c4, cf⟩ := h.cells
  have HH := Lib.hid h
  go_enter Tryz.func36, Tryz.ntmps36
  go_wp2_with fail
  go_end0
  exact ⟨rfl, HH.out.failed a e, ((Frm.refl (· = R) w).setCell (p := ⟨R, 4, none⟩) (.inl rfl) _).setCell (p := ⟨R, 3, none⟩) (.inl rfl) _⟩
set_option maxRecDepth 100000 in
theorem ppeek_ok (R : Nat) (s : ByteArray) (p d : Nat) (wr bad : Int) (w : World) (h : PAt w R s p d wr bad) (hp : p ≤ s.size) :
    Calls Tryz.prog 80 #[.pointer (some ⟨R, 0, none⟩)] w fun e w' => e = .returned (.int .i64 (headR (s.data.toList.drop p))) ∧ ∃ q, w' = w.drewN q := by
  obtain ⟨c0, c1, c2, c3, c4, cf⟩ := h.cells
  by_cases hlt : p < s.size
  · have d1 : decide ((p : Int) < (s.size : Int)) = true := decide_eq_true (by omega)
    rw [drop_headR hlt]
    have HWR : Hid (wrap64 ((s[p]'hlt).toNat : Int) = ((s[p]'hlt).toNat : Int)) := by
      have := (s[p]'hlt).toNat_lt
      show wrap64 _ = _
      unfold wrap64; omega
    go_enter Tryz.func80, Tryz.ntmps80
    go_wp2
    go_quiet (fail)
    go_wp2
    go_quiet (fail)
    go_wp2
    go_ret
    refine ⟨?_, _, World.drewN_drewN _ _ _⟩
    rw [HWR.out]; rfl
  · have d1 : decide ((p : Int) < (s.size : Int)) = false := decide_eq_false (by omega)
    have e : s.data.toList.drop p = [] := List.drop_eq_nil_of_le (by simpa using hlt)
    rw [e]
    go_enter Tryz.func80, Tryz.ntmps80
    go_wp2
    go_quiet (fail)
    go_wp2
    go_ret
    exact ⟨rfl, _, rfl⟩
set_option maxRecDepth 100000 in
set_option maxHeartbeats 2000000 in
theorem pdown_ok (R p d : Nat) (s : ByteArray) (a : Int) (wr : Int) (w : World) (h : PAt w R s p d wr 0) (hd : d < 20) :
    Calls Tryz.prog 81 #[.pointer (some ⟨R, 0, none⟩), .int .i64 a] w fun e w' => e = .returned (.bool true) ∧ PAt w' R s p (d + 1) wr 0 ∧ Frm (· = R) w w' := by
  obtain ⟨c0, c1, c2, c3, c4, cf⟩ := h.cells
  have HH := Lib.hid h
  have hne : ((d : Int) == 20) = false := beq_eq_false_iff_ne.2 (by omega)
  have E1 : Hid ((d : Int) + 1 = ((d + 1 : Nat) : Int)) := by show _ = _; omega
  have H2 := Lib.hid (h.deeper (d + 1))
  go_enter Tryz.func81, Tryz.ntmps81
  go_wp2_with fail
  go_ret
  first
    | exact ⟨rfl, H2.out, (Frm.refl (· = R) w).setCell (p := ⟨R, 2, none⟩) (.inl rfl) _⟩
    | (rw [E1.out]; exact ⟨rfl, H2.out, (Frm.refl (· = R) w).setCell (p := ⟨R, 2, none⟩) (.inl rfl) _⟩)
set_option maxRecDepth 100000 in
set_option maxHeartbeats 2000000 in
theorem pdown_full (R p : Nat) (s : ByteArray) (a : Int) (wr : Int) (w : World) (h : PAt w R s p 20 wr 0) :
    Calls Tryz.prog 81 #[.pointer (some ⟨R, 0, none⟩), .int .i64 a] w fun e w' => e = .returned (.bool false) ∧ PAt w' R s p 20 a 4 ∧ Frm (· = R) w w' := by
  obtain ⟨c0, c1, c2, c3, c4, cf⟩ := h.cells
  have HF := Lib.hid (pfail_ok R p 20 s a 4 wr w h)
  go_enter Tryz.func81, Tryz.ntmps81
  go_wp2_with fail
  refine HF.out.mono ?_
  rintro e w1 ⟨rfl, h1, f1⟩
  have H1 := Lib.hid (And.intro h1 f1)
  clear h1 f1
  go_wp2_with fail
  go_ret
  exact ⟨rfl, H1.out⟩
set_option maxRecDepth 100000 in
set_option maxHeartbeats 2000000 in
theorem pis_ok (R : Nat) (s t : ByteArray) (p d : Nat) (wr bad : Int) (w : World) (h : PAt w R s p d wr bad) (hp : p ≤ s.size) (hs : s.size ≤ 120) (ht : t.size ≤ 10) :
    Calls Tryz.prog 115 #[.pointer (some ⟨R, 0, none⟩), .string t] w fun e w' => e = .returned (.bool (hasR s p t)) ∧ PAt w' R s (if hasR s p t then p + t.size else p) d wr bad ∧ Frm (· = R) w w' := by
  obtain ⟨c0, c1, c2, c3, c4, cf⟩ := h.cells
  have HH := Lib.hid h
  by_cases hle : p + t.size ≤ s.size
  · have hx := hasR_iff hle
    obtain ⟨q, hqe⟩ : ∃ q, q = p + t.size := ⟨_, rfl⟩
    rw [← hqe] at hx
    have hq : (p : Int) + (t.size : Int) = (q : Int) := by omega
    have d1 : decide ((q : Int) ≤ (s.size : Int)) = true := decide_eq_true (by omega)
    have dq1 : q ≤ s.size := by omega
    have dq2 : p ≤ q := by omega
    have dq3 : ¬ s.size < q := by omega
    have dq4 : ¬ q < p := by omega
    have HQE := Lib.hid hqe
    cases hb : hasR s p t with
    | true =>
      have he := hx.1 hb
      have d2 : ((s.extract p q).toList == t.toList) = true := by rw [← beq_toListBytes]; exact (Go.MapKept.bytes_beq _ _).2 he
      clear hx he hqe hle
      go_enter Tryz.func115, Tryz.ntmps115
      go_wp2_with fail
      go_quiet (fail)
      go_wp2_with fail
      go_ret
      refine ⟨rfl, ?_, ((Frm.refl (· = R) w).drewN nq).setCell (p := ⟨R, 1, none⟩) (.inl rfl) _⟩
      have := (HH.out.keep (w' := w.drewN nq) rfl).moved q
      simp only [if_true, ← HQE.out]; exact this
    | false =>
      have he : ¬ s.extract p q = t := fun h => by rw [hx.2 h] at hb; cases hb
      have d2 : ((s.extract p q).toList == t.toList) = false := by rw [← beq_toListBytes]; exact Bool.eq_false_iff.2 fun h => he ((Go.MapKept.bytes_beq _ _).1 h)
      clear hx he hqe hle
      go_enter Tryz.func115, Tryz.ntmps115
      go_wp2_with fail
      go_quiet (fail)
      go_wp2_with fail
      go_ret
      exact ⟨rfl, HH.out.keep rfl, (Frm.refl _ _).drewN _⟩
  · have d1 : decide ((p : Int) + (t.size : Int) ≤ (s.size : Int)) = false := decide_eq_false (by omega)
    have hb : hasR s p t = false := by
      cases hb : hasR s p t with
      | false => rfl
      | true => exact absurd (hasR_le hb hp) hle
    rw [hb]
    go_enter Tryz.func115, Tryz.ntmps115
    go_wp2_with fail
    go_quiet (fail)
    go_wp2_with fail
    go_ret
    exact ⟨rfl, HH.out.keep rfl, (Frm.refl _ _).drewN _⟩
set_option maxRecDepth 100000 in
theorem pwant_yes (R : Nat) (s t : ByteArray) (p d : Nat) (wr bad : Int) (w : World) (h : PAt w R s p d wr bad) (hp : p ≤ s.size) (hs : s.size ≤ 120) (ht : t.size ≤ 10) (hb : hasR s p t = true) :
    Calls Tryz.prog 82 #[.pointer (some ⟨R, 0, none⟩), .string t] w fun e w' => e = .returned (.tuple #[]) ∧ PAt w' R s (p + t.size) d wr bad ∧ Frm (· = R) w w' := by
  have HAS := Lib.hid (pis_ok R s t p d wr bad w h hp hs ht)
  rw [hb] at HAS
  go_enter Tryz.func82, Tryz.ntmps82
  go_wp2_with fail
  refine HAS.out.mono ?_
  rintro e w1 ⟨rfl, h1, f1⟩
  have H1 := Lib.hid h1
  have F1 := Lib.hid f1
  clear h1 f1
  go_wp2_with fail
  go_end0
  exact ⟨rfl, by simpa using H1.out, F1.out⟩
set_option maxRecDepth 100000 in
theorem pwant_no (R : Nat) (s t : ByteArray) (p d : Nat) (wr : Int) (w : World) (h : PAt w R s p d wr 0) (hp : p ≤ s.size) (hs : s.size ≤ 120) (ht : t.size ≤ 10) (hb : hasR s p t = false) :
    Calls Tryz.prog 82 #[.pointer (some ⟨R, 0, none⟩), .string t] w fun e w' => e = .returned (.tuple #[]) ∧ PAt w' R s p d p 2 ∧ Frm (· = R) w w' := by
  have HAS := Lib.hid (pis_ok R s t p d wr 0 w h hp hs ht)
  rw [hb] at HAS
  go_enter Tryz.func82, Tryz.ntmps82
  go_wp2_with fail
  refine HAS.out.mono ?_
  rintro e w1 ⟨rfl, h1, f1⟩
  have h2 : PAt w1 R s p d wr 0 := by simpa using h1
  obtain ⟨c0, c1, c2, c3, c4, cf⟩ := h2.cells
  have HF := Lib.hid (pfail_ok R p d s p 2 wr w1 h2)
  have F1 := Lib.hid f1
  clear h1 f1 h2
  go_wp2_with fail
  refine HF.out.mono ?_
  rintro e w2 ⟨rfl, h3, f3⟩
  have H3 := Lib.hid h3
  have F3 := Lib.hid (F1.out.trans f3 (fun _ h => h) (fun _ h => .inl h))
  clear h3 f3
  go_wp2_with fail
  go_end0
  exact ⟨rfl, H3.out, F3.out⟩
end Go.Proofs.YtfndhfekbbbliaaGreatDoor

/-
  The reference's reader by what is left of the text; what its reading methods leave. Conditions: the text takes at most 120 bytes, the depth is at most 20.
-/
namespace Go.Proofs.YtfndhfekbbbliaaGreatDoor
open Go.RowKit Go.ChangeShapes Go.WideShapes
set_option linter.unusedVariables false

/-- A reader's place, by what is left; nothing went wrong so far. -/
def PL (w : World) (R : Nat) (s : ByteArray) (l : List UInt8) (d : Nat) : Prop := l.length ≤ s.size ∧ l = s.data.toList.drop (s.size - l.length) ∧ ∃ wr, PAt w R s (s.size - l.length) d wr 0
/-- Something went wrong. -/
def PBad (w : World) (R : Nat) (s : ByteArray) (d : Nat) (a e : Int) : Prop := ∃ p d', p ≤ s.size ∧ d ≤ d' ∧ d' ≤ 20 ∧ e ≠ 0 ∧ PAt w R s p d' a e
theorem PL.keep {w w' : World} {R : Nat} {s : ByteArray} {l : List UInt8} {d : Nat} (h : PL w R s l d) (hs : w'.heap[R]? = w.heap[R]?) : PL w' R s l d := ⟨h.1, h.2.1, h.2.2.elim fun wr h => ⟨wr, h.keep hs⟩⟩
theorem PL.lt {w : World} {R : Nat} {s : ByteArray} {l : List UInt8} {d : Nat} (h : PL w R s l d) : R < w.heap.size := h.2.2.elim fun _ h => h.lt
theorem PBad.keep {w w' : World} {R d : Nat} {s : ByteArray} {a e : Int} (h : PBad w R s d a e) (hs : w'.heap[R]? = w.heap[R]?) : PBad w' R s d a e := by
  obtain ⟨p, d', h1, h2, h3, h4, h5⟩ := h
  exact ⟨p, d', h1, h2, h3, h4, h5.keep hs⟩
theorem PBad.less {w : World} {R d d0 : Nat} {s : ByteArray} {a e : Int} (h : PBad w R s d a e) (hd : d0 ≤ d) : PBad w R s d0 a e := by
  obtain ⟨p, d', h1, h2, h3, h4, h5⟩ := h
  exact ⟨p, d', h1, by omega, h3, h4, h5⟩
/-- Some bytes further. -/
theorem PL.on {w w' : World} {R : Nat} {s : ByteArray} {l r : List UInt8} {n d : Nat} {wr : Int} (h : PL w R s l d) (hl : l.length = n + r.length) (hr : r = l.drop n) (h' : PAt w' R s (s.size - l.length + n) d wr 0) : PL w' R s r d := by
  obtain ⟨h1, h2, h3⟩ := h
  have e : s.size - l.length + n = s.size - r.length := by omega
  rw [e] at h'
  refine ⟨by omega, ?_, _, h'⟩
  rw [← e, ← List.drop_drop, ← h2]
  exact hr
theorem ppeekL (R : Nat) (s : ByteArray) (l : List UInt8) (d : Nat) (w : World) (h : PL w R s l d) : Calls Tryz.prog 80 #[.pointer (some ⟨R, 0, none⟩)] w fun e w' => e = .returned (.int .i64 (headR l)) ∧ ∃ q, w' = w.drewN q := by
  obtain ⟨h1, h2, wr, h3⟩ := h
  have := ppeek_ok R s (s.size - l.length) d wr 0 w h3 (by omega)
  rw [← h2] at this
  exact this
theorem ppeekBad (R : Nat) (s : ByteArray) (d : Nat) (a e : Int) (w : World) (h : PBad w R s d a e) : Calls Tryz.prog 80 #[.pointer (some ⟨R, 0, none⟩)] w fun en w' => (∃ c, en = .returned (.int .i64 c)) ∧ ∃ q, w' = w.drewN q := by
  obtain ⟨p, d', h1, h2, h3, h4, h5⟩ := h
  refine (ppeek_ok R s p d' a e w h5 h1).mono ?_
  rintro en w' ⟨g1, g2⟩
  exact ⟨⟨_, g1⟩, g2⟩
theorem hasR_eq {w : World} {R : Nat} {s t : ByteArray} {l : List UInt8} {d : Nat} (h : PL w R s l d) : hasR s (s.size - l.length) t = Lib.hasPrefix l t.data.toList := by
  unfold hasR; rw [← h.2.1]
theorem pisL_yes (R : Nat) (s t : ByteArray) (l r : List UInt8) (d : Nat) (w : World) (h : PL w R s l d) (hs : s.size ≤ 120) (h10 : t.size ≤ 10) (ht : l = t.data.toList ++ r) :
    Calls Tryz.prog 115 #[.pointer (some ⟨R, 0, none⟩), .string t] w fun e w' => e = .returned (.bool true) ∧ PL w' R s r d ∧ Frm (· = R) w w' := by
  have hb : hasR s (s.size - l.length) t = true := by rw [hasR_eq h, ht]; exact List.isPrefixOf_iff_prefix.2 (List.prefix_append _ _)
  have e2 : t.data.toList.length = t.size := by simp
  obtain ⟨wr, hp⟩ := h.2.2
  refine (pis_ok R s t _ d wr 0 w hp (by omega) hs h10).mono ?_
  rintro e w' ⟨h1, h2, h3⟩
  rw [hb] at h1 h2
  exact ⟨h1, h.on (n := t.size) (wr := wr) (by rw [ht, List.length_append, e2]) (by rw [ht, ← e2, List.drop_left]) (by simpa using h2), h3⟩
theorem pisL_no (R : Nat) (s t : ByteArray) (l : List UInt8) (d : Nat) (w : World) (h : PL w R s l d) (hs : s.size ≤ 120) (h10 : t.size ≤ 10) (ht : Lib.hasPrefix l t.data.toList = false) :
    Calls Tryz.prog 115 #[.pointer (some ⟨R, 0, none⟩), .string t] w fun e w' => e = .returned (.bool false) ∧ PL w' R s l d ∧ Frm (· = R) w w' := by
  have hb : hasR s (s.size - l.length) t = false := by rw [hasR_eq h]; exact ht
  obtain ⟨wr, hp⟩ := h.2.2
  refine (pis_ok R s t _ d wr 0 w hp (by omega) hs h10).mono ?_
  rintro e w' ⟨h1, h2, h3⟩
  rw [hb] at h1 h2
  exact ⟨h1, ⟨h.1, h.2.1, wr, by simpa using h2⟩, h3⟩
theorem pwantL_yes (R : Nat) (s : ByteArray) (c : UInt8) (r : List UInt8) (d : Nat) (w : World) (h : PL w R s (c :: r) d) (hs : s.size ≤ 120) :
    Calls Tryz.prog 82 #[.pointer (some ⟨R, 0, none⟩), .string ⟨#[c]⟩] w fun e w' => e = .returned (.tuple #[]) ∧ PL w' R s r d ∧ Frm (· = R) w w' := by
  have hb : hasR s (s.size - (c :: r).length) ⟨#[c]⟩ = true := by rw [hasR_eq h]; simp [Lib.hasPrefix]
  obtain ⟨wr, hp⟩ := h.2.2
  refine (pwant_yes R s ⟨#[c]⟩ _ d wr 0 w hp (by omega) hs (by show 1 ≤ 10; omega) hb).mono ?_
  rintro e w' ⟨h1, h2, h3⟩
  exact ⟨h1, h.on (n := 1) (wr := wr) (by simp; omega) rfl h2, h3⟩
theorem pwantL_no (R : Nat) (s : ByteArray) (c : UInt8) (l : List UInt8) (d : Nat) (w : World) (h : PL w R s l d) (hs : s.size ≤ 120) (hd : d ≤ 20) (hc : ∀ r, l ≠ c :: r) :
    Calls Tryz.prog 82 #[.pointer (some ⟨R, 0, none⟩), .string ⟨#[c]⟩] w fun e w' => e = .returned (.tuple #[]) ∧ PBad w' R s d (s.size - l.length : Nat) 2 ∧ Frm (· = R) w w' := by
  have hb : hasR s (s.size - l.length) ⟨#[c]⟩ = false := by
    rw [hasR_eq h]
    cases l with
    | nil => rfl
    | cons x r =>
      have : ¬ c = x := fun e => hc r (e ▸ rfl)
      simp [Lib.hasPrefix, List.isPrefixOf, this]
  obtain ⟨wr, hp⟩ := h.2.2
  refine (pwant_no R s ⟨#[c]⟩ _ d wr w hp (by omega) hs (by show 1 ≤ 10; omega) hb).mono ?_
  rintro e w' ⟨h1, h2, h3⟩
  exact ⟨h1, ⟨_, d, by omega, Nat.le_refl _, hd, by decide, h2⟩, h3⟩
theorem pdownL (R d : Nat) (s : ByteArray) (l : List UInt8) (a : Int) (w : World) (h : PL w R s l d) (hd : d < 20) :
    Calls Tryz.prog 81 #[.pointer (some ⟨R, 0, none⟩), .int .i64 a] w fun e w' => e = .returned (.bool true) ∧ PL w' R s l (d + 1) ∧ Frm (· = R) w w' := by
  obtain ⟨wr, hp⟩ := h.2.2
  refine (pdown_ok R _ d s a wr w hp hd).mono ?_
  rintro e w' ⟨h1, h2, h3⟩
  exact ⟨h1, ⟨h.1, h.2.1, wr, h2⟩, h3⟩
theorem pdownL_full (R : Nat) (s : ByteArray) (l : List UInt8) (a : Int) (w : World) (h : PL w R s l 20) :
    Calls Tryz.prog 81 #[.pointer (some ⟨R, 0, none⟩), .int .i64 a] w fun e w' => e = .returned (.bool false) ∧ PBad w' R s 20 a 4 ∧ Frm (· = R) w w' := by
  obtain ⟨wr, hp⟩ := h.2.2
  refine (pdown_full R _ s a wr w hp).mono ?_
  rintro e w' ⟨h1, h2, h3⟩
  exact ⟨h1, ⟨_, 20, by omega, Nat.le_refl _, Nat.le_refl _, by decide, h2⟩, h3⟩
/-- A tree's value has three parts. -/
theorem TreeAt.three {F : Nat → Prop} {w : World} {v : Value} {t : Tr} (h : TreeAt F w v t) : ∃ o n A c, v = .agg #[.int .i64 o, .int .i64 n, .slice A c c] := by
  cases h <;> exact ⟨_, _, _, _, rfl⟩
/-- What a reading method leaves, entered in w at depth d. -/
def PReads (R : Nat) (s : ByteArray) (d : Nat) (w : World) (r : Rd) (e : Ending) (w' : World) : Prop := match r with
  | .ok t l => ∃ o n A c, e = .returned (.agg #[.int .i64 o, .int .i64 n, .slice A c c]) ∧ TreeAt (fun k => w.heap.size ≤ k ∧ k < w'.heap.size) w' (.agg #[.int .i64 o, .int .i64 n, .slice A c c]) t ∧ PL w' R s l d ∧ Frm (· = R) w w'
  | .bad k j => ∃ o n A c, e = .returned (.agg #[.int .i64 o, .int .i64 n, .slice A c c]) ∧ PBad w' R s d (s.size - k : Nat) j ∧ Frm (· = R) w w'
/-- A reading method f reads as X does. -/
def PReadsAs (f : Nat) (X : Reads) (m : Nat) : Prop := ∀ (R : Nat) (s : ByteArray) (l : List UInt8) (d : Nat) (w : World), PL w R s l d → s.size ≤ 120 → d ≤ 20 → l.length ≤ m → Calls Tryz.prog f #[.pointer (some ⟨R, 0, none⟩)] w (PReads R s d w (X d l))
theorem PReads.back {R d : Nat} {s : ByteArray} {w W : World} {r : Rd} {e : Ending} {w' : World} (h : PReads R s d W r e w') (hF : Frm (· = R) w W) : PReads R s d w r e w' := by
  cases r with
  | ok t l =>
    obtain ⟨o, n, A, c, h1, h2, h3, h4⟩ := h
    exact ⟨o, n, A, c, h1, h2.more fun k hk => ⟨Nat.le_trans hF.size hk.1, hk.2⟩, h3, hF.trans h4 (fun _ h => h) (fun _ h => .inl h)⟩
  | bad k j =>
    obtain ⟨o, n, A, c, h1, h2, h3⟩ := h
    exact ⟨o, n, A, c, h1, h2, hF.trans h3 (fun _ h => h) (fun _ h => .inl h)⟩
/-- A tree that lies elsewhere than the reader is kept. -/
theorem TreeAt.frmR {R B : Nat} {w w' : World} {v : Value} {t : Tr} (h : TreeAt (fun k => B ≤ k ∧ k < w.heap.size) w v t) (hR : R < B) (hF : Frm (· = R) w w') : TreeAt (fun k => B ≤ k ∧ k < w'.heap.size) w' v t :=
  (h.keep fun k hk => hF.block k hk.2 (by have := hk.1; omega)).more fun k hk => ⟨hk.1, Nat.lt_of_lt_of_le hk.2 hF.size⟩
end Go.Proofs.YtfndhfekbbbliaaGreatDoor

/-
  The reference's reader: variables of trees; less. Conditions: the text takes at most 120 bytes, the depth is at most 20.
-/
namespace Go.Proofs.YtfndhfekbbbliaaGreatDoor
open Go.RowKit Go.ChangeShapes Go.WideShapes
set_option linter.unusedVariables false

/-- A variable of the reference's tree type, in block k. -/
def RTVar (w : World) (k : Nat) (x y z : Value) : Prop := w.heap[k]? = some (.cells #[x, y, z] 24 (0, 0))
theorem RTVar.cells {w : World} {k : Nat} {x y z : Value} (h : RTVar w k x y z) : w.cell? ⟨k, 0, none⟩ = some x ∧ w.cell? ⟨k, 1, none⟩ = some y ∧ w.cell? ⟨k, 2, none⟩ = some z ∧ (∀ i, w.frozen? ⟨k, i, none⟩ = false) :=
  ⟨(cell_of_row w k 0 _ _ _ h).trans rfl, (cell_of_row w k 1 _ _ _ h).trans rfl, (cell_of_row w k 2 _ _ _ h).trans rfl, fun i => by simp [World.frozen?, RTVar] at h ⊢; simp [h]⟩
/-- Such a variable is written. -/
def rset (w : World) (k : Nat) (x y z : Value) : World := ((w.setCell ⟨k, 0, none⟩ x).setCell ⟨k, 1, none⟩ y).setCell ⟨k, 2, none⟩ z
theorem RTVar.put {w : World} {k : Nat} {x y z : Value} (h : RTVar w k x y z) (x' y' z' : Value) : RTVar (rset w k x' y' z') k x' y' z' := by
  unfold RTVar at h ⊢
  simp [rset, World.setCell, Array.getElem?_modify, h]
theorem rset_far (w : World) {k j : Nat} (h : j ≠ k) (x y z : Value) : (rset w k x y z).heap[j]? = w.heap[j]? := by
  unfold rset
  iterate 3 rw [Below.heap_setCell _ _ _ _ (by simpa using h)]
theorem rset_size (w : World) (k : Nat) (x y z : Value) : (rset w k x y z).heap.size = w.heap.size := by simp [rset]
theorem Frm.rset {F : Nat → Prop} {a w : World} (h : Frm F a w) {k : Nat} (hk : F k ∨ a.heap.size ≤ k) (x y z : Value) : Frm F a (Go.Proofs.YtfndhfekbbbliaaGreatDoor.rset w k x y z) := ((h.setCell (p := ⟨k, 0, none⟩) hk _).setCell (p := ⟨k, 1, none⟩) hk _).setCell (p := ⟨k, 2, none⟩) hk _
theorem RTVar.new (w : World) (x y z : Value) : RTVar (w.alloc (.cells #[x, y, z] 24)) w.heap.size x y z := heap_alloc_new w _
theorem RTVar.frm {w w' : World} {R k : Nat} {x y z : Value} (h : RTVar w k x y z) (hF : Frm (· = R) w w') (hk : k ≠ R) : RTVar w' k x y z := (hF.block k (block_lt h) hk).trans h
theorem frmR {R : Nat} {a b c : World} (h : Frm (· = R) a b) (h' : Frm (· = R) b c) : Frm (· = R) a c := h.trans h' (fun _ h => h) (fun _ h => .inl h)
/-- A tree is kept where a variable ahead of its blocks is written. -/
theorem TreeAt.rset {k B : Nat} {w : World} {v : Value} {t : Tr} (h : TreeAt (fun j => B ≤ j ∧ j < w.heap.size) w v t) (hk : k < B) (x y z : Value) : TreeAt (fun j => B ≤ j ∧ j < (Go.Proofs.YtfndhfekbbbliaaGreatDoor.rset w k x y z).heap.size) (Go.Proofs.YtfndhfekbbbliaaGreatDoor.rset w k x y z) v t :=
  (h.keep fun j hj => rset_far w (by have := hj.1; omega) x y z).more fun j hj => ⟨hj.1, by rw [rset_size]; exact hj.2⟩
set_option maxRecDepth 100000 in
set_option maxHeartbeats 4000000 in
theorem pless_one {W : Reads} {m : Nat} (hone : PReadsAs 176 (oneRd W) m) (R : Nat) (s : ByteArray) (l : List UInt8) (d : Nat) (w : World) (h : PL w R s l d) (hs : s.size ≤ 120) (hd : d ≤ 20) (hm : l.length ≤ m) (hl : ∀ r, l ≠ 45 :: r) :
    Calls Tryz.prog 138 #[.pointer (some ⟨R, 0, none⟩)] w (PReads R s d w (oneRd W d l)) := by
  obtain ⟨r0, hr0⟩ : ∃ r0, r0 = oneRd W d l := ⟨_, rfl⟩
  have HR0 := Lib.hid hr0
  rw [← hr0]
  have hb : Lib.hasPrefix l [45] = false := by
    cases l with
    | nil => rfl
    | cons x r =>
      have : ¬ 45 = x := fun e => hl r (e ▸ rfl)
      simp [Lib.hasPrefix, List.isPrefixOf, this]
  have HH := Lib.hid h
  obtain ⟨wr, hp⟩ := h.2.2
  obtain ⟨c0, c1, c2, c3, c4, cf⟩ := hp.cells
  have hlt := h.lt
  have HLT := Lib.hid hlt
  clear hr0 hp
  go_enter Tryz.func138, Tryz.ntmps138
  go_wp2_with fail
  have HH1 : Hid (PL (w.alloc (.cells #[.int .i64 0, .int .i64 0, .slice none 0 0] 24)) R s l d) := HH.out.keep (heap_alloc_old _ _ hlt)
  have HF1 : Hid (Frm (· = R) w (w.alloc (.cells #[.int .i64 0, .int .i64 0, .slice none 0 0] 24))) := (Frm.refl _ _).alloc _
  have HV1 : Hid (RTVar (w.alloc (.cells #[.int .i64 0, .int .i64 0, .slice none 0 0] 24)) w.heap.size (.int .i64 0) (.int .i64 0) (.slice none 0 0)) := RTVar.new _ _ _ _
  clear c0 c1 c2 c3 c4 cf h hlt
  refine (pisL_no R s ⟨#[45]⟩ l d _ HH1.out hs (by show 1 ≤ 10; omega) hb).mono ?_
  rintro e w2 ⟨rfl, h2, f2⟩
  have HH2 := Lib.hid h2
  have HF2 := Lib.hid (frmR HF1.out f2)
  have HV2 := Lib.hid (HV1.out.frm f2 (by have := HLT.out; omega))
  clear h2 f2 HH1 HF1 HV1
  go_wp2_with fail
  refine (hone R s l d w2 HH2.out hs hd hm).mono ?_
  intro e w3 hr
  rw [← HR0.out] at hr
  clear HR0
  cases r0 with
  | bad k j =>
    obtain ⟨o, n, A, c, rfl, hp, hf⟩ := hr
    have HP := Lib.hid hp
    have HF3 := Lib.hid (frmR HF2.out hf)
    have hV := HV2.out.frm hf (by have := HLT.out; omega)
    have HV3 := Lib.hid hV
    obtain ⟨v0, v1, v2, vf⟩ := hV.cells
    clear hp hf hV HV2 HH2 HF2
    go_wp2_with fail
    obtain ⟨q0, q1, q2, qf⟩ := (RTVar.put HV3.out (.int .i64 o) (.int .i64 n) (.slice A c c)).cells
    simp only [rset] at q0 q1 q2
    refine ⟨rfl, .agg #[.int .i64 o, .int .i64 n, .slice A c c], ?_, o, n, A, c, rfl, HP.out.keep (rset_far _ (by have := HLT.out; omega) _ _ _), HF3.out.rset (.inr (Nat.le_refl _)) _ _ _⟩
    simp only [results, Tryz.results138]
    simp [go_sem, q0, q1, q2]
  | ok a l1 =>
    obtain ⟨o, n, A, c, rfl, ht, hl, hf⟩ := hr
    have HT := Lib.hid ht
    have HL := Lib.hid hl
    have HF3 := Lib.hid (frmR HF2.out hf)
    have hV := HV2.out.frm hf (by have := HLT.out; omega)
    have HV3 := Lib.hid hV
    obtain ⟨v0, v1, v2, vf⟩ := hV.cells
    have HK2 := Lib.hid (block_lt HV2.out)
    clear ht hl hf hV HV2 HH2 HF2
    go_wp2_with fail
    obtain ⟨q0, q1, q2, qf⟩ := (RTVar.put HV3.out (.int .i64 o) (.int .i64 n) (.slice A c c)).cells
    simp only [rset] at q0 q1 q2
    refine ⟨rfl, .agg #[.int .i64 o, .int .i64 n, .slice A c c], ?_, o, n, A, c, rfl, (HT.out.rset HK2.out _ _ _).more (fun k hk => ⟨Nat.le_trans (Nat.le_of_lt HK2.out) hk.1, hk.2⟩), HL.out.keep (rset_far _ (by have := HLT.out; omega) _ _ _), HF3.out.rset (.inr (Nat.le_refl _)) _ _ _⟩
    simp only [results, Tryz.results138]
    simp [go_sem, q0, q1, q2]
end Go.Proofs.YtfndhfekbbbliaaGreatDoor

/-
  The reference's reader: less. Conditions: the text takes at most 120 bytes, the depth is at most 20.
-/
namespace Go.Proofs.YtfndhfekbbbliaaGreatDoor
open Go.RowKit Go.ChangeShapes Go.WideShapes
set_option linter.unusedVariables false

theorem pless_minus (W : Reads) (d : Nat) (l : List UInt8) : lessRd W d (45 :: l) = deepRd d (l.length + 1) ((lessRd W (d + 1) l).bind fun a l1 => .ok (.neg a) l1) := by simp [lessRd]
set_option maxRecDepth 100000 in
set_option maxHeartbeats 4000000 in
theorem pless_full (R : Nat) (s : ByteArray) (l : List UInt8) (w : World) (h : PL w R s (45 :: l) 20) (hs : s.size ≤ 120) :
    Calls Tryz.prog 138 #[.pointer (some ⟨R, 0, none⟩)] w (PReads R s 20 w (.bad (l.length + 1) 4)) := by
  have HH := Lib.hid h
  obtain ⟨wr, hp⟩ := h.2.2
  obtain ⟨c0, c1, c2, c3, c4, cf⟩ := hp.cells
  have hlt := h.lt
  have HLT := Lib.hid hlt
  clear hp
  go_enter Tryz.func138, Tryz.ntmps138
  go_wp2_with fail
  have HH1 : Hid (PL (w.alloc (.cells #[.int .i64 0, .int .i64 0, .slice none 0 0] 24)) R s (45 :: l) 20) := HH.out.keep (heap_alloc_old _ _ hlt)
  have HF1 : Hid (Frm (· = R) w (w.alloc (.cells #[.int .i64 0, .int .i64 0, .slice none 0 0] 24))) := (Frm.refl _ _).alloc _
  have HV1 : Hid (RTVar (w.alloc (.cells #[.int .i64 0, .int .i64 0, .slice none 0 0] 24)) w.heap.size (.int .i64 0) (.int .i64 0) (.slice none 0 0)) := RTVar.new _ _ _ _
  clear c0 c1 c2 c3 c4 cf h hlt
  refine (pisL_yes R s ⟨#[45]⟩ (45 :: l) l 20 _ HH1.out hs (by show 1 ≤ 10; omega) rfl).mono ?_
  rintro e w2 ⟨rfl, h2, f2⟩
  have HH2 := Lib.hid h2
  have HF2 := Lib.hid (frmR HF1.out f2)
  have HV2 := Lib.hid (HV1.out.frm f2 (by have := HLT.out; omega))
  clear h2 f2 HH1 HF1 HV1
  go_wp2_with fail
  refine (pdownL_full R s l _ w2 HH2.out).mono ?_
  rintro e w3 ⟨rfl, hp, hf⟩
  have HP := Lib.hid hp
  have HF3 := Lib.hid (frmR HF2.out hf)
  have hV := HV2.out.frm hf (by have := HLT.out; omega)
  have HV3 := Lib.hid hV
  obtain ⟨v0, v1, v2, vf⟩ := hV.cells
  clear hp hf hV HV2 HH2 HF2
  go_wp2_with fail
  obtain ⟨q0, q1, q2, qf⟩ := (RTVar.put HV3.out (.int .i64 0) (.int .i64 0) (.slice none 0 0)).cells
  simp only [rset] at q0 q1 q2
  refine ⟨rfl, .agg #[.int .i64 0, .int .i64 0, .slice none 0 0], ?_, 0, 0, none, 0, rfl, HP.out.keep (rset_far _ (by have := HLT.out; omega) _ _ _), HF3.out.rset (.inr (Nat.le_refl _)) _ _ _⟩
  simp only [results, Tryz.results138]
  simp [go_sem, q0, q1, q2]
/-- One level less, after what was read at the deeper one. -/
theorem PL.up {w : World} {R : Nat} {s : ByteArray} {l : List UInt8} {d : Nat} (h : PL w R s l (d + 1)) : PL (w.setCell ⟨R, 2, none⟩ (.int .i64 d)) R s l d := ⟨h.1, h.2.1, h.2.2.elim fun wr h => ⟨wr, h.deeper d⟩⟩
set_option maxRecDepth 100000 in
set_option maxHeartbeats 4000000 in
theorem pless_deep {W : Reads} {m : Nat} (R d : Nat) (s : ByteArray) (l : List UInt8) (w : World) (h : PL w R s (45 :: l) d) (hs : s.size ≤ 120) (hd : d < 20)
    (hrec : ∀ w', PL w' R s l (d + 1) → Calls Tryz.prog 138 #[.pointer (some ⟨R, 0, none⟩)] w' (PReads R s (d + 1) w' (lessRd W (d + 1) l))) :
    Calls Tryz.prog 138 #[.pointer (some ⟨R, 0, none⟩)] w (PReads R s d w ((lessRd W (d + 1) l).bind fun a l1 => .ok (.neg a) l1)) := by
  obtain ⟨r0, hr0⟩ : ∃ r0, r0 = lessRd W (d + 1) l := ⟨_, rfl⟩
  rw [← hr0]
  rw [← hr0] at hrec
  clear hr0
  have HREC := Lib.hid hrec
  have HH := Lib.hid h
  obtain ⟨wr, hp⟩ := h.2.2
  obtain ⟨c0, c1, c2, c3, c4, cf⟩ := hp.cells
  have hlt := h.lt
  have HLT := Lib.hid hlt
  have HD := Lib.hid hd
  clear hp hrec hd
  go_enter Tryz.func138, Tryz.ntmps138
  go_wp2_with fail
  have HH1 : Hid (PL (w.alloc (.cells #[.int .i64 0, .int .i64 0, .slice none 0 0] 24)) R s (45 :: l) d) := HH.out.keep (heap_alloc_old _ _ hlt)
  have HF1 : Hid (Frm (· = R) w (w.alloc (.cells #[.int .i64 0, .int .i64 0, .slice none 0 0] 24))) := (Frm.refl _ _).alloc _
  have HV1 : Hid (RTVar (w.alloc (.cells #[.int .i64 0, .int .i64 0, .slice none 0 0] 24)) w.heap.size (.int .i64 0) (.int .i64 0) (.slice none 0 0)) := RTVar.new _ _ _ _
  clear c0 c1 c2 c3 c4 cf h hlt
  refine (pisL_yes R s ⟨#[45]⟩ (45 :: l) l d _ HH1.out hs (by show 1 ≤ 10; omega) rfl).mono ?_
  rintro e w2 ⟨rfl, h2, f2⟩
  have HH2 := Lib.hid h2
  have HF2 := Lib.hid (frmR HF1.out f2)
  have HV2 := Lib.hid (HV1.out.frm f2 (by have := HLT.out; omega))
  clear h2 f2 HH1 HF1 HV1
  go_wp2_with fail
  refine (pdownL R d s l _ w2 HH2.out HD.out).mono ?_
  rintro e w3 ⟨rfl, hp, hf⟩
  have HP := Lib.hid hp
  have HF3 := Lib.hid (frmR HF2.out hf)
  have HV3 := Lib.hid (HV2.out.frm hf (by have := HLT.out; omega))
  clear hp hf HV2 HH2 HF2
  go_wp2_with fail
  refine (HREC.out w3 HP.out).mono ?_
  intro e w4 hr
  clear HREC HP
  cases r0 with
  | bad k j =>
    obtain ⟨o, n, A, c, rfl, ⟨p', d', g1, g2, g3, g4, g5⟩, hf⟩ := hr
    obtain ⟨D, hD⟩ : ∃ D : Nat, d' = D + 1 := ⟨d' - 1, by omega⟩
    subst hD
    have hm : ((D + 1 : Nat) : Int) - 1 = (D : Int) := by omega
    obtain ⟨E, hE⟩ : ∃ E : Nat, E = D + 1 := ⟨_, rfl⟩
    rw [← hE] at g5 hm
    have HE := Lib.hid hE
    obtain ⟨c0, c1, c2, c3, c4, cf⟩ := g5.cells
    have hRl := g5.lt
    have HF4 := Lib.hid (frmR HF3.out hf)
    have hV := HV3.out.frm hf (by have := HLT.out; omega)
    obtain ⟨v0, v1, v2, vf⟩ := hV.cells
    have HV4 := Lib.hid hV
    have HG := Lib.hid (And.intro g1 (And.intro g2 (And.intro g3 (And.intro g4 g5))))
    have hwD : wrap64 (D : Int) = (D : Int) := by unfold wrap64; omega
    have hk4 : w.heap.size < w4.heap.size := block_lt hV
    have hkR : w.heap.size ≠ R := by have := HLT.out; omega
    have hA : ∀ v ob1 ob2, RTVar (((w4.setCell ⟨R, 2, none⟩ v).alloc ob1).alloc ob2) w.heap.size (.int .i64 0) (.int .i64 0) (.slice none 0 0) := fun v ob1 ob2 =>
      ((heap_alloc_old _ _ (by simp; omega)).trans ((heap_alloc_old _ _ (by simpa using hk4)).trans (Below.heap_setCell _ _ _ _ (by simpa using hkR)))).trans hV
    have a0 := fun v ob1 ob2 => (hA v ob1 ob2).cells.1
    have a1 := fun v ob1 ob2 => (hA v ob1 ob2).cells.2.1
    have a2 := fun v ob1 ob2 => (hA v ob1 ob2).cells.2.2.1
    have a3 := fun v ob1 ob2 i => (hA v ob1 ob2).cells.2.2.2 i
    have HA := Lib.hid hA
    have HK := Lib.hid (And.intro hk4 (And.intro hkR hRl))
    clear g1 g2 g3 g4 g5 hf hV HV3 HF3 hE hA hk4 hkR
    go_wp2_with fail
    obtain ⟨g1, g2, g3, g4, g5⟩ := HG.out
    obtain ⟨hk4, hkR, hRl⟩ := HK.out
    obtain ⟨q0, q1, q2, qf⟩ := (RTVar.put (HA.out (.int .i64 D) (.cells #[.int .i64 o, .int .i64 n, .slice A c c] 24) (.cells #[.int .i64 o, .int .i64 n, .slice A c c] 24)) (.int .i64 126) (.int .i64 0) (.slice (some ⟨w4.heap.size + 1, 0, none⟩) 1 1)).cells
    simp only [rset] at q0 q1 q2
    refine ⟨rfl, .agg #[.int .i64 126, .int .i64 0, .slice (some ⟨w4.heap.size + 1, 0, none⟩) 1 1], ?_, 126, 0, some ⟨w4.heap.size + 1, 0, none⟩, 1, rfl, ⟨p', D, g1, by have := HE.out; omega, by have := HE.out; omega, g4, (g5.deeper D).keep ((rset_far _ (Ne.symm hkR) _ _ _).trans ((heap_alloc_old _ _ (by simp; omega)).trans (heap_alloc_old _ _ (by simpa using hRl))))⟩, (((HF4.out.setCell (p := ⟨R, 2, none⟩) (.inl rfl) _).alloc _).alloc _).rset (.inr (Nat.le_refl _)) _ _ _⟩
    simp only [results, Tryz.results138]
    simp [go_sem, q0, q1, q2]
  | ok a l1 =>
    obtain ⟨o, n, A, c, rfl, ht, hl, hf⟩ := hr
    obtain ⟨E, hE⟩ : ∃ E : Nat, E = d + 1 := ⟨_, rfl⟩
    have hm : (E : Int) - 1 = (d : Int) := by omega
    have HU := Lib.hid hl.up
    rw [← hE] at hl
    obtain ⟨wr4, hp4⟩ := hl.2.2
    obtain ⟨c0, c1, c2, c3, c4, cf⟩ := hp4.cells
    have hRl := hp4.lt
    have hk3 : w.heap.size < w3.heap.size := block_lt HV3.out
    have HF4 := Lib.hid (frmR HF3.out hf)
    have hV := HV3.out.frm hf (by have := HLT.out; omega)
    obtain ⟨v0, v1, v2, vf⟩ := hV.cells
    have hwD : wrap64 (d : Int) = (d : Int) := by have := HD.out; unfold wrap64; omega
    have hk4 : w.heap.size < w4.heap.size := block_lt hV
    have hkR : w.heap.size ≠ R := by have := HLT.out; omega
    have hA : ∀ v ob1 ob2, RTVar (((w4.setCell ⟨R, 2, none⟩ v).alloc ob1).alloc ob2) w.heap.size (.int .i64 0) (.int .i64 0) (.slice none 0 0) := fun v ob1 ob2 =>
      ((heap_alloc_old _ _ (by simp; omega)).trans ((heap_alloc_old _ _ (by simpa using hk4)).trans (Below.heap_setCell _ _ _ _ (by simpa using hkR)))).trans hV
    have a0 := fun v ob1 ob2 => (hA v ob1 ob2).cells.1
    have a1 := fun v ob1 ob2 => (hA v ob1 ob2).cells.2.1
    have a2 := fun v ob1 ob2 => (hA v ob1 ob2).cells.2.2.1
    have a3 := fun v ob1 ob2 i => (hA v ob1 ob2).cells.2.2.2 i
    have HA := Lib.hid hA
    have HT := Lib.hid ht
    have HK := Lib.hid (And.intro hk4 (And.intro hkR (And.intro hRl hk3)))
    clear ht hl hp4 hf hV HV3 HF3 hE hA hk4 hkR hk3
    go_wp2_with fail
    obtain ⟨hk4, hkR, hRl, hk3⟩ := HK.out
    obtain ⟨X, hX⟩ : ∃ X, X = Obj.cells #[.int .i64 o, .int .i64 n, .slice A c c] 24 (0, 0) := ⟨_, rfl⟩
    obtain ⟨q0, q1, q2, qf⟩ := (RTVar.put (HA.out (.int .i64 d) (.cells #[.int .i64 o, .int .i64 n, .slice A c c] 24) (.cells #[.int .i64 o, .int .i64 n, .slice A c c] 24)) (.int .i64 126) (.int .i64 0) (.slice (some ⟨w4.heap.size + 1, 0, none⟩) 1 1)).cells
    obtain ⟨W, hW⟩ : ∃ W, W = rset (((w4.setCell ⟨R, 2, none⟩ (.int .i64 d)).alloc (.cells #[.int .i64 o, .int .i64 n, .slice A c c] 24)).alloc (.cells #[.int .i64 o, .int .i64 n, .slice A c c] 24)) w.heap.size (.int .i64 126) (.int .i64 0) (.slice (some ⟨w4.heap.size + 1, 0, none⟩) 1 1) := ⟨_, rfl⟩
    have hsz : W.heap.size = w4.heap.size + 2 := by rw [hW, rset_size]; simp
    have hold : ∀ j, j < w4.heap.size → j ≠ R → j ≠ w.heap.size → W.heap[j]? = w4.heap[j]? := fun j h1 h2 h3 => by
      rw [hW]
      exact (rset_far _ h3 _ _ _).trans ((heap_alloc_old _ _ (by simp; omega)).trans ((heap_alloc_old _ _ (by simpa using h1)).trans (Below.heap_setCell _ _ _ _ (by simpa using h2))))
    have hnew : RTVar W (w4.heap.size + 1) (.int .i64 o) (.int .i64 n) (.slice A c c) := by
      rw [hW]
      refine (rset_far _ (by omega) _ _ _).trans ?_
      have := heap_alloc_new ((w4.setCell ⟨R, 2, none⟩ (.int .i64 d)).alloc (.cells #[.int .i64 o, .int .i64 n, .slice A c c] 24)) (.cells #[.int .i64 o, .int .i64 n, .slice A c c] 24)
      simpa using this
    have hfr : Frm (· = R) w W := by rw [hW]; exact (((HF4.out.setCell (p := ⟨R, 2, none⟩) (.inl rfl) _).alloc _).alloc _).rset (.inr (Nat.le_refl _)) _ _ _
    have hpl : PL W R s l1 d := by rw [hW]; exact HU.out.keep ((rset_far _ (Ne.symm hkR) _ _ _).trans ((heap_alloc_old _ _ (by simp; omega)).trans (heap_alloc_old _ _ (by simpa using hRl))))
    have hta : TreeAt (fun j => w.heap.size ≤ j ∧ j < W.heap.size) W (.agg #[.int .i64 o, .int .i64 n, .slice A c c]) a :=
      (HT.out.keep fun j hj => hold j hj.2 (by have := hj.1; have := HLT.out; omega) (by have := hj.1; omega)).more fun j hj => ⟨by have := hj.1; omega, by have := hj.2; omega⟩
    have htn := TreeAt.neg (F := fun j => w.heap.size ≤ j ∧ j < W.heap.size) (b := w4.heap.size + 1) ⟨by omega, by omega⟩ hnew.cells.1 hnew.cells.2.1 hnew.cells.2.2.1 hta
    rw [← hW] at q0 q1 q2
    refine ⟨rfl, .agg #[.int .i64 126, .int .i64 0, .slice (some ⟨w4.heap.size + 1, 0, none⟩) 1 1], ?_, ?_⟩
    · simp only [results, Tryz.results138]
      rw [hW] at q0 q1 q2
      simp only [rset] at q0 q1 q2
      simp [go_sem, q0, q1, q2]
    · show PReads R s d w (.ok (.neg a) l1) _ (rset _ w.heap.size _ _ _)
      rw [← hW]
      exact ⟨126, 0, _, 1, rfl, htn, hpl, hfr⟩
theorem pless_reads {W : Reads} {m : Nat} (hone : PReadsAs 176 (oneRd W) m) : PReadsAs 138 (lessRd W) m := by
  intro R s l
  induction l with
  | nil => intro d w h hs hd hm; exact pless_one hone R s [] d w h hs hd hm (fun r e => by cases e)
  | cons c l ih =>
    intro d w h hs hd hm
    have hm2 : l.length ≤ m := by simp only [List.length_cons] at hm; omega
    by_cases ec : c = 45
    · subst ec
      rw [pless_minus]
      by_cases hd2 : d = 20
      · subst hd2
        exact pless_full R s l w h hs
      · rw [show deepRd d (l.length + 1) ((lessRd W (d + 1) l).bind fun a l1 => .ok (.neg a) l1) = ((lessRd W (d + 1) l).bind fun a l1 => .ok (.neg a) l1) from by unfold deepRd; rw [if_neg hd2]]
        exact pless_deep (m := m) R d s l w h hs (by omega) fun w' h' => ih (d + 1) w' h' hs (by omega) hm2
    · have e : lessRd W d (c :: l) = oneRd W d (c :: l) := by
        unfold lessRd
        split
        · rename_i r hr; exact absurd (List.cons.inj hr).1 ec
        · rfl
      rw [e]
      exact pless_one hone R s (c :: l) d w h hs hd hm (fun r e => ec (List.cons.inj e).1)
end Go.Proofs.YtfndhfekbbbliaaGreatDoor

/-
  The reference's reader: row. Conditions: the text takes at most 120 bytes, the depth is at most 20.
-/
namespace Go.Proofs.YtfndhfekbbbliaaGreatDoor
open Go.RowKit Go.ChangeShapes Go.WideShapes
set_option linter.unusedVariables false

set_option maxRecDepth 100000 in
set_option maxHeartbeats 4000000 in
theorem prow4 {X : Reads} {m : Nat} (hless : PReadsAs 138 X m) (R : Nat) (s : ByteArray) (l : List UInt8) (d : Nat) (w : World) (h : PL w R s l d) (hs : s.size ≤ 120) (hd : d ≤ 20) (hm : l.length ≤ m) :
    Calls Tryz.prog 114 #[.pointer (some ⟨R, 0, none⟩), .int .i64 4] w (PReads R s d w (X d l)) := by
  obtain ⟨r0, hr0⟩ : ∃ r0, r0 = X d l := ⟨_, rfl⟩
  have HR0 := Lib.hid hr0
  rw [← hr0]
  have hlt := h.lt
  have HLT := Lib.hid hlt
  have HH1 : Hid (PL (w.alloc (.cells #[.int .i64 0, .int .i64 0, .slice none 0 0] 24)) R s l d) := h.keep (heap_alloc_old _ _ hlt)
  have HF1 : Hid (Frm (· = R) w (w.alloc (.cells #[.int .i64 0, .int .i64 0, .slice none 0 0] 24))) := (Frm.refl _ _).alloc _
  have HV1 : Hid (RTVar (w.alloc (.cells #[.int .i64 0, .int .i64 0, .slice none 0 0] 24)) w.heap.size (.int .i64 0) (.int .i64 0) (.slice none 0 0)) := RTVar.new _ _ _ _
  clear hr0 h hlt
  go_enter Tryz.func114, Tryz.ntmps114
  go_wp2_with fail
  refine (hless R s l d _ HH1.out hs hd hm).mono ?_
  intro e w3 hr
  rw [← HR0.out] at hr
  clear HR0
  cases r0 with
  | bad k j =>
    obtain ⟨o, n, A, c, rfl, hp, hf⟩ := hr
    have HP := Lib.hid hp
    have HF3 := Lib.hid (frmR HF1.out hf)
    have hV := HV1.out.frm hf (by have := HLT.out; omega)
    have HV3 := Lib.hid hV
    obtain ⟨v0, v1, v2, vf⟩ := hV.cells
    clear hp hf hV HV1 HH1 HF1
    go_wp2_with fail
    obtain ⟨q0, q1, q2, qf⟩ := (RTVar.put HV3.out (.int .i64 o) (.int .i64 n) (.slice A c c)).cells
    simp only [rset] at q0 q1 q2
    refine ⟨rfl, .agg #[.int .i64 o, .int .i64 n, .slice A c c], ?_, o, n, A, c, rfl, HP.out.keep (rset_far _ (by have := HLT.out; omega) _ _ _), HF3.out.rset (.inr (Nat.le_refl _)) _ _ _⟩
    simp only [results, Tryz.results114]
    simp [go_sem, q0, q1, q2]
  | ok a l1 =>
    obtain ⟨o, n, A, c, rfl, ht, hl, hf⟩ := hr
    have HT := Lib.hid ht
    have HL := Lib.hid hl
    have HF3 := Lib.hid (frmR HF1.out hf)
    have hV := HV1.out.frm hf (by have := HLT.out; omega)
    have HV3 := Lib.hid hV
    obtain ⟨v0, v1, v2, vf⟩ := hV.cells
    have HK2 := Lib.hid (block_lt HV1.out)
    clear ht hl hf hV HV1 HH1 HF1
    go_wp2_with fail
    obtain ⟨q0, q1, q2, qf⟩ := (RTVar.put HV3.out (.int .i64 o) (.int .i64 n) (.slice A c c)).cells
    simp only [rset] at q0 q1 q2
    refine ⟨rfl, .agg #[.int .i64 o, .int .i64 n, .slice A c c], ?_, o, n, A, c, rfl, (HT.out.rset HK2.out _ _ _).more (fun k hk => ⟨Nat.le_trans (Nat.le_of_lt HK2.out) hk.1, hk.2⟩), HL.out.keep (rset_far _ (by have := HLT.out; omega) _ _ _), HF3.out.rset (.inr (Nat.le_refl _)) _ _ _⟩
    simp only [results, Tryz.results114]
    simp [go_sem, q0, q1, q2]
end Go.Proofs.YtfndhfekbbbliaaGreatDoor

/-
  The reference's reader: row's loop. Conditions: the text takes at most 120 bytes, the depth is at most 20.
-/
namespace Go.Proofs.YtfndhfekbbbliaaGreatDoor
open Go.RowKit Go.ChangeShapes Go.WideShapes
set_option linter.unusedVariables false

/-- row reads as X does, at a level. -/
def PRowAs (lv : Int) (X : Reads) (m : Nat) : Prop := ∀ (R : Nat) (s : ByteArray) (l : List UInt8) (d : Nat) (w : World), PL w R s l d → s.size ≤ 120 → d ≤ 20 → l.length ≤ m → Calls Tryz.prog 114 #[.pointer (some ⟨R, 0, none⟩), .int .i64 lv] w (PReads R s d w (X d l))
theorem prow4_as {X : Reads} {m : Nat} (hless : PReadsAs 138 X m) : PRowAs 4 X m := fun R s l d w h hs hd hm => prow4 hless R s l d w h hs hd hm
/-- What a reading method leaves, its form first. -/
theorem PReads.form {R d : Nat} {s : ByteArray} {w w' : World} {r : Rd} {e : Ending} (h : PReads R s d w r e w') : ∃ o n A c, e = .returned (.agg #[.int .i64 o, .int .i64 n, .slice A c c]) ∧ Frm (· = R) w w' ∧
    ((∃ t l, r = .ok t l ∧ TreeAt (fun k => w.heap.size ≤ k ∧ k < w'.heap.size) w' (.agg #[.int .i64 o, .int .i64 n, .slice A c c]) t ∧ PL w' R s l d) ∨ (∃ k j, r = .bad k j ∧ PBad w' R s d (s.size - k : Nat) j)) := by
  cases r with
  | ok t l =>
    obtain ⟨o, n, A, c, h1, h2, h3, h4⟩ := h
    exact ⟨o, n, A, c, h1, h4, .inl ⟨t, l, rfl, h2, h3⟩⟩
  | bad k j =>
    obtain ⟨o, n, A, c, h1, h2, h3⟩ := h
    exact ⟨o, n, A, c, h1, h3, .inr ⟨k, j, rfl, h2⟩⟩
/-- A row under way: the tree so far in a variable; what follows of it, or what went wrong. -/
structure PRowInv (R : Nat) (s : ByteArray) (d m : Nat) (w : World) (ga : Nat) (X : List UInt8 → Rd) (ops : List UInt8) (r0 : Rd) (gk : Nat) (o n : Int) (A : Option Addr) (c : Nat) (wx : World) : Prop where
  var : RTVar wx ga (.int .i64 o) (.int .i64 n) (.slice A c c)
  res : RTVar wx w.heap.size (.int .i64 0) (.int .i64 0) (.slice none 0 0)
  frm : Frm (· = R) w wx
  st : (∃ a l, PL wx R s l d ∧ TreeAt (fun j => (w.heap.size ≤ j ∧ j < wx.heap.size) ∧ j ≠ ga ∧ j ≠ w.heap.size) wx (.agg #[.int .i64 o, .int .i64 n, .slice A c c]) a ∧ gk = l.length + 1 ∧ l.length ≤ m ∧ ∃ k, l.length ≤ k ∧ r0 = loopRd X ops k a l) ∨
    (gk = 0 ∧ ∃ k j, r0 = .bad k j ∧ PBad wx R s d (s.size - k : Nat) j)
theorem row_heads {lv l1 : Int} {ops : List UInt8} (hlv : (lv = 2 ∧ l1 = 3 ∧ ops = [43, 45]) ∨ (lv = 3 ∧ l1 = 4 ∧ ops = [42, 47, 37])) {x : UInt8} (hx : x ∈ ops) :
    (lv = 2 ∧ ((x.toNat : Int) = 43 ∨ (x.toNat : Int) = 45)) ∨ (lv = 3 ∧ ((x.toNat : Int) = 42 ∨ (x.toNat : Int) = 47 ∨ (x.toNat : Int) = 37)) := by
  rcases hlv with ⟨h1, _, rfl⟩ | ⟨h1, _, rfl⟩
  · refine .inl ⟨h1, ?_⟩
    simp at hx
    rcases hx with rfl | rfl <;> simp
  · refine .inr ⟨h1, ?_⟩
    simp at hx
    rcases hx with rfl | rfl | rfl <;> simp
theorem row_nohead {lv l1 : Int} {ops : List UInt8} (hlv : (lv = 2 ∧ l1 = 3 ∧ ops = [43, 45]) ∨ (lv = 3 ∧ l1 = 4 ∧ ops = [42, 47, 37])) {l : List UInt8} (hx : ∀ x r, l = x :: r → x ∉ ops) :
    (lv = 2 ∧ (headR l == 43) = false ∧ (headR l == 45) = false) ∨ (lv = 3 ∧ (headR l == 42) = false ∧ (headR l == 47) = false ∧ (headR l == 37) = false) := by
  have key : ∀ y : UInt8, y ∈ ops → y ≠ 0 → (headR l == (y.toNat : Int)) = false := fun y hy h0 => by
    cases l with
    | nil =>
      have : y.toNat ≠ 0 := fun e => h0 (UInt8.toNat_inj.1 e)
      show ((0 : Int) == _) = false
      exact beq_eq_false_iff_ne.2 (by omega)
    | cons x r =>
      show ((x.toNat : Int) == _) = false
      refine beq_eq_false_iff_ne.2 fun e => hx x r rfl ?_
      have e2 : x.toNat = y.toNat := by omega
      rw [UInt8.toNat_inj.1 e2]; exact hy
  rcases hlv with ⟨h1, _, rfl⟩ | ⟨h1, _, rfl⟩
  · exact .inl ⟨h1, key 43 (by simp) (by decide), key 45 (by simp) (by decide)⟩
  · exact .inr ⟨h1, key 42 (by simp) (by decide), key 47 (by simp) (by decide), key 37 (by simp) (by decide)⟩
set_option maxRecDepth 100000 in
set_option maxHeartbeats 8000000 in
theorem prow_loop {lv l1 : Int} {ops : List UInt8} (hlv : (lv = 2 ∧ l1 = 3 ∧ ops = [43, 45]) ∨ (lv = 3 ∧ l1 = 4 ∧ ops = [42, 47, 37])) {X : Reads} {m : Nat} (hS : ∀ d, Short (X d)) (hin : PRowAs l1 X m) : PRowAs lv (fun d l => rowRd (X d) ops l) m := by
  intro R s l d w h hs hd hm
  obtain ⟨r1, hr1⟩ : ∃ r1, r1 = X d l := ⟨_, rfl⟩
  obtain ⟨r0, hr0⟩ : ∃ r0, r0 = rowRd (X d) ops l := ⟨_, rfl⟩
  have e0 : r0 = r1.bind fun a l1 => loopRd (X d) ops l1.length a l1 := by rw [hr0, hr1]; rfl
  show Calls _ _ _ _ (PReads R s d w (rowRd (X d) ops l))
  rw [← hr0]
  have HR1 := Lib.hid hr1
  have HR0 := Lib.hid e0
  have HLV := Lib.hid hlv
  have HS := Lib.hid hS
  have HIN := Lib.hid hin
  have hlt := h.lt
  have HLT := Lib.hid hlt
  have d4 : (lv == 4) = false := beq_eq_false_iff_ne.2 (by omega)
  have hadd : wrap64 (lv + 1) = l1 := by unfold wrap64; omega
  have hb1 : 2 ≤ lv := by omega
  have hb2 : lv ≤ 3 := by omega
  have hadd2 : lv + 1 = l1 := by omega
  have HH1 : Hid (PL (w.alloc (.cells #[.int .i64 0, .int .i64 0, .slice none 0 0] 24)) R s l d) := h.keep (heap_alloc_old _ _ hlt)
  have HF1 : Hid (Frm (· = R) w (w.alloc (.cells #[.int .i64 0, .int .i64 0, .slice none 0 0] 24))) := (Frm.refl _ _).alloc _
  have HV1 : Hid (RTVar (w.alloc (.cells #[.int .i64 0, .int .i64 0, .slice none 0 0] 24)) w.heap.size (.int .i64 0) (.int .i64 0) (.slice none 0 0)) := RTVar.new _ _ _ _
  have HM := Lib.hid hm
  clear hr0 hr1 e0 hS hin h hlt hlv hm
  go_enter Tryz.func114, Tryz.ntmps114
  go_wp2_with fail
  refine (HIN.out R s l d _ HH1.out hs hd HM.out).mono ?_
  rw [← HR1.out]
  intro e w2 hr
  obtain ⟨o0, n0, A0, c0, rfl, hf, hst⟩ := hr.form
  have hkR : w.heap.size ≠ R := by have := HLT.out; omega
  have hv2 := HV1.out.frm hf hkR
  have hRl : R < w2.heap.size := Nat.lt_of_lt_of_le HLT.out (Nat.le_of_lt (block_lt hv2))
  have HGA : Hid (w.heap.size < w2.heap.size) := block_lt hv2
  have HI : Hid (∃ gk, PRowInv R s d m w w2.heap.size (X d) ops r0 gk o0 n0 A0 c0 (w2.alloc (.cells #[.int .i64 o0, .int .i64 n0, .slice A0 c0 c0] 24))) := by
    have hs1 : (w.alloc (.cells #[.int .i64 0, .int .i64 0, .slice none 0 0] 24)).heap.size = w.heap.size + 1 := by simp
    rcases hst with ⟨t, lt, h1, ht, hp⟩ | ⟨k, j, h1, hp⟩
    · refine ⟨lt.length + 1, RTVar.new _ _ _ _, (heap_alloc_old _ _ HGA.out).trans hv2, (frmR HF1.out hf).alloc _, .inl ⟨t, lt, hp.keep (heap_alloc_old _ _ hRl), ?_, rfl, ?_, _, Nat.le_refl _, ?_⟩⟩
      · refine (ht.keep fun k hk => heap_alloc_old _ _ hk.2).more fun k hk => ?_
        rw [hs1] at hk
        simp
        have := hk.1; have := hk.2
        omega
      · have := HS.out d l t lt (by rw [← HR1.out]; exact h1); have := HM.out; omega
      · rw [HR0.out, h1]; rfl
    · exact ⟨0, RTVar.new _ _ _ _, (heap_alloc_old _ _ HGA.out).trans hv2, (frmR HF1.out hf).alloc _, .inr ⟨rfl, k, j, by rw [HR0.out, h1]; rfl, hp.keep (heap_alloc_old _ _ hRl)⟩⟩
  clear hr hst hf hv2 HH1 HF1 HV1 HR0 HR1
  go_wp2_with fail
  obtain ⟨gk0, hI0⟩ := HI.out
  have HI0 := Lib.hid hI0
  clear HI hI0
  obtain ⟨ga, hga⟩ : ∃ ga, ga = w2.heap.size := ⟨_, rfl⟩
  rw [← hga] at HI0 HGA ⊢
  have HGR : Hid (R < ga) := by rw [hga]; exact hRl
  clear hga hRl
  go_loopg [] gk0 (fun gk wx => ∃ o n A c, Hid (PRowInv R s d m w ga (X d) ops r0 gk o n A c wx))
  case atStart => exact ⟨o0, n0, A0, c0, HI0⟩
  case round =>
    obtain ⟨o, n, A, c, HJ⟩ := hrel
    clear HI0
    obtain ⟨v0, v1, v2, vf⟩ := HJ.out.var.cells
    obtain ⟨z0, z1, z2, zf⟩ := HJ.out.res.cells
    obtain ⟨q0, q1, q2, qf⟩ := (RTVar.put HJ.out.res (.int .i64 o) (.int .i64 n) (.slice A c c)).cells
    simp only [rset] at q0 q1 q2
    rcases HJ.out.st with ⟨a, l2, hp, ht, hgk, hlm, k0, hk0, hr0⟩ | ⟨hgk, k, j, hr0, hp⟩
    · have HP := Lib.hid hp
      have HT := Lib.hid ht
      have HR0 : Hid (∃ k, l2.length ≤ k ∧ r0 = loopRd (X d) ops k a l2) := ⟨k0, hk0, hr0⟩
      obtain ⟨wr0, hpa⟩ := hp.2.2
      obtain ⟨c0, c1, c2, c3, c4, cf⟩ := hpa.cells
      clear hp ht hk0 hr0
      go_wp2_with fail
      refine (ppeekL R s l2 d wr HP.out).mono ?_
      rintro e w4 ⟨rfl, q, rfl⟩
      have HP4 : Hid (PL (wr.drewN q) R s l2 d) := HP.out.keep rfl
      have HT4 : Hid (TreeAt (fun j => (w.heap.size ≤ j ∧ j < (wr.drewN q).heap.size) ∧ j ≠ ga ∧ j ≠ w.heap.size) (wr.drewN q) (.agg #[.int .i64 o, .int .i64 n, .slice A c c]) a) := HT.out.keep fun _ _ => rfl
      have HV4 : Hid (RTVar (wr.drewN q) ga (.int .i64 o) (.int .i64 n) (.slice A c c)) := HJ.out.var
      have HZ4 : Hid (RTVar (wr.drewN q) w.heap.size (.int .i64 0) (.int .i64 0) (.slice none 0 0)) := HJ.out.res
      have HF4 : Hid (Frm (· = R) w (wr.drewN q)) := HJ.out.frm.drewN q
      clear v0 v1 v2 vf z0 z1 z2 zf q0 q1 q2 qf c0 c1 c2 c3 c4 cf HP HT HJ hpa
      generalize wr.drewN q = W4 at *
      obtain ⟨v0, v1, v2, vf⟩ := HV4.out.cells
      obtain ⟨z0, z1, z2, zf⟩ := HZ4.out.cells
      by_cases hmem : ∃ x r, l2 = x :: r ∧ x ∈ ops
      · obtain ⟨x, r, rfl, hx⟩ := hmem
        have hheads := row_heads HLV.out hx
        have eh : headR (x :: r) = (x.toNat : Int) := rfl
        rw [eh]
        have HX := Lib.hid hx
        clear eh hx
        obtain ⟨xi, hxi⟩ : ∃ xi : Int, xi = (x.toNat : Int) := ⟨_, rfl⟩
        rw [← hxi] at hheads ⊢
        have HXI := Lib.hid hxi
        clear hxi
        go_upto_region 6 with (fail)
        go_cut [7] from 17 to 68 (fun bv wx => bv = .bool true ∧ W4 = wx)
        case first =>
          rcases hheads with ⟨rfl, rfl | rfl⟩ | ⟨rfl, rfl | rfl | rfl⟩
          all_goals
            go_wp2_with fail
            go_meet
            case rel => exact ⟨rfl, rfl⟩
        case rest =>
          obtain ⟨rfl, rfl⟩ := hcut
          clear hheads
          obtain ⟨wr4, hpa⟩ := HP4.out.2.2
          obtain ⟨c0, c1, c2, c3, c4, cf⟩ := hpa.cells
          have hlen : r.length + 1 ≤ s.size := by have := HP4.out.1; simpa using this
          have HPA := Lib.hid hpa
          clear hpa
          go_wp2_with fail
          obtain ⟨W5, hW5⟩ : ∃ W5, W5 = W4.setCell ⟨R, 1, none⟩ (.int .i64 (((s.size - (r.length + 1) : Nat) : Int) + 1)) := ⟨_, rfl⟩
          have HP5 : Hid (PL W5 R s r d) := by
            have h1 := HPA.out.moved (s.size - (r.length + 1) + 1)
            have e2 : (((s.size - (r.length + 1) : Nat) : Int) + 1) = ((s.size - (r.length + 1) + 1 : Nat) : Int) := by omega
            rw [hW5, e2]
            exact HP4.out.on (n := 1) (wr := wr4) (by simp only [List.length_cons]; omega) rfl h1
          have hRw := HLT.out
          have hRg := HGR.out
          have hwg := HGA.out
          have h5o : ∀ j, j ≠ R → W5.heap[j]? = W4.heap[j]? := fun j hj => by rw [hW5]; exact Below.heap_setCell _ _ _ _ (by simpa using hj)
          have h5s : W5.heap.size = W4.heap.size := by rw [hW5]; simp
          have HV5 : Hid (RTVar W5 ga (.int .i64 o) (.int .i64 n) (.slice A c c)) := (h5o ga (by omega)).trans HV4.out
          have HZ5 : Hid (RTVar W5 w.heap.size (.int .i64 0) (.int .i64 0) (.slice none 0 0)) := (h5o _ hkR).trans HZ4.out
          have HT5 : Hid (TreeAt (fun j => (w.heap.size ≤ j ∧ j < W5.heap.size) ∧ j ≠ ga ∧ j ≠ w.heap.size) W5 (.agg #[.int .i64 o, .int .i64 n, .slice A c c]) a) := (HT4.out.keep fun j hj => h5o j (by have := hj.1.1; omega)).more fun j hj => by rw [h5s]; exact hj
          have HF5 : Hid (Frm (· = R) w W5) := by rw [hW5]; exact HF4.out.setCell (p := ⟨R, 1, none⟩) (.inl rfl) _
          rw [← hW5]
          clear hW5 h5o h5s HP4 HV4 HZ4 HT4 HF4 v0 v1 v2 vf z0 z1 z2 zf c0 c1 c2 c3 c4 cf HPA
          have hrm : r.length ≤ m := by simp only [List.length_cons] at hlm; omega
          refine (HIN.out R s r d W5 HP5.out hs hd hrm).mono ?_
          intro e w7 hr
          obtain ⟨o7, n7, A7, c7, rfl, hf, hst⟩ := hr.form
          have hv7 := HV5.out.frm hf (by omega)
          have hz7 := HZ5.out.frm hf hkR
          have hg7 : ga < w7.heap.size := block_lt hv7
          have hg5 : ga < W5.heap.size := block_lt HV5.out
          have h57 : W5.heap.size ≤ w7.heap.size := hf.size
          have hA : ∀ ob1, RTVar (w7.alloc ob1) ga (.int .i64 o) (.int .i64 n) (.slice A c c) := fun ob1 => (heap_alloc_old _ _ hg7).trans hv7
          have hB : ∀ ob1 ob2, RTVar ((w7.alloc ob1).alloc ob2) ga (.int .i64 o) (.int .i64 n) (.slice A c c) := fun ob1 ob2 => (heap_alloc_old _ _ (by simp; omega)).trans (hA ob1)
          have a0 := fun ob1 => (hA ob1).cells.1
          have a1 := fun ob1 => (hA ob1).cells.2.1
          have a2 := fun ob1 => (hA ob1).cells.2.2.1
          have b0 := fun ob1 ob2 => (hB ob1 ob2).cells.1
          have b1 := fun ob1 ob2 => (hB ob1 ob2).cells.2.1
          have b2 := fun ob1 ob2 => (hB ob1 ob2).cells.2.2.1
          have a3 := fun ob1 ob2 i => (hB ob1 ob2).cells.2.2.2 i
          have a4 := fun ob1 i => (hA ob1).cells.2.2.2 i
          have HFIN : Hid (∃ gk', gk' < gk ∧ PRowInv R s d m w ga (X d) ops r0 gk' xi 0 (some ⟨w7.heap.size + 1, 0, none⟩) 2 (rset ((w7.alloc (.cells #[.int .i64 o7, .int .i64 n7, .slice A7 c7 c7] 24)).alloc (.cells #[.int .i64 o, .int .i64 n, .slice A c c, .int .i64 o7, .int .i64 n7, .slice A7 c7 c7] 24)) ga (.int .i64 xi) (.int .i64 0) (.slice (some ⟨w7.heap.size + 1, 0, none⟩) 2 2))) := by
            obtain ⟨ob1, hob1⟩ : ∃ ob1 : Obj, ob1 = .cells #[.int .i64 o7, .int .i64 n7, .slice A7 c7 c7] 24 := ⟨_, rfl⟩
            obtain ⟨ob2, hob2⟩ : ∃ ob2 : Obj, ob2 = .cells #[.int .i64 o, .int .i64 n, .slice A c c, .int .i64 o7, .int .i64 n7, .slice A7 c7 c7] 24 := ⟨_, rfl⟩
            rw [← hob1, ← hob2]
            obtain ⟨W8, hW8⟩ : ∃ W8, W8 = rset ((w7.alloc ob1).alloc ob2) ga (.int .i64 xi) (.int .i64 0) (.slice (some ⟨w7.heap.size + 1, 0, none⟩) 2 2) := ⟨_, rfl⟩
            have hsz : W8.heap.size = w7.heap.size + 2 := by rw [hW8, rset_size]; simp
            have hold : ∀ j, j < w7.heap.size → j ≠ ga → W8.heap[j]? = w7.heap[j]? := fun j h1 h2 => by
              rw [hW8]
              exact (rset_far _ h2 _ _ _).trans ((heap_alloc_old _ _ (by simp; omega)).trans (heap_alloc_old _ _ h1))
            have hnew : W8.heap[w7.heap.size + 1]? = some ob2 := by
              rw [hW8]
              refine (rset_far _ (by omega) _ _ _).trans ?_
              have := heap_alloc_new (w7.alloc ob1) ob2
              simpa using this
            have hvar : RTVar W8 ga (.int .i64 xi) (.int .i64 0) (.slice (some ⟨w7.heap.size + 1, 0, none⟩) 2 2) := by rw [hW8]; exact RTVar.put (hB ob1 ob2) _ _ _
            have hfr : Frm (· = R) w W8 := by rw [hW8]; exact (((frmR HF5.out hf).alloc _).alloc _).rset (.inr (by omega)) _ _ _
            have hres : RTVar W8 w.heap.size (.int .i64 0) (.int .i64 0) (.slice none 0 0) := (hold _ (block_lt hz7) (by omega)).trans hz7
            have hRR : W8.heap[R]? = w7.heap[R]? := hold R (by omega) (by omega)
            rw [← hW8]
            clear hW8
            rcases hst with ⟨b, l3, h1, htb, hp⟩ | ⟨k, j, h1, hp⟩
            · have hsh := HS.out d r b l3 h1
              refine ⟨l3.length + 1, by rw [hgk]; simp only [List.length_cons]; omega, hvar, hres, hfr, .inl ⟨.bin x a b, l3, hp.keep hRR, ?_, rfl, by omega, ?_⟩⟩
              · have hta : TreeAt (fun j => (w.heap.size ≤ j ∧ j < W8.heap.size) ∧ j ≠ ga ∧ j ≠ w.heap.size) W8 (.agg #[.int .i64 o, .int .i64 n, .slice A c c]) a :=
                  ((HT5.out.keep fun j hj => hf.block j hj.1.2 (by have := hj.1.1; omega)).keep fun j hj => hold j (by have := hj.1.2; omega) hj.2.1).more fun j hj => ⟨⟨hj.1.1, by have := hj.1.2; omega⟩, hj.2⟩
                have htb2 : TreeAt (fun j => (w.heap.size ≤ j ∧ j < W8.heap.size) ∧ j ≠ ga ∧ j ≠ w.heap.size) W8 (.agg #[.int .i64 o7, .int .i64 n7, .slice A7 c7 c7]) b :=
                  (htb.keep fun j hj => hold j hj.2 (by have := hj.1; omega)).more fun j hj => by have := hj.1; have := hj.2; omega
                have hop : x ∈ binOps := by
                  have := HX.out
                  rcases HLV.out with ⟨_, _, rfl⟩ | ⟨_, _, rfl⟩
                  · simp at this; rcases this with rfl | rfl <;> decide
                  · simp at this; rcases this with rfl | rfl | rfl <;> decide
                rw [hob2] at hnew
                have cl := fun j => cell_of_row W8 (w7.heap.size + 1) j _ _ _ hnew
                rw [HXI.out]
                exact .bin (b := w7.heap.size + 1) hop ⟨⟨by omega, by omega⟩, by omega, by omega⟩ ((cl 0).trans rfl) ((cl 1).trans rfl) ((cl 2).trans rfl) hta ((cl 3).trans rfl) ((cl 4).trans rfl) ((cl 5).trans rfl) htb2
              · obtain ⟨k, hk, e⟩ := HR0.out
                obtain ⟨k2, rfl⟩ : ∃ k2, k = k2 + 1 := ⟨k - 1, by simp only [List.length_cons] at hk; omega⟩
                refine ⟨k2, by simp only [List.length_cons] at hk; omega, ?_⟩
                rw [e]; simp only [loopRd, if_pos HX.out, h1, Rd.bind]
            · refine ⟨0, by omega, hvar, hres, hfr, .inr ⟨rfl, k, j, ?_, hp.keep hRR⟩⟩
              obtain ⟨k2, hk, e⟩ := HR0.out
              obtain ⟨k3, rfl⟩ : ∃ k3, k2 = k3 + 1 := ⟨k2 - 1, by simp only [List.length_cons] at hk; omega⟩
              rw [e]; simp only [loopRd, if_pos HX.out, h1, Rd.bind]
          clear hr hst hf hA hB hv7 hz7 HP5 HV5 HZ5 HT5 HF5 hgk hg7 hg5 h57 hRw hRg hwg
          go_wp2_with fail
          obtain ⟨gk', hlt, hI⟩ := HFIN.out
          go_roundg gk'
          case measure => exact hlt
          case rel => exact ⟨_, _, _, _, hI⟩
      · have hno := row_nohead HLV.out fun x r e hx => hmem ⟨x, r, e, hx⟩
        have HE : Hid (r0 = .ok a l2) := by
          obtain ⟨k, hk, e⟩ := HR0.out
          exact e.trans (loop_stop (fun x r e hx => hmem ⟨x, r, e, hx⟩) k a)
        obtain ⟨q0, q1, q2, qf⟩ := (RTVar.put HZ4.out (.int .i64 o) (.int .i64 n) (.slice A c c)).cells
        simp only [rset] at q0 q1 q2
        clear HR0 hmem
        rcases hno with ⟨rfl, h1, h2⟩ | ⟨rfl, h1, h2, h3⟩
        all_goals
          generalize headR l2 = cc at *
          go_wp2_with fail
          refine ⟨rfl, .agg #[.int .i64 o, .int .i64 n, .slice A c c], ?_, ?_⟩
          · simp only [results, Tryz.results114]
            simp [go_sem, q0, q1, q2]
          · rw [HE.out]
            refine ⟨o, n, A, c, rfl, ?_, HP4.out.keep (rset_far W4 (Ne.symm hkR) _ _ _), HF4.out.rset (.inr (Nat.le_refl _)) _ _ _⟩
            refine (HT4.out.keep fun j hj => rset_far W4 hj.2.2 _ _ _).more fun j hj => ⟨hj.1.1, ?_⟩
            show j < (rset W4 _ _ _ _).heap.size
            rw [rset_size]; exact hj.1.2
    · obtain ⟨p', d', g1, g2, g3, g4, g5⟩ := hp
      obtain ⟨c0, c1, c2, c3, c4, cf⟩ := g5.cells
      have d0 : (j == 0) = false := beq_eq_false_iff_ne.2 g4
      go_wp2_with fail
      refine ⟨rfl, .agg #[.int .i64 o, .int .i64 n, .slice A c c], ?_, ?_⟩
      · simp only [results, Tryz.results114]
        simp [go_sem, q0, q1, q2]
      · rw [hr0]
        exact ⟨o, n, A, c, rfl, ⟨p', d', g1, g2, g3, g4, g5.keep (rset_far _ (Ne.symm hkR) _ _ _)⟩, HJ.out.frm.rset (.inr (Nat.le_refl _)) _ _ _⟩
end Go.Proofs.YtfndhfekbbbliaaGreatDoor

/-
  The reference's reader: what a reading method has made so far (its variables, the trees in them), kept from step to step. No condition of ours.
-/
namespace Go.Proofs.YtfndhfekbbbliaaGreatDoor
open Go.RowKit Go.ChangeShapes Go.WideShapes
set_option linter.unusedVariables false

/-- A method entered in w0 has made variables ks, and trees ts outside of these. -/
structure PSt (w0 : World) (R : Nat) (ks : List (Nat × Value × Value × Value)) (ts : List (Value × Tr)) (w : World) : Prop where
  frm : Frm (· = R) w0 w
  lt : R < w0.heap.size
  vars : ∀ v ∈ ks, w0.heap.size ≤ v.1 ∧ RTVar w v.1 v.2.1 v.2.2.1 v.2.2.2
  trees : ∀ p ∈ ts, TreeAt (fun j => (w0.heap.size ≤ j ∧ j < w.heap.size) ∧ ∀ v ∈ ks, j ≠ v.1) w p.1 p.2
theorem PSt.start {w0 : World} {R : Nat} (h : R < w0.heap.size) : PSt w0 R [] [] w0 := ⟨Frm.refl _ _, h, nofun, nofun⟩
theorem PSt.lt' {w0 w : World} {R : Nat} {ks : List (Nat × Value × Value × Value)} {ts : List (Value × Tr)} (h : PSt w0 R ks ts w) : R < w.heap.size := Nat.lt_of_lt_of_le h.lt h.frm.size
theorem PSt.below {w0 w : World} {R : Nat} {ks : List (Nat × Value × Value × Value)} {ts : List (Value × Tr)} (h : PSt w0 R ks ts w) {v : Nat × Value × Value × Value} (hv : v ∈ ks) : v.1 < w.heap.size := block_lt (h.vars v hv).2
theorem PSt.call {w0 w w' : World} {R : Nat} {ks : List (Nat × Value × Value × Value)} {ts : List (Value × Tr)} (h : PSt w0 R ks ts w) (hf : Frm (· = R) w w') : PSt w0 R ks ts w' :=
  ⟨frmR h.frm hf, h.lt, fun v hv => ⟨(h.vars v hv).1, (h.vars v hv).2.frm hf (by have := (h.vars v hv).1; have := h.lt; omega)⟩,
    fun p hp => ((h.trees p hp).keep fun j hj => hf.block j hj.1.2 (by have := hj.1.1; have := h.lt; omega)).more fun j hj => ⟨⟨hj.1.1, Nat.lt_of_lt_of_le hj.1.2 hf.size⟩, hj.2⟩⟩
theorem PSt.drewN {w0 w : World} {R : Nat} {ks : List (Nat × Value × Value × Value)} {ts : List (Value × Tr)} (h : PSt w0 R ks ts w) (q : Nat) : PSt w0 R ks ts (w.drewN q) := h.call ((Frm.refl _ _).drewN q)
theorem PSt.alloc {w0 w : World} {R : Nat} {ks : List (Nat × Value × Value × Value)} {ts : List (Value × Tr)} (h : PSt w0 R ks ts w) (ob : Obj) : PSt w0 R ks ts (w.alloc ob) := h.call ((Frm.refl _ _).alloc ob)
theorem PSt.setR {w0 w : World} {R : Nat} {ks : List (Nat × Value × Value × Value)} {ts : List (Value × Tr)} (h : PSt w0 R ks ts w) (i : Nat) (v : Value) : PSt w0 R ks ts (w.setCell ⟨R, i, none⟩ v) := h.call ((Frm.refl (· = R) _).setCell (p := ⟨R, i, none⟩) (.inl rfl) v)
/-- A variable more. -/
theorem PSt.var {w0 w : World} {R : Nat} {ks : List (Nat × Value × Value × Value)} {ts : List (Value × Tr)} (h : PSt w0 R ks ts w) (x y z : Value) : PSt w0 R ((w.heap.size, x, y, z) :: ks) ts (w.alloc (.cells #[x, y, z] 24)) := by
  have h1 := h.alloc (.cells #[x, y, z] 24)
  refine ⟨h1.frm, h.lt, fun v hv => ?_, fun p hp => ?_⟩
  · rcases List.mem_cons.1 hv with rfl | hv
    · exact ⟨h.frm.size, RTVar.new _ _ _ _⟩
    · exact h1.vars v hv
  · refine ((h.trees p hp).keep fun j hj => heap_alloc_old _ _ hj.1.2).more fun j hj => ⟨⟨hj.1.1, by have := hj.1.2; simp; omega⟩, fun v hv => ?_⟩
    rcases List.mem_cons.1 hv with rfl | hv
    · have := hj.1.2; show j ≠ w.heap.size; omega
    · exact hj.2 v hv
/-- A tree more, made by a call in w1. -/
theorem PSt.tree {w0 w1 w : World} {R : Nat} {ks : List (Nat × Value × Value × Value)} {ts : List (Value × Tr)} (h1 : PSt w0 R ks ts w1) (hf : Frm (· = R) w1 w) {v : Value} {t : Tr} (ht : TreeAt (fun k => w1.heap.size ≤ k ∧ k < w.heap.size) w v t) : PSt w0 R ks ((v, t) :: ts) w := by
  have h := h1.call hf
  refine ⟨h.frm, h.lt, h.vars, fun p hp => ?_⟩
  rcases List.mem_cons.1 hp with rfl | hp
  · refine ht.more fun j hj => ⟨⟨Nat.le_trans h1.frm.size hj.1, hj.2⟩, fun v hv => ?_⟩
    have := h1.below hv; have := hj.1; omega
  · exact h.trees p hp
/-- The result's variable is written: the first one made. -/
theorem PSt.res {w0 w : World} {R k : Nat} {x y z : Value} {ks : List (Nat × Value × Value × Value)} {ts : List (Value × Tr)} (h : PSt w0 R ks ts w) (hk : (k, x, y, z) ∈ ks) (x' y' z' : Value) :
    Frm (· = R) w0 (rset w k x' y' z') ∧ RTVar (rset w k x' y' z') k x' y' z' ∧ (rset w k x' y' z').heap[R]? = w.heap[R]? ∧ ∀ p ∈ ts, TreeAt (fun j => w0.heap.size ≤ j ∧ j < (rset w k x' y' z').heap.size) (rset w k x' y' z') p.1 p.2 := by
  have hv := h.vars _ hk
  refine ⟨h.frm.rset (.inr hv.1) _ _ _, hv.2.put _ _ _, rset_far _ (by have h1 : w0.heap.size ≤ k := hv.1; have := h.lt; omega) _ _ _, fun p hp => ?_⟩
  exact ((h.trees p hp).keep fun j hj => rset_far _ (hj.2 _ hk) _ _ _).more fun j hj => ⟨hj.1.1, by rw [rset_size]; exact hj.1.2⟩
theorem PSt.cells {w0 w : World} {R k : Nat} {x y z : Value} {ks : List (Nat × Value × Value × Value)} {ts : List (Value × Tr)} (h : PSt w0 R ks ts w) (hk : (k, x, y, z) ∈ ks) : w.cell? ⟨k, 0, none⟩ = some x ∧ w.cell? ⟨k, 1, none⟩ = some y ∧ w.cell? ⟨k, 2, none⟩ = some z ∧ (∀ i, w.frozen? ⟨k, i, none⟩ = false) := (h.vars _ hk).2.cells
/-- A row of trees is new: with two, with three. -/
theorem PSt.two {w0 w : World} {R : Nat} {ks : List (Nat × Value × Value × Value)} {ts : List (Value × Tr)} (h : PSt w0 R ks ts w) {o n s o' n' s' : Value} {a b : Tr} (ha : (.agg #[o, n, s], a) ∈ ts) (hb : (.agg #[o', n', s'], b) ∈ ts) {op : UInt8} (hop : op ∈ binOps) :
    PSt w0 R ks [(.agg #[.int .i64 (op.toNat : Int), .int .i64 0, .slice (some ⟨w.heap.size, 0, none⟩) 2 2], .bin op a b)] (w.alloc (.cells #[o, n, s, o', n', s'] 24)) := by
  have h1 := h.alloc (.cells #[o, n, s, o', n', s'] 24)
  refine ⟨h1.frm, h.lt, h1.vars, fun p hp => ?_⟩
  rw [List.mem_singleton.1 hp]
  have hnew := heap_alloc_new w (.cells #[o, n, s, o', n', s'] 24)
  have cl := fun j => cell_of_row (w.alloc (.cells #[o, n, s, o', n', s'] 24)) w.heap.size j _ _ _ hnew
  exact .bin (b := w.heap.size) hop ⟨⟨h.frm.size, by show w.heap.size < (w.alloc _).heap.size; simp⟩, fun v hv => by have := h.below hv; omega⟩ ((cl 0).trans rfl) ((cl 1).trans rfl) ((cl 2).trans rfl) (h1.trees _ ha) ((cl 3).trans rfl) ((cl 4).trans rfl) ((cl 5).trans rfl) (h1.trees _ hb)
theorem PSt.three {w0 w : World} {R : Nat} {ks : List (Nat × Value × Value × Value)} {ts : List (Value × Tr)} (h : PSt w0 R ks ts w) {o n s o' n' s' o'' n'' s'' : Value} {a b c : Tr} (ha : (.agg #[o, n, s], a) ∈ ts) (hb : (.agg #[o', n', s'], b) ∈ ts) (hc : (.agg #[o'', n'', s''], c) ∈ ts) :
    PSt w0 R ks [(.agg #[.int .i64 63, .int .i64 0, .slice (some ⟨w.heap.size, 0, none⟩) 3 3], .sel a b c)] (w.alloc (.cells #[o, n, s, o', n', s', o'', n'', s''] 24)) := by
  have h1 := h.alloc (.cells #[o, n, s, o', n', s', o'', n'', s''] 24)
  refine ⟨h1.frm, h.lt, h1.vars, fun p hp => ?_⟩
  rw [List.mem_singleton.1 hp]
  have hnew := heap_alloc_new w (.cells #[o, n, s, o', n', s', o'', n'', s''] 24)
  have cl := fun j => cell_of_row (w.alloc (.cells #[o, n, s, o', n', s', o'', n'', s''] 24)) w.heap.size j _ _ _ hnew
  exact .sel (b := w.heap.size) ⟨⟨h.frm.size, by show w.heap.size < (w.alloc _).heap.size; simp⟩, fun v hv => by have := h.below hv; omega⟩ ((cl 0).trans rfl) ((cl 1).trans rfl) ((cl 2).trans rfl) (h1.trees _ ha) ((cl 3).trans rfl) ((cl 4).trans rfl) ((cl 5).trans rfl) (h1.trees _ hb) ((cl 6).trans rfl) ((cl 7).trans rfl) ((cl 8).trans rfl) (h1.trees _ hc)
/-- The end, where a tree was read. -/
theorem PSt.endOk {w0 w : World} {R k d : Nat} {s : ByteArray} {l : List UInt8} {x y z : Value} {ks : List (Nat × Value × Value × Value)} {ts : List (Value × Tr)} (h : PSt w0 R ks ts w) (hk : (k, x, y, z) ∈ ks) {o n : Int} {A : Option Addr} {c : Nat} {t : Tr} (ht : (.agg #[.int .i64 o, .int .i64 n, .slice A c c], t) ∈ ts) (hp : PL w R s l d) :
    PReads R s d w0 (.ok t l) (.returned (.agg #[.int .i64 o, .int .i64 n, .slice A c c])) (rset w k (.int .i64 o) (.int .i64 n) (.slice A c c)) := by
  obtain ⟨h1, h2, h3, h4⟩ := h.res hk (.int .i64 o) (.int .i64 n) (.slice A c c)
  exact ⟨o, n, A, c, rfl, h4 _ ht, hp.keep h3, h1⟩
/-- The end, where something went wrong. -/
theorem PSt.endBad {w0 w : World} {R k d : Nat} {s : ByteArray} {k' : Nat} {j : Int} {x y z : Value} {ks : List (Nat × Value × Value × Value)} {ts : List (Value × Tr)} (h : PSt w0 R ks ts w) (hk : (k, x, y, z) ∈ ks) {o n : Int} {A : Option Addr} {c : Nat} (hp : PBad w R s d (s.size - k' : Nat) j) :
    PReads R s d w0 (.bad k' j) (.returned (.agg #[.int .i64 o, .int .i64 n, .slice A c c])) (rset w k (.int .i64 o) (.int .i64 n) (.slice A c c)) := by
  obtain ⟨h1, h2, h3, h4⟩ := h.res hk (.int .i64 o) (.int .i64 n) (.slice A c c)
  exact ⟨o, n, A, c, rfl, hp.keep h3, h1⟩
/-- The result's cells, as the end reads them. -/
theorem PSt.out {w0 w : World} {R k : Nat} {x y z : Value} {ks : List (Nat × Value × Value × Value)} {ts : List (Value × Tr)} (h : PSt w0 R ks ts w) (hk : (k, x, y, z) ∈ ks) (x' y' z' : Value) :
    (((w.setCell ⟨k, 0, none⟩ x').setCell ⟨k, 1, none⟩ y').setCell ⟨k, 2, none⟩ z').cell? ⟨k, 0, none⟩ = some x' ∧ (((w.setCell ⟨k, 0, none⟩ x').setCell ⟨k, 1, none⟩ y').setCell ⟨k, 2, none⟩ z').cell? ⟨k, 1, none⟩ = some y' ∧ (((w.setCell ⟨k, 0, none⟩ x').setCell ⟨k, 1, none⟩ y').setCell ⟨k, 2, none⟩ z').cell? ⟨k, 2, none⟩ = some z' := by
  have := ((h.vars _ hk).2.put x' y' z').cells
  exact ⟨this.1, this.2.1, this.2.2.1⟩
end Go.Proofs.YtfndhfekbbbliaaGreatDoor
