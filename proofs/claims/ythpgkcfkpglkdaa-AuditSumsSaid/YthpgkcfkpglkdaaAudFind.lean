/-
  Package audit: the contract of find: the numbers of a key among right lines. Conditions: where the lines lie.
-/
import Derived.Test.YthpgkcfkpglkdaaAudCheck
import Derived.Test.YthpgkcfkpglkdaaLays
import Derived.Shelf.Small.Strs
import Derived.WalkLawsBesides
import Derived.WalkKit
import Derived.Shelf.Abstract
import Derived.Laws.BitsLemmas
namespace Go.Proofs.Ythpgkcfkpglkdaa
open Go.RowKit Go.Shelf
set_option linter.unusedVariables false

theorem cmp_list : ∀ a b : List UInt8, (Lib.compareBytes a b < 0 ↔ a < b) ∧ (Lib.compareBytes a b = 0 ↔ a = b)
  | [], [] => ⟨⟨fun h => by simp [Lib.compareBytes] at h, fun h => absurd h (List.lt_irrefl _)⟩, by simp [Lib.compareBytes]⟩
  | [], b :: ys => ⟨⟨fun _ => List.nil_lt_cons _ _, fun _ => by simp [Lib.compareBytes]⟩, by simp [Lib.compareBytes]⟩
  | a :: xs, [] => ⟨⟨fun h => by simp [Lib.compareBytes] at h, fun h => absurd h (List.not_lt_nil _)⟩, by simp [Lib.compareBytes]⟩
  | a :: xs, b :: ys => by
    obtain ⟨h1, h2⟩ := cmp_list xs ys
    unfold Lib.compareBytes
    by_cases hab : a < b
    · rw [if_pos hab]
      refine ⟨⟨fun _ => List.cons_lt_cons_iff.2 (.inl hab), fun _ => by decide⟩, ⟨fun h => absurd h (by decide), fun h => ?_⟩⟩
      injection h with h
      subst h
      exact absurd hab (UInt8.lt_irrefl _)
    · rw [if_neg hab]
      by_cases hba : b < a
      · rw [if_pos hba]
        refine ⟨⟨fun h => absurd h (by decide), fun h => ?_⟩, ⟨fun h => absurd h (by decide), fun h => ?_⟩⟩
        · rcases List.cons_lt_cons_iff.1 h with h | ⟨rfl, _⟩
          · exact absurd h hab
          · exact absurd hba (UInt8.lt_irrefl _)
        · injection h with h
          subst h
          exact absurd hba (UInt8.lt_irrefl _)
      · rw [if_neg hba]
        have e : a = b := UInt8.le_antisymm (UInt8.not_lt.1 hba) (UInt8.not_lt.1 hab)
        subst e
        refine ⟨⟨fun h => List.cons_lt_cons_iff.2 (.inr ⟨rfl, h1.1 h⟩), fun h => ?_⟩, ⟨fun h => by rw [h2.1 h], fun h => ?_⟩⟩
        · rcases List.cons_lt_cons_iff.1 h with h | ⟨_, h⟩
          · exact absurd h (UInt8.lt_irrefl _)
          · exact h1.2 h
        · injection h with _ h
          exact h2.2 h
theorem compare_less (a b : ByteArray) : (Lib.compareBytes a.data.toList b.data.toList < 0 ↔ kLess a b) ∧ (Lib.compareBytes a.data.toList b.data.toList = 0 ↔ a = b) := by
  obtain ⟨h1, h2⟩ := cmp_list a.data.toList b.data.toList
  refine ⟨h1, h2.trans ⟨fun h => ?_, fun h => by rw [h]⟩⟩
  cases a; cases b
  congr 1
  exact Array.toList_inj.1 h
theorem compare_small (a b : List UInt8) : -1 ≤ Lib.compareBytes a b ∧ Lib.compareBytes a b ≤ 1 := by
  induction a generalizing b with
  | nil => cases b <;> simp [Lib.compareBytes]
  | cons x a ih =>
    cases b with
    | nil => simp [Lib.compareBytes]
    | cons y b =>
      unfold Lib.compareBytes
      split
      · exact ⟨by decide, by decide⟩
      · split
        · exact ⟨by decide, by decide⟩
        · exact ih b
set_option maxRecDepth 100000 in
theorem afind1_ok (key k : ByteArray) (A : Option Addr) (n c : Nat) (w : World) :
    Calls Try.prog 29 #[.agg #[.string key, .slice A n c], .string k] w fun e w' => e = .returned (.int .i64 (Lib.compareBytes key.data.toList k.data.toList)) ∧ Below w.heap.size w w' := by
  go_enter Try.func29, Try.ntmps29
  go_wp2_with fail
  refine (Any.strings_Compare Try.compare key k _).mono ?_
  rintro e w2 ⟨rfl, rfl⟩
  go_wp2_with fail
  go_ret
  exact ⟨rfl, (Below.refl _ _).alloc (Nat.le_refl _) _⟩
/-- All ahead of i are less, none from j on. -/
def SearchN (l : List Lin) (k : ByteArray) (i j : Nat) : Prop := (∀ t (h : t < l.length), t < i → kLess l[t].key k) ∧ ∀ t (h : t < l.length), j ≤ t → ¬ kLess l[t].key k
set_option maxRecDepth 100000 in
set_option maxHeartbeats 2000000 in
theorem asearch_ok (F : Nat → Prop) (A : Option Addr) (c : Nat) (l : List Lin) (k : ByteArray) (w : World) (hl : SlA linE F w A c l) (hF : ∀ q, F q → q < w.heap.size) (ha : AOk l) :
    Calls Try.prog 28 #[.slice A l.length c, .string k, .func (.func 29) #[] #[]] w fun e w' =>
      (∃ i : Nat, e = .returned (.tuple #[.int .i64 i, .bool (decide (∃ h : i < l.length, l[i].key = k))]) ∧ (∀ t (h : t < l.length), l[t].key = k → t = i)) ∧ Below w.heap.size w w' := by
  have HL := Lib.hid hl
  have HF := Lib.hid hF
  have HA := Lib.hid ha
  have hle := hl.le
  have h400 := ha.len
  clear hl hF ha
  go_enter Try.func28, Try.ntmps28
  go_wp2_with fail
  go_loopw [9, 10] (fun iv jv wr => ∃ i j : Nat, i ≤ j ∧ j ≤ l.length ∧ iv = .int .i64 i ∧ jv = .int .i64 j ∧ Hid (SearchN l k i j) ∧ Hid (Below w.heap.size w wr)) (fun iv jv _ => (intOf jv).toNat - (intOf iv).toNat)
  case atStart => exact ⟨0, l.length, Nat.zero_le _, Nat.le_refl _, rfl, rfl, ⟨fun t _ h => absurd h (Nat.not_lt_zero _), fun t h h' => absurd h (Nat.not_lt.2 h')⟩, Below.refl _ _⟩
  case round =>
    obtain ⟨i, j, hij, hj, rfl, rfl, HS, HB⟩ := hrel
    by_cases hlt : i < j
    · have hm : (i + j) / 2 < l.length := by omega
      obtain ⟨b, off, A2, c2, rfl, hFb, x0, x1, _, hx⟩ := (HL.out.keep (w' := wr) fun q hq => HB.out.block q (HF.out q hq)).lin_ hm
      have hbl : b < wr.heap.size := Nat.lt_of_lt_of_le (HF.out b hFb) HB.out.size
      have HUP := Lib.hid (fun t (h : t < l.length) (h2 : (i + j) / 2 ≤ t) => show l[(i + j) / 2].key = l[t].key ∨ kLess l[(i + j) / 2].key l[t].key from (Nat.lt_or_eq_of_le h2).elim (fun h3 => .inr (HA.out.at_ h h3)) fun h3 => .inl (by subst h3; rfl))
      have HDN := Lib.hid (fun t (h : t < l.length) (h2 : t ≤ (i + j) / 2) => show l[t].key = l[(i + j) / 2].key ∨ kLess l[t].key l[(i + j) / 2].key from (Nat.lt_or_eq_of_le h2).elim (fun h3 => .inr (HA.out.at_ hm h3)) fun h3 => .inl (by subst h3; rfl))
      have hcl := compare_less l[(i + j) / 2].key k
      have hcap := HL.out.1
      clear hx
      generalize l[(i + j) / 2].nums.length = nl at x1
      generalize l[(i + j) / 2].key = key at x0 HUP HDN hcl
      obtain ⟨cv, hcv⟩ : ∃ cv, cv = Lib.compareBytes key.data.toList k.data.toList := ⟨_, rfl⟩
      have HCM := Lib.hid (afind1_ok key k A2 nl c2 wr)
      rw [← hcv] at HCM hcl
      have HCL := Lib.hid hcl
      clear hcl hcv
      by_cases hc : cv < 0
      · have dc : decide (cv < 0) = true := decide_eq_true hc
        have HS2 : Hid (SearchN l k ((i + j) / 2 + 1) j) := ⟨fun t h h2 => by
          have h3 := HCL.out.1.1 hc
          rcases HDN.out t h (by omega) with h4 | h4
          · rw [h4]; exact h3
          · exact kLess_trans h4 h3, HS.out.2⟩
        clear HUP HDN HCL HS hc
        go_wp2_with fail
        refine HCM.out.mono ?_
        rintro e w2 ⟨rfl, b2⟩
        have B2 : Hid (Below w.heap.size w w2) := HB.out.trans (b2.mono HB.out.size)
        clear b2
        go_wp2_with fail
        go_roundw
        case rel => exact ⟨(i + j) / 2 + 1, j, by omega, hj, by rw [show ((i : Int) + (j : Int)) / 2 + 1 = (((i + j) / 2 + 1 : Nat) : Int) by omega], rfl, HS2, B2⟩
        case measure => simp [intOf]; omega
      · have dc : decide (cv < 0) = false := decide_eq_false hc
        have HS2 : Hid (SearchN l k i ((i + j) / 2)) := ⟨HS.out.1, fun t h h2 h5 => by
          have h3 : ¬ kLess key k := fun h6 => hc (HCL.out.1.2 h6)
          rcases HUP.out t h h2 with h4 | h4
          · rw [← h4] at h5; exact h3 h5
          · exact h3 (kLess_trans h4 h5)⟩
        clear HUP HDN HCL HS hc
        go_wp2_with fail
        refine HCM.out.mono ?_
        rintro e w2 ⟨rfl, b2⟩
        have B2 : Hid (Below w.heap.size w w2) := HB.out.trans (b2.mono HB.out.size)
        clear b2
        go_wp2_with fail
        go_roundw
        case rel => exact ⟨i, (i + j) / 2, by omega, by omega, rfl, by rw [show ((i : Int) + (j : Int)) / 2 = (((i + j) / 2 : Nat) : Int) by omega], HS2, B2⟩
        case measure => simp [intOf]; omega
    · obtain rfl : i = j := by omega
      have HUN : Hid (∀ t (h : t < l.length), l[t].key = k → t = i) := fun t h e => by
        rcases Nat.lt_trichotomy t i with h1 | h1 | h1
        · have := HS.out.1 t h h1
          rw [e] at this
          exact absurd this (kLess_irrefl _)
        · exact h1
        · have h2 := HA.out.at_ h h1
          rw [e] at h2
          exact absurd h2 (HS.out.2 i (by omega) (Nat.le_refl _))
      by_cases hil : i < l.length
      · obtain ⟨b, off, A2, c2, rfl, hFb, x0, x1, _, hx⟩ := (HL.out.keep (w' := wr) fun q hq => HB.out.block q (HF.out q hq)).lin_ hil
        have hbl : b < wr.heap.size := Nat.lt_of_lt_of_le (HF.out b hFb) HB.out.size
        have di : decide (i < l.length) = true := decide_eq_true hil
        have hcl := (compare_less l[i].key k).2
        have HR : Hid (decide (∃ h : i < l.length, l[i].key = k) = decide (Lib.compareBytes l[i].key.data.toList k.data.toList = 0)) := by
          show _ = _
          rw [decide_eq_decide]
          exact ⟨fun ⟨_, h⟩ => hcl.2 h, fun h => ⟨hil, hcl.1 h⟩⟩
        have hcap := HL.out.1
        clear hx hcl HS
        generalize l[i].nums.length = nl at x1
        obtain ⟨key, hkey⟩ : ∃ key, key = l[i].key := ⟨_, rfl⟩
        rw [← hkey] at x0
        obtain ⟨cv, hcv⟩ : ∃ cv, cv = Lib.compareBytes key.data.toList k.data.toList := ⟨_, rfl⟩
        have HCM := Lib.hid (afind1_ok key k A2 nl c2 wr)
        rw [← hcv] at HCM
        rw [← hkey, ← hcv] at HR
        have HKY := Lib.hid hkey
        clear hcv hkey
        have HBX : Hid (∀ w2, Below wr.heap.size wr w2 → Below w.heap.size w w2) := fun w2 h => HB.out.trans (h.mono HB.out.size)
        cases h0 : decide (cv = 0) with
        | true =>
          have e0 : cv = 0 := of_decide_eq_true h0
          subst e0
          go_wp2_with fail
          refine HCM.out.mono ?_
          rintro e w2 ⟨rfl, b2⟩
          have B2 := Lib.hid b2
          clear b2
          go_wp2_with fail
          go_ret2
          exact ⟨⟨i, by rw [HR.out]; rfl, HUN.out⟩, HBX.out _ B2.out⟩
        | false =>
          have e0 : (cv == 0) = false := by simpa using h0
          go_wp2_with fail
          refine HCM.out.mono ?_
          rintro e w2 ⟨rfl, b2⟩
          have B2 := Lib.hid b2
          clear b2
          go_wp2_with fail
          go_ret2
          exact ⟨⟨i, by rw [HR.out, h0]; rfl, HUN.out⟩, HBX.out _ B2.out⟩
      · have di : decide (i < l.length) = false := decide_eq_false hil
        have HR : Hid (decide (∃ h : i < l.length, l[i].key = k) = false) := decide_eq_false fun ⟨h, _⟩ => hil h
        clear HS hil
        go_wp2_with fail
        go_ret2
        exact ⟨⟨i, by rw [HR.out]; rfl, HUN.out⟩, HB.out⟩
set_option maxRecDepth 100000 in
/-- The numbers of a key. -/
theorem afind_ok (F : Nat → Prop) (A : Option Addr) (c : Nat) (l : List Lin) (w : World) (hl : SlA linE F w A c l) (hF : ∀ q, F q → q < w.heap.size) (ha : AOk l) {i : Nat} (hi : i < l.length) {k : ByteArray} (hk : l[i].key = k) :
    Calls Try.prog 18 #[.slice A l.length c, .string k] w fun e w' => (∃ A2 c2, e = .returned (.slice A2 l[i].nums.length c2) ∧ SlA (intE .i64) (· < w'.heap.size) w' A2 c2 l[i].nums) ∧ Below w.heap.size w w' := by
  have HS := Lib.hid (asearch_ok F A c l k w hl hF ha)
  have HL := Lib.hid hl
  have HF := Lib.hid hF
  have hle := hl.le
  have HK := Lib.hid hk
  clear hl hF hk
  obtain ⟨ns, hns⟩ : ∃ ns, ns = l[i].nums := ⟨_, rfl⟩
  rw [← hns]
  have HNS := Lib.hid hns
  clear hns
  go_enter Try.func18, Try.ntmps18
  go_wp2_with fail
  refine HS.out.mono ?_
  rintro e w2 ⟨⟨j, rfl, hj⟩, b2⟩
  obtain rfl : i = j := hj i hi HK.out
  have hd : decide (∃ h : i < l.length, l[i].key = k) = true := decide_eq_true ⟨hi, HK.out⟩
  rw [hd]
  obtain ⟨b, off, A2, c2, rfl, hFb, x0, x1, _, hx⟩ := (HL.out.keep (w' := w2) fun q hq => b2.block q (HF.out q hq)).lin_ hi
  have B2 := Lib.hid b2
  have HX : Hid (SlA (intE .i64) (· < w2.heap.size) w2 A2 c2 l[i].nums) := hx.more fun q hq => Nat.lt_of_lt_of_le (HF.out q hq) b2.size
  have hcap := HL.out.1
  clear hx b2 hd hj HS
  rw [← HNS.out] at x1 HX
  generalize l[i].key = kk at x0
  go_wp2_with fail
  go_ret
  exact ⟨⟨A2, c2, rfl, HX.out⟩, B2.out⟩
end Go.Proofs.Ythpgkcfkpglkdaa
