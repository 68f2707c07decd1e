/-
  Contracts of the reference's Low and Owner, and of group.Range at any arguments. Condition: from 1 to 16 workers (Range: any).
-/
import Derived.Test.YtmcmejmfaihclaaDoorMoves
import Derived.Test.YtmcmejmfaihclaaDoorErrAs
namespace Go.Proofs.YtmcmejmfaihclaaDoor
open Go.RowKit
set_option linter.unusedVariables false

theorem low_fact : ∀ p : Fin 17, 1 ≤ p.1 → ∀ i : Fin 17, fst p.1 i.1 = i.1 * 16 / p.1 + (if 0 < i.1 * 16 % p.1 then 1 else 0) := by decide +kernel
theorem own_fact : ∀ p : Fin 17, 1 ≤ p.1 → ∀ g : Fin 16, ∀ i : Fin 16, (fst p.1 (i.1 + 1) ≤ g.1 ↔ i.1 < g.1 * p.1 / 16) := by decide +kernel

theorem low_ok (p i : Nat) (w : World) (hp : 1 ≤ p) (hp' : p ≤ 16) (hi : i ≤ 16) : Calls Tryd.prog 10 #[.int .i64 p, .int .i64 i] w fun e w' => e = .returned (.int .i64 (fst p i)) ∧ w = w' := by
  have hf := low_fact ⟨p, by omega⟩ hp ⟨i, by omega⟩
  simp only at hf
  have hq : i * 16 / p ≤ 256 := Nat.le_trans (Nat.div_le_self _ _) (by omega)
  obtain ⟨n, hn⟩ : ∃ n, n = i * 16 / p := ⟨_, rfl⟩
  obtain ⟨r, hr⟩ : ∃ r, r = i * 16 % p := ⟨_, rfl⟩
  have e1 : ((i : Int) * 16).tdiv (p : Int) = (n : Int) := by rw [Int.tdiv_eq_ediv_of_nonneg (by omega), hn]; simp
  have e1' : ((i : Int) * 16) / (p : Int) = (n : Int) := by rw [hn]; simp
  have e2 : ((i : Int) * 16).tmod (p : Int) = (r : Int) := by rw [Int.tmod_eq_emod_of_nonneg (by omega), hr]; simp
  have e2' : ((i : Int) * 16) % (p : Int) = (r : Int) := by rw [hr]; simp
  rw [← hn, ← hr] at hf
  rw [← hn] at hq
  have hp0 : ¬ p = 0 := by omega
  have HF := Lib.hid hf
  clear hf hn hr
  by_cases h0 : 0 < r
  · have HR : Hid (fst p i = n + 1) := by show _ = _; rw [HF.out, if_pos h0]
    go_enter Tryd.func10, Tryd.ntmps10
    go_wp2_with fail
    go_ret
    rw [HR.out]
    exact ⟨rfl, rfl⟩
  · have HR : Hid (fst p i = n) := by show _ = _; rw [HF.out, if_neg h0]; rfl
    obtain rfl : r = 0 := by omega
    go_enter Tryd.func10, Tryd.ntmps10
    go_wp2_with fail
    go_ret
    rw [HR.out]
    exact ⟨rfl, rfl⟩
theorem fst_le (p i : Nat) (hp : 1 ≤ p) (hi : i ≤ 16) : fst p i ≤ 300 := by
  unfold fst
  by_cases h : p ≤ 300
  · exact Nat.le_trans (Nat.div_le_div_right (c := p) (show i * 16 + p - 1 ≤ 256 + p by omega)) (by
      rw [Nat.div_le_iff_le_mul_add_pred (by omega)]; have : 300 ≤ p * 300 := Nat.le_mul_of_pos_left 300 hp; omega)
  · exact Nat.le_trans (Nat.div_le_of_le_mul (show i * 16 + p - 1 ≤ p * 2 by omega)) (by omega)
theorem rowner_ok (p g : Nat) (w : World) (hp : 1 ≤ p) (hp' : p ≤ 16) (hg : g < 16) : Calls Tryd.prog 12 #[.int .i64 p, .int .i64 g] w fun e w' => e = .returned (.int .i64 (g * p / 16 : Nat)) ∧ w = w' := by
  obtain ⟨o, ho⟩ : ∃ o, o = g * p / 16 := ⟨_, rfl⟩
  have ho16 : o < 16 := by rw [ho]; have : g * p ≤ 15 * 16 := Nat.mul_le_mul (by omega) hp'; omega
  rw [← ho]
  have HO := Lib.hid ho
  clear ho
  go_enter Tryd.func12, Tryd.ntmps12
  go_wp2_with fail
  go_loop [5] (fun v => ∃ i : Nat, i ≤ o ∧ v = .int .i64 i) (fun v => o - (intOf v).toNat)
  case atStart => exact ⟨0, Nat.zero_le _, rfl⟩
  case round =>
    obtain ⟨i, hi, rfl⟩ := hrel
    have hown := own_fact ⟨p, by omega⟩ hp ⟨g, hg⟩ ⟨i, by omega⟩
    simp only at hown
    rw [← HO.out] at hown
    have hfl := fst_le p (i + 1) hp (by omega)
    obtain ⟨f, hf⟩ : ∃ f, f = fst p (i + 1) := ⟨_, rfl⟩
    rw [← hf] at hown hfl
    have HF := Lib.hid hf
    have HW := Lib.hid hown
    have hlow := low_ok p (i + 1) w hp hp' (by omega)
    rw [← hf] at hlow
    have HL := Lib.hid hlow
    clear hf hown hlow
    by_cases hlt : i < o
    · have hd : decide (f ≤ g) = true := by simp; exact HW.out.2 hlt
      go_wp2_with (go_at_call 10; refine HL.out.mono ?_; rintro e w' ⟨rfl, rfl⟩)
      go_round
      case rel => exact ⟨i + 1, by omega, by go_num⟩
      case measure => simp [intOf]; omega
    · obtain rfl : i = o := by omega
      have hd : decide (f ≤ g) = false := by rw [decide_eq_false_iff_not]; exact fun h => hlt (HW.out.1 h)
      go_wp2_with (go_at_call 10; refine HL.out.mono ?_; rintro e w' ⟨rfl, rfl⟩)
      go_ret
      exact ⟨rfl, rfl⟩
theorem range_any_bad (p i : Int) (w : World) (h : ¬ (1 ≤ p ∧ p ≤ 16 ∧ 0 ≤ i ∧ i < p)) :
    Calls Tryd.prog 11 #[.int .i64 p, .int .i64 i] w fun e w' => e = .returned (.tuple #[.int .i64 0, .int .i64 0, .iface 64 (.int .i64 1)]) ∧ w = w' := by
  by_cases hp : 1 ≤ p ∧ p ≤ 16
  · obtain ⟨h1, h2⟩ := hp
    rcases (show i < 0 ∨ (0 ≤ i ∧ p ≤ i) by omega) with h3 | ⟨h3, h4⟩
    all_goals
      go_enter Tryd.func11, Tryd.ntmps11
      go_wp2_with (go_at_call 30; refine (crew_yes p _ h1 h2).mono ?_; rintro e w' ⟨rfl, rfl⟩)
      go_ret3
      exact ⟨rfl, rfl⟩
  · go_enter Tryd.func11, Tryd.ntmps11
    go_wp2_with (go_at_call 30; refine (crew_no p _ hp).mono ?_; rintro e w' ⟨rfl, rfl⟩)
    go_ret3
    exact ⟨rfl, rfl⟩
end Go.Proofs.YtmcmejmfaihclaaDoor
