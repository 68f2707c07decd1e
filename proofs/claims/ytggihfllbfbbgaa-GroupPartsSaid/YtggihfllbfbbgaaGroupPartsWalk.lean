/-
  The walk of GroupParts: it returns true, whatever the number of workers and the key. No condition.
-/
import Derived.Test.YtggihfllbfbbgaaGroup
namespace Go.Proofs.Ytggihfllbfbbgaa
open Go.RowKit

theorem int_sub {a b : Nat} (h : a ≤ b) : Value.int .i64 ((b : Int) - a) = Value.int .i64 ((b - a : Nat) : Int) := by congr 1; omega
set_option maxRecDepth 100000 in
theorem groupParts_walk (p : Int) (key : ByteArray) (w : World) (wf : (Lit.int .i64 p).wf = true) (hkey : key.size ≤ maxLen) (hre : key.size ≤ 140737488351232) :
    Calls Try.prog 6 #[.int .i64 p, .string key] w fun e w' => e = .returned (.bool true) ∧ Below w.heap.size w w' := by
  clear wf hre
  have HK := Lib.hid hkey
  clear hkey
  by_cases hp : 1 ≤ p ∧ p ≤ 16
  · obtain ⟨h1, h2⟩ := hp
    obtain ⟨q, rfl⟩ := Int.eq_ofNat_of_zero_le (by omega : 0 ≤ p)
    have F := Lib.hid (fst_facts ⟨q, by omega⟩ (by show 1 ≤ q; omega))
    obtain ⟨lo, hlo⟩ : ∃ lo, lo = 16 / q := ⟨_, rfl⟩
    have hlo16 : lo ≤ 16 := by rw [hlo]; exact Nat.div_le_self _ _
    have HLO := Lib.hid hlo
    clear hlo
    have hq : q ≤ 16 := by omega
    have hb1 : decide ((q : Int) < 1) = false := by simp; omega
    have hb2 : decide (16 < (q : Int)) = false := by simp; omega
    go_enter Try.func6, Try.ntmps6
    go_wp2_with fail
    refine (owner_ok 3 6 _ (by omega) (by omega) (by omega) (by omega)).mono ?_; rintro e w' ⟨rfl, rfl⟩
    go_wp2_with fail
    go_loop [10, 11, 12, 13] (fun last least most i => ∃ k L l m : Nat, k ≤ q ∧ i = .int .i64 k ∧ last = .int .i64 L ∧ L ≤ 16 ∧ Hid (L = fst q k) ∧ least = .int .i64 l ∧ lo ≤ l ∧ l ≤ 16 ∧ most = .int .i64 m ∧ m ≤ lo + 1) (fun _ _ _ i => q - (intOf i).toNat)
    case atStart => exact ⟨0, 0, 16, 0, by omega, rfl, rfl, by omega, F.out.1.symm, rfl, by omega, by omega, rfl, by omega⟩
    case round =>
      obtain ⟨k, L, l, m, hk, rfl, rfl, hL16, HL, rfl, hl1, hl2, rfl, hm⟩ := hrel
      by_cases hlt : k < q
      · obtain ⟨f1, f2, f3, f4, f5⟩ := F.out.2.2 ⟨k, by omega⟩ hlt
        obtain ⟨a, ha⟩ : ∃ a, a = fst q k := ⟨_, rfl⟩
        obtain ⟨b, hb⟩ : ∃ b, b = fst q (k + 1) := ⟨_, rfl⟩
        obtain rfl : a = L := ha.trans HL.out.symm
        simp only [← ha, ← hb, ← HLO.out] at f1 f2 f3 f4 f5
        have HA := Lib.hid ha
        have HB := Lib.hid hb
        have F5 := Lib.hid f5
        clear ha hb f5
        have hab : decide (b ≤ a) = false := by simp; omega
        go_wp2_with fail
        refine (range_ok q k _ (by omega) (by omega) (by omega)).mono ?_; rintro e w' ⟨rfl, rfl⟩
        rw [← HA.out, ← HB.out]
        go_wp2_with fail
        go_loop [17] (fun g => ∃ n : Nat, a ≤ n ∧ n ≤ b ∧ g = .int .i64 n) (fun g => b - (intOf g).toNat)
        case atStart => exact ⟨a, by omega, by omega, rfl⟩
        case round =>
          obtain ⟨n, hn1, hn2, rfl⟩ := hrel
          by_cases hn : n < b
          · have f := F5.out ⟨n, by omega⟩ hn1 hn
            have e : ((n : Int) * q / 16) = (k : Int) := by
              have : (((n * q / 16 : Nat)) : Int) = (k : Int) := congrArg Nat.cast f
              rw [← this]; simp
            have E := Lib.hid e
            clear e f
            go_wp2_with fail
            refine (owner_ok q n _ (by omega) (by omega) (by omega) (by omega)).mono ?_; rintro e w' ⟨rfl, rfl⟩
            rw [E.out]
            go_wp2_with fail
            go_round
            case rel => exact ⟨n + 1, by omega, by omega, by go_num⟩
            case measure => simp [intOf]; omega
          · go_wp2_with fail
            all_goals
              go_round
              case rel => exact ⟨k + 1, b, _, _, by omega, by go_num, rfl, by omega, HB, by first | rfl | exact int_sub (by omega), by omega, by omega, by first | rfl | exact int_sub (by omega), by omega⟩
              case measure => simp [intOf]; omega
      · obtain rfl : k = q := by omega
        have e16 := HL.out.trans F.out.2.1
        subst e16
        have hof := ofKey_lt key
        obtain ⟨o, ho⟩ : ∃ o, o = ofKey key := ⟨_, rfl⟩
        rw [← ho] at hof
        have HO := Lib.hid ho
        clear ho
        go_wp2_with fail
        refine (of_any key _ HK.out).mono ?_; rintro e w' ⟨rfl, hbel⟩
        rw [← HO.out]
        go_wp2_with fail
        go_ret
        exact ⟨ret_true (by simp; omega), hbel⟩
  · go_enter Try.func6, Try.ntmps6
    go_wp2_with fail
    refine (owner_ok 3 6 _ (by omega) (by omega) (by omega) (by omega)).mono ?_; rintro e w' ⟨rfl, rfl⟩
    by_cases h1 : 1 ≤ p
    · have h2 : 16 < p := by omega
      go_wp2_with fail
      refine (range_bad0 p _ (by omega)).mono ?_; rintro e w' ⟨rfl, rfl⟩
      go_wp2_with fail
      go_ret
      exact ⟨rfl, Below.refl _ _⟩
    · go_wp2_with fail
      refine (range_bad0 p _ (by omega)).mono ?_; rintro e w' ⟨rfl, rfl⟩
      go_wp2_with fail
      go_ret
      exact ⟨rfl, Below.refl _ _⟩
end Go.Proofs.Ytggihfllbfbbgaa
