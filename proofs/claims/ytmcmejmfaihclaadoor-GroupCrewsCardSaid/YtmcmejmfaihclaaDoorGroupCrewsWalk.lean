/-
  The walk of GroupCrews: it returns true. Condition: the variable errors.errorType reads as the program's text lays it.
-/
import Derived.Test.YtmcmejmfaihclaaDoorCrews
namespace Go.Proofs.YtmcmejmfaihclaaDoor
open Go.RowKit
set_option linter.unusedVariables false

set_option maxRecDepth 100000 in
set_option maxHeartbeats 8000000 in
theorem groupCrews_bad (p q i g : Int) (w : World) (hv : ErrVar w) (hp : ¬ (1 ≤ p ∧ p ≤ 16)) :
    Calls Tryd.prog 4 #[.int .i64 p, .int .i64 q, .int .i64 i, .int .i64 g] w fun e w' => e = .returned (.bool true) ∧ Below w.heap.size w w' := by
  have HV := Lib.hid hv
  have hpos := hv.pos
  clear hv
  rcases (show p < 1 ∨ (1 ≤ p ∧ 16 < p) by omega) with h1 | ⟨h1, h2⟩
  all_goals
    go_enter Tryd.func4, Tryd.ntmps4
    go_wp2_with fail
    refine (range_any_bad p i _ (by omega)).mono ?_; rintro e w' ⟨rfl, rfl⟩
    go_wp2_with fail
    refine (error_errno 1 1 _ HV.out).mono ?_; rintro e w1 ⟨rfl, hb1⟩
    have B1 := Lib.hid hb1
    clear hb1
    go_wp2_with fail
    refine (owner_bad p g _ (by omega)).mono ?_; rintro e w' ⟨rfl, rfl⟩
    go_wp2_with fail
    refine (error_errno 1 1 _ (HV.out.below B1.out hpos)).mono ?_; rintro e w2 ⟨rfl, hb2⟩
    have B2 : Hid (Below w.heap.size w w2) := B1.out.trans (hb2.mono B1.out.size)
    clear hb2 B1
    go_wp2_with fail
    refine (moves_bad p q _ (by omega)).mono ?_; rintro e w' ⟨rfl, rfl⟩
    go_wp2_with fail
    refine (error_errno 1 1 _ (HV.out.below B2.out hpos)).mono ?_; rintro e w3 ⟨rfl, hb3⟩
    have B3 : Hid (Below w.heap.size w w3) := B2.out.trans (hb3.mono B2.out.size)
    clear hb3 B2
    go_wp2_with fail
    go_loop [26] (fun v => v = .int .i64 0) (fun _ => 0)
    case atStart => rfl
    case round =>
      obtain rfl := hrel
      go_wp2_with fail
      go_ret
      exact ⟨rfl, B3.out⟩


theorem owners (p g : Nat) (hp : 1 ≤ p) (hp' : p ≤ 16) (hg : g < 16) : ∃ o : Nat, Hid (∀ u, Calls Tryd.prog 12 #[.int .i64 p, .int .i64 g] u fun e w' => e = .returned (.int .i64 o) ∧ u = w') ∧
    Hid (∀ u, Calls Tryd.prog 13 #[.int .i64 p, .int .i64 g] u fun e w' => e = .returned (.tuple #[.int .i64 o, .nilIface]) ∧ u = w') := by
  refine ⟨g * p / 16, fun u => rowner_ok p g u hp hp' hg, fun u => ?_⟩
  have := owner_ok p g u (by omega) (by omega) (by omega) (by omega)
  rw [show (g : Int) * p / 16 = ((g * p / 16 : Nat) : Int) by simp] at this
  exact this
set_option maxRecDepth 100000 in
set_option maxHeartbeats 16000000 in
theorem groupCrews_good (p : Nat) (q i g : Int) (w : World) (hv : ErrVar w) (hp : 1 ≤ p) (hp' : p ≤ 16) :
    Calls Tryd.prog 4 #[.int .i64 p, .int .i64 q, .int .i64 i, .int .i64 g] w fun e w' => e = .returned (.bool true) ∧ Below w.heap.size w w' := by
  have VB0 := Lib.hid hv
  have B0 : Hid (Below w.heap.size w w) := Below.refl _ _
  clear hv
  have V0 := Lib.hid VB0.out
  have hpos0 : 0 < w.heap.size := VB0.out.pos
  have hp1 : (1 : Int) ≤ (p : Int) := by omega
  have hp2 : (p : Int) ≤ 16 := by omega
  rcases (show i < 0 ∨ (0 ≤ i ∧ (p : Int) ≤ i) ∨ ∃ k : Nat, i = k ∧ k < p by
    by_cases h1 : i < 0
    · exact .inl h1
    · by_cases h2 : (p : Int) ≤ i
      · exact .inr (.inl ⟨by omega, h2⟩)
      · exact .inr (.inr ⟨i.toNat, by omega, by omega⟩)) with hi | ⟨hi, hi2⟩ | ⟨i, rfl, iok⟩
  all_goals
    rcases (show g < 0 ∨ (0 ≤ g ∧ 16 ≤ g) ∨ ∃ k : Nat, g = k ∧ k < 16 by
      by_cases h1 : g < 0
      · exact .inl h1
      · by_cases h2 : 16 ≤ g
        · exact .inr (.inl ⟨by omega, h2⟩)
        · exact .inr (.inr ⟨g.toNat, by omega, by omega⟩)) with hg | ⟨hg, hg2⟩ | ⟨g, rfl, gok⟩
  all_goals
    rcases (show q < 1 ∨ (1 ≤ q ∧ 16 < q) ∨ ∃ k : Nat, q = k ∧ 1 ≤ k ∧ k ≤ 16 ∧ (k : Int) ≤ 16 by
      by_cases h1 : q < 1
      · exact .inl h1
      · by_cases h2 : 16 < q
        · exact .inr (.inl ⟨by omega, h2⟩)
        · exact .inr (.inr ⟨q.toNat, by omega, by omega, by omega, by omega⟩)) with hq | ⟨hq, hq2⟩ | ⟨q, rfl, qok, qok2, qok3⟩
  all_goals
    go_enter Tryd.func4, Tryd.ntmps4
    go_wp2_with fail
    first
      | (have _t := iok; refine (low_ok p i _ hp hp' (by omega)).mono ?_; rintro e w' ⟨rfl, rfl⟩; go_wp2_with fail; refine (low_ok p (i + 1) _ hp hp' (by omega)).mono ?_; rintro e w' ⟨rfl, rfl⟩; go_wp2_with fail; refine (range_ok p i _ hp hp' iok).mono ?_; rintro e w' ⟨rfl, rfl⟩; go_wp2_with fail; refine (error_nil 0 _).mono ?_; rintro e w' ⟨rfl, rfl⟩; have B1 := Lib.hid B0.out; have VB1 := Lib.hid VB0.out; clear B0 VB0)
      | (refine (range_any_bad p i _ (by omega)).mono ?_; rintro e w' ⟨rfl, rfl⟩; go_wp2_with fail; refine (error_errno 1 1 _ VB0.out).mono ?_; rintro e w1 ⟨rfl, hb⟩; have B1 : Hid (Below w.heap.size w w1) := B0.out.trans (hb.mono B0.out.size); have VB1 : Hid (ErrVar w1) := VB0.out.below hb VB0.out.pos; clear hb B0 VB0)
    go_wp2_with fail
    first
      | (have _t := gok; obtain ⟨o, HR1, HR2⟩ := owners p g hp hp' gok; refine (HR1.out _).mono ?_; rintro e w' ⟨rfl, rfl⟩; go_wp2_with fail; refine (HR2.out _).mono ?_; rintro e w' ⟨rfl, rfl⟩; go_wp2_with fail; refine (error_nil 0 _).mono ?_; rintro e w' ⟨rfl, rfl⟩; have B2 := Lib.hid B1.out; have VB2 := Lib.hid VB1.out; clear B1 VB1)
      | (refine (owner_bad p g _ (by omega)).mono ?_; rintro e w' ⟨rfl, rfl⟩; go_wp2_with fail; refine (error_errno 1 1 _ VB1.out).mono ?_; rintro e w2 ⟨rfl, hb⟩; have B2 : Hid (Below w.heap.size w w2) := B1.out.trans (hb.mono B1.out.size); have VB2 : Hid (ErrVar w2) := VB1.out.below hb VB1.out.pos; clear hb B1 VB1)
    go_wp2_with fail
    try (refine (moves_bad p q _ (by omega)).mono ?_; rintro e w' ⟨rfl, rfl⟩; go_wp2_with fail; refine (error_errno 1 1 _ VB2.out).mono ?_; rintro e w3 ⟨rfl, hb⟩; have B3 : Hid (Below w.heap.size w w3) := B2.out.trans (hb.mono B2.out.size); have VB3 : Hid (ErrVar w3) := VB2.out.below hb VB2.out.pos; clear hb B2 VB2; go_wp2_with fail)
    first
      | (have _t := qok
         go_loopw [20, 21] (fun v i wr => ∃ k : Nat, k ≤ 16 ∧ i = .int .i64 k ∧ Hid (wr.ownsRow w.heap.size 35 3 v (movs p q k).length ((movs p q k).flatMap movCells)) ∧ Hid (Below w.heap.size w wr) ∧ Hid (ErrVar wr)) (fun _ i _ => 16 - (intOf i).toNat)
         case atStart => exact ⟨0, by omega, rfl, World.ownsRow_nil _ _ _ _, B2.out, VB2.out⟩
         case round =>
           clear B2 VB2
           obtain ⟨k, hk, rfl, HO, B2, VB2⟩ := hrel
           have hbel := B2.out
           have hlen := movs_length p q k
           obtain ⟨l, hl⟩ : ∃ l, l = movs p q k := ⟨_, rfl⟩
           rw [← hl] at HO hlen
           have HL := Lib.hid hl
           clear hl
           by_cases hlt : k < 16
           · obtain ⟨x, hx⟩ : ∃ x, x = k * p / 16 := ⟨_, rfl⟩
             obtain ⟨y, hy⟩ : ∃ y, y = k * q / 16 := ⟨_, rfl⟩
             have hrx : ∀ u, Calls Tryd.prog 12 #[.int .i64 p, .int .i64 k] u fun e w' => e = .returned (.int .i64 x) ∧ u = w' := fun u => by rw [hx]; exact rowner_ok p k u hp hp' hlt
             have hry : ∀ u, Calls Tryd.prog 12 #[.int .i64 q, .int .i64 k] u fun e w' => e = .returned (.int .i64 y) ∧ u = w' := fun u => by rw [hy]; exact rowner_ok q k u qok qok2 hlt
             have ex : (k : Int) * p / 16 = (x : Int) := by rw [hx]; simp
             have ey : (k : Int) * q / 16 = (y : Int) := by rw [hy]; simp
             have hs := movs_same p q k
             have hm := movs_more p q k
             rw [ex, ey, ← HL.out] at hs hm
             have HRX := Lib.hid hrx
             have HRY := Lib.hid hry
             have HSM := Lib.hid hs
             have HMO := Lib.hid hm
             clear hx hy hrx hry ex ey hs hm
             by_cases he : x = y
             · subst he
               clear hbel
               go_wp2_with fail
               refine (HRX.out _).mono ?_; rintro e w' ⟨rfl, rfl⟩
               go_wp2_with fail
               refine (HRY.out _).mono ?_; rintro e w' ⟨rfl, rfl⟩
               go_wp2_with fail
               go_roundw
               case rel => exact ⟨k + 1, by omega, by go_num, by rw [HSM.out (by first | trivial | rfl)]; exact HO.out, B2.out, VB2.out⟩
               case measure => simp [intOf]; omega
             · have hn := HMO.out (by omega)
               have HN := Lib.hid hn
               have hb : (x == y) = false := beq_eq_false_iff_ne.2 he
               have hb' : (x != y) = true := by simp [he]
               have hb2 : ((x : Int) == (y : Int)) = false := beq_eq_false_iff_ne.2 (by omega)
               have hb3 : ((x : Int) != (y : Int)) = true := by rw [bne, hb2]; rfl
               clear hn he
               go_wp2_with fail
               refine (HRX.out _).mono ?_; rintro e w' ⟨rfl, rfl⟩
               go_wp2_with fail
               refine (HRY.out _).mono ?_; rintro e w' ⟨rfl, rfl⟩
               go_wp2_with (at_builtin; refine wpList_push rfl _ _ 33 rfl w.heap.size 35 _ 3 24 Tryd.underlying33 info_move rfl (by decide) _ _ _ rfl HO.out [_, _, _] rfl rfl ?_ ?_ ?_ hbel.size hbel (Nat.le_refl _) ?_)
               · rintro u hu; simp at hu; rcases hu with rfl | rfl | rfl <;> rfl
               · unfold maxLen; omega
               · omega
               · intro v' w5 hown1 hg1 hbel1 _
                 have HO1 := Lib.hid hown1
                 have HB1 := Lib.hid hbel1
                 have HV1 : Hid (ErrVar w5) := V0.out.below hbel1 hpos0
                 clear HO hg1 hbel hbel1 hown1
                 go_wp2_with fail
                 go_roundw
                 case rel => exact ⟨k + 1, by omega, by go_num, by rw [HN.out, List.length_append, List.flatMap_append]; exact HO1.out, HB1.out, HV1.out⟩
                 case measure => simp [intOf]; omega
           · obtain rfl : k = 16 := by omega
             obtain ⟨A, c, rfl, hln, hsl⟩ := own_sl (E := movE) movCells (fun _ => rfl) (by decide) HO.out (fun _ _ => rfl)
             have HS := Lib.hid hsl
             clear hsl hln HO
             go_wp2_with fail
             refine (moves_ok p q _ (by omega) (by omega) (by omega) (by omega)).mono ?_; rintro e w6 ⟨A2, c2, rfl, hs2, hb2⟩
             rw [← HL.out] at hs2 ⊢
             have HS1 := Lib.hid (HS.out.below hb2)
             have HS2 := Lib.hid hs2
             have B6 : Hid (Below w.heap.size w w6) := B2.out.trans (hb2.mono B2.out.size)
             clear hs2 hb2 hbel B2 VB2 HS
             go_wp2_with fail
             refine (error_nil 0 _).mono ?_; rintro e w' ⟨rfl, rfl⟩
             have hl16 : l.length ≤ 16 := hlen
             go_wp2_with fail
             go_loopw [26] (fun i wr => ∃ k q : Nat, k ≤ l.length ∧ i = .int .i64 k ∧ wr = w6.drewN q) (fun i _ => l.length - (intOf i).toNat)
             case atStart => exact ⟨0, 0, Nat.zero_le _, rfl, rfl⟩
             case round =>
               obtain ⟨k, qd, hk, rfl, rfl⟩ := hrel
               by_cases hlt : k < l.length
               · obtain ⟨b, off, rfl, _, c0, c1, c2⟩ := HS1.out.mov_ hlt
                 obtain ⟨b', off', rfl, _, d0, d1, d2⟩ := HS2.out.mov_ hlt
                 obtain ⟨s, hs⟩ : ∃ s, s = l[k] := ⟨_, rfl⟩
                 rw [← hs] at c0 c1 c2 d0 d1 d2
                 clear hs
                 go_wp2_with fail
                 go_quiet (fail)
                 go_wp2_with fail
                 go_roundw
                 case rel => exact ⟨k + 1, _, by omega, by go_num, rfl⟩
                 case measure => simp [intOf]; omega
               · obtain rfl : k = l.length := by omega
                 go_wp2_with fail
                 go_ret
                 exact ⟨rfl, bdrewN B6.out _⟩
      )
      | (go_loop [26] (fun v => v = .int .i64 0) (fun _ => 0)
         case atStart => rfl
         case round =>
           obtain rfl := hrel
           go_wp2_with fail
           go_ret
           exact ⟨rfl, B3.out⟩)


theorem groupCrews_walk (p q i g : Int) (w : World) (_ : (Lit.int .i64 p).wf = true) (_ : (Lit.int .i64 q).wf = true) (_ : (Lit.int .i64 i).wf = true) (_ : (Lit.int .i64 g).wf = true) (hv : ErrVar w) :
    Calls Tryd.prog 4 #[.int .i64 p, .int .i64 q, .int .i64 i, .int .i64 g] w fun e w' => e = .returned (.bool true) ∧ Below w.heap.size w w' := by
  by_cases hp : 1 ≤ p ∧ p ≤ 16
  · obtain ⟨p, rfl⟩ : ∃ k : Nat, p = k := ⟨p.toNat, by omega⟩
    exact groupCrews_good p q i g w hv (by omega) (by omega)
  · exact groupCrews_bad p q i g w hv hp

end Go.Proofs.YtmcmejmfaihclaaDoor
