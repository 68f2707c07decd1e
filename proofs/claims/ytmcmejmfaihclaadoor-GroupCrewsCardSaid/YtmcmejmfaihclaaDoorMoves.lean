/-
  The contract of group.Moves. No condition.
-/
import Derived.Test.YtmcmejmfaihclaaDoorGroup
namespace Go.Proofs.YtmcmejmfaihclaaDoor
open Go.RowKit
set_option linter.unusedVariables false

structure Mov where
  g : Int
  a : Int
  b : Int
def movCells (m : Mov) : List Value := [.int .i64 m.g, .int .i64 m.a, .int .i64 m.b]
def movE : Elt Mov where
  sz := 3
  bulk := fun _ => 4
  R := fun _ _ cs m => cs = movCells m
  len := fun _ _ _ _ h => by rw [h]; rfl
  keep := fun _ _ _ _ _ h _ => h
  more := fun _ _ _ _ _ h _ => h
theorem SlA.mov_ {F : Nat → Prop} {w : World} {A : Option Addr} {c : Nat} {l : List Mov} (h : SlA movE F w A c l) {k : Nat} (hk : k < l.length) :
    ∃ b off, A = some ⟨b, off, none⟩ ∧ F b ∧ w.cell? ⟨b, off + k * 3, none⟩ = some (.int .i64 l[k].g) ∧ w.cell? ⟨b, off + k * 3 + 1, none⟩ = some (.int .i64 l[k].a) ∧ w.cell? ⟨b, off + k * 3 + 2, none⟩ = some (.int .i64 l[k].b) := by
  obtain ⟨b, off, cs, rfl, hb, hc, he⟩ := h.at_ hk
  have c0 := hc 0 _ (by rw [he]; rfl)
  have c1 := hc 1 _ (by rw [he]; rfl)
  have c2 := hc 2 _ (by rw [he]; rfl)
  simp only [movE, Nat.add_zero] at c0 c1 c2
  exact ⟨b, off, rfl, hb, c0, by rw [Nat.add_assoc]; exact c1, by rw [Nat.add_assoc]; exact c2⟩

def mov1 (p q : Int) (g : Nat) : Option Mov := if (g : Int) * p / 16 = (g : Int) * q / 16 then none else some ⟨g, (g : Int) * p / 16, (g : Int) * q / 16⟩
def movs (p q : Int) (k : Nat) : List Mov := (List.range k).filterMap (mov1 p q)
theorem movs_succ (p q : Int) (k : Nat) : movs p q (k + 1) = movs p q k ++ (mov1 p q k).toList := by
  unfold movs; rw [List.range_succ, List.filterMap_append]
  cases h : mov1 p q k <;> simp [h]
theorem movs_length (p q : Int) (k : Nat) : (movs p q k).length ≤ k := by
  unfold movs; have := List.length_filterMap_le (mov1 p q) (List.range k); simpa using this

theorem info_move : (Tryd.prog.info? 35).map (fun i => (i.zero, i.size, i.bytes)) = some (some (.agg #[.int .i64 0, .int .i64 0, .int .i64 0]), 3, 24) := by kernel_rfl

theorem crew_yes (p : Int) (w : World) (h1 : 1 ≤ p) (h2 : p ≤ 16) : Calls Tryd.prog 30 #[.int .i64 p] w fun e w' => e = .returned (.bool true) ∧ w = w' := by
  go_enter Tryd.func30, Tryd.ntmps30
  go_wp2
  all_goals (go_ret; first | exact ⟨rfl, rfl⟩ | exact ⟨ret_true (by simp; omega), rfl⟩)
theorem crew_no (p : Int) (w : World) (h : ¬ (1 ≤ p ∧ p ≤ 16)) : Calls Tryd.prog 30 #[.int .i64 p] w fun e w' => e = .returned (.bool false) ∧ w = w' := by
  by_cases h1 : 1 ≤ p
  · have h2 : 16 < p := by omega
    go_enter Tryd.func30, Tryd.ntmps30
    go_wp2
    all_goals (go_ret; first | exact ⟨rfl, rfl⟩ | exact ⟨by simp; omega, rfl⟩)
  · go_enter Tryd.func30, Tryd.ntmps30
    go_wp2
    all_goals (go_ret; first | exact ⟨rfl, rfl⟩ | exact ⟨by simp, rfl⟩)

theorem movs_same (p q : Int) (k : Nat) (h : (k : Int) * p / 16 = (k : Int) * q / 16) : movs p q (k + 1) = movs p q k := by
  rw [movs_succ]; simp [mov1, h]
theorem movs_more (p q : Int) (k : Nat) (h : ¬ (k : Int) * p / 16 = (k : Int) * q / 16) : movs p q (k + 1) = movs p q k ++ [⟨k, (k : Int) * p / 16, (k : Int) * q / 16⟩] := by
  rw [movs_succ]; simp [mov1, h]

set_option maxHeartbeats 400000 in
set_option maxRecDepth 100000 in
theorem moves_ok (p q : Int) (w : World) (hp : 1 ≤ p) (hp' : p ≤ 16) (hq : 1 ≤ q) (hq' : q ≤ 16) :
    Calls Tryd.prog 14 #[.int .i64 p, .int .i64 q] w fun e w' => ∃ A c, e = .returned (.tuple #[.slice A (movs p q 16).length c, .nilIface]) ∧ SlA movE (· < w'.heap.size) w' A c (movs p q 16) ∧ Below w.heap.size w w' := by
  go_enter Tryd.func14, Tryd.ntmps14
  go_wp2_with fail
  refine (crew_yes p _ hp hp').mono ?_; rintro e w' ⟨rfl, rfl⟩
  go_wp2_with fail
  refine (crew_yes q _ hq hq').mono ?_; rintro e w' ⟨rfl, rfl⟩
  go_wp2_with fail
  go_loopw [6, 21] (fun v i wr => ∃ k : Nat, k ≤ 16 ∧ i = .int .i64 k ∧ wr.ownsRow w.heap.size 35 3 v (movs p q k).length ((movs p q k).flatMap movCells) ∧ Below w.heap.size w wr) (fun _ i _ => 16 - (intOf i).toNat)
  case atStart => exact ⟨0, by omega, rfl, World.ownsRow_nil _ _ _ _, Below.refl _ _⟩
  case round =>
    obtain ⟨k, hk, rfl, hown, hbel⟩ := hrel
    by_cases hlt : k < 16
    · have hlen := movs_length p q k
      obtain ⟨l, hl⟩ : ∃ l, l = movs p q k := ⟨_, rfl⟩
      rw [← hl] at hown hlen
      have HL := Lib.hid hl
      clear hl
      have HO := Lib.hid hown
      clear hown
      go_wp2_with fail
      refine (owner_ok p k _ hp hp' (by omega) (by omega)).mono ?_; rintro e w' ⟨rfl, rfl⟩
      go_wp2_with fail
      refine (owner_ok q k _ hq hq' (by omega) (by omega)).mono ?_; rintro e w' ⟨rfl, rfl⟩
      by_cases he : (k : Int) * p / 16 = (k : Int) * q / 16
      · have hn := movs_same p q k he
        rw [← HL.out] at hn
        have HN := Lib.hid hn
        have hb : ((k : Int) * p / 16 == (k : Int) * q / 16) = true := beq_iff_eq.2 he
        clear hn he
        go_wp2_with fail
        go_roundw
        case rel => exact ⟨k + 1, by omega, by go_num, by rw [HN.out]; exact HO.out, hbel⟩
        case measure => simp [intOf]; omega
      · have hn := movs_more p q k he
        rw [← HL.out] at hn
        have HN := Lib.hid hn
        have hb : ((k : Int) * p / 16 == (k : Int) * q / 16) = false := beq_eq_false_iff_ne.2 he
        clear hn he
        go_wp2_with (at_builtin; refine wpList_push rfl _ _ 33 rfl w.heap.size 35 _ 3 24 Tryd.underlying33 info_move rfl (by decide) _ _ _ rfl HO.out [_, _, _] rfl rfl ?_ ?_ ?_ hbel.size hbel (Nat.le_refl _) ?_)
        · rintro u hu; simp at hu; rcases hu with rfl | rfl | rfl <;> rfl
        · unfold maxLen; omega
        · omega
        · intro v' w1 hown1 hg1 hbel1 _
          clear HO hg1 hbel
          go_wp2_with fail
          go_roundw
          case rel => exact ⟨k + 1, by omega, by go_num, by rw [HN.out, List.length_append, List.flatMap_append]; exact hown1, hbel1⟩
          case measure => simp [intOf]; omega
    · obtain rfl : k = 16 := by omega
      obtain ⟨A, c, rfl, _, hsl⟩ := own_sl (E := movE) movCells (fun _ => rfl) (by decide) hown (fun _ _ => rfl)
      clear hown
      obtain ⟨l, hl⟩ : ∃ l, l = movs p q 16 := ⟨_, rfl⟩
      rw [← hl] at hsl ⊢
      have HS := Lib.hid hsl
      have HL := Lib.hid hl
      clear hsl hl
      go_wp2_with fail
      go_ret2
      obtain rfl := HL.out
      exact ⟨A, c, rfl, HS.out, hbel⟩

set_option maxRecDepth 100000 in
theorem moves_bad (p q : Int) (w : World) (h : ¬ (1 ≤ p ∧ p ≤ 16 ∧ 1 ≤ q ∧ q ≤ 16)) :
    Calls Tryd.prog 14 #[.int .i64 p, .int .i64 q] w fun e w' => e = .returned (.tuple #[.slice none 0 0, .iface 64 (.int .i64 1)]) ∧ w = w' := by
  by_cases hp : 1 ≤ p ∧ p ≤ 16
  · go_enter Tryd.func14, Tryd.ntmps14
    go_wp2_with fail
    refine (crew_yes p _ hp.1 hp.2).mono ?_; rintro e w' ⟨rfl, rfl⟩
    go_wp2_with fail
    refine (crew_no q _ (by omega)).mono ?_; rintro e w' ⟨rfl, rfl⟩
    go_wp2_with fail
    go_ret2
    exact ⟨rfl, rfl⟩
  · go_enter Tryd.func14, Tryd.ntmps14
    go_wp2_with fail
    refine (crew_no p _ hp).mono ?_; rintro e w' ⟨rfl, rfl⟩
    go_wp2_with fail
    go_ret2
    exact ⟨rfl, rfl⟩
end Go.Proofs.YtmcmejmfaihclaaDoor
