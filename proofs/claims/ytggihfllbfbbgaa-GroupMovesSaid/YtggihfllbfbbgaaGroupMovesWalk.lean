/-
  The walk of GroupMoves: it returns true, whatever the two numbers of workers. No condition.
-/
import Derived.Test.YtggihfllbfbbgaaMoves
namespace Go.Proofs.Ytggihfllbfbbgaa
open Go.RowKit
set_option linter.unusedVariables false

theorem movs_swap (p q : Int) (k : Nat) : movs q p k = (movs p q k).map fun m => ⟨m.g, m.b, m.a⟩ := by
  induction k with
  | zero => rfl
  | succ k ih =>
    by_cases h : (k : Int) * p / 16 = (k : Int) * q / 16
    · rw [movs_same p q k h, movs_same q p k h.symm, ih]
    · rw [movs_more p q k h, movs_more q p k (fun e => h e.symm), ih, List.map_append]; rfl
theorem movs_none (p : Int) (k : Nat) : movs p p k = [] := by
  induction k with
  | zero => rfl
  | succ k ih => rw [movs_same p p k rfl, ih]
theorem movs_ne (p q : Int) (k : Nat) : ∀ m ∈ movs p q k, m.a ≠ m.b := by
  induction k with
  | zero => intro m hm; cases hm
  | succ k ih =>
    by_cases h : (k : Int) * p / 16 = (k : Int) * q / 16
    · rw [movs_same p q k h]; exact ih
    · rw [movs_more p q k h]
      intro m hm
      rcases List.mem_append.1 hm with hm | hm
      · exact ih m hm
      · simp at hm; subst hm; exact h
theorem movs_12 : (movs 1 2 16).length = 8 := by decide +kernel

set_option maxHeartbeats 1000000 in
set_option maxRecDepth 100000 in
theorem groupMoves_walk (p q : Int) (w : World) (wp : (Lit.int .i64 p).wf = true) (wq : (Lit.int .i64 q).wf = true) :
    Calls Try.prog 7 #[.int .i64 p, .int .i64 q] w fun e w' => e = .returned (.bool true) ∧ Below w.heap.size w w' := by
  clear wp wq
  by_cases h : 1 ≤ p ∧ p ≤ 16 ∧ 1 ≤ q ∧ q ≤ 16
  · obtain ⟨hp, hp', hq, hq'⟩ := h
    go_enter Try.func7, Try.ntmps7
    go_wp2_with fail
    refine (moves_ok 1 2 _ (by omega) (by omega) (by omega) (by omega)).mono ?_; rintro e w1 ⟨A1, c1, rfl, hs1, hb1⟩
    clear hs1
    rw [movs_12]
    go_wp2_with fail
    refine (moves_ok p q _ hp hp' hq hq').mono ?_; rintro e w2 ⟨A2, c2, rfl, hs2, hb2⟩
    have hel : (movs q p 16).length = (movs p q 16).length := by rw [movs_swap p q, List.length_map]
    obtain ⟨l, hl⟩ : ∃ l, l = movs p q 16 := ⟨_, rfl⟩
    have hln := movs_length p q 16
    rw [← hl] at hs2 hel hln ⊢
    have HL := Lib.hid hl
    have HE := Lib.hid hel
    have HS2 := Lib.hid hs2
    clear hl hel hs2
    go_wp2_with fail
    refine (moves_ok q p _ hq hq' hp hp').mono ?_; rintro e w3 ⟨A3, c3, rfl, hs3, hb3⟩
    rw [HE.out]
    have hs2 := HS2.out.below hb3
    clear HS2
    have HS2 := Lib.hid hs2
    have HS3 := Lib.hid hs3
    clear hs2 hs3
    have hb : Below w.heap.size w w3 := hb1.trans ((hb2.mono hb1.size).trans (hb3.mono (Nat.le_trans hb1.size hb2.size)))
    have HB := Lib.hid hb
    clear hb hb1 hb2 hb3
    go_wp2_with fail
    go_loopw [11] (fun i wr => ∃ k d : Nat, k ≤ l.length ∧ i = .int .i64 k ∧ wr = w3.drewN d) (fun i _ => l.length - (intOf i).toNat)
    case atStart => exact ⟨0, 0, by omega, rfl, rfl⟩
    case round =>
      obtain ⟨k, d, hk, rfl, rfl⟩ := hrel
      by_cases hlt : k < l.length
      · have h3l : k < (movs q p 16).length := by rw [HE.out]; exact hlt
        obtain ⟨b2, o2, rfl, _, x0, x1, x2⟩ := HS2.out.mov_ hlt
        obtain ⟨b3, o3, rfl, _, y0, y1, y2⟩ := HS3.out.mov_ h3l
        have e : (movs q p 16)[k] = ⟨l[k].g, l[k].b, l[k].a⟩ := by
          have h1 := movs_swap p q 16
          rw [← HL.out] at h1
          simp [h1]
        rw [e] at y0 y1 y2
        have hne : (l[k].a == l[k].b) = false := beq_eq_false_iff_ne.2 (movs_ne p q 16 _ (by rw [← HL.out]; exact List.getElem_mem hlt))
        obtain ⟨m, hm⟩ : ∃ m, m = l[k] := ⟨_, rfl⟩
        rw [← hm] at hne x0 x1 x2 y0 y1 y2
        clear hm e h3l
        go_wp2_with fail
        go_quiet (fail)
        go_wp2_with fail
        go_roundw
        case rel => exact ⟨k + 1, d + nq, by omega, by go_num, by simp⟩
        case measure => simp [intOf]; omega
      · go_wp2_with fail
        refine (moves_ok p p _ hp hp' hp hp').mono ?_; rintro e w4 ⟨A4, c4, rfl, hs4, hb4⟩
        rw [movs_none]
        clear hs4
        go_wp2_with fail
        go_ret
        exact ⟨rfl, HB.out.trans ((bundrewN hb4).mono HB.out.size)⟩
  · go_enter Try.func7, Try.ntmps7
    go_wp2_with fail
    refine (moves_ok 1 2 _ (by omega) (by omega) (by omega) (by omega)).mono ?_; rintro e w1 ⟨A1, c1, rfl, hs1, hb1⟩
    clear hs1
    rw [movs_12]
    go_wp2_with fail
    refine (moves_bad p q _ h).mono ?_; rintro e w2 ⟨rfl, rfl⟩
    go_wp2_with fail
    refine (moves_bad q p _ (by omega)).mono ?_; rintro e w3 ⟨rfl, rfl⟩
    go_wp2_with fail
    go_ret
    exact ⟨rfl, hb1⟩
end Go.Proofs.Ytggihfllbfbbgaa
