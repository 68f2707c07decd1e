/-
  The statements' own whole numbers: Mul, of numbers that are not below 0. No condition.
-/
import Derived.Test.YtbhapjipledioaaDoorBigM
import Derived.Test.YtbhapjipledioaaDoorRegK
import Derived.Test.YtbhapjipledioaaDoorBigI
namespace Go.Proofs.YtbhapjipledioaaDoor
open Go.RowKit Go.ChangeShapes Go.WideShapes
set_option linter.unusedVariables false

theorem frm_two {w w1 w2 : World} {g : Nat} (hb : Below w.heap.size w w1) (hf : Frm (· = g) w1 w2) : Frm (· = g) w w2 :=
  (Frm.ofBelow (F := fun _ => False) hb).trans hf (fun _ h => h.elim) (fun _ h => .inl h)
set_option maxRecDepth 100000 in
set_option maxHeartbeats 1000000 in
theorem mulN_ok (gz gx gy U V : Nat) (w : World) (hz : IntObj w gz) (hx : BigAt w gx false U) (hy : BigAt w gy false V) (hzy : gz ≠ gy) (hU : U < 4294967296 ^ 100) (hV : V < 4294967296 ^ 100) :
    Calls Tryd.prog 10 #[.pointer (some ⟨gz, 0, none⟩), .pointer (some ⟨gx, 0, none⟩), .pointer (some ⟨gy, 0, none⟩)] w fun e w' =>
      e = .returned (.pointer (some ⟨gz, 0, none⟩)) ∧ BigAt w' gz false (U * V) ∧ Frm (· = gz) w w' := by
  obtain ⟨Ax, nx, cx, bx, wx, _⟩ := hx.words
  obtain ⟨Ay, ny, cy, by_, wy, _⟩ := hy.words
  have x0 := cell_of_row w gx 0 _ _ _ bx
  have x1 := cell_of_row w gx 1 _ _ _ bx
  have y0 := cell_of_row w gy 0 _ _ _ by_
  have y1 := cell_of_row w gy 1 _ _ _ by_
  simp at x0 x1 y0 y1
  have hnx := wx.len (k := 100) hU
  have hny := wy.len (k := 100) hV
  have hmul : Calls Tryd.prog 18 #[.slice Ax nx cx, .slice Ay ny cy] w.drew fun e w' => ∃ A' n' c', e = .returned (.slice A' n' c') ∧ WordsAt w' (fun k => w.heap.size ≤ k ∧ k < w'.heap.size) A' n' c' (U * V) ∧ Below w.heap.size w w' :=
    (mul_ok (· < w.heap.size) (· < w.heap.size) Ax Ay nx ny cx cy U V w.drew (wx.keep fun k _ => rfl) (wy.keep fun k _ => rfl) (fun _ h => h) (fun _ h => h) (by omega)).mono (by
      rintro e w1 ⟨A', n', c', rfl, h1, hb⟩
      exact ⟨A', n', c', rfl, h1, (Below.refl _ _).drew.trans hb⟩)
  have hxl := block_lt bx
  have hyl := block_lt by_
  have HM := Lib.hid hmul
  have HZ := Lib.hid hz
  have HG : Hid (∀ (W : World) A n c, Below w.heap.size w W → WordsAt W (fun k => w.heap.size ≤ k ∧ k < W.heap.size) A n c (U * V) → Calls Tryd.prog 17 #[.pointer (some ⟨gz, 0, none⟩), .bool false, .slice A n c] W fun e w' => e = .returned (.pointer (some ⟨gz, 0, none⟩)) ∧ BigAt w' gz false (U * V) ∧ Frm (· = gz) w w') := fun W A n c hb h1 =>
    (give_at gz false A n c (U * V) W (hz.frm (Frm.ofBelow (F := fun _ => False) hb) id) (h1.more fun k hk => hk.2)).mono (by
      rintro e w2 ⟨rfl, h2, h3, h4⟩
      exact ⟨rfl, by simpa using h2, frm_two hb h4⟩)
  have HNG : Hid (∀ w2, BigAt w2 gz false (U * V) → Frm (· = gz) w w2 → w2.cell? ⟨gx, 0, none⟩ = some (.bool false) ∧ w2.cell? ⟨gy, 0, none⟩ = some (.bool false) ∧ w2.cell? ⟨gy, 1, none⟩ = some (.slice Ay ny cy)) := fun w2 h hf => by
    refine ⟨?_, (World.cell?_of_block (a := ⟨gy, 0, none⟩) (hf.block gy hyl (fun e => hzy e.symm))).trans y0, (World.cell?_of_block (a := ⟨gy, 1, none⟩) (hf.block gy hyl (fun e => hzy e.symm))).trans y1⟩
    by_cases e : gx = gz
    · obtain ⟨A, n, c, hb, _⟩ := h.words
      have := cell_of_row w2 gz 0 _ _ _ hb
      rw [e]; simpa using this
    · exact (World.cell?_of_block (a := ⟨gx, 0, none⟩) (hf.block gx hxl e)).trans x0
  clear hx hy bx by_ wx wy hz hU hV hmul
  generalize U * V = Q at HM HG HNG ⊢
  go_enter Tryd.func10, Tryd.ntmps10
  go_upto_region 1 with (fail)
  refine K_start (S := fun W => W.cell? ⟨gx, 0, none⟩ = some (.bool false) ∧ W.cell? ⟨gx, 1, none⟩ = some (.slice Ax nx cx) ∧ W.cell? ⟨gy, 0, none⟩ = some (.bool false) ∧ W.cell? ⟨gy, 1, none⟩ = some (.slice Ay ny cy)) 19 (by kernel_rfl) ?_
  have hS : (fun W : World => W.cell? ⟨gx, 0, none⟩ = some (.bool false) ∧ W.cell? ⟨gx, 1, none⟩ = some (.slice Ax nx cx) ∧ W.cell? ⟨gy, 0, none⟩ = some (.bool false) ∧ W.cell? ⟨gy, 1, none⟩ = some (.slice Ay ny cy)) w.drew := ⟨x0, x1, y0, y1⟩
  refine K_take 19 0 rfl (by kernel_rfl) (fun _ _ _ h => h) (v := ?_) (Or.inl ⟨by rfl, ?hy0⟩) hS ?rest0
  case hy0 => (intro W hW; (try dsimp only at hW); go_simp; (try (with_reducible rfl)))
  case rest0 =>
  simp only [Act.put, List.setIfInBounds_toArray, List.set_cons_zero, List.set_cons_succ]
  refine K_take 19 1 rfl (by kernel_rfl) (fun _ _ _ h => h) (v := ?_) (Or.inl ⟨by rfl, ?hy1⟩) hS ?rest1
  case hy1 => (intro W hW; (try dsimp only at hW); go_simp; (try (with_reducible rfl)))
  case rest1 =>
  simp only [Act.put, List.setIfInBounds_toArray, List.set_cons_zero, List.set_cons_succ]
  refine K_take 19 2 rfl (by kernel_rfl) (fun _ _ _ h => h) (v := ?_) (Or.inl ⟨by rfl, ?hy2⟩) hS ?rest2
  case hy2 => (intro W hW; (try dsimp only at hW); go_simp; (try (with_reducible rfl)))
  case rest2 =>
  simp only [Act.put, List.setIfInBounds_toArray, List.set_cons_zero, List.set_cons_succ]
  refine K_take 19 3 rfl (by kernel_rfl) (fun _ _ _ h => h) (v := ?_) (Or.inl ⟨by rfl, ?hy3⟩) hS ?rest3
  case hy3 => (intro W hW; (try dsimp only at hW); go_simp; (try (with_reducible rfl)))
  case rest3 =>
  simp only [Act.put, List.setIfInBounds_toArray, List.set_cons_zero, List.set_cons_succ]
  refine K_take 19 4 rfl (by kernel_rfl) (fun _ _ _ h => h) (v := ?_) (Or.inl ⟨by rfl, ?hy4⟩) hS ?rest4
  case hy4 => (intro W hW; (try dsimp only at hW); go_simp; (try (with_reducible rfl)))
  case rest4 =>
  simp only [Act.put, List.setIfInBounds_toArray, List.set_cons_zero, List.set_cons_succ]
  refine K_take 19 5 rfl (by kernel_rfl) (fun _ _ _ h => h) (v := ?_) (Or.inl ⟨by rfl, ?hy5⟩) hS ?rest5
  case hy5 => (intro W hW; (try dsimp only at hW); go_simp; (try (with_reducible rfl)))
  case rest5 =>
  simp only [Act.put, List.setIfInBounds_toArray, List.set_cons_zero, List.set_cons_succ]
  refine K_take 19 6 rfl (by kernel_rfl) (fun _ _ _ h => h) (v := ?_) (Or.inl ⟨by rfl, ?hy6⟩) hS ?rest6
  case hy6 => (intro W hW; (try dsimp only at hW); go_simp; (try (with_reducible rfl)))
  case rest6 =>
  simp only [Act.put, List.setIfInBounds_toArray, List.set_cons_zero, List.set_cons_succ]
  refine K_take 19 7 rfl (by kernel_rfl) (fun _ _ _ h => h) (v := ?_) (Or.inl ⟨by rfl, ?hy7⟩) hS ?rest7
  case hy7 => (intro W hW; (try dsimp only at hW); go_simp; (try (with_reducible rfl)))
  case rest7 =>
  simp only [Act.put, List.setIfInBounds_toArray, List.set_cons_zero, List.set_cons_succ]
  refine K_take 19 8 rfl (by kernel_rfl) (fun _ _ _ h => h) (v := ?_) (Or.inl ⟨by rfl, ?hy8⟩) hS ?rest8
  case hy8 => (intro W hW; (try dsimp only at hW); go_simp; (try (with_reducible rfl)))
  case rest8 =>
  simp only [Act.put, List.setIfInBounds_toArray, List.set_cons_zero, List.set_cons_succ]
  refine K_take 19 9 rfl (by kernel_rfl) (fun _ _ _ h => h) (v := ?_) (Or.inl ⟨by rfl, ?hy9⟩) hS ?rest9
  case hy9 => (intro W hW; (try dsimp only at hW); go_simp; (try (with_reducible rfl)))
  case rest9 =>
  simp only [Act.put, List.setIfInBounds_toArray, List.set_cons_zero, List.set_cons_succ]
  refine K_take 19 10 rfl (by kernel_rfl) (fun _ _ _ h => h) (v := ?_) (Or.inl ⟨by rfl, ?hy10⟩) hS ?rest10
  case hy10 => (intro W hW; (try dsimp only at hW); go_simp; (try (with_reducible rfl)))
  case rest10 =>
  simp only [Act.put, List.setIfInBounds_toArray, List.set_cons_zero, List.set_cons_succ]
  refine K_take 19 11 rfl (by kernel_rfl) (fun _ _ _ h => h) (v := ?_) (Or.inl ⟨by rfl, ?hy11⟩) hS ?rest11
  case hy11 => (intro W hW; (try dsimp only at hW); go_simp; (try (with_reducible rfl)))
  case rest11 =>
  simp only [Act.put, List.setIfInBounds_toArray, List.set_cons_zero, List.set_cons_succ]
  refine K_take 19 12 rfl (by kernel_rfl) (fun _ _ _ h => h) (v := ?_) (Or.inl ⟨by rfl, ?hy12⟩) hS ?rest12
  case hy12 => (intro W hW; (try dsimp only at hW); go_simp; (try (with_reducible rfl)))
  case rest12 =>
  simp only [Act.put, List.setIfInBounds_toArray, List.set_cons_zero, List.set_cons_succ]
  refine K_take 19 13 rfl (by kernel_rfl) (fun _ _ _ h => h) (v := ?_) (Or.inl ⟨by rfl, ?hy13⟩) hS ?rest13
  case hy13 => (intro W hW; (try dsimp only at hW); go_simp; (try (with_reducible rfl)))
  case rest13 =>
  simp only [Act.put, List.setIfInBounds_toArray, List.set_cons_zero, List.set_cons_succ]
  refine K_take 19 14 rfl (by kernel_rfl) (fun _ _ _ h => h) (v := ?_) (Or.inl ⟨by rfl, ?hy14⟩) hS ?rest14
  case hy14 => (intro W hW; (try dsimp only at hW); go_simp; (try (with_reducible rfl)))
  case rest14 =>
  simp only [Act.put, List.setIfInBounds_toArray, List.set_cons_zero, List.set_cons_succ]
  refine K_take 19 15 rfl (by kernel_rfl) (fun _ _ _ h => h) (v := ?_) (Or.inl ⟨by rfl, ?hy15⟩) hS ?rest15
  case hy15 => (intro W hW; (try dsimp only at hW); go_simp; (try (with_reducible rfl)))
  case rest15 =>
  simp only [Act.put, List.setIfInBounds_toArray, List.set_cons_zero, List.set_cons_succ]
  refine K_take 19 16 rfl (by kernel_rfl) (fun _ _ _ h => h) (v := ?_) (Or.inl ⟨by rfl, ?hy16⟩) hS ?rest16
  case hy16 => (intro W hW; (try dsimp only at hW); go_simp; (try (with_reducible rfl)))
  case rest16 =>
  simp only [Act.put, List.setIfInBounds_toArray, List.set_cons_zero, List.set_cons_succ]
  refine K_take 19 17 rfl (by kernel_rfl) (fun _ _ _ h => h) (v := ?_) (Or.inl ⟨by rfl, ?hy17⟩) hS ?rest17
  case hy17 => (intro W hW; (try dsimp only at hW); go_simp; (try (with_reducible rfl)))
  case rest17 =>
  simp only [Act.put, List.setIfInBounds_toArray, List.set_cons_zero, List.set_cons_succ]
  refine K_one (i := 18) (by kernel_rfl) rfl (fun K hK => ?_)
  go_simp
  refine HM.out.mono ?_
  rintro e w1 ⟨A', n', c', rfl, h1, hb⟩
  have k0 := (hb.cell (p := ⟨gx, 0, none⟩) hxl).trans x0
  have k1 := (hb.cell (p := ⟨gx, 1, none⟩) hxl).trans x1
  have k2 := (hb.cell (p := ⟨gy, 0, none⟩) hyl).trans y0
  have k3 := (hb.cell (p := ⟨gy, 1, none⟩) hyl).trans y1
  refine hK.out _ _ (fun _ => ⟨k0, k1, k2, k3⟩) ?_
  clear hK K hS
  try simp only [Act.put, List.setIfInBounds_toArray, List.set_cons_zero, List.set_cons_succ]
  refine K_one (i := 19) (by kernel_rfl) rfl (fun K hK => ?_)
  go_simp
  refine (HG.out _ _ _ _ hb h1).mono ?_
  rintro e w2 ⟨rfl, h2, h4⟩
  refine hK.out _ _ (fun h => by cases h) ?_
  clear hK K
  try simp only [Act.put, List.setIfInBounds_toArray, List.set_cons_zero, List.set_cons_succ]
  refine K_one (i := 20) (by kernel_rfl) rfl (fun K hK => ?_)
  go_simp
  refine hK.out _ _ (fun h => by cases h) ?_
  clear hK K
  refine K_done (by kernel_rfl) ?_
  have HR := Lib.hid (And.intro h2 h4)
  clear h2 h4 h1 hb HM HG k0 k1 k2 k3 x0 x1 y0 y1
  go_wp2_with fail
  go_ret
  exact ⟨rfl, HR.out⟩
end Go.Proofs.YtbhapjipledioaaDoor
