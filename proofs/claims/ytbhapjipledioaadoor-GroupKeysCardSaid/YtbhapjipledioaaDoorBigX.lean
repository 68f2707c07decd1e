/-
  The statements' own whole numbers: Mul, Set, DivMod, Mod, Xor, of numbers that are not below 0. No condition.
-/
import Derived.Test.YtbhapjipledioaaDoorBigB
import Derived.Test.YtbhapjipledioaaDoorBigI
import Derived.StillTailTactics
namespace Go.Proofs.YtbhapjipledioaaDoor
open Go.RowKit Go.ChangeShapes Go.WideShapes
set_option linter.unusedVariables false

theorem frm_two_ {w w1 w2 : World} {g : Nat} (hb : Below w.heap.size w w1) (hf : Frm (· = g) w1 w2) : Frm (· = g) w w2 :=
  (Frm.ofBelow (F := fun _ => False) hb).trans hf (fun _ h => h.elim) (fun _ h => .inl h)
set_option maxRecDepth 100000 in
theorem setN_ok (gz gx : Nat) (f : Bool) (U : Nat) (w : World) (hz : IntObj w gz) (hx : BigAt w gx f U) (hne : gz ≠ gx) :
    Calls Tryd.prog 24 #[.pointer (some ⟨gz, 0, none⟩), .pointer (some ⟨gx, 0, none⟩)] w fun e w' =>
      e = .returned (.pointer (some ⟨gz, 0, none⟩)) ∧ BigAt w' gz f U ∧ Frm (· = gz) w w' := by
  obtain ⟨Ax, nx, cx, bx, wx, hfp⟩ := hx.words
  have x0 := cell_of_row w gx 0 _ _ _ bx
  have x1 := cell_of_row w gx 1 _ _ _ bx
  simp at x0 x1
  have hfl : (f && decide (0 < U)) = f := by
    cases f with
    | false => rfl
    | true => rw [decide_eq_true (hfp rfl)]; rfl
  have htw : Calls Tryd.prog 32 #[.slice Ax nx cx] w.drew fun e w' => ∃ A' c', e = .returned (.slice A' nx c') ∧ WordsAt w' (fun k => w.heap.size ≤ k ∧ k < w'.heap.size) A' nx c' U ∧ Below w.heap.size w w' :=
    (twin_at (· < w.heap.size) Ax nx cx U w.drew (wx.keep fun k _ => rfl)).mono (by
      rintro e w1 ⟨A', c', rfl, h1, hb⟩
      exact ⟨A', c', rfl, h1, (Below.refl _ _).drew.trans hb⟩)
  have HM := Lib.hid htw
  have HG : Hid (∀ (W : World) A n c, Below w.heap.size w W → WordsAt W (fun k => w.heap.size ≤ k ∧ k < W.heap.size) A n c U → Calls Tryd.prog 17 #[.pointer (some ⟨gz, 0, none⟩), .bool f, .slice A n c] W fun e w' => e = .returned (.pointer (some ⟨gz, 0, none⟩)) ∧ BigAt w' gz f U ∧ Frm (· = gz) w w') := fun W A n c hb h1 =>
    (give_at gz f A n c U W (hz.frm (Frm.ofBelow (F := fun _ => False) hb) id) (h1.more fun k hk => hk.2)).mono (by
      rintro e w2 ⟨rfl, h2, h3, h4⟩
      rw [hfl] at h2
      exact ⟨rfl, h2, frm_two_ hb h4⟩)
  have hxl := block_lt bx
  clear hx bx wx hz hfl hfp htw
  go_enter Tryd.func24, Tryd.ntmps24
  go_upto_region 1 with (fail)
  go_region_held3 (fun W => W.cell? ⟨gx, 0, none⟩ = some (.bool f) ∧ W.cell? ⟨gx, 1, none⟩ = some (.slice Ax nx cx)) (first | exact ⟨x0, x1⟩ | exact ⟨k0, k1⟩ | exact ⟨m0, m1⟩) (first
    | (with_reducible refine HM.out.mono ?_; rintro e w1 ⟨A', c', rfl, h1, hb⟩; have k0 := (hb.cell (p := ⟨gx, 0, none⟩) hxl).trans x0; have k1 := (hb.cell (p := ⟨gx, 1, none⟩) hxl).trans x1)
    | (with_reducible refine (HG.out _ _ _ _ hb h1).mono ?_; rintro e w2 ⟨rfl, h2, h4⟩; have m0 := (World.cell?_of_block (a := ⟨gx, 0, none⟩) (h4.block gx hxl (fun e => absurd e.symm hne))).trans x0; have m1 := (World.cell?_of_block (a := ⟨gx, 1, none⟩) (h4.block gx hxl (fun e => absurd e.symm hne))).trans x1))
  have HR := Lib.hid (And.intro h2 h4)
  clear h2 h4 h1 hb HM HG k0 k1 m0 m1 x0 x1
  go_wp2_with fail
  go_ret
  exact ⟨rfl, HR.out⟩
/-- A new number's block. -/
theorem new_obj (w : World) : IntObj (w.alloc (.cells #[.bool false, .slice none 0 0] 40)) w.heap.size := ⟨false, none, 0, 0, heap_alloc_new _ _⟩
set_option maxRecDepth 100000 in
theorem divMod_ok (gz gx gy U V : Nat) (w : World) (hz : IntObj w gz) (hx : BigAt w gx false U) (hy : BigAt w gy false V) (hzx : gz ≠ gx) (hU : U < 18446744073709551616) (hV : V ≠ 0) :
    Calls Tryd.prog 19 #[.pointer (some ⟨gz, 0, none⟩), .pointer (some ⟨gx, 0, none⟩), .pointer (some ⟨gy, 0, none⟩), .pointer (some ⟨gx, 0, none⟩)] w fun e w' =>
      e = .returned (.tuple #[.pointer (some ⟨gz, 0, none⟩), .pointer (some ⟨gx, 0, none⟩)]) ∧ BigAt w' gx false (U % V) ∧ Frm (fun k => k = gz ∨ k = gx) w w' := by
  obtain ⟨W1, hW1⟩ : ∃ W1, W1 = w.alloc (.cells #[.bool false, .slice none 0 0] 40) := ⟨_, rfl⟩
  have hb1 : Below w.heap.size w W1 := by rw [hW1]; exact (Below.refl _ _).alloc (Nat.le_refl _) _
  have hyl : gy < w.heap.size := by obtain ⟨_, _, _, _, h⟩ := hy.obj; exact block_lt h
  have HS := Lib.hid (setN_ok w.heap.size gy false V W1 (by rw [hW1]; exact new_obj w) (hy.below hb1) (by omega))
  have HX := Lib.hid (hx.below hb1)
  have HY := Lib.hid (hy.below hb1)
  have HZ := Lib.hid (hz.frm (Frm.ofBelow (F := fun _ => False) hb1) id)
  have hzl : gz < w.heap.size := by obtain ⟨_, _, _, _, h⟩ := hz; exact block_lt h
  have hxl : gx < w.heap.size := by obtain ⟨_, _, _, _, h⟩ := hx.obj; exact block_lt h
  have HN : Hid (∀ k, k = w.heap.size → IntObj W1 k) := fun k hk => by rw [hk, hW1]; exact new_obj w
  have HB1 := Lib.hid hb1
  have HW := Lib.hid hW1
  clear hx hy hz hb1 hW1
  go_enter Tryd.func19, Tryd.ntmps19
  go_wp2_with fail
  rw [← HW.out]
  clear HW
  refine HS.out.mono ?_
  rintro e w2 ⟨rfl, _, hf2⟩
  have HQ := Lib.hid (quoRem_ok gz gx gy gx false false U V w2 (HZ.out.frm hf2 (by omega)) ((HX.out.frm hf2 (by omega) HN.out).obj) hzx (HX.out.frm hf2 (by omega) HN.out) (HY.out.frm hf2 (by omega) HN.out) hU hV)
  have HF2 : Hid (Frm (fun _ => False) w w2) := (Frm.ofBelow (F := fun _ => False) HB1.out).trans hf2 (fun _ h => h) (fun k h => .inr (by omega))
  clear hf2 HS HX HY HZ HN HB1
  go_wp2_with fail
  refine HQ.out.mono ?_
  rintro e w3 ⟨rfl, _, h3, hf3⟩
  have h3' : BigAt w3 gx false (U % V) := by simpa using h3
  obtain ⟨A, n, c, hb3, _⟩ := h3'.words
  have x0 := cell_of_row w3 gx 0 _ _ _ hb3
  simp at x0
  have HR : Hid (BigAt w3 gx false (U % V) ∧ Frm (fun k => k = gz ∨ k = gx) w w3) := ⟨h3', HF2.out.trans hf3 (fun _ h => h.elim) (fun _ h => .inl h)⟩
  clear h3 h3' hf3 hb3 HQ HF2
  go_wp2_with fail
  go_ret2
  exact ⟨rfl, HR.out⟩
set_option maxRecDepth 100000 in
/-- Mod of itself, by another number. -/
theorem mod_ok (gx gy U V : Nat) (w : World) (hx : BigAt w gx false U) (hy : BigAt w gy false V) (hU : U < 18446744073709551616) (hV : V ≠ 0) :
    Calls Tryd.prog 11 #[.pointer (some ⟨gx, 0, none⟩), .pointer (some ⟨gx, 0, none⟩), .pointer (some ⟨gy, 0, none⟩)] w fun e w' =>
      e = .returned (.pointer (some ⟨gx, 0, none⟩)) ∧ BigAt w' gx false (U % V) ∧ Frm (· = gx) w w' := by
  obtain ⟨W1, hW1⟩ : ∃ W1, W1 = w.alloc (.cells #[.bool false, .slice none 0 0] 40) := ⟨_, rfl⟩
  have hb1 : Below w.heap.size w W1 := by rw [hW1]; exact (Below.refl _ _).alloc (Nat.le_refl _) _
  have hxl : gx < w.heap.size := by obtain ⟨_, _, _, _, h⟩ := hx.obj; exact block_lt h
  have HD := Lib.hid (divMod_ok w.heap.size gx gy U V W1 (by rw [hW1]; exact new_obj w) (hx.below hb1) (hy.below hb1) (by omega) hU hV)
  have HB1 := Lib.hid hb1
  have HW := Lib.hid hW1
  clear hx hy hb1 hW1
  go_enter Tryd.func11, Tryd.ntmps11
  go_wp2_with fail
  rw [← HW.out]
  clear HW
  refine HD.out.mono ?_
  rintro e w2 ⟨rfl, h2, hf2⟩
  have HR : Hid (BigAt w2 gx false (U % V) ∧ Frm (· = gx) w w2) := ⟨h2, (Frm.ofBelow (F := fun _ => False) HB1.out).trans hf2 (fun _ h => h.elim) (fun k h => by rcases h with h | h; exact .inr (by omega); exact .inl h)⟩
  clear h2 hf2 HD HB1
  go_wp2_with fail
  go_ret
  exact ⟨rfl, HR.out⟩
end Go.Proofs.YtbhapjipledioaaDoor
