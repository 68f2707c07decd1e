/-
  The walk of DenFilters: it returns true. Conditions: the two variables of Atoi's errors hold errors, the table of powers of ten stands.
-/
import Derived.Test.YtmbhfadidpkkhaaGreatDoorPackJ
import Derived.Deep.RegionHeld3
import Derived.Deep.CutRange
namespace Go.Proofs.YtmbhfadidpkkhaaGreatDoor
open Go.RowKit Go.ChangeShapes Go.WideShapes Go.Shelf
set_option linter.unusedVariables false

theorem row_rec1 {W : World} {g : Nat} {A : Option Addr} {c : Nat} {d : List Rec} {F : Nat → Prop} (hg : W.heap[g]? = some (.cells #[.slice A d.length c] 22 (0, 0))) (hF : F g) (hx : SlA recE F W A c d) : SlA (slE recE) F W (some ⟨g, 0, none⟩) 1 [d] := by
  refine ⟨Nat.le_refl _, by unfold maxLen; omega, fun i x hx' => ?_⟩
  have hi : i = 0 := by
    have := (List.getElem?_eq_some_iff.1 hx').1
    simpa using this
  subst hi
  injection hx' with hx'
  subst hx'
  refine ⟨g, 0, [.slice A d.length c], rfl, hF, fun j u hj => ?_, _, rfl, A, c, rfl, hx⟩
  have hj0 : j = 0 := by
    have := (List.getElem?_eq_some_iff.1 hj).1
    simpa using this
  subst hj0
  have h5 := cell_of_row W g (0 + (0 * 1 + 0)) _ _ _ hg
  show W.cell? ⟨g, 0 + (0 * 1 + 0), none⟩ = _
  rw [h5]
  exact hj
theorem grp_none {x : List Lin} (h : LinesGrp [] x) : x = [] := List.eq_nil_iff_forall_not_mem.2 fun y hy => by
  obtain ⟨r, hr, _⟩ := (h.keys y.key).1 (List.mem_map.2 ⟨y, hy, rfl⟩)
  cases hr
/-- What the two jobs tell. -/
theorem filP_all {t : ByteArray} {d : List Rec} {w : World} {e : Ending} {w' : World} (h : AllPost (filP t) [d] w e w') :
    (∃ r x, e = .returned (.tuple #[r, x]) ∧ ((denErr (filP t) [d] ≠ 0 ∧ r = .slice none 0 0 ∧ x = errV (denErr (filP t) [d])) ∨ (denErr (filP t) [d] = 0 ∧ x = .nilIface ∧ ∃ A' c' y, r = .slice A' 1 c' ∧ SlA (slE linE) (· < w'.heap.size) w' A' c' [y] ∧ LinesGrp (mapD t d) y))) ∧ Below w.heap.size w w' := by
  obtain ⟨h1, _, h3, hb⟩ := h
  refine ⟨?_, hb⟩
  by_cases h0 : denErr (filP t) [d] = 0
  · obtain ⟨f, hf, hl⟩ := filP_flow t d h0
    obtain ⟨A', c', out, rfl, hall, hs⟩ := h3 h0 f hf
    have hol : out.length = 1 := by rw [hall.1, (fil_of t).2.1]; rfl
    obtain ⟨y, rfl⟩ := List.length_eq_one_iff.1 hol
    have k0 := hall.2 0 2 y (by rw [(fil_of t).2.1]; rfl) rfl
    rw [show (2 : Int).toNat = 2 from rfl, hl] at k0
    exact ⟨_, _, rfl, .inr ⟨h0, rfl, A', c', y, rfl, hs.more fun k hk => hk.2, lines_grp k0⟩⟩
  · exact ⟨_, _, h1 h0, .inl ⟨h0, rfl, rfl⟩⟩
theorem filL_all {t : ByteArray} {d : List Rec} {w : World} {e : Ending} {w' : World} (h : AllPost (filL t) [d] w e w') :
    (denErr (filL t) [d] ≠ 0 → e = .returned (.tuple #[.slice none 0 0, errV (denErr (filL t) [d])])) ∧
    (denErr (filL t) [d] = 0 → ∃ A' c' y z, e = .returned (.tuple #[.slice A' 2 c', .nilIface]) ∧ SlA (slE linE) (· < w'.heap.size) w' A' c' [y, z] ∧ LinesGrp (mapD t d) y ∧ LinesGrp [] z) ∧ Below w.heap.size w w' := by
  obtain ⟨h1, _, h3, hb⟩ := h
  refine ⟨h1, fun h0 => ?_, hb⟩
  obtain ⟨f, hf, l5, l7⟩ := filL_flow t d h0
  obtain ⟨A', c', out, rfl, hall, hs⟩ := h3 h0 f hf
  have hol : out.length = 2 := by rw [hall.1, (fil_of t).2.2.2]; rfl
  obtain ⟨y, z, rfl⟩ : ∃ y z, out = [y, z] := by
    match out, hol with
    | [y, z], _ => exact ⟨y, z, rfl⟩
  have k0 := hall.2 0 5 y (by rw [(fil_of t).2.2.2]; rfl) rfl
  have k1 := hall.2 1 7 z (by rw [(fil_of t).2.2.2]; rfl) rfl
  rw [show (5 : Int).toNat = 5 from rfl, l5] at k0
  rw [show (7 : Int).toNat = 7 from rfl, l7] at k1
  exact ⟨A', c', y, z, rfl, hs.more fun k hk => hk.2, lines_grp k0, lines_grp k1⟩
set_option maxRecDepth 100000 in
set_option maxHeartbeats 4000000 in
theorem denFilters_walk (t : ByteArray) (A : Option Addr) (c : Nat) (d : List Rec) (w : World) (wt : t.size ≤ maxLen) (hl : SlA recE (· < w.heap.size) w A c d) (hv : ErrVars w) (hT : PowTab w) :
    Calls Tryz.prog 3 #[.string t, .slice A d.length c] w fun e w' => e = .returned (.bool true) ∧ Below w.heap.size w w' := by
  have hdl := hl.le
  have HL := Lib.hid hl
  have HV := Lib.hid hv
  have HT := Lib.hid hT
  clear hl hv hT
  go_enter Tryz.func3, Tryz.ntmps3
  go_upto_region 2 with (fail)
  change Code.wp _ _ _ _ (filPW w t)
  obtain ⟨hj, hB1, hs1⟩ := filP_mem w t wt
  generalize filPW w t = W1 at hj hB1 hs1 ⊢
  have hB1s := hB1.size
  generalize w.heap.size + 1 + 1 = gj at hj hs1 ⊢
  obtain ⟨W2, hW2⟩ : ∃ W2, W2 = W1.alloc (.cells #[.slice A d.length c] 22) := ⟨_, rfl⟩
  have s2 : W2.heap.size = W1.heap.size + 1 := by rw [hW2]; simp
  have hB2 : Below W1.heap.size W1 W2 := by rw [hW2]; exact (Below.refl _ _).alloc (Nat.le_refl _) _
  have hB2w : Below w.heap.size w W2 := hB1.trans (hB2.mono hB1s)
  have g2 : W2.heap[W1.heap.size]? = some (.cells #[.slice A d.length c] 22 (0, 0)) := by rw [hW2]; exact heap_alloc_new _ _
  have hdat : SlA (slE recE) (· < W2.heap.size) W2 (some ⟨W1.heap.size, 0, none⟩) 1 [d] := row_rec1 g2 (by omega) ((HL.out.keep fun k hk => hB2w.block k hk).more fun k hk => by omega)
  have hj2 : SlA nodE (· < W2.heap.size) W2 (some ⟨gj, 0, none⟩) 3 (filP t) := (hj.keep fun k hk => hB2.block k hk).more fun k hk => by omega
  have HALL := Lib.hid (dall_ok (· < W2.heap.size) (some ⟨gj, 0, none⟩) 3 (filP t) (· < W2.heap.size) (some ⟨W1.heap.size, 0, none⟩) 1 [d] W2 hj2 (fun _ h => h) hdat (fun _ h => h) (HV.out.below hB2w) (HT.out.below hB2w))
  have HJ := Lib.hid hj2
  have HW := Lib.hid hW2
  have HB2 := Lib.hid hB2w
  clear hW2 g2 hdat hB2w hB2 hj hj2 hB1 hs1 s2
  go_wp2_with fail
  rw [show W1.alloc (.cells #[.slice A d.length c] 22) = W2 from HW.out.symm]
  clear HW
  refine HALL.out.mono ?_
  rintro e W3 hpost
  obtain ⟨⟨r, x, rfl, hres⟩, hb3⟩ := filP_all hpost
  have hB3 : Below w.heap.size w W3 := HB2.out.trans (hb3.mono HB2.out.size)
  have HLON := Lib.hid (dall_ok (· < W3.heap.size) (some ⟨gj, 0, none⟩) 3 lonelyJ (· < W3.heap.size) none 0 [] W3 (((HJ.out.head (k := 1) (by show 1 ≤ 3; omega)).keep fun k hk => hb3.block k hk).more fun k hk => Nat.lt_of_lt_of_le hk hb3.size) (fun _ h => h) (SlA.nil _ _ _ _ _ (Nat.zero_le _)) (fun _ h => h) (HV.out.below hB3) (HT.out.below hB3))
  have HB3 := Lib.hid hB3
  have HRES := Lib.hid hres
  clear hpost hres hb3 hB3 HALL HJ
  go_wp2_with fail
  refine HLON.out.mono ?_
  rintro e W4 ⟨hno, -, -, hb4⟩
  have he := hno lonely_err
  subst he
  have HB4 := Lib.hid (HB3.out.trans (hb4.mono HB3.out.size))
  have HB34 := Lib.hid hb4
  clear hno hb4 HLON
  unfold errV
  go_upto_region 7 with (fail)
  change Code.wp _ _ _ _ (filLW W4 t)
  obtain ⟨hj, hB5, hs5⟩ := filL_mem W4 t wt
  generalize filLW W4 t = W5 at hj hB5 hs5 ⊢
  have hB5s := hB5.size
  generalize W4.heap.size + 1 + 1 + 1 + 1 + 1 + 1 + 1 = gl at hj hs5 ⊢
  obtain ⟨W6, hW6⟩ : ∃ W6, W6 = W5.alloc (.cells #[.slice A d.length c] 22) := ⟨_, rfl⟩
  have s6 : W6.heap.size = W5.heap.size + 1 := by rw [hW6]; simp
  have hB56 : Below W5.heap.size W5 W6 := by rw [hW6]; exact (Below.refl _ _).alloc (Nat.le_refl _) _
  have hB46 : Below W4.heap.size W4 W6 := hB5.trans (hB56.mono hB5s)
  have hB6 : Below w.heap.size w W6 := HB4.out.trans (hB46.mono HB4.out.size)
  have hz6 := hB6.size
  have g6 : W6.heap[W5.heap.size]? = some (.cells #[.slice A d.length c] 22 (0, 0)) := by rw [hW6]; exact heap_alloc_new _ _
  have hdat : SlA (slE recE) (· < W6.heap.size) W6 (some ⟨W5.heap.size, 0, none⟩) 1 [d] := row_rec1 g6 (by omega) ((HL.out.keep fun k hk => hB6.block k hk).more fun k hk => by omega)
  have HALL := Lib.hid (dall_ok (· < W6.heap.size) (some ⟨gl, 0, none⟩) 8 (filL t) (· < W6.heap.size) (some ⟨W5.heap.size, 0, none⟩) 1 [d] W6 ((hj.keep fun k hk => hB56.block k hk).more fun k hk => by omega) (fun _ h => h) hdat (fun _ h => h) (HV.out.below hB6) (HT.out.below hB6))
  have HW := Lib.hid hW6
  have HB6 := Lib.hid hB6
  have HB36 := Lib.hid (HB34.out.trans (hB46.mono HB34.out.size))
  clear hW6 g6 hdat hB6 hB56 hB46 hj hB5 hs5 s6 hz6 HV HT HL
  go_wp2_with fail
  rw [show W5.alloc (.cells #[.slice A d.length c] 22) = W6 from HW.out.symm]
  clear HW
  refine HALL.out.mono ?_
  rintro e W7 hpost
  obtain ⟨hno, hyes, hb7⟩ := filL_all hpost
  have HB7 := Lib.hid (HB6.out.trans (hb7.mono HB6.out.size))
  have HB37 := Lib.hid (HB36.out.trans (hb7.mono HB36.out.size))
  rcases HRES.out with ⟨h0, rfl, rfl⟩ | ⟨h0, rfl, A1, c1, y1, rfl, hs1, hg1⟩
  · have e7 := hno (by rw [← fil_err]; exact h0)
    subst e7
    clear hno hyes hb7 hpost HRES h0 HALL
    unfold errV
    go_wp2_with fail
    go_ret
    exact ⟨rfl, HB7.out⟩
  · obtain ⟨A2, c2, y2, z2, rfl, hs2, hg2, hg0⟩ := hyes (by rw [← fil_err]; exact h0)
    have hz := grp_none hg0
    subst hz
    have hyy : y1 = y2 := hg1.same hg2 fun _ => rfl
    subst hyy
    obtain ⟨b1, o1, B1, d1, rfl, _, p1, hx1⟩ := (hs1.below HB37.out).sl_ (k := 0) (by simp)
    obtain ⟨b2, o2, B2, d2, rfl, _, p2, hx2⟩ := hs2.sl_ (k := 0) (by simp)
    obtain ⟨b3, o3, B3, d3, hbo, _, p3, _⟩ := hs2.sl_ (k := 1) (by simp)
    injection hbo with hbo
    injection hbo with e1 e2
    subst e1; subst e2
    simp only [List.getElem_cons_zero, List.getElem_cons_succ, Nat.add_zero] at p1 p2 p3 hx1 hx2
    rw [show List.length ([] : List Lin) = 0 from rfl] at p3
    have hc1 : 1 ≤ c1 := hs1.1
    have hc2 : 2 ≤ c2 := hs2.1
    have hyl := hx1.le
    have HI := Lib.hid (fun n => lines_same B2 B1 d2 d1 y1 (W7.drewN n) _ _ (hx2.drewN n) (hx1.drewN n))
    clear hno hyes hb7 hpost HRES h0 HALL hs1 hs2 hg1 hg2 hg0 hx1 hx2 HB37 HB36 HB34
    go_wp2_with fail
    go_quiet ((go_at_call 10; exact Calls.quiet_of (HI.out _)))
    go_wp2_with fail
    go_ret
    exact ⟨rfl, HB7.out.os, HB7.out.tape, HB7.out.output, HB7.out.size, HB7.out.block⟩
end Go.Proofs.YtmbhfadidpkkhaaGreatDoor
