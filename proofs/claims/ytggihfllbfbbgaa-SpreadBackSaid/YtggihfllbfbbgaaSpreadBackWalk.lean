/-
  The walk of SpreadBack: it returns true, whatever the things and the number of workers. No condition.
-/
import Derived.Test.YtggihfllbfbbgaaSpread
import Derived.Test.YtggihfllbfbbgaaSame
namespace Go.Proofs.Ytggihfllbfbbgaa
open Go.RowKit
set_option linter.unusedVariables false

def abcL : List ByteArray := [⟨#[97]⟩, ⟨#[98]⟩, ⟨#[99]⟩]
theorem spr_abc : spr 2 abcL 3 = [[⟨#[97]⟩, ⟨#[99]⟩], [⟨#[98]⟩]] := rfl

theorem take_succ_ge {α : Type} (l : List α) (n : Nat) (h : l.length ≤ n) : l.take (n + 1) = l.take n := by
  rw [List.take_of_length_le h, List.take_of_length_le (by omega)]
theorem take_succ_lt {α : Type} (l : List α) (n : Nat) (h : n < l.length) : l.take (n + 1) = l.take n ++ [l[n]] := List.take_succ_eq_append_getElem h

set_option maxHeartbeats 2000000 in
set_option maxRecDepth 100000 in
theorem spreadBack_walk (A : Option Addr) (c : Nat) (l : List ByteArray) (p : Int) (w : World) (hl : SlA strE (· < w.heap.size) w A c l) (hr : c * 16 ≤ 140737488351232) (wp : (Lit.int .i64 p).wf = true) :
    Calls Try.prog 5 #[.slice A l.length c, .int .i64 p] w fun e w' => e = .returned (.bool true) ∧ Below w.heap.size w w' := by
  have hle := hl.le
  have H := Lib.hid hl
  clear hl hr wp
  go_enter Try.func5, Try.ntmps5
  go_wp2_with fail
  have habc : SlA strE (· < (w.alloc (.cells #[.string ⟨#[97]⟩, .string ⟨#[98]⟩, .string ⟨#[99]⟩] 9)).heap.size) (w.alloc (.cells #[.string ⟨#[97]⟩, .string ⟨#[98]⟩, .string ⟨#[99]⟩] 9)) (some ⟨w.heap.size, 0, none⟩) 3 abcL := by
    refine ⟨by decide, by unfold maxLen; omega, fun i x hx => ⟨w.heap.size, 0, [.string x], rfl, by simp, fun j u hj => ?_, rfl, ?_⟩⟩
    · match j, hj with
      | 0, hj =>
        simp at hj; subst hj
        have := cells_new w [.string ⟨#[97]⟩, .string ⟨#[98]⟩, .string ⟨#[99]⟩] 9 i (.string x) (by
          match i, hx with
          | 0, hx => simp [abcL] at hx; subst hx; rfl
          | 1, hx => simp [abcL] at hx; subst hx; rfl
          | 2, hx => simp [abcL] at hx; subst hx; rfl
          | i + 3, hx => simp [abcL] at hx)
        rw [Go.WideShapes.add_plain] at this
        simpa [strE] using this
    · match i, hx with
      | 0, hx => simp [abcL] at hx; subst hx; unfold maxLen; decide
      | 1, hx => simp [abcL] at hx; subst hx; unfold maxLen; decide
      | 2, hx => simp [abcL] at hx; subst hx; unfold maxLen; decide
      | i + 3, hx => simp [abcL] at hx
  refine (even_ok (some ⟨w.heap.size, 0, none⟩) 3 2 abcL _ habc (by omega) (by omega) (by decide)).mono ?_
  rintro e w1 ⟨A1, c1, rfl, hs1, hb1⟩
  have hb1' : Below w.heap.size w w1 := ((Below.refl _ _).alloc (Nat.le_refl _) _).trans (hb1.mono (by simp))
  obtain ⟨b0, o0, A0, c0, rfl, _, x0, _⟩ := hs1.sl_ (k := 0) (by decide)
  have e0 : ((spr 2 abcL abcL.length)[0]).length = 2 := rfl
  rw [e0] at x0
  simp only [Nat.add_zero] at x0
  clear hs1 habc hb1 e0
  have hl1 := (H.out.keep (Same.below hb1')).more (F' := (· < w1.heap.size)) (fun k (hk : k < w.heap.size) => by have := hb1'.size; show k < w1.heap.size; omega)
  clear H
  have H := Lib.hid hl1
  clear hl1
  by_cases hok : 1 ≤ p ∧ p ≤ 16 ∧ l.length ≤ 400
  · obtain ⟨h1, h2, h3⟩ := hok
    obtain ⟨q, rfl⟩ := Int.eq_ofNat_of_zero_le (by omega : 0 ≤ p)
    have hq1 : 1 ≤ q := by omega
    have hq2 : q ≤ 16 := by omega
    clear h1 h2
    go_wp2_with fail
    refine (even_ok A c q l _ H.out hq1 hq2 h3).mono ?_
    rintro e w2 ⟨A2, c2, rfl, hs2, hb2⟩
    have hb : Below w.heap.size w w2 := hb1'.trans (hb2.mono hb1'.size)
    have hl2 := H.out.below hb2
    clear H hb2 hb1' x0
    have H := Lib.hid hl2
    have hlen : (spr q l l.length).length = q := spr_length _ _ _
    have HS := Lib.hid hs2
    have HLEN := Lib.hid hlen
    have HB := Lib.hid hb
    clear hl2 hs2 hlen hb
    go_wp2_with fail
    go_loopw [9, 10] (fun v k' wr => ∃ k : Nat, k ≤ l.length + 1 ∧ k' = .int .i64 k ∧ Hid (wr.ownsRow w2.heap.size 9 1 v (l.take (k * q)).length ((l.take (k * q)).map Value.string)) ∧ Hid (Below w2.heap.size w2 wr)) (fun _ k' _ => l.length + 1 - (intOf k').toNat)
    case atStart => exact ⟨0, by omega, rfl, by rw [Nat.zero_mul]; exact World.ownsRow_nil _ _ _ _, Below.refl _ _⟩
    case round =>
      obtain ⟨k, hk, rfl, HO, HB2⟩ := hrel
      by_cases hlt : k ≤ l.length
      · have hdk : decide (k ≤ l.length) = true := by simp; omega
        go_wp2_with fail
        obtain ⟨wo, rfl⟩ : ∃ wo : World, wo = wr := ⟨_, rfl⟩
        go_loopw [9, 11] (fun v i' wr => ∃ i : Nat, i ≤ q ∧ i' = .int .i64 i ∧ Hid (wr.ownsRow w2.heap.size 9 1 v (l.take (k * q + i)).length ((l.take (k * q + i)).map Value.string)) ∧ Hid (Below w2.heap.size w2 wr)) (fun _ i' _ => q - (intOf i').toNat)
        case atStart => exact ⟨0, by omega, rfl, HO, HB2⟩
        case round =>
          clear HO HB2
          obtain ⟨i, hi, rfl, HO, HB2⟩ := hrel
          by_cases hlti : i < q
          · have hsw := HS.out.keep (Same.below HB2.out)
            have hix : i < (spr q l l.length).length := by rw [HLEN.out]; exact hlti
            have h0x : 0 < (spr q l l.length).length := by rw [HLEN.out]; omega
            obtain ⟨b2, o2, Ai, ci, rfl, hb2, xi, hri⟩ := hsw.sl_ (k := i) hix
            obtain ⟨b2', o2', A0', c0', e2, _, x0, hr0⟩ := hsw.sl_ (k := 0) h0x
            injection e2 with e2; injection e2 with e21 e22; subst e21; subst e22
            have gi : (spr q l l.length)[i]? = some (spr q l l.length)[i] := List.getElem?_eq_getElem hix
            have g0 : (spr q l l.length)[0]? = some (spr q l l.length)[0] := List.getElem?_eq_getElem h0x
            have li := fun k => spr_lt q l hq1 gi k
            have l0 := fun k => spr_lt q l hq1 g0 k
            have vi := spr_get q l hq1 l.length (Nat.le_refl _) i _ gi
            obtain ⟨ri, hri'⟩ : ∃ r, r = (spr q l l.length)[i] := ⟨_, rfl⟩
            obtain ⟨r0, hr0'⟩ : ∃ r, r = (spr q l l.length)[0] := ⟨_, rfl⟩
            rw [← hri'] at xi hri li vi
            rw [← hr0'] at x0 hr0 l0
            have hn1 : ri.length ≤ r0.length := by
              rcases Nat.lt_or_ge r0.length ri.length with h | h
              · have := (li r0.length).1 h
                have := (l0 r0.length).2 (by omega)
                omega
              · exact h
            have hn2 : r0.length ≤ ri.length + 1 := by
              rcases Nat.lt_or_ge (ri.length + 1) r0.length with h | h
              · have h4 := (l0 (ri.length + 1)).1 h
                rw [Nat.succ_mul] at h4
                have h5 := (li ri.length).2 (by omega)
                omega
              · exact h
            have hn3 : r0.length ≤ l.length := by
              rcases Nat.lt_or_ge l.length r0.length with h | h
              · have := (l0 l.length).1 h
                have := Nat.mul_le_mul_left l.length hq1
                omega
              · exact h
            obtain ⟨ni, hni⟩ : ∃ n, n = ri.length := ⟨_, rfl⟩
            obtain ⟨n0, hn0⟩ : ∃ n, n = r0.length := ⟨_, rfl⟩
            rw [← hni] at xi hn1 hn2
            rw [← hn0] at x0 hn1 hn2 hn3
            have hsum : IntKind.i64.wrap ((n0 : Int) - ni) = (n0 : Int) - ni := IntWalk.i64_in _ (by omega)
            have hd1 : decide ((1 : Int) < (n0 : Int) - ni) = false := by simp; omega
            have hd2 : decide (n0 < ni) = false := by simp; omega
            simp only [Nat.add_zero] at x0
            have LI := Lib.hid li
            have VI := Lib.hid vi
            have HRI := Lib.hid hri
            have HNI := Lib.hid hni
            have hb2' : b2 < w2.heap.size := hb2
            clear li vi hri hni hn0 hri' hr0' gi g0 hr0 l0 hsw hb2 hn1 hn2 hn3 hix h0x
            have hkq : k ≤ 400 := by omega
            have hle2 : (l.take (k * q + i)).length ≤ 400 := by rw [List.length_take]; omega
            by_cases hki : k < ni
            · have hki' := (LI.out k).1 (by rw [← HNI.out]; exact hki)
              obtain ⟨b3, o3, rfl, hb3, x3, _⟩ := HRI.out.str_ (k := k) (by rw [← HNI.out]; exact hki)
              have ev : ri[k]'(by rw [← HNI.out]; exact hki) = l[k * q + i] := by
                have := VI.out k
                rw [if_pos hki', List.getElem?_eq_getElem (by rw [← HNI.out]; exact hki), List.getElem?_eq_getElem hki'] at this
                injection this
              rw [ev] at x3
              have htk := take_succ_lt l (k * q + i) hki'
              obtain ⟨s, hs⟩ : ∃ s, s = l[k * q + i] := ⟨_, rfl⟩
              rw [← hs] at x3 htk
              obtain ⟨t, ht⟩ : ∃ t, t = l.take (k * q + i) := ⟨_, rfl⟩
              rw [← ht] at HO htk hle2
              have HT := Lib.hid htk
              have HNk : decide (k < ni) = true := by simp; exact hki
              clear ev hs ht htk hki'
              go_wp2_with (at_builtin; refine wpList_push rfl _ _ 31 rfl w2.heap.size 9 _ 1 16 Try.underlying31 info_str rfl (by decide) _ _ _ rfl HO.out [_] rfl rfl ?_ ?_ ?_ HB2.out.size HB2.out (Nat.le_refl _) ?_)
              · first | rfl | (rintro u hu; simp at hu; subst hu; rfl)
              · unfold maxLen; omega
              · omega
              · intro v' w3 hown3 hg3 hbel3 _
                have hne : some b2 ≠ Value.ownBlock _ := fun e => absurd ((HO.out.lt b2 e.symm).1) (by omega)
                have x0' : w3.cell? ⟨b2, o2, none⟩ = some (.slice A0' n0 c0') := hg3.cell x0 hne
                have xi' : w3.cell? ⟨b2, o2 + i, none⟩ = some (.slice (some ⟨b3, o3, none⟩) ni ci) := hg3.cell xi hne
                have HO3 := Lib.hid hown3
                have HB3 := Lib.hid hbel3
                clear hown3 hbel3 hg3 hne x0 xi x3 HO HB2
                go_wp2_with fail
                go_quiet (fail)
                go_wp2_with fail
                go_roundw
                case rel =>
                  refine ⟨i + 1, by omega, by go_num, ?_, bdrewN HB3.out nq⟩
                  show World.ownsRow _ _ _ _ _ _ _
                  rw [← Nat.add_assoc, HT.out, List.map_append, List.length_append]
                  exact HO3.out
                case measure => simp [intOf]; omega
            · have HNk : decide (k < ni) = false := by simp; omega
              have htk : l.take (k * q + (i + 1)) = l.take (k * q + i) := take_succ_ge l (k * q + i) (by
                rcases Nat.lt_or_ge (k * q + i) l.length with h | h
                · exact absurd ((LI.out k).2 h) (by rw [← HNI.out]; exact hki)
                · exact h)
              have HT := Lib.hid htk
              clear htk
              go_wp2_with fail
              go_quiet (fail)
              go_wp2_with fail
              go_roundw
              case rel =>
                refine ⟨i + 1, by omega, by go_num, ?_, bdrewN HB2.out nq⟩
                show World.ownsRow _ _ _ _ _ _ _
                rw [HT.out]
                exact HO.out
              case measure => simp [intOf]; omega
          · obtain rfl : i = q := by omega
            go_wp2_with fail
            go_roundw
            case rel =>
              refine ⟨k + 1, by omega, by go_num, ?_, HB2⟩
              rw [Nat.succ_mul]; exact HO
            case measure => simp [intOf]; omega
      · obtain rfl : k = l.length + 1 := by omega
        have hdk : decide (l.length + 1 ≤ l.length) = false := by simp
        have ht : l.take ((l.length + 1) * q) = l := List.take_of_length_le (by
          have := Nat.mul_le_mul_left (l.length + 1) hq1
          omega)
        rw [ht] at HO
        obtain ⟨_, Ab, cb, rfl, hsb⟩ := own_sl1 (E := strE) Value.string rfl (fun x hx F => ⟨rfl, by
          obtain ⟨i, hi⟩ := List.getElem?_of_mem hx
          obtain ⟨_, _, _, _, _, _, _, h⟩ := H.out.2.2 i x hi
          exact h⟩) HO.out
        have HSB := Lib.hid hsb
        clear hsb ht
        go_wp2_with fail
        refine (texts_same Ab A cb c l _ _ _ HSB.out (H.out.keep (Same.below HB2.out))).mono ?_
        rintro e w4 ⟨rfl, d, rfl⟩
        go_wp2_with fail
        go_ret
        exact ⟨rfl, bdrewN (HB.out.trans (HB2.out.mono HB.out.size)) d⟩
  · go_wp2_with fail
    refine (even_bad A c l.length p _ hle hok).mono ?_
    rintro e w2 ⟨⟨k, rfl⟩, rfl⟩
    go_wp2_with fail
    go_ret
    exact ⟨rfl, hb1'⟩
end Go.Proofs.Ytggihfllbfbbgaa
