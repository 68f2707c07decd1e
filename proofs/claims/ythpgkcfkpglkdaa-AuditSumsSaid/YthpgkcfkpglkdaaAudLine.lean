/-
  Package audit: the contract of line where what was got is the beginning of what was wanted. Conditions: where the numbers lie.
-/
import Derived.Test.YthpgkcfkpglkdaaAudCheck
import Derived.Lib.SliceRun
namespace Go.Proofs.Ythpgkcfkpglkdaa
open Go.RowKit
set_option linter.unusedVariables false

set_option maxRecDepth 100000 in
set_option maxHeartbeats 2000000 in
theorem aline_ok (F G : Nat → Prop) (A B : Option Addr) (c d : Nat) (want got : List Int) (w : World) (hw : SlA (intE .i64) F w A c want) (hg : SlA (intE .i64) G w B d got) (h0 : 0 < want.length) (hp : got.length ≤ want.length) (he : got = want.take got.length) :
    Calls Try.prog 17 #[.slice A want.length c, .slice B got.length d] w fun e w' => (got.length < want.length → e = .returned (.tuple #[.int .i64 1, .int .i64 got.length])) ∧ (got.length = want.length → e = .returned (.tuple #[.int .i64 0, .int .i64 0])) ∧ Below w.heap.size w w' := by
  have HW := Lib.hid hw
  have HG := Lib.hid hg
  have hwl := hw.le
  have hgl := hg.le
  obtain ⟨bw, ow, hA, _, _, _⟩ := hw.int_ h0
  have HE : Hid (∀ i (h : i < got.length), got[i] = want[i]'(by omega)) := fun i h => by
    have h1 : got[i]? = (want.take got.length)[i]? := by rw [← he]
    rw [List.getElem?_take, if_pos h, List.getElem?_eq_getElem h, List.getElem?_eq_getElem (by omega)] at h1
    exact Option.some.inj h1
  clear hw hg he
  subst hA
  have hcw := HW.out.1
  have hcg := HG.out.1
  obtain ⟨wn, hwn⟩ : ∃ wn, wn = want.length := ⟨_, rfl⟩
  obtain ⟨gn, hgn⟩ : ∃ gn, gn = got.length := ⟨_, rfl⟩
  rw [← hwn, ← hgn] at hp ⊢
  rw [← hwn] at h0 hwl hcw
  rw [← hgn] at hgl hcg
  have HWN := Lib.hid hwn
  have HGN := Lib.hid hgn
  clear hwn hgn
  have hmin : min ((wn : Nat) : Int) ((gn : Nat) : Int) = (gn : Int) := by omega
  have hnil := fun u : World => Lib.run_eql_slice_nil (P := Try.prog) u 27 3 (some ⟨bw, ow, none⟩) wn c 0 0 Try.underlying27
  go_enter Try.func17, Try.ntmps17
  go_wp2_with fail
  go_loopw [16] (fun iv wr => ∃ i q : Nat, i ≤ gn ∧ iv = .int .i64 i ∧ wr = w.drewN q) (fun iv _ => gn - (intOf iv).toNat)
  case atStart => exact ⟨0, 0, Nat.zero_le _, rfl, rfl⟩
  case round =>
    obtain ⟨i, q, hi, rfl, rfl⟩ := hrel
    by_cases hlt : i < gn
    · have hiw : i < want.length := by rw [← HWN.out]; omega
      have hig : i < got.length := by rw [← HGN.out]; exact hlt
      obtain ⟨b1, o1, e1, _, x0, _⟩ := HW.out.int_ hiw
      obtain ⟨b2, o2, e2, _, y0, _⟩ := HG.out.int_ hig
      injection e1 with e1; injection e1 with e3 e4; subst e3; subst e4
      subst e2
      rw [HE.out i hig] at y0
      generalize want[i] = v at x0 y0
      have hiw2 : i < wn := by omega
      go_upto_region 7 with (fail)
      go_quiet (fail)
      go_wp2_with fail
      go_roundw
      case rel => exact ⟨i + 1, _, by omega, by go_num, by first | rfl | exact World.drewN_drewN _ _ _⟩
      case measure => simp [intOf]; omega
    · have hie : i = gn := by omega
      have di : decide (i < gn) = false := decide_eq_false hlt
      have HB : Hid (Below w.heap.size w (w.drewN q)) := bdrewN (Below.refl _ _) q
      have HIE := Lib.hid hie
      clear hie hlt
      by_cases hgw : gn < wn
      · have d1 : decide (gn < wn) = true := decide_eq_true hgw
        have d2 : decide (gn < gn) = false := decide_eq_false (Nat.lt_irrefl _)
        go_wp2_with fail
        go_ret2
        exact ⟨fun _ => rfl, fun h => absurd h (by omega), HB.out⟩
      · have d1 : decide (gn < wn) = false := decide_eq_false hgw
        have d2 : decide (gn < gn) = false := decide_eq_false (Nat.lt_irrefl _)
        go_wp2_with fail
        go_ret2
        exact ⟨fun h => absurd h (by omega), fun _ => rfl, HB.out⟩
end Go.Proofs.Ythpgkcfkpglkdaa
