/-
  Package share: Drop of a picture that is there. Conditions: counts that are small.
-/
import Derived.Test.YthobnigjhedjaaaDoorShareYes
namespace Go.Proofs.YthobnigjhedjaaaDoor
open Go.RowKit Go.Shelf
set_option linter.unusedVariables false

theorem decs_snoc_zero {C : CMap} {l : List ByteArray} {f : ByteArray} (h : cget (decs C l) f - 1 = 0) : decs C (l ++ [f]) = kdel (kset (decs C l) f 0) f := by
  rw [decs_snoc]; unfold dec1; rw [if_pos h, h]
theorem decs_snoc_not {C : CMap} {l : List ByteArray} {f : ByteArray} {m : Int} (h : cget (decs C l) f - 1 = m) (h0 : m ≠ 0) : decs C (l ++ [f]) = kset (decs C l) f m := by
  rw [decs_snoc]; unfold dec1; rw [h, if_neg h0]
set_option maxRecDepth 100000 in
set_option maxHeartbeats 1000000 in
theorem drop_ok (g bp bc : Nat) (P : PMapS) (C : CMap) (k : Int) (r : RowS) (w : World) (S : ShAt w g bp bc P C) (hk : (Lit.int .i64 k).wf = true) (hr : kget P k = some r) (hnd : r.xs.Nodup) (hc : ∀ x, 0 ≤ cget C x ∧ cget C x ≤ 1000000) :
    Calls Tryd.prog 8 #[.pointer (some ⟨g, 0, none⟩), .int .i64 k] w fun e w' => e = .returned .nilIface ∧ ShAt w' g bp bc (kdel P k) (decs C r.xs) ∧ Frm (shF bp bc) w w' := by
  obtain ⟨c0, c1⟩ := S.cells
  have hl := S.pics.get (P := Tryd.prog) Tryd.underlying3 pics_t (z := .slice none 0 0) (by kernel_rfl) hk true
  have hh : khas P k = true := by unfold khas; rw [hr]; rfl
  rw [khas_kmap, hh, kmap_get, hr] at hl
  simp only [↓reduceIte, Option.map_some, Option.getD_some] at hl
  have hrow := S.rows _ (kget_mem hr)
  have hrn := hrow.le
  obtain ⟨w2, hrun2, hm2, hg2, hz2⟩ := S.pics.del (P := Tryd.prog) (ty := 0) Tryd.underlying3 pics_t hk
  have S2 : ShAt w2 g bp bc (kdel P k) C := S.turnP (by rw [kmap_del]; exact hm2) hg2 fun p hp => .inl (List.mem_filter.1 hp).1
  have hs2 : ∀ j, StrRow w j → w2.heap[j]? = w.heap[j]? := fun j hj => hg2.block j hj.lt fun e => (hj.off S).1 (Option.some.inj e)
  have HR2 : Hid (SlA strE (StrRow w2) w2 r.A r.cap r.xs) := (hrow.keep hs2).more fun j hj => hj.kept (hs2 j hj)
  have HS2 := Lib.hid S2
  have HF2 : Hid (Frm (shF bp bc) w w2) := Frm.ofGrown (F := shF bp bc) hg2 fun k e => .inl (Option.some.inj e).symm
  have HND := Lib.hid hnd
  have HC := Lib.hid hc
  obtain ⟨d0, d1⟩ := S2.cells
  obtain ⟨A, cap, R⟩ := r
  simp only at HR2 HND hrn
  unfold rowSV at hl
  simp only at hl
  obtain ⟨rn, hrn2⟩ : ∃ rn, rn = R.length := ⟨_, rfl⟩
  rw [← hrn2] at hl hrn
  have HRN := Lib.hid hrn2
  clear S S2 hk hr hnd hc hh hrow hm2 hg2 hs2 hrn2
  go_enter Tryd.func8, Tryd.ntmps8
  go_wp2_with fail
  go_loopw [28] (fun iv wr => ∃ i : Nat, i ≤ rn ∧ iv = .int .i64 i ∧ Hid (ShAt wr g bp bc (kdel P k) (decs C (R.take i))) ∧ Hid (SlA strE (StrRow wr) wr A cap R) ∧ Hid (Frm (shF bp bc) w wr)) (fun iv _ => rn - (intOf iv).toNat)
  case atStart => exact ⟨0, Nat.zero_le _, rfl, HS2, HR2, HF2⟩
  case round =>
    obtain ⟨i, hi, rfl, HSI, HRI, HFI⟩ := hrel
    by_cases hlt : i < rn
    · have hli : i < R.length := by rw [← HRN.out]; exact hlt
      obtain ⟨b0, o0, rfl, hb0, x0, hz⟩ := HRI.out.str_ hli
      obtain ⟨d0, d1⟩ := HSI.out.cells
      have hlk := HSI.out.counts.get (P := Tryd.prog) Tryd.underlying9 counts_t (by kernel_rfl) hz
      have hnn := decs_le C (R.take i) R[i] 1000000 (HND.out.sublist (List.take_sublist _ _)) HC.out
      have hTK : R.take (i + 1) = R.take i ++ [R[i]] := List.take_succ_eq_append_getElem hli
      obtain ⟨w6, hrun6, hm6, hg6, hz6⟩ := HSI.out.counts.set (P := Tryd.prog) Tryd.underlying9 counts_t hz (cget (decs C (R.take i)) R[i] - 1)
      have S6 := HSI.out.turnC hm6 hg6
      have hs6 : ∀ j, StrRow wr j → w6.heap[j]? = wr.heap[j]? := fun j hj => hg6.block j hj.lt fun e => (hj.off HSI.out).2.1 (Option.some.inj e)
      have HR6 : Hid (SlA strE (StrRow w6) w6 (some ⟨b0, o0, none⟩) cap R) := (HRI.out.keep hs6).more fun j hj => hj.kept (hs6 j hj)
      have HF6 : Hid (Frm (shF bp bc) w w6) := HFI.out.trans (Frm.ofGrown (F := shF bp bc) hg6 fun k e => .inr (Option.some.inj e).symm) (fun _ h => h) (fun _ h => .inl h)
      obtain ⟨e0, e1⟩ := S6.cells
      have hlk6 := S6.counts.get (P := Tryd.prog) Tryd.underlying9 counts_t (by kernel_rfl) hz
      rw [kget_kset, if_pos rfl, Option.getD_some] at hlk6
      by_cases h0 : cget (decs C (R.take i)) R[i] - 1 = 0
      · obtain ⟨w7, hrun7, hm7, hg7, hz7⟩ := S6.counts.del (P := Tryd.prog) (ty := 0) Tryd.underlying9 counts_t hz
        have HS7 : Hid (ShAt w7 g bp bc (kdel P k) (decs C (R.take (i + 1)))) := by
          show ShAt _ _ _ _ _ _
          rw [hTK, decs_snoc_zero h0, ← h0]
          exact S6.turnC hm7 hg7
        have hs7 : ∀ j, StrRow w6 j → w7.heap[j]? = w6.heap[j]? := fun j hj => hg7.block j hj.lt fun e => (hj.off S6).2.1 (Option.some.inj e)
        have HR7 : Hid (SlA strE (StrRow w7) w7 (some ⟨b0, o0, none⟩) cap R) := (HR6.out.keep hs7).more fun j hj => hj.kept (hs7 j hj)
        have HF7 : Hid (Frm (shF bp bc) w w7) := HF6.out.trans (Frm.ofGrown (F := shF bp bc) hg7 fun k e => .inr (Option.some.inj e).symm) (fun _ h => h) (fun _ h => .inl h)
        rw [h0] at hrun6 hlk6
        rw [show (kget (decs C (R.take i)) R[i]).getD 0 = cget (decs C (R.take i)) R[i] from rfl] at hlk
        generalize cget (decs C (R.take i)) R[i] = n at hlk hnn h0
        generalize R[i] = y at x0 hlk hrun6 hlk6 hrun7
        obtain rfl : n = 1 := by omega
        clear hm6 hg6 hm7 hg7 S6 hs6 hs7 hz hb0 HSI HRI hTK h0
        go_wp2_with fail
        go_roundw
        case rel => exact ⟨i + 1, by omega, by go_num, HS7, HR7, HF7⟩
        case measure => simp [intOf]; omega
      · have HS6 : Hid (ShAt w6 g bp bc (kdel P k) (decs C (R.take (i + 1)))) := by
          show ShAt _ _ _ _ _ _
          rw [hTK, decs_snoc_not rfl h0]
          exact S6
        rw [show (kget (decs C (R.take i)) R[i]).getD 0 = cget (decs C (R.take i)) R[i] from rfl] at hlk
        generalize cget (decs C (R.take i)) R[i] = n at hlk hnn hrun6 hlk6 h0
        generalize R[i] = y at x0 hlk hrun6 hlk6
        have hq : (n - 1 == 0) = false := beq_eq_false_iff_ne.2 h0
        clear hm6 hg6 S6 hs6 hz hb0 HSI HRI hTK h0
        go_wp2_with fail
        go_roundw
        case rel => exact ⟨i + 1, by omega, by go_num, HS6, HR6, HF6⟩
        case measure => simp [intOf]; omega
    · go_wp2_with fail
      go_ret
      have e : i = rn := by omega
      have hs := HSI.out
      rw [e, HRN.out, List.take_length] at hs
      exact ⟨rfl, hs, HFI.out⟩
end Go.Proofs.YthobnigjhedjaaaDoor
