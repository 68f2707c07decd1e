/-
  Package share: Take where it takes. Conditions: counts that are small.
-/
import Derived.Test.YthobnigjhedjaaaDoorShareSort
namespace Go.Proofs.YthobnigjhedjaaaDoor
open Go.RowKit Go.Shelf
set_option linter.unusedVariables false

def shF (bp bc : Nat) (k : Nat) : Prop := k = bp ∨ k = bc
theorem takeE_none {P : PMapS} {k : Int} {l : List ByteArray} (h : takeE P k l = none) : 0 ≤ k ∧ khas P k = false ∧ P.length < 400 ∧ l.length ≤ 400 ∧ allNamed l = true := by
  unfold takeE at h
  by_cases h0 : k < 0
  · rw [if_pos h0] at h; cases h
  rw [if_neg h0] at h
  cases h1 : khas P k with
  | true => rw [h1] at h; simp at h
  | false =>
    rw [h1] at h
    simp only [Bool.false_eq_true, ↓reduceIte] at h
    by_cases h2 : 400 ≤ P.length ∨ 400 < l.length
    · rw [if_pos h2] at h; cases h
    rw [if_neg h2] at h
    cases h3 : allNamed l with
    | true => exact ⟨by omega, rfl, by omega, by omega, rfl⟩
    | false => rw [h3] at h; simp at h
theorem own_ge {w : World} {base : Nat} {e : TypeId} {size n : Nat} {v : Value} {xs : List Value} (h : w.ownsRow base e size v n xs) : ∀ k, v.ownBlock = some k → base ≤ k := by
  intro k hk
  obtain ⟨A, cap, rfl, _, hb⟩ := OwnS.of_row h
  cases A with
  | none => cases hk
  | some a => exact hb k hk
set_option maxRecDepth 100000 in
set_option maxHeartbeats 1000000 in
theorem take_yes (F : Nat → Prop) (g bp bc : Nat) (P : PMapS) (C : CMap) (k : Int) (A : Option Addr) (c : Nat) (l : List ByteArray) (w : World) (S : ShAt w g bp bc P C) (hk : (Lit.int .i64 k).wf = true) (h : SlA strE F w A c l) (hF : ∀ k, F k → k < w.heap.size) (hE : takeE P k l = none)
    (hc : ∀ x, 0 ≤ cget C x ∧ cget C x ≤ 1000000) :
    Calls Tryd.prog 6 #[.pointer (some ⟨g, 0, none⟩), .int .i64 k, .slice A l.length c] w fun e w' => ∃ r : RowS, r.xs = shRow l ∧ e = .returned .nilIface ∧ ShAt w' g bp bc (kset P k r) (incs C (shRow l)) ∧ Frm (shF bp bc) w w' := by
  obtain ⟨h0, h1, h2, h3, h4⟩ := takeE_none hE
  obtain ⟨c0, c1⟩ := S.cells
  have hl := S.pics.get (P := Tryd.prog) Tryd.underlying3 pics_t (z := .slice none 0 0) (by kernel_rfl) hk true
  rw [khas_kmap, h1] at hl
  simp only [↓reduceIte] at hl
  generalize (kget (kmap rowSV P) k).getD (.slice none 0 0) = u at hl
  have hlen := fun (ty : TypeId) => S.pics.len (P := Tryd.prog) (ty := ty) pics_t
  simp only [kmap_length] at hlen
  have hC := scontains_ok F A c l w h hF
  rw [h4] at hC
  simp only [Bool.not_true] at hC
  have HL : Hid (∀ W, Below w.heap.size w W → SlA strE F W A c l) := fun W hb => h.keep fun k hk => hb.block k (hF k hk)
  have HZ : Hid (∀ x ∈ l, x.size ≤ maxLen) := fun x hx => by
    obtain ⟨i, hi, rfl⟩ := List.mem_iff_getElem.1 hx
    obtain ⟨_, _, _, _, _, hz⟩ := h.str_ hi
    exact hz
  have HS := Lib.hid S
  have HF := Lib.hid hF
  have HC := Lib.hid hc
  have HH1 := Lib.hid h1
  have d0 : decide (k < 0) = false := decide_eq_false (by omega)
  have d1 : decide (400 ≤ P.length) = false := decide_eq_false (by omega)
  have d2 : decide (400 < l.length) = false := decide_eq_false (by omega)
  obtain ⟨pn, hpn⟩ : ∃ pn, pn = P.length := ⟨_, rfl⟩
  rw [← hpn] at hlen d1 h2
  have HK : Hid ((Lit.int .i64 k).wf = true) := hk
  clear h S hF hc h1 hE hpn h4 hk
  go_enter Tryd.func6, Tryd.ntmps6
  go_wp2_with (go_at_call 19; refine hC.mono ?_; rintro e w1 ⟨rfl, hb1⟩)
  have hD := sclone_ok F A c l w1 (HL.out w1 hb1) (fun k hk => Nat.lt_of_lt_of_le (HF.out k hk) hb1.size) h3
  refine hD.mono ?_
  rintro e w2 ⟨⟨v, rfl, hown2⟩, hb2⟩
  have hE := sort_row w1.heap.size v l w2 hown2 h3
  have HO2 := Lib.hid hown2
  have HB2 : Hid (Below w.heap.size w w2) := hb1.trans (hb2.mono hb1.size)
  clear hD hC hown2 hb2 hl c0 c1 hlen
  go_wp2_with fail
  refine hE.mono ?_
  rintro e w3 ⟨rfl, hown3, hg3⟩
  have hG := compact_row w1.heap.size v l w3 hown3 h3 HZ.out
  have HB3 : Hid (Below w.heap.size w w3) := HB2.out.grown hg3 HB2.out.size fun k e => Nat.le_trans hb1.size (own_ge HO2.out k e)
  have HO3 := Lib.hid hown3
  clear hE hown3 hg3
  go_wp2_with fail
  refine hG.mono ?_
  rintro e w4 ⟨A4, c4, rfl, hs4, hg4, hb4⟩
  have HB4 : Hid (Below w.heap.size w w4) := HB3.out.grown hg4 HB3.out.size fun k e => Nat.le_trans hb1.size (own_ge HO3.out k e)
  clear hG hg4
  have S4 := HS.out.below HB4.out
  obtain ⟨c0, c1⟩ := S4.cells
  obtain ⟨r, hr⟩ : ∃ r : RowS, r = ⟨A4, c4, shRow l⟩ := ⟨_, rfl⟩
  obtain ⟨w5, hrun5, hm5, hg5, hz5⟩ := S4.pics.set (P := Tryd.prog) Tryd.underlying3 pics_t HK.out (rowSV r)
  have hnk : k ∉ kkeys P := fun hk => by
    have := (khas_iff P k).2 hk
    rw [HH1.out] at this; cases this
  have S5 : ShAt w5 g bp bc (kset P k r) C := S4.turnP (by rw [kmap_set]; exact hm5) hg5 fun p hp => by
    rw [kset_none hnk] at hp
    rcases List.mem_append.1 hp with hp | hp
    · exact .inl hp
    · rw [List.mem_singleton.1 hp, hr]; exact .inr hs4
  have hmem : (k, r) ∈ kset P k r := by rw [kset_none hnk]; simp
  have HM := Lib.hid hmem
  have HF5 : Hid (Frm (shF bp bc) w w5) := (Frm.ofBelow (F := shF bp bc) HB4.out).trans (Frm.ofGrown (F := shF bp bc) hg5 fun k e => .inl (Option.some.inj e).symm) (fun _ h => h) (fun _ h => .inl h)
  have HS5 := Lib.hid S5
  have hrv : rowSV r = .slice A4 (shRow l).length c4 := by rw [hr]; rfl
  rw [hrv] at hrun5
  have HRX : Hid (r.xs = shRow l) := by rw [hr]; rfl
  have HR : Hid (r = ⟨A4, c4, shRow l⟩) := hr
  have hrn := shRow_le l
  obtain ⟨rn, hrn2⟩ : ∃ rn, rn = (shRow l).length := ⟨_, rfl⟩
  rw [← hrn2] at hrun5 hrn ⊢
  have HRN : Hid (rn = (shRow l).length) := hrn2
  clear S4 S5 hm5 hg5 hnk hmem hr hs4 hb4 hrv hrn2 HO2 HO3 HB2 HB3
  go_wp2_with fail
  go_loopw [59] (fun iv wr => ∃ i : Nat, i ≤ rn ∧ iv = .int .i64 i ∧ Hid (ShAt wr g bp bc (kset P k r) (incs C ((shRow l).take i))) ∧ Hid (Frm (shF bp bc) w wr)) (fun iv _ => rn - (intOf iv).toNat)
  case atStart => exact ⟨0, Nat.zero_le _, rfl, HS5, HF5⟩
  case round =>
    obtain ⟨i, hi, rfl, HSI, HFI⟩ := hrel
    by_cases hlt : i < rn
    · have hli : i < (shRow l).length := by rw [← HRN.out]; exact hlt
      have hrow := HSI.out.rows _ HM.out
      rw [HR.out] at hrow
      obtain ⟨b0, o0, rfl, hb0, x0, hz⟩ := hrow.str_ hli
      obtain ⟨d0, d1⟩ := HSI.out.cells
      have hlk := HSI.out.counts.get (P := Tryd.prog) Tryd.underlying9 counts_t (by kernel_rfl) hz
      have hnn := incs_le C ((shRow l).take i) (shRow l)[i] 1000000 ((shRow_nodup l).sublist (List.take_sublist _ _)) HC.out
      unfold cget at hnn
      obtain ⟨w6, hrun6, hm6, hg6, hz6⟩ := HSI.out.counts.set (P := Tryd.prog) Tryd.underlying9 counts_t hz ((kget (incs C ((shRow l).take i)) (shRow l)[i]).getD 0 + 1)
      have HS6 : Hid (ShAt w6 g bp bc (kset P k r) (incs C ((shRow l).take (i + 1)))) := by
        show ShAt _ _ _ _ _ _
        rw [List.take_succ_eq_append_getElem hli, incs_snoc]
        exact HSI.out.turnC hm6 hg6
      have HF6 : Hid (Frm (shF bp bc) w w6) := HFI.out.trans (Frm.ofGrown (F := shF bp bc) hg6 fun k e => .inr (Option.some.inj e).symm) (fun _ h => h) (fun _ h => .inl h)
      generalize (kget (incs C ((shRow l).take i)) (shRow l)[i]).getD 0 = n at hlk hnn hrun6
      generalize (shRow l)[i] = y at x0 hlk hrun6
      have hw : wrap64 (n + 1) = n + 1 := IntWalk.wrap64_in _ (by omega)
      clear hm6 hg6 hrow hz hb0 HSI
      go_wp2_with fail
      go_roundw
      case rel => exact ⟨i + 1, by omega, by go_num, HS6, HF6⟩
      case measure => simp [intOf]; omega
    · go_wp2_with fail
      go_ret
      have e : i = rn := by omega
      have hs := HSI.out
      rw [e, HRN.out, List.take_length] at hs
      exact ⟨r, HRX.out, rfl, hs, HFI.out⟩
end Go.Proofs.YthobnigjhedjaaaDoor
