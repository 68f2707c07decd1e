/-
  Several texts of this claim in one, in build order; each begins with its own remark, which says what it proves and under which conditions.
-/
import Derived.Test.YtfndhfekbbbliaaGreatDoorPackE
import Derived.Test.YtfndhfekbbbliaaGreatDoorPackL
import Derived.Test.YtfndhfekbbbliaaGreatDoorPackF
import Derived.Test.YtfndhfekbbbliaaGreatDoorPackI
import Derived.Shelf.SlGeneric
import Derived.Shelf.Strings.BuilderK
import Derived.Ground.NamesProg
import Derived.Test.YtfndhfekbbbliaaGreatDoorProg
import Derived.Test.YtfndhfekbbbliaaGreatDoorPackA
import Derived.Test.YtfndhfekbbbliaaGreatDoorPackJ
import Derived.Deep.RegionHeld3
import Derived.BigQuiet
import Derived.LaidEql
import Derived.Stop.Asserts
import Derived.RowKitTokens

/-
  The reference's Kinds, Print. Conditions: where the job lies; its nodes are within bounds.
-/
namespace Go.Proofs.YtfndhfekbbbliaaGreatDoor
open Go.RowKit Go.ChangeShapes Go.WideShapes
set_option linter.unusedVariables false

def kindCells : List Value := kindNames.map fun l => .string ⟨l.toArray⟩
theorem kinds_cell {w : World} {K : Nat} (h : w.heap[K]? = some (.cells kindCells.toArray 9 (0, 0))) {k : Nat} (hk : k < 11) : w.cell? ⟨K, k, none⟩ = some (.string ⟨(kindName (k : Int)).toArray⟩) := by
  rw [cell_of_row w K k _ _ _ h]
  unfold kindName kindCells
  rw [Int.toNat_natCast, List.getD_eq_getElem?_getD]
  have e : kindNames.length = 11 := rfl
  simp [List.getElem?_eq_getElem (show k < kindNames.length by omega)]
set_option maxRecDepth 100000 in
theorem rkinds_ok (w : World) : Calls Tryz.prog 57 #[] w fun e w' => e = .returned (.slice (some ⟨w.heap.size, 0, none⟩) 11 11) ∧ w'.heap[w.heap.size]? = some (.cells kindCells.toArray 9 (0, 0)) ∧ Below w.heap.size w w' := by
  have HE : Hid ((w.alloc (.cells kindCells.toArray 9)).heap[w.heap.size]? = some (.cells kindCells.toArray 9 (0, 0)) ∧ Below w.heap.size w (w.alloc (.cells kindCells.toArray 9))) := ⟨heap_alloc_new _ _, (Below.refl _ _).alloc (Nat.le_refl _) _⟩
  go_enter Tryz.func57, Tryz.ntmps57
  go_wp2_with fail
  go_ret
  exact ⟨rfl, HE.out⟩
def numsText (l : List Int) : List UInt8 := l.flatMap fun k => (32 : UInt8) :: Lib.itoa k
theorem nums_take {l : List Int} {j : Nat} (hj : j < l.length) : numsText (l.take (j + 1)) = numsText (l.take j) ++ 32 :: Lib.itoa l[j] := by
  unfold numsText
  rw [List.take_succ_eq_append_getElem hj, List.flatMap_append]; simp
theorem job_take {l : List Nod} {j : Nat} (hj : j < l.length) : jobText (l.take (j + 1)) = jobText (l.take j) ++ nodText l[j] := by
  unfold jobText
  rw [List.take_succ_eq_append_getElem hj, List.flatMap_append]; simp
theorem str_eqJ {a : ByteArray} {l : List UInt8} (h : a.data.toList = l) : a = ⟨l.toArray⟩ := by
  apply ByteArray.ext
  apply Array.toList_inj.1
  rw [h]
theorem size_listJ (s : ByteArray) : s.data.toList.length = s.size := Array.length_toList
set_option maxRecDepth 100000 in
set_option maxHeartbeats 8000000 in
theorem rprint_ok (F : Nat → Prop) (A : Option Addr) (c : Nat) (l : List Nod) (w : World) (hl : SlA nodE F w A c l) (hF : ∀ k, F k → k < w.heap.size) (hfit : ∀ n ∈ l, Fit n ∧ I64n n) (h12 : l.length ≤ 12) :
    Calls Tryz.prog 22 #[.slice A l.length c] w fun e w' => e = .returned (.string ⟨(jobText l).toArray⟩) ∧ Below w.heap.size w w' := by
  have HL := Lib.hid hl
  have HF := Lib.hid hF
  have HFIT := Lib.hid hfit
  clear hl hF hfit
  go_enter Tryz.func22, Tryz.ntmps22
  go_wp2_with fail
  refine (rkinds_ok w).mono ?_
  rintro e w1 ⟨rfl, hk1, hb1⟩
  have HK1 := Lib.hid hk1
  have HB1 := Lib.hid hb1
  have hK1 : w.heap.size < w1.heap.size := block_lt hk1
  have HKK := Lib.hid hK1
  clear hk1 hb1 hK1
  obtain ⟨K, hKe⟩ : ∃ K, K = w.heap.size := ⟨_, rfl⟩
  rw [← hKe] at HK1 HKK ⊢
  have HKE := Lib.hid hKe
  clear hKe
  go_wp2_with fail
  go_loopw [4, 5] (fun sv iv wr => ∃ (i : Nat) (S : ByteArray), i ≤ l.length ∧ iv = .int .i64 i ∧ sv = .string S ∧ S.size ≤ 238 * i ∧ Hid (S.data.toList = jobText (l.take i)) ∧ Hid (Below w1.heap.size w1 wr)) (fun _ iv _ => l.length - (intOf iv).toNat)
  case atStart => exact ⟨0, ⟨#[]⟩, Nat.zero_le _, rfl, rfl, Nat.le_refl _, rfl, Below.refl _ _⟩
  case round =>
    obtain ⟨i, S, hi, rfl, rfl, hS, HS, HB⟩ := hrel
    by_cases hlt : i < l.length
    · have HLX : Hid (∀ W, Below w1.heap.size w1 W → SlA nodE F W A c l) := fun W hW => (HL.out.keep (fun j hj => HB1.out.block j (HF.out j hj))).keep (fun j hj => hW.block j (by have := HF.out j hj; have := HKK.out; have := HKE.out; omega))
      have HKX : Hid (∀ W, Below w1.heap.size w1 W → ∀ k : Nat, k < 11 → W.cell? ⟨K, k, none⟩ = some (.string ⟨(kindName (k : Int)).toArray⟩)) := fun W hW k hk => kinds_cell ((hW.block K HKK.out).trans HK1.out) hk
      obtain ⟨hfit, hi64⟩ := HFIT.out l[i] (List.getElem_mem hlt)
      have HT := Lib.hid (job_take hlt)
      obtain ⟨b, off, A', c', rfl, hFb, x0, x1, x2, x3, htm, hki, hni, hfr⟩ := (HLX.out wr HB.out).nod_ hlt
      have HNX : Hid (∀ W, Below w1.heap.size w1 W → W.cell? ⟨b, off + i * 4, none⟩ = some (.int .i64 l[i].kind) ∧ W.cell? ⟨b, off + i * 4 + 1, none⟩ = some (.slice A' l[i].from_.length c') ∧ W.cell? ⟨b, off + i * 4 + 2, none⟩ = some (.string l[i].text) ∧ W.cell? ⟨b, off + i * 4 + 3, none⟩ = some (.int .i64 l[i].n) ∧ SlA (intE .i64) F W A' c' l[i].from_) := fun W hW => by
        have hbl := HF.out b hFb
        have hk1 := HKK.out
        have hke := HKE.out
        have hc : ∀ j, W.cell? ⟨b, j, none⟩ = wr.cell? ⟨b, j, none⟩ := fun j => (World.cell?_of_block (a := ⟨b, j, none⟩) (hW.block b (by omega))).trans (World.cell?_of_block (a := ⟨b, j, none⟩) (HB.out.block b (by omega))).symm
        refine ⟨(hc _).trans x0, (hc _).trans x1, (hc _).trans x2, (hc _).trans x3, hfr.keep fun j hj => ?_⟩
        have hjl := HF.out j hj
        exact (hW.block j (by omega)).trans (HB.out.block j (by omega)).symm
      obtain ⟨nd, hnd⟩ : ∃ nd, nd = l[i] := ⟨_, rfl⟩
      rw [← hnd] at hfit hi64 HT HNX
      clear hnd x0 x1 x2 x3 htm hki hni hfr
      obtain ⟨kd, hkd⟩ : ∃ kd : Nat, nd.kind = (kd : Int) := ⟨nd.kind.toNat, by have := hfit.k1; omega⟩
      have hkd1 : kd < 11 := by have := hfit.k2; omega
      obtain ⟨x0, x1, x2, x3, _⟩ := HNX.out wr HB.out
      rw [hkd] at x0
      have y0 := HKX.out wr HB.out kd hkd1
      have HKD := Lib.hid hkd
      have HFT := Lib.hid hfit
      have HI64 := Lib.hid hi64
      obtain ⟨KN, hKN, hKNs, hKNl⟩ : ∃ KN : ByteArray, KN = ⟨(kindName (kd : Int)).toArray⟩ ∧ KN.size ≤ 6 ∧ KN.data.toList = kindName (kd : Int) := ⟨_, rfl, by show (kindName (kd : Int)).toArray.size ≤ 6; simpa using kindName_len _, by simp⟩
      rw [← hKN] at y0
      have HKN := Lib.hid hKNl
      have HLT := Lib.hid hlt
      clear hkd hfit hi64 hKN hKNl
      go_wp2_with fail
      have HS0 : Hid ((S ++ KN).data.toList = S.data.toList ++ kindName (kd : Int)) := by show _ = _; rw [← HKN.out]; simp
      have hS0 : (S ++ KN).size ≤ 238 * i + 6 := by rw [ByteArray.size_append]; omega
      generalize S ++ KN = S0 at *
      clear x0 x1 x2 x3 y0 hS
      go_loopw [4, 6] (fun sv jv wx => ∃ (j : Nat) (S2 : ByteArray), j ≤ nd.from_.length ∧ jv = .int .i64 j ∧ sv = .string S2 ∧ S2.size ≤ 238 * i + 6 + 22 * j ∧ Hid (S2.data.toList = S.data.toList ++ kindName (kd : Int) ++ numsText (nd.from_.take j)) ∧ Hid (Below w1.heap.size w1 wx)) (fun _ jv _ => nd.from_.length - (intOf jv).toNat)
      case atStart => exact ⟨0, S0, Nat.zero_le _, rfl, rfl, by omega, by show _ = _; rw [HS0.out]; simp [numsText], HB⟩
      case round =>
        obtain ⟨j, S2, hj, rfl, rfl, hS2, HS2, HB2⟩ := hrel
        have hfl := HFT.out.fr
        obtain ⟨x0, x1, x2, x3, hfr⟩ := HNX.out wr HB2.out
        rw [HKD.out] at x0
        by_cases hlj : j < nd.from_.length
        · obtain ⟨bf, of_, rfl, _, hcf, _⟩ := hfr.int_ hlj
          have HT2 := Lib.hid (nums_take hlj)
          have hff := HI64.out.1 nd.from_[j] (List.getElem_mem hlj)
          generalize nd.from_[j] = f at hcf HT2 hff
          obtain ⟨D, hD, hDs, hDl⟩ : ∃ D : ByteArray, D = ⟨(Lib.itoa f).toArray⟩ ∧ D.size ≤ 21 ∧ D.data.toList = Lib.itoa f := ⟨_, rfl, by show (Lib.itoa f).toArray.size ≤ 21; simpa using Go.Lib.itoa_length_le f hff.1 hff.2, by simp⟩
          have HDG := Lib.hid (digits_ok f wr hff)
          rw [← hD] at HDG
          have HDL := Lib.hid hDl
          clear hD hDl hff hfr
          go_wp2_with fail
          refine HDG.out.mono ?_
          rintro e w3 ⟨rfl, hb3⟩
          have HB3 := Lib.hid (HB2.out.trans (hb3.mono HB2.out.size))
          clear hb3 HDG x0 x1 x2 x3 hcf
          go_wp2_with fail
          go_roundw
          case rel =>
            refine ⟨j + 1, S2 ++ ⟨#[32]⟩ ++ D, by omega, by go_num, rfl, ?_, ?_, HB3⟩
            · rw [ByteArray.size_append, ByteArray.size_append]; have : (⟨#[32]⟩ : ByteArray).size = 1 := rfl; omega
            · show _ = _
              rw [HT2.out]; simp [HS2.out, HDL.out]
          case measure => simp [intOf]; omega
        · have dj : decide (j < nd.from_.length) = false := decide_eq_false hlj
          have e : nd.from_.take j = nd.from_ := List.take_of_length_le (by omega)
          rw [e] at HS2
          have hS3 : S2.size ≤ 238 * i + 94 := by omega
          have htx := HFT.out.tx
          clear e hlj hj hS2 hS0 hfr
          go_wp2_with fail
          refine (rcounted_ok (kd : Int) wr).mono ?_
          rintro e w3 ⟨rfl, rfl⟩
          -- the number, where one is counted
          have HCN : Hid (∀ b, b = counted (kd : Int) → nodHead nd = kindName (kd : Int) ++ numsText nd.from_ ++ (if b then 32 :: Lib.itoa nd.n else [])) := fun b hb => by
            unfold nodHead numsOf
            rw [HKD.out, ← hb]
            cases b <;> simp [numsText]
          have HTX : Hid (∀ b, b = texted (kd : Int) → nodText nd = nodHead nd ++ (if b then 32 :: nd.text.data.toList else []) ++ [10]) := fun b hb => by
            unfold nodText; rw [HKD.out, ← hb]
          obtain ⟨bc, hbc⟩ : ∃ bc, bc = counted (kd : Int) := ⟨_, rfl⟩
          have HC2 := Lib.hid (HCN.out bc hbc)
          rw [← hbc]
          clear hbc HCN
          have htl : nd.text.data.toList.length = nd.text.size := size_listJ _
          cases bc with
          | true =>
            have hnn := HI64.out.2
            obtain ⟨D, hD, hDs, hDl⟩ : ∃ D : ByteArray, D = ⟨(Lib.itoa nd.n).toArray⟩ ∧ D.size ≤ 21 ∧ D.data.toList = Lib.itoa nd.n := ⟨_, rfl, by show (Lib.itoa nd.n).toArray.size ≤ 21; simpa using Go.Lib.itoa_length_le nd.n hnn.1 hnn.2, by simp⟩
            have HDG := Lib.hid (digits_ok nd.n wr hnn)
            rw [← hD] at HDG
            have HDL := Lib.hid hDl
            clear hD hDl hnn
            go_wp2_with fail
            refine HDG.out.mono ?_
            rintro e w3 ⟨rfl, hb3⟩
            have HB3 := Lib.hid (HB2.out.trans (hb3.mono HB2.out.size))
            clear hb3 HDG x0 x1 x2 x3
            obtain ⟨x0, x1, x2, x3, _⟩ := HNX.out w3 HB3.out
            rw [HKD.out] at x0
            go_wp2_with fail
            refine (rtexted_ok (kd : Int) w3).mono ?_
            rintro e w4 ⟨rfl, rfl⟩
            obtain ⟨bt, hbt⟩ : ∃ bt, bt = texted (kd : Int) := ⟨_, rfl⟩
            have HT3 := Lib.hid (HTX.out bt hbt)
            rw [← hbt]
            clear hbt HTX
            cases bt with
            | true =>
              go_wp2_with fail
              go_roundw
              case rel =>
                refine ⟨i + 1, S2 ++ ⟨#[32]⟩ ++ D ++ ⟨#[32]⟩ ++ nd.text ++ ⟨#[10]⟩, by omega, by go_num, rfl, ?_, ?_, HB3⟩
                · simp only [ByteArray.size_append]; have : (⟨#[32]⟩ : ByteArray).size = 1 := rfl; have : (⟨#[10]⟩ : ByteArray).size = 1 := rfl; omega
                · show _ = _
                  rw [HT.out, HT3.out, HC2.out]; simp [HS2.out, HDL.out, HS.out]
              case measure => simp [intOf]; omega
            | false =>
              go_wp2_with fail
              go_roundw
              case rel =>
                refine ⟨i + 1, S2 ++ ⟨#[32]⟩ ++ D ++ ⟨#[10]⟩, by omega, by go_num, rfl, ?_, ?_, HB3⟩
                · simp only [ByteArray.size_append]; have : (⟨#[32]⟩ : ByteArray).size = 1 := rfl; have : (⟨#[10]⟩ : ByteArray).size = 1 := rfl; omega
                · show _ = _
                  rw [HT.out, HT3.out, HC2.out]; simp [HS2.out, HDL.out, HS.out]
              case measure => simp [intOf]; omega
          | false =>
            go_wp2_with fail
            refine (rtexted_ok (kd : Int) wr).mono ?_
            rintro e w4 ⟨rfl, rfl⟩
            obtain ⟨bt, hbt⟩ : ∃ bt, bt = texted (kd : Int) := ⟨_, rfl⟩
            have HT3 := Lib.hid (HTX.out bt hbt)
            rw [← hbt]
            clear hbt HTX
            cases bt with
            | true =>
              go_wp2_with fail
              go_roundw
              case rel =>
                refine ⟨i + 1, S2 ++ ⟨#[32]⟩ ++ nd.text ++ ⟨#[10]⟩, by omega, by go_num, rfl, ?_, ?_, HB2⟩
                · simp only [ByteArray.size_append]; have : (⟨#[32]⟩ : ByteArray).size = 1 := rfl; have : (⟨#[10]⟩ : ByteArray).size = 1 := rfl; omega
                · show _ = _
                  rw [HT.out, HT3.out, HC2.out]; simp [HS2.out, HS.out]
              case measure => simp [intOf]; omega
            | false =>
              go_wp2_with fail
              go_roundw
              case rel =>
                refine ⟨i + 1, S2 ++ ⟨#[10]⟩, by omega, by go_num, rfl, ?_, ?_, HB2⟩
                · simp only [ByteArray.size_append]; have : (⟨#[10]⟩ : ByteArray).size = 1 := rfl; omega
                · show _ = _
                  rw [HT.out, HT3.out, HC2.out]; simp [HS2.out, HS.out]
              case measure => simp [intOf]; omega
    · have dj : decide (i < l.length) = false := decide_eq_false hlt
      have e : l.take i = l := List.take_of_length_le (by omega)
      rw [e] at HS
      have HB3 := Lib.hid (HB1.out.trans (HB.out.mono HB1.out.size))
      clear e hi hlt
      go_wp2_with fail
      go_ret
      exact ⟨congrArg (fun x => Ending.returned (Value.string x)) (str_eqJ HS.out), HB3.out⟩
end Go.Proofs.YtfndhfekbbbliaaGreatDoor

/-
  The reference's Ends, Job, Of. Conditions: where the job lies.
-/
namespace Go.Proofs.YtfndhfekbbbliaaGreatDoor
open Go.RowKit Go.ChangeShapes Go.WideShapes
set_option linter.unusedVariables false

set_option maxRecDepth 100000 in
theorem rends_ok (F : Nat → Prop) (A : Option Addr) (c : Nat) (l : List Nod) (w : World) (hl : SlA nodE F w A c l) :
    Calls Tryz.prog 54 #[.slice A l.length c] w fun e w' => e = .returned (.int .i64 (endsErr l)) ∧ w = w' := by
  have HL := Lib.hid hl
  have hle := hl.le
  clear hl
  go_enter Tryz.func54, Tryz.ntmps54
  go_wp2_with fail
  go_loop [3, 4, 5] (fun av bv jv => ∃ (j : Nat) (a b : Bool), j ≤ l.length ∧ av = .bool a ∧ bv = .bool b ∧ jv = .int .i64 j ∧ Hid (a = hasKind (l.take j) 1 ∧ b = hasKind (l.take j) 10)) (fun _ _ jv => l.length - (intOf jv).toNat)
  case atStart => exact ⟨0, false, false, Nat.zero_le _, rfl, rfl, rfl, rfl, rfl⟩
  case round =>
    obtain ⟨j, a, b, hj, rfl, rfl, rfl, HJ⟩ := hrel
    by_cases hlt : j < l.length
    · obtain ⟨b0, off, A', c', rfl, hFb, x0, x1, x2, x3, htm, hki, hni, hfr⟩ := HL.out.nod_ hlt
      have HT : Hid (hasKind (l.take (j + 1)) 1 = (a || (l[j].kind == 1)) ∧ hasKind (l.take (j + 1)) 10 = (b || (l[j].kind == 10))) := by
        rw [HJ.out.1, HJ.out.2]
        exact ⟨hasKind_take l 1 hlt, hasKind_take l 10 hlt⟩
      generalize l[j].kind = kd at x0 HT
      clear x1 x2 x3 htm hki hni hfr hFb HJ
      cases a
      all_goals
        cases b
        all_goals
          go_wp2_with fail
          go_round
          case rel => exact ⟨j + 1, _, _, by omega, rfl, rfl, by go_num, by have := HT.out; simp at this; simp [Hid, this]⟩
          case measure => simp [intOf]; omega
    · have dj : decide (j < l.length) = false := decide_eq_false hlt
      have e : l.take j = l := List.take_of_length_le (by omega)
      rw [e] at HJ
      have HE : Hid (endsErr l = if a = true ∧ b = true then 0 else 6) := by show _ = _; unfold endsErr; rw [← HJ.out.1, ← HJ.out.2]
      clear HJ hlt hj e
      cases a
      all_goals
        cases b
        all_goals
          go_wp2_with fail
          go_ret
          exact ⟨by rw [HE.out]; rfl, rfl⟩
set_option maxRecDepth 100000 in
theorem rjob_ok (F : Nat → Prop) (A : Option Addr) (c : Nat) (l : List Nod) (w : World) (hl : SlA nodE F w A c l) (hF : ∀ k, F k → k < w.heap.size) :
    Calls Tryz.prog 20 #[.slice A l.length c] w fun e w' => e = .returned (.int .i64 (jobErr l)) ∧ Below w.heap.size w w' := by
  have HL := Lib.hid hl
  have HF := Lib.hid hF
  have hle := hl.le
  clear hl hF
  by_cases h12 : 12 < l.length
  · have d1 : decide ((12 : Int) < (l.length : Int)) = true := decide_eq_true (by omega)
    have HE : Hid (jobErr l = 4) := by show _ = _; unfold jobErr; rw [if_pos h12]
    clear h12
    go_enter Tryz.func20, Tryz.ntmps20
    go_wp2_with fail
    go_ret
    exact ⟨by rw [HE.out]; rfl, Below.refl _ _⟩
  have d1 : decide ((12 : Int) < (l.length : Int)) = false := decide_eq_false (by omega)
  have HE : Hid (jobErr l = if nodesErr l 0 l ≠ 0 then nodesErr l 0 l else endsErr l) := by show _ = _; unfold jobErr; rw [if_neg h12]
  clear h12
  go_enter Tryz.func20, Tryz.ntmps20
  go_wp2_with fail
  go_loopw [3] (fun jv wr => ∃ j : Nat, j ≤ l.length ∧ jv = .int .i64 j ∧ Hid (nodesErr l j (l.drop j) = nodesErr l 0 l) ∧ Hid (Below w.heap.size w wr)) (fun jv _ => l.length - (intOf jv).toNat)
  case atStart => exact ⟨0, Nat.zero_le _, rfl, rfl, Below.refl _ _⟩
  case round =>
    obtain ⟨j, hj, rfl, HJ, HB⟩ := hrel
    have HL2 := Lib.hid (HL.out.keep (fun i hi => HB.out.block i (HF.out i hi)))
    have HF2 : Hid (∀ k, F k → k < wr.heap.size) := fun k hk => Nat.lt_of_lt_of_le (HF.out k hk) HB.out.size
    by_cases hlt : j < l.length
    · have HN := Lib.hid (rnode_ok F A c l j hlt wr HL2.out HF2.out)
      obtain ⟨ne, hne⟩ : ∃ ne, ne = nodeErr l j l[j] := ⟨_, rfl⟩
      rw [← hne] at HN
      have HJ2 : Hid (nodesErr l 0 l = if ne ≠ 0 then ne else nodesErr l (j + 1) (l.drop (j + 1))) := by
        show _ = _; rw [← HJ.out, nodes_drop l hlt, ← hne]
      clear hne HJ
      go_wp2_with fail
      refine HN.out.mono ?_
      rintro e w2 ⟨rfl, hb⟩
      have HB2 := Lib.hid (HB.out.trans (hb.mono HB.out.size))
      clear hb HN
      by_cases h0 : ne = 0
      · subst h0
        have HJ3 : Hid (nodesErr l (j + 1) (l.drop (j + 1)) = nodesErr l 0 l) := by show _ = _; rw [HJ2.out]; simp
        go_wp2_with fail
        go_roundw
        case rel => exact ⟨j + 1, by omega, by go_num, HJ3, HB2⟩
        case measure => simp [intOf]; omega
      · have d0 : (ne != 0) = true := by simp [h0]
        have HE2 : Hid (jobErr l = ne) := by show _ = _; rw [HE.out, HJ2.out, if_pos h0, if_pos h0]
        clear h0 HJ2
        go_wp2_with fail
        go_ret
        exact ⟨by rw [HE2.out]; rfl, HB2.out⟩
    · have dj : decide (j < l.length) = false := decide_eq_false hlt
      have HE2 : Hid (jobErr l = endsErr l) := by
        show _ = _
        have : nodesErr l 0 l = 0 := by rw [← HJ.out, List.drop_eq_nil_of_le (by omega)]; rfl
        rw [HE.out, this]; simp
      clear HJ hlt hj
      go_wp2_with fail
      refine (rends_ok F A c l wr HL2.out).mono ?_
      rintro e w2 ⟨rfl, rfl⟩
      obtain ⟨ee, hee⟩ : ∃ ee, ee = endsErr l := ⟨_, rfl⟩
      rw [← hee] at HE2 ⊢
      clear hee
      go_wp2_with fail
      go_ret
      exact ⟨by rw [HE2.out]; rfl, HB.out⟩
set_option maxRecDepth 100000 in
set_option maxHeartbeats 2000000 in
theorem rof_ok (F : Nat → Prop) (A : Option Addr) (c : Nat) (l : List Nod) (k : Int) (w : World) (hl : SlA nodE F w A c l) (hF : ∀ k, F k → k < w.heap.size) (h12 : l.length ≤ 100000) :
    Calls Tryz.prog 23 #[.slice A l.length c, .int .i64 k] w fun e w' => (∃ A' c', e = .returned (.slice A' (ofKind l k).length c') ∧ SlA (intE .i64) (fun j => w.heap.size ≤ j ∧ j < w'.heap.size) w' A' c' (ofKind l k)) ∧ Below w.heap.size w w' := by
  have HL := Lib.hid hl
  have hF2 := Lib.hid hF
  have hle := hl.le
  clear hl hF
  go_enter Tryz.func23, Tryz.ntmps23
  go_wp2_with fail
  go_loopw [5, 6] (fun v jv wr => ∃ j : Nat, j ≤ l.length ∧ jv = .int .i64 j ∧ Hid (wr.ownsRow w.heap.size 3 1 v (ofKind (l.take j) k).length (intV (ofKind (l.take j) k))) ∧ Hid (Below w.heap.size w wr)) (fun _ jv _ => l.length - (intOf jv).toNat)
  case atStart => exact ⟨0, Nat.zero_le _, rfl, World.ownsRow_nil _ _ _ _, Below.refl _ _⟩
  case round =>
    obtain ⟨j, hj, rfl, HR, HB⟩ := hrel
    by_cases hlt : j < l.length
    · obtain ⟨b, off, A', c', rfl, hFb, x0, x1, x2, x3, htm, hki, hni, hfr⟩ := (HL.out.keep (fun i hi => HB.out.block i (hF2.out i hi))).nod_ hlt
      have HT := Lib.hid (of_take l k hlt)
      have hm : (ofKind (l.take j) k).length ≤ j := Nat.le_trans (of_len _ _) (List.length_take_le _ _)
      clear hfr hki hni hFb htm x1 x2 x3
      generalize l[j].kind = kind at x0 HT
      generalize ofKind (l.take j) k = zs at HR HT hm
      cases hkk : (kind == k) with
      | false =>
        have HT2 : Hid (ofKind (l.take (j + 1)) k = zs) := by show _ = _; rw [HT.out, hkk]; simp
        go_wp2_with fail
        go_roundw
        case rel => exact ⟨j + 1, by omega, by go_num, by show World.ownsRow _ _ _ _ _ _ _; rw [HT2.out]; exact HR.out, HB⟩
        case measure => simp [intOf]; omega
      | true =>
        have HT2 : Hid (ofKind (l.take (j + 1)) k = zs ++ [(j : Int)]) := by show _ = _; rw [HT.out, hkk]; simp
        clear HT
        go_wp2_with (at_builtin; refine wpList_push rfl _ _ 38 rfl w.heap.size 3 (.int .i64 0) 1 8 Tryz.underlying38 info_int rfl (by decide) u5 zs.length (intV zs) rfl HR.out [.int .i64 j] rfl rfl ?_ ?_ ?_ HB.out.size HB.out (Nat.le_refl _) ?_)
        · rintro u hu; simp at hu; subst hu; rfl
        · unfold maxLen; omega
        · omega
        · intro v' w8 hown8 hg8 hb8 _
          have HR8 : Hid (w8.ownsRow w.heap.size 3 1 v' (ofKind (l.take (j + 1)) k).length (intV (ofKind (l.take (j + 1)) k))) := by
            show World.ownsRow _ _ _ _ _ _ _
            rw [HT2.out, List.length_append, show intV (zs ++ [(j : Int)]) = intV zs ++ [.int .i64 j] from by simp [intV]]; exact hown8
          have HB8 := Lib.hid hb8
          clear hown8 hg8 hb8 HT2
          go_wp2_with fail
          refine ⟨⟨j + 1, by omega, by congr 1, HR8, HB8⟩, ?_⟩
          simp [intOf]; omega
    · have dj : decide (j < l.length) = false := decide_eq_false hlt
      have e : l.take j = l := List.take_of_length_le (by omega)
      rw [e] at HR
      obtain ⟨A3, c3, rfl, hs3⟩ := row_new HR.out (fun x hx => WalkArith.wf_i64 (by have := of_mem hx; omega))
      have HS3 := Lib.hid hs3
      clear hs3 HR e hj hlt
      go_wp2_with fail
      go_ret
      exact ⟨⟨A3, c3, rfl, HS3.out⟩, HB.out⟩
end Go.Proofs.YtfndhfekbbbliaaGreatDoor

/-
  DERIVED: THE SHELF's CONTRACTS AT THIS DUMP, IN PLAIN WORDS (tools/lay-plain.mjs out of 'YtfndhfekbbbliaaGreatDoorLaysB0.lean', which tools/lay-shelf.mjs wrote): THE SAME DECLARATIONS UNDER THE SAME NAMES: 'import', 'namespace', 'open', 'def', 'theorem' AND NOTHING ELSE: no command of the shelf's: FOR A HAND-IN. Each laying: the table of numbers ('.._ren') and one theorem, a field a fact of the dump's own or the kernel's comparison; each contract: ONE APPLICATION.
-/
namespace Go.Proofs
open Go.Shelf
def Tryz.bstring_ren : Go.Shelf.Ren := ⟨fun | 169 => 64 | n => n, fun | 70 => 111 | 9 => 9 | 0 => 0 | 72 => 113 | 37 => 94 | 127 => 168 | 3 => 3 | 5 => 5 | n => n, fun | n => n⟩
theorem Tryz.bstring : Go.Proofs.Lays.n169 Tryz.prog Tryz.bstring_ren := {
  mixed := by kernel_rfl
  f169 := Tryz.func64.trans (congrArg some (by kernel_rfl))
  t0 := Tryz.underlying0
  a0 := Tryz.isAgg0
  z0 := Tryz.sizeOf0
  v0 := Tryz.zeroValue0
  t3 := Tryz.underlying3
  a3 := Tryz.isAgg3
  z3 := Tryz.sizeOf3
  v3 := Tryz.zeroValue3
  t9 := Tryz.underlying9
  a9 := Tryz.isAgg9
  z9 := Tryz.sizeOf9
  v9 := Tryz.zeroValue9
  t37 := Tryz.underlying94
  a37 := Tryz.isAgg94
  z37 := Tryz.sizeOf94
  v37 := Tryz.zeroValue94
  t70 := Tryz.underlying111
  a70 := Tryz.isAgg111
  z70 := Tryz.sizeOf111
  v70 := Tryz.zeroValue111
  t72 := Tryz.underlying113
  a72 := Tryz.isAgg113
  z72 := Tryz.sizeOf113
  v72 := Tryz.zeroValue113
  t127 := Tryz.underlying168
  a127 := Tryz.isAgg168
  z127 := Tryz.sizeOf168
  v127 := Tryz.zeroValue168 }
end Go.Proofs

/-
  A strings.Builder of the call's own: WriteString, WriteByte, String. Conditions: the text's length.
-/
namespace Go.Proofs.YtfndhfekbbbliaaGreatDoor
open Go.RowKit Go.Shelf
set_option linter.unusedVariables false

theorem bx_string : Builder.Extra Tryz.prog Tryz.bstring_ren where
  sizeBuilder := by kernel_rfl
  liesBuilder := by kernel_rfl
  t5 := Tryz.underlying5
  a5 := Tryz.isAgg5
  z5 := Tryz.sizeOf5
  v5 := Tryz.zeroValue5
  infoByte := by kernel_rfl
  cellsByte := by kernel_rfl
  sizeByte := by kernel_rfl
  neB5 := by decide
def BdAt (B b : Nat) (l : List UInt8) (w : World) : Prop := Lib.IsBuilder 113 5 B b (Lib.byteCells l) w
theorem BdAt.keepAll {B b : Nat} {l : List UInt8} {w w' : World} (h : BdAt B b l w) (hs : ∀ k, k < w.heap.size → w'.heap[k]? = w.heap[k]?) : BdAt B b l w' := by
  rcases h with ⟨hB, v, hb, ⟨hl, hown⟩, hne⟩ | ⟨hB, v, hb, ⟨hl, hown⟩, hne⟩
  · refine .inl ⟨hB, v, (hs _ (block_lt hb)).trans hb, ⟨hl, ?_⟩, hne⟩
    rcases hown with ⟨rfl, h2⟩ | ⟨g, cap, cur, rfl, h1, hg, hrest⟩
    · exact .inl ⟨rfl, h2⟩
    · exact .inr ⟨g, cap, cur, rfl, h1, (hs g (block_lt hg)).trans hg, hrest⟩
  · refine .inr ⟨hB, v, (hs _ (block_lt hb)).trans hb, ⟨hl, ?_⟩, hne⟩
    rcases hown with ⟨rfl, h2⟩ | ⟨g, cap, cur, rfl, h1, hg, hrest⟩
    · exact .inl ⟨rfl, h2⟩
    · exact .inr ⟨g, cap, cur, rfl, h1, (hs g (block_lt hg)).trans hg, hrest⟩
theorem BdAt.below {B b : Nat} {l : List UInt8} {w w' : World} (h : BdAt B b l w) (hb : Below w.heap.size w w') : BdAt B b l w' := h.keepAll hb.block
theorem BdAt.keepT {B b : Nat} {l : List UInt8} {w w' : World} (h : BdAt B b l w) (hs : ∀ (k : Nat) cs t fr, w.heap[k]? = some (.cells cs t fr) → t ≠ 3 → w'.heap[k]? = some (.cells cs t fr)) : BdAt B b l w' := by
  rcases h with ⟨hB, v, hb, ⟨hl, hown⟩, hne⟩ | ⟨hB, v, hb, ⟨hl, hown⟩, hne⟩
  · refine .inl ⟨hB, v, hs _ _ _ _ hb (by decide), ⟨hl, ?_⟩, hne⟩
    rcases hown with ⟨rfl, h2⟩ | ⟨g, cap, cur, rfl, h1, hg, hrest⟩
    · exact .inl ⟨rfl, h2⟩
    · exact .inr ⟨g, cap, cur, rfl, h1, hs _ _ _ _ hg (by decide), hrest⟩
  · refine .inr ⟨hB, v, hs _ _ _ _ hb (by decide), ⟨hl, ?_⟩, hne⟩
    rcases hown with ⟨rfl, h2⟩ | ⟨g, cap, cur, rfl, h1, hg, hrest⟩
    · exact .inl ⟨rfl, h2⟩
    · exact .inr ⟨g, cap, cur, rfl, h1, hs _ _ _ _ hg (by decide), hrest⟩
theorem BdAt.new (w : World) : BdAt w.heap.size w.heap.size [] (w.alloc (.cells #[.pointer none, .slice none 0 0] 113)) := Lib.fresh_isBuilder 113 5 w
theorem byteCells_app (a b : List UInt8) : Lib.byteCells (a ++ b) = Lib.byteCells a ++ Lib.byteCells b := Lib.byteCells_append a b
abbrev OKept (b : Nat) (w w' : World) : Prop := Lib.OthersKept 5 (some b) w w'
theorem OKept.row {b : Nat} {w w' : World} (h : OKept b w w') {k : Nat} {cs : Array Value} {t : TypeId} {fr : Nat × Nat} (hk : w.heap[k]? = some (.cells cs t fr)) (hb : k ≠ b) (ht : t ≠ 5) : w'.heap[k]? = some (.cells cs t fr) :=
  h k _ hk (fun e => hb (Option.some.inj e)) (fun c fz e => ht (by injection e))
theorem okept_put {b B n : Nat} {w w3 : World} {v : Value} {xs : List Value} (hown : w.ownsRow B 5 1 v n xs) (hg : w.grownBy w3 v.ownBlock) (u : Value) : OKept b w (w3.setCell ⟨b, 1, none⟩ u) := by
  intro k o hk hkb ho
  have h1 : (w3.setCell ⟨b, 1, none⟩ u).heap[k]? = w3.heap[k]? := Below.heap_setCell _ _ _ _ (fun e => hkb (by rw [e]))
  rw [h1, hg.block k (by rcases Nat.lt_or_ge k w.heap.size with h | h; exact h; rw [Array.getElem?_eq_none h] at hk; cases hk) ?_, hk]
  intro e
  rcases hown.2 with ⟨rfl, _⟩ | ⟨g, cap, cur, rfl, _, hgc, _⟩
  · simp [Value.ownBlock] at e
  · simp only [Value.ownBlock, Option.some.injEq] at e
    subst e
    rw [hgc] at hk
    exact ho _ _ (Option.some.inj hk).symm
theorem info_u8B : (Tryz.prog.info? 5).map (fun i => (i.zero, i.size, i.bytes)) = some (some (.int .u8 0), 1, 1) := by kernel_rfl
abbrev BdUsed (B b : Nat) (l : List UInt8) (w : World) : Prop := Lib.BuilderAt 113 5 B b (.pointer (some ⟨b, 0, none⟩)) (Lib.byteCells l) w
theorem size_builder : (Tryz.prog.info? 113).map (·.size) = some 2 := by kernel_rfl
set_option maxHeartbeats 1000000 in
set_option maxRecDepth 100000 in
theorem bd_copy (B b : Nat) (l : List UInt8) (w : World) (h : BdAt B b l w) :
    Calls Tryz.prog 102 #[.pointer (some ⟨b, 0, none⟩)] w fun e w' => e = .returned (.tuple #[]) ∧ BdUsed B b l w' ∧ Below B w w' ∧ OKept b w w' := by
  obtain ⟨j, hj, hjs⟩ := Option.map_eq_some_iff.1 size_builder
  rcases h with h | h
  · have c0 := h.cell0
    have f0 := h.frozen0
    have hsh := h.shape
    have HE : Hid (BdUsed B b l (w.setCell ⟨b, 0, none⟩ (.pointer (some ⟨b, 0, none⟩))) ∧ Below B w (w.setCell ⟨b, 0, none⟩ (.pointer (some ⟨b, 0, none⟩))) ∧ OKept b w (w.setCell ⟨b, 0, none⟩ (.pointer (some ⟨b, 0, none⟩)))) :=
      ⟨h.used _, (Below.refl B w).setCell (p := ⟨b, 0, none⟩) h.1 _, (Lib.OthersKept.refl _ _ w).setCell ⟨b, 0, none⟩ rfl _⟩
    clear h
    go_enter Tryz.func102, Tryz.ntmps102
    go_wp2
    rw [Lib.run_to_unsafe w ⟨b, 0, none⟩ Tryz.underlying111 Tryz.underlying186 hj (by rw [hjs]; decide) hsh (Nat.zero_lt_succ 1)]
    simp only [Result.andThen]
    rw [Oper.upon_value]
    go_wp2
    rw [run_callFunc_extern Tryz.func131 (by kernel_rfl) (by kernel_rfl) (by kernel_rfl) (e := Extern.AbiNoEscape.same) (by kernel_rfl)]
    rw [Lib.run_noEscape]
    simp only [Result.andThen]
    rw [Oper.upon_value]
    go_wp2
    rw [Lib.run_from_unsafe w ⟨b, 0, none⟩ Tryz.underlying186 Tryz.underlying111 hj hsh bx_string.liesBuilder]
    simp only [Result.andThen]
    rw [Oper.upon_value]
    go_wp2
    go_end0
    exact ⟨rfl, HE.out⟩
  · have c0 := h.cell0
    have H := Lib.hid h
    clear h
    go_enter Tryz.func102, Tryz.ntmps102
    go_wp2
    rw [Lib.run_neq_ptr_same w _ Tryz.underlying111 hj]
    go_wp2
    go_end0
    exact ⟨rfl, H.out, Below.refl _ _, Lib.OthersKept.refl _ _ _⟩
set_option maxRecDepth 100000 in
theorem bd_wstr (B b : Nat) (l : List UInt8) (s : ByteArray) (w : World) (h : BdAt B b l w) (hlen : l.length + s.size ≤ 1000000) (hB : B ≤ w.heap.size) :
    Calls Tryz.prog 58 #[.pointer (some ⟨b, 0, none⟩), .string s] w fun e w' => e = .returned (.tuple #[.int .i64 s.size, .nilIface]) ∧ BdAt B b (l ++ s.data.toList) w' ∧ Below B w w' ∧ OKept b w w' := by
  have HC := Lib.hid (bd_copy B b l w h)
  have HL := Lib.hid hlen
  clear h hlen
  go_enter Tryz.func58, Tryz.ntmps58
  go_wp2_with fail
  refine HC.out.mono ?_
  rintro e w1 ⟨rfl, hu, hb1, hk1⟩
  obtain ⟨hBb, v, hb, hown, hne⟩ := hu
  have hl : (Lib.byteCells l).length = l.length := Lib.byteCells_length l
  rw [hl] at hown
  have HO := Lib.hid hown
  have HK1 := Lib.hid hk1
  have HBR := Lib.hid hb
  have hB1 : B ≤ w1.heap.size := Nat.le_trans hB hb1.size
  have c1 : w1.cell? ⟨b, 1, none⟩ = some v := (cell_of_row w1 b 1 _ _ _ hb).trans rfl
  clear hown hk1 hb hne HC
  go_wp2_with (at_builtin; refine wpList_append_src rfl _ _ 94 9 rfl B 5 (.int .u8 0) 1 1 Tryz.underlying94 info_u8B rfl (by decide) v l.length (Lib.byteCells l) rfl HO.out _ rfl s.size (Lib.byteCells s.data.toList) (Src.ofString _ Tryz.underlying9 s) ?_ ?_ hB1 hb1 (Nat.le_refl _) ?_)
  · have := HL.out; unfold maxLen; omega
  · have := HL.out; omega
  · intro v' w2 hown2 hg2 hb2 _
    obtain ⟨A', n', c', rfl⟩ : ∃ A n c, v' = Value.slice A n c := by rcases hown2.2 with ⟨rfl, _⟩ | ⟨g, cap, cur, rfl, _⟩ <;> exact ⟨_, _, _, rfl⟩
    have hne2 := Lib.ownBlock_ne HO.out HBR.out (by decide)
    have hrow : w2.heap[b]? = some (.cells #[.pointer (some ⟨b, 0, none⟩), v] 113 (0, 0)) := (hg2.block b (block_lt HBR.out) (fun e => hne2 e.symm)).trans HBR.out
    have c2 : w2.cell? ⟨b, 1, none⟩ = some v := (cell_of_row w2 b 1 _ _ _ hrow).trans rfl
    have f2 : w2.frozen? ⟨b, 1, none⟩ = false := by simp [World.frozen?, hrow]
    have HE : Hid (BdAt B b (l ++ s.data.toList) (w2.setCell ⟨b, 1, none⟩ (.slice A' n' c')) ∧ Below B w (w2.setCell ⟨b, 1, none⟩ (.slice A' n' c')) ∧ OKept b w (w2.setCell ⟨b, 1, none⟩ (.slice A' n' c'))) := by
      refine ⟨.inr (Lib.BuilderAt.put hBb hrow ?_ (by decide)), hb2.setCell (p := ⟨b, 1, none⟩) hBb _, HK1.out.trans (okept_put HO.out hg2 _)⟩
      rw [byteCells_app]
      have e : (Lib.byteCells l ++ Lib.byteCells s.data.toList).length = l.length + s.size := by rw [List.length_append, Lib.byteCells_length, Lib.byteCells_length]; simp
      rw [e]; exact hown2
    clear HO HK1 HBR hown2 hg2 hb2 hne2 hrow
    go_wp2_with fail
    go_ret2
    exact ⟨rfl, HE.out⟩
set_option maxRecDepth 100000 in
theorem bd_wbyte (B b : Nat) (l : List UInt8) (c : UInt8) (w : World) (h : BdAt B b l w) (hlen : l.length + 1 ≤ 1000000) (hB : B ≤ w.heap.size) :
    Calls Tryz.prog 63 #[.pointer (some ⟨b, 0, none⟩), .int .u8 (c.toNat : Int)] w fun e w' => e = .returned .nilIface ∧ BdAt B b (l ++ [c]) w' ∧ Below B w w' ∧ OKept b w w' := by
  have HC := Lib.hid (bd_copy B b l w h)
  have HL := Lib.hid hlen
  clear h hlen
  obtain ⟨ci, hci⟩ : ∃ ci : Int, ci = (c.toNat : Int) := ⟨_, rfl⟩
  rw [← hci]
  have HCI := Lib.hid hci
  clear hci
  go_enter Tryz.func63, Tryz.ntmps63
  go_wp2_with fail
  refine HC.out.mono ?_
  rintro e w1 ⟨rfl, hu, hb1, hk1⟩
  obtain ⟨hBb, v, hb, hown, hne⟩ := hu
  have hl : (Lib.byteCells l).length = l.length := Lib.byteCells_length l
  rw [hl] at hown
  have HO := Lib.hid hown
  have HK1 := Lib.hid hk1
  have HBR := Lib.hid hb
  have hB1 : B ≤ w1.heap.size := Nat.le_trans hB hb1.size
  have c1 : w1.cell? ⟨b, 1, none⟩ = some v := (cell_of_row w1 b 1 _ _ _ hb).trans rfl
  clear hown hk1 hb hne HC
  go_wp2_with (at_builtin; refine wpList_push rfl _ _ 94 rfl B 5 (.int .u8 0) 1 1 Tryz.underlying94 info_u8B rfl (by decide) v l.length (Lib.byteCells l) rfl HO.out [.int .u8 ci] rfl rfl (by simp [Value.oneCell']) (by have := HL.out; unfold maxLen; omega) (by have := HL.out; omega) hB1 hb1 (Nat.le_refl _) ?_)
  intro v' w2 hown2 hg2 hb2 _
  obtain ⟨A', n', c', rfl⟩ : ∃ A n c, v' = Value.slice A n c := by rcases hown2.2 with ⟨rfl, _⟩ | ⟨g, cap, cur, rfl, _⟩ <;> exact ⟨_, _, _, rfl⟩
  have hne2 := Lib.ownBlock_ne HO.out HBR.out (by decide)
  have hrow : w2.heap[b]? = some (.cells #[.pointer (some ⟨b, 0, none⟩), v] 113 (0, 0)) := (hg2.block b (block_lt HBR.out) (fun e => hne2 e.symm)).trans HBR.out
  have c2 : w2.cell? ⟨b, 1, none⟩ = some v := (cell_of_row w2 b 1 _ _ _ hrow).trans rfl
  have f2 : w2.frozen? ⟨b, 1, none⟩ = false := by simp [World.frozen?, hrow]
  have HE : Hid (BdAt B b (l ++ [c]) (w2.setCell ⟨b, 1, none⟩ (.slice A' n' c')) ∧ Below B w (w2.setCell ⟨b, 1, none⟩ (.slice A' n' c')) ∧ OKept b w (w2.setCell ⟨b, 1, none⟩ (.slice A' n' c'))) := by
    refine ⟨.inr (Lib.BuilderAt.put hBb hrow ?_ (by decide)), hb2.setCell (p := ⟨b, 1, none⟩) hBb _, HK1.out.trans (okept_put HO.out hg2 _)⟩
    rw [byteCells_app]
    have e : (Lib.byteCells l ++ Lib.byteCells [c]).length = l.length + 1 := by rw [List.length_append, Lib.byteCells_length, Lib.byteCells_length]; rfl
    rw [e]
    rw [HCI.out] at hown2
    exact hown2
  clear HO HK1 HBR hown2 hg2 hb2 hne2 hrow
  go_wp2_with fail
  go_ret
  exact ⟨rfl, HE.out⟩
theorem bd_string (B b : Nat) (l : List UInt8) (w : World) (h : BdAt B b l w) (hB : B ≤ w.heap.size) :
    Calls Tryz.prog 64 #[.pointer (some ⟨b, 0, none⟩)] w fun e w' => e = .returned (.string ⟨l.toArray⟩) ∧ Below B w w' :=
  (Any.Builder_String_any_k Tryz.bstring bx_string B b l w (Lib.IsBuilderF.of h) hB).mono fun e w' ⟨h1, _, h3, _⟩ => ⟨h1, h3⟩
end Go.Proofs.YtfndhfekbbbliaaGreatDoor

/-
  Words of my own: several owned rows at once, no two in one block ('Forest'), and what becomes of them where one is turned. No condition: plain definitions and lemmas over any program.
-/
namespace Go.Proofs.YtfndhfekbbbliaaGreatDoor
open Go.RowKit Go.ChangeShapes Go.WideShapes
set_option linter.unusedVariables false

structure ORow where
  e : TypeId
  size : Nat
  A : Option Addr
  cap : Nat
  n : Nat
  xs : List Value
def ORow.At (r : ORow) (w : World) : Prop := OwnS w r.e r.size r.A r.cap r.n r.xs
def Sep (a b : Option Addr) : Prop := ∀ k, blk a = some k → blk b ≠ some k
theorem Sep.symm {a b : Option Addr} (h : Sep a b) : Sep b a := fun k hb ha => h k ha hb
theorem Sep.none_left (b : Option Addr) : Sep none b := fun k h => by cases h
theorem Sep.none_right (a : Option Addr) : Sep a none := fun k _ h => by cases h

structure Forest (w : World) (rs : List ORow) : Prop where
  at_ : ∀ r ∈ rs, r.At w
  sep : rs.Pairwise fun r s => Sep r.A s.A
/-- The blocks of the rows. -/
def forF (rs : List ORow) (k : Nat) : Prop := ∃ r ∈ rs, blk r.A = some k

theorem Forest.nil (w : World) : Forest w [] := ⟨nofun, .nil⟩
theorem Forest.lt {w : World} {rs : List ORow} (h : Forest w rs) : ∀ k, forF rs k → k < w.heap.size := by
  rintro k ⟨r, hr, e⟩
  exact (h.at_ r hr).lt k e
theorem Forest.perm {w : World} {rs ss : List ORow} (h : Forest w rs) (hp : rs.Perm ss) : Forest w ss :=
  ⟨fun r hr => h.at_ r (hp.mem_iff.2 hr), (hp.pairwise_iff (fun {_ _} h => h.symm)).1 h.sep⟩
theorem Forest.tail {w : World} {r : ORow} {rs : List ORow} (h : Forest w (r :: rs)) : Forest w rs :=
  ⟨fun s hs => h.at_ s (List.mem_cons_of_mem _ hs), (List.pairwise_cons.1 h.sep).2⟩
theorem Forest.head {w : World} {r : ORow} {rs : List ORow} (h : Forest w (r :: rs)) : r.At w := h.at_ r (List.mem_cons_self)
/-- An empty row beside them. -/
theorem Forest.addNil {w : World} {rs : List ORow} (h : Forest w rs) (e : TypeId) (size : Nat) : Forest w (⟨e, size, none, 0, 0, []⟩ :: rs) :=
  ⟨fun r hr => by
    rcases List.mem_cons.1 hr with rfl | hr
    · exact OwnS.nil w e size
    · exact h.at_ r hr, List.pairwise_cons.2 ⟨fun s _ => Sep.none_left _, h.sep⟩⟩
/-- Kept where their blocks are kept. -/
theorem Forest.keep {w w' : World} {rs : List ORow} (h : Forest w rs) (hs : ∀ k, forF rs k → w'.heap[k]? = w.heap[k]?) : Forest w' rs :=
  ⟨fun r hr => (h.at_ r hr).keep fun k hk => hs k ⟨r, hr, hk⟩, h.sep⟩
theorem Forest.below {w w' : World} {rs : List ORow} (h : Forest w rs) (hb : Below w.heap.size w w') : Forest w' rs := h.keep fun k hk => hb.block k (h.lt k hk)
theorem Forest.drewN {w : World} {rs : List ORow} (h : Forest w rs) (q : Nat) : Forest (w.drewN q) rs := h.keep fun _ _ => rfl
theorem Forest.frm {w w' : World} {rs : List ORow} {F : Nat → Prop} (h : Forest w rs) (hf : Frm F w w') (hd : ∀ k, forF rs k → ¬ F k) : Forest w' rs := h.keep fun k hk => hf.block k (h.lt k hk) (hd k hk)
/-- The first row is turned. -/
theorem Forest.turn {w w' : World} {r r' : ORow} {rs : List ORow} (h : Forest w (r :: rs)) (hr : r'.At w') (hg : w.grownBy w' (blk r.A)) (hat : blk r'.A = blk r.A ∨ blk r'.A = none ∨ ∃ k, blk r'.A = some k ∧ w.heap.size ≤ k) : Forest w' (r' :: rs) := by
  have hs := (List.pairwise_cons.1 h.sep)
  refine ⟨fun s hs' => ?_, List.pairwise_cons.2 ⟨fun s hs' k e e2 => ?_, hs.2⟩⟩
  · rcases List.mem_cons.1 hs' with rfl | hs'
    · exact hr
    · exact (h.at_ s (List.mem_cons_of_mem _ hs')).grown hg fun k hk e => hs.1 s hs' k e hk
  · rcases hat with e1 | e1 | ⟨j, e1, hj⟩
    · exact hs.1 s hs' k (e1 ▸ e) e2
    · rw [e1] at e; cases e
    · rw [e1] at e; injection e with e
      have := (h.at_ s (List.mem_cons_of_mem _ hs')).lt k e2
      omega
/-- The first row is read otherwise, in the same block or in none. -/
theorem Forest.swap {w : World} {r r' : ORow} {rs : List ORow} (h : Forest w (r :: rs)) (hr : r'.At w) (hat : blk r'.A = blk r.A ∨ blk r'.A = none) : Forest w (r' :: rs) :=
  h.turn hr ⟨rfl, rfl, rfl, Nat.le_refl _, fun _ _ _ => rfl⟩ (hat.imp_right .inl)
theorem forF_turn {w : World} {r r' : ORow} {rs : List ORow} {k : Nat} (hat : blk r'.A = blk r.A ∨ blk r'.A = none ∨ ∃ k, blk r'.A = some k ∧ w.heap.size ≤ k) (h : forF (r' :: rs) k) : forF (r :: rs) k ∨ w.heap.size ≤ k := by
  obtain ⟨s, hs, e⟩ := h
  rcases List.mem_cons.1 hs with rfl | hs
  · rcases hat with e1 | e1 | ⟨j, e1, hj⟩
    · exact .inl ⟨r, List.mem_cons_self, e1 ▸ e⟩
    · rw [e1] at e; cases e
    · rw [e1] at e; injection e with e; omega
  · exact .inl ⟨s, List.mem_cons_of_mem _ hs, e⟩
theorem forF_perm {rs ss : List ORow} (hp : rs.Perm ss) {k : Nat} (h : forF rs k) : forF ss k := by
  obtain ⟨r, hr, e⟩ := h
  exact ⟨r, hp.mem_iff.1 hr, e⟩
/-- What is turned where the first row is. -/
theorem Forest.frmTurn {w w' : World} {r : ORow} {rs : List ORow} (hg : w.grownBy w' (blk r.A)) : Frm (forF (r :: rs)) w w' := Frm.ofGrown hg fun k e => ⟨r, List.mem_cons_self, e⟩

/-- A row in the midst is turned. -/
theorem Forest.turnMid {w w' : World} {r r' : ORow} {pre post : List ORow} (h : Forest w (pre ++ r :: post)) (hr : r'.At w') (hg : w.grownBy w' (blk r.A)) (hat : blk r'.A = blk r.A ∨ blk r'.A = none ∨ ∃ k, blk r'.A = some k ∧ w.heap.size ≤ k) : Forest w' (pre ++ r' :: post) :=
  ((h.perm List.perm_middle).turn hr hg hat).perm List.perm_middle.symm
theorem Forest.swapMid {w : World} {r r' : ORow} {pre post : List ORow} (h : Forest w (pre ++ r :: post)) (hr : r'.At w) (hat : blk r'.A = blk r.A ∨ blk r'.A = none) : Forest w (pre ++ r' :: post) :=
  ((h.perm List.perm_middle).swap hr hat).perm List.perm_middle.symm
theorem forF_mid {w : World} {r r' : ORow} {pre post : List ORow} {k : Nat} (hat : blk r'.A = blk r.A ∨ blk r'.A = none ∨ ∃ k, blk r'.A = some k ∧ w.heap.size ≤ k) (h : forF (pre ++ r' :: post) k) : forF (pre ++ r :: post) k ∨ w.heap.size ≤ k :=
  (forF_turn hat (forF_perm List.perm_middle h)).imp_left (forF_perm List.perm_middle.symm)

theorem wpList_push_S {P : Program} {ops : Array Oper} {rest : List Oper} {o : Oper} {a : Act} {Q : Exit → Act → World → Prop} {w0 : World} (hgd : o.guard = none) (s x : Operand) (t : TypeId)
    (ho : o.op = .call { callee := .builtin .append, args := #[s, x], argTypes := #[t, t] })
    (e : TypeId) (z : Value) (size bytes : Nat) (ht : P.underlying t = some (.slice e))
    (hinfo : (P.info? e).map (fun i => (i.zero, i.size, i.bytes)) = some (some z, size, bytes)) (hzs : z.cells.size = size) (hsz : 0 < size)
    (A : Option Addr) (cap n : Nat) (xs : List Value) (hs : a.eval s = .slice A n cap) (hown : OwnS w0 e size A cap n xs) (news : List Value) (hx : a.eval x = .slice (some ⟨w0.heap.size, 0, none⟩) 1 1) (hl : news.length = size) (h1 : ∀ u ∈ news, u.oneCell' = true)
    (h63 : n + 1 ≤ maxLen) (hbytes : (n + 1) * bytes ≤ 140737488355328)
    (h : ∀ A' cap' w', OwnS w' e size A' cap' (n + 1) (xs ++ news) → w0.grownBy w' (blk A) → (blk A' = blk A ∨ ∃ k, blk A' = some k ∧ w0.heap.size ≤ k) → wpList P ops Q rest (a.put o.dst (.slice A' (n + 1) cap')) w') :
    wpList P ops Q (o :: rest) a (w0.alloc (.cells news.toArray e)) := by
  refine wpList_plain hgd fun K hK => ?_
  obtain ⟨A', cap', w', hr, h2, h3, h5⟩ := run_push_S (P := P) w0 t o.type e z size bytes ht hinfo hzs hsz A cap n xs hown news hl h1 h63 hbytes
  unfold Oper.wp execOp
  simp only [ho, resolve, invoke, builtin, Sem.run_bind, Sem.run_pure, Result.andThen_ok, List.map_toArray, List.map_cons, List.map_nil, hs, hx, hr]
  exact hK _ _ (h A' cap' w' h2 h3 h5)
end Go.Proofs.YtfndhfekbbbliaaGreatDoor

/-
  Package job: the contract of Print. Conditions: where the job lies; the two variables of Atoi's errors hold errors; the table of powers of ten.
-/
namespace Go.Proofs.YtfndhfekbbbliaaGreatDoor
open Go.RowKit Go.Shelf
set_option linter.unusedVariables false

theorem str_eqB {a : ByteArray} {l : List UInt8} (h : a.data.toList = l) : a = ⟨l.toArray⟩ := by
  apply ByteArray.ext
  apply Array.toList_inj.1
  rw [h]
theorem size_listB (s : ByteArray) : s.data.toList.length = s.size := Array.length_toList
set_option maxRecDepth 100000 in
theorem iclone_ok (F : Nat → Prop) (A : Option Addr) (c : Nat) (l : List Int) (w : World) (h : SlA (intE .i64) F w A c l) (hF : ∀ k, F k → k < w.heap.size) (hn : l.length ≤ 1000000) :
    Calls Tryz.prog 60 #[.slice A l.length c] w fun e w' => ∃ A' c', e = .returned (.slice A' l.length c') ∧ OwnS w' 3 1 A' c' l.length (intV l) ∧ (∀ k, blk A' = some k → w.heap.size ≤ k) ∧ Below w.heap.size w w' := by
  have h1 := fun wx : World => Lib.run_eql_slice_nil (P := Tryz.prog) wx 38 3 A l.length c 0 0 Tryz.underlying38
  have H := Lib.hid h
  have HF := Lib.hid hF
  clear h hF
  cases A with
  | none =>
    have h0 : l = [] := by
      cases l with
      | nil => rfl
      | cons x l => obtain ⟨b, off, cs, e, _⟩ := H.out.2.2 0 x rfl; cases e
    subst h0
    clear H h1
    have h2 := fun wx : World => (Lib.run_eql_slice_nil (P := Tryz.prog) wx 38 3 none 0 c 0 0 Tryz.underlying38).trans (show (Result.ok (Value.bool (none : Option Addr).isNone) wx : Result Value) = .ok (.bool true) wx from rfl)
    go_enter Tryz.func60, Tryz.ntmps60
    go_wp2_with fail
    go_ret
    exact ⟨none, 0, rfl, OwnS.nil _ _ _, nofun, Below.refl _ _⟩
  | some ad =>
    have hsrc := Src.of_sl (P := Tryz.prog) (tx := 38) (H.out.keep (w' := w.alloc (.cells #[] 3)) (fun k hk => Below.heap_alloc _ _ _ (HF.out k hk))) Tryz.underlying38 (fun n => [.int .i64 n]) (fun cs x hx => hx.1) (fun _ => rfl) (fun x u hu => by simp at hu; subst hu; rfl)
    rw [← intV_flat] at hsrc
    have HS := Lib.hid hsrc
    clear hsrc
    have h2 := fun wx : World => (h1 wx).trans (show (Result.ok (Value.bool (some ad : Option Addr).isNone) wx : Result Value) = .ok (.bool false) wx from rfl)
    clear h1
    go_enter Tryz.func60, Tryz.ntmps60
    go_wp2_with (at_builtin; refine wpList_append_S rfl _ _ 38 38 rfl 3 _ 1 8 Tryz.underlying38 info_int rfl (by decide) (some ⟨w.heap.size, 0, none⟩) 0 0 [] rfl ?_ _ rfl l.length (intV l) HS.out ?_ ?_ ?_)
    · exact ⟨by simp, Nat.le_refl _, Nat.zero_le _, .inr ⟨_, 0, #[], rfl, heap_alloc_new w _, by simp, fun j u hj => by simp at hj⟩⟩
    · unfold maxLen; omega
    · omega
    · intro A' cap' w1 hown1 hg1 hat1
      have hb : Below w.heap.size w w1 := ((Below.refl _ _).alloc (Nat.le_refl _) _).grown hg1 (by simp) (fun k e => by simp [blk] at e; omega)
      have HO := Lib.hid hown1
      have HB := Lib.hid hb
      have HAT : Hid (∀ k, blk A' = some k → w.heap.size ≤ k) := fun k e => by
        rcases hat1 with h | h
        · rw [h] at e; injection e with e; subst e; exact Nat.le_refl _
        · rw [h] at e; injection e with e; rw [← e]; simp
      clear hown1 hg1 hat1 hb
      go_wp2_with fail
      go_ret
      have ho := HO.out
      try simp only [List.nil_append, Nat.zero_add] at ho
      exact ⟨A', cap', by first | rfl | (simp; rfl), ho, HAT.out, HB.out⟩
def kindCellsJ : List Value := kindNames.map fun l => .string ⟨l.toArray⟩
theorem kinds_cellJ {w : World} {K : Nat} (h : w.heap[K]? = some (.cells kindCellsJ.toArray 9 (0, 0))) {k : Nat} (hk : k < 11) : w.cell? ⟨K, k, none⟩ = some (.string ⟨(kindName (k : Int)).toArray⟩) := by
  rw [cell_of_row w K k _ _ _ h]
  unfold kindName kindCellsJ
  rw [Int.toNat_natCast, List.getD_eq_getElem?_getD]
  have e : kindNames.length = 11 := rfl
  simp [List.getElem?_eq_getElem (show k < kindNames.length by omega)]
set_option maxRecDepth 100000 in
theorem jkinds_ok (w : World) : Calls Tryz.prog 59 #[] w fun e w' => e = .returned (.slice (some ⟨w.heap.size, 0, none⟩) 11 11) ∧ w'.heap[w.heap.size]? = some (.cells kindCellsJ.toArray 9 (0, 0)) ∧ Below w.heap.size w w' := by
  have HE : Hid ((w.alloc (.cells kindCellsJ.toArray 9)).heap[w.heap.size]? = some (.cells kindCellsJ.toArray 9 (0, 0)) ∧ Below w.heap.size w (w.alloc (.cells kindCellsJ.toArray 9))) := ⟨heap_alloc_new _ _, (Below.refl _ _).alloc (Nat.le_refl _) _⟩
  go_enter Tryz.func59, Tryz.ntmps59
  go_wp2_with fail
  go_ret
  exact ⟨rfl, HE.out⟩
def numsTextJ (l : List Int) : List UInt8 := l.flatMap fun k => (32 : UInt8) :: Lib.itoa k
theorem nums_takeJ {l : List Int} {j : Nat} (hj : j < l.length) : numsTextJ (l.take (j + 1)) = numsTextJ (l.take j) ++ 32 :: Lib.itoa l[j] := by
  unfold numsTextJ
  rw [List.take_succ_eq_append_getElem hj, List.flatMap_append]; simp
theorem job_takeJ {l : List Nod} {j : Nat} (hj : j < l.length) : jobText (l.take (j + 1)) = jobText (l.take j) ++ nodText l[j] := by
  unfold jobText
  rw [List.take_succ_eq_append_getElem hj, List.flatMap_append]; simp
theorem nodes_each {l : List Nod} : ∀ (s : List Nod) (i : Nat), nodesErr l i s = 0 → ∀ n ∈ s, ∃ j, nodeErr l j n = 0 := by
  intro s
  induction s with
  | nil => intro i _ n hn; cases hn
  | cons m s ih =>
    intro i h n hn
    rw [nodes_cons] at h
    split at h
    · rename_i h1; exact absurd h h1
    · rename_i h1
      rcases List.mem_cons.1 hn with rfl | hn
      · exact ⟨i, by simpa using h1⟩
      · exact ih (i + 1) h n hn
theorem job_fit {F : Nat → Prop} {w : World} {A : Option Addr} {c : Nat} {l : List Nod} (hl : SlA nodE F w A c l) (h : jobErr l = 0) : ∀ n ∈ l, Fit n ∧ I64n n := by
  intro n hn
  obtain ⟨j, hj⟩ := nodes_each l 0 (job_parts h).2.1 n hn
  refine ⟨node_fit hj, ?_⟩
  obtain ⟨i, hi, rfl⟩ := List.mem_iff_getElem.1 hn
  obtain ⟨b, off, A', c', rfl, hFb, x0, x1, x2, x3, htm, hki, hni, hfr⟩ := hl.nod_ hi
  have hb := bounds_i64 hni
  refine ⟨fun f hf => ?_, by omega, by omega⟩
  obtain ⟨k, hk, rfl⟩ := List.mem_iff_getElem.1 hf
  obtain ⟨bf, of_, _, _, _, h64⟩ := hfr.int_ hk
  have := bounds_i64 h64
  omega
/-- A node's variable and a row of numbers, which a Builder's writes leave. -/
structure NodeVar (w : World) (kb : Nat) (nd : Nod) (A : Option Addr) (c : Nat) : Prop where
  row : w.heap[kb]? = some (.cells #[.int .i64 nd.kind, .slice A nd.from_.length c, .string nd.text, .int .i64 nd.n] 40 (0, 0))
theorem NodeVar.okept {w w' : World} {kb b : Nat} {nd : Nod} {A : Option Addr} {c : Nat} (h : NodeVar w kb nd A c) (hk : OKept b w w') (hb : kb ≠ b) : NodeVar w' kb nd A c := ⟨hk.row h.row hb (by decide)⟩
theorem NodeVar.below {w w' : World} {kb : Nat} {nd : Nod} {A : Option Addr} {c : Nat} (h : NodeVar w kb nd A c) (hb : Below w.heap.size w w') : NodeVar w' kb nd A c := ⟨(hb.block _ (block_lt h.row)).trans h.row⟩
theorem NodeVar.c {w : World} {kb : Nat} {nd : Nod} {A : Option Addr} {c : Nat} (h : NodeVar w kb nd A c) : w.cell? ⟨kb, 0, none⟩ = some (.int .i64 nd.kind) ∧ w.cell? ⟨kb, 1, none⟩ = some (.slice A nd.from_.length c) ∧ w.cell? ⟨kb, 2, none⟩ = some (.string nd.text) ∧ w.cell? ⟨kb, 3, none⟩ = some (.int .i64 nd.n) :=
  ⟨(cell_of_row w _ 0 _ _ _ h.row).trans rfl, (cell_of_row w _ 1 _ _ _ h.row).trans rfl, (cell_of_row w _ 2 _ _ _ h.row).trans rfl, (cell_of_row w _ 3 _ _ _ h.row).trans rfl⟩
theorem OwnS.okept {w w' : World} {A : Option Addr} {cap n b : Nat} {xs : List Value} (h : OwnS w 3 1 A cap n xs) (hk : OKept b w w') (hb : ∀ k, blk A = some k → k ≠ b) : OwnS w' 3 1 A cap n xs := by
  obtain ⟨h1, h2, h3, h4⟩ := h
  refine ⟨h1, h2, h3, ?_⟩
  rcases h4 with h4 | ⟨g, off, cur, rfl, hh, r⟩
  · exact .inl h4
  · exact .inr ⟨g, off, cur, rfl, hk.row hh (hb g rfl) (by decide), r⟩
theorem OwnS.intAt {w : World} {A : Option Addr} {cap n : Nat} {l : List Int} (h : OwnS w 3 1 A cap n (intV l)) {j : Nat} (hj : j < l.length) : ∃ g off, A = some ⟨g, off, none⟩ ∧ w.cell? ⟨g, off + j, none⟩ = some (.int .i64 l[j]) := by
  obtain ⟨h1, h2, h3, h4⟩ := h
  rcases h4 with ⟨rfl, h0⟩ | ⟨g, off, cur, rfl, hh, hsz, hc⟩
  · rw [intV_len] at h1; omega
  · exact ⟨g, off, rfl, (cell_of_row w g (off + j) _ _ _ hh).trans (hc j _ (by simp [intV, List.getElem?_eq_getElem hj]))⟩
theorem OwnS.grownT {w w' : World} {A : Option Addr} {cap n : Nat} {xs : List Value} (h : OwnS w 3 1 A cap n xs) (hg : w.grownBy w' (blk A)) (k : Nat) (cs : Array Value) (t : TypeId) (fr : Nat × Nat) (hk : w.heap[k]? = some (.cells cs t fr)) (ht : t ≠ 3) : w'.heap[k]? = some (.cells cs t fr) := by
  rw [hg.block k (block_lt hk) ?_, hk]
  intro e
  obtain ⟨h1, h2, h3, h4⟩ := h
  rcases h4 with ⟨rfl, h0⟩ | ⟨g, off, cur, rfl, hh, _⟩
  · cases e
  · injection e with e
    subst e
    rw [hh] at hk
    injection hk with hk
    injection hk with _ hk _
    exact ht hk.symm
def JPrintPost (l : List Nod) (w : World) (e : Ending) (w' : World) : Prop :=
  (jobErr l = 0 → e = .returned (.tuple #[.string ⟨(jobText l).toArray⟩, .nilIface])) ∧ (jobErr l ≠ 0 → e = .returned (.tuple #[.string ⟨#[]⟩, errV (jobErr l)])) ∧ Below w.heap.size w w'
set_option maxRecDepth 100000 in
theorem jprint_bad (F : Nat → Prop) (A : Option Addr) (c : Nat) (l : List Nod) (w : World) (hl : SlA nodE F w A c l) (hF : ∀ k, F k → k < w.heap.size) (hv : ErrVars w) (h0 : jobErr l ≠ 0) :
    Calls Tryz.prog 24 #[.slice A l.length c] w (JPrintPost l w) := by
  have hle := hl.le
  have HC := Lib.hid (jcheck_ok F A c l w hl hF hv)
  have H0 := Lib.hid h0
  rw [show errJ (jobErr l) = errV (jobErr l) from by unfold errJ; rw [if_neg h0]] at HC
  obtain ⟨je, hje⟩ : ∃ je, je = jobErr l := ⟨_, rfl⟩
  have HJE := Lib.hid hje
  rw [← hje] at HC
  clear h0 hje hl hv
  go_enter Tryz.func24, Tryz.ntmps24
  go_wp2_with fail
  refine HC.out.mono ?_
  rintro e w2 ⟨rfl, hb2⟩
  have HB2 := Lib.hid hb2
  clear hb2
  unfold errV
  go_wp2_with fail
  go_ret2
  exact ⟨fun h => absurd h H0.out, fun _ => by rw [← HJE.out]; rfl, HB2.out⟩
set_option maxRecDepth 100000 in
set_option maxHeartbeats 16000000 in
theorem jprint_good (F : Nat → Prop) (A : Option Addr) (c : Nat) (l : List Nod) (w : World) (hl : SlA nodE F w A c l) (hF : ∀ k, F k → k < w.heap.size) (hv : ErrVars w) (hT : PowTab w) (h0 : jobErr l = 0) :
    Calls Tryz.prog 24 #[.slice A l.length c] w (JPrintPost l w) := by
  have HL := Lib.hid hl
  have HF := Lib.hid hF
  have hle := hl.le
  have HC := Lib.hid (jcheck_ok F A c l w hl hF hv)
  have HFIT := Lib.hid (job_fit hl h0)
  have HT := Lib.hid hT
  rw [h0] at HC
  have H0 := Lib.hid h0
  have hl12 := (job_parts h0).1
  clear h0 hl hv hF hT
  go_enter Tryz.func24, Tryz.ntmps24
  go_wp2_with fail
  refine HC.out.mono ?_
  rintro e w2 ⟨rfl, hb2⟩
  rw [show errJ 0 = .nilIface from rfl]
  have HB2 := Lib.hid hb2
  have HL2 := Lib.hid (HL.out.keep (fun i hi => hb2.block i (HF.out i hi)))
  have hF2 : Hid (∀ i, F i → i < w2.heap.size) := fun i hi => Nat.lt_of_lt_of_le (HF.out i hi) hb2.size
  clear hb2 HL HC
  obtain ⟨bb, hbb⟩ : ∃ bb, bb = w2.heap.size := ⟨_, rfl⟩
  have HBB := Lib.hid hbb
  have hnew : Hid (BdAt bb bb [] (w2.alloc (.cells #[.pointer none, .slice none 0 0] 113))) := by rw [hbb]; exact BdAt.new w2
  have hnb : Hid (Below w2.heap.size w2 (w2.alloc (.cells #[.pointer none, .slice none 0 0] 113))) := (Below.refl _ _).alloc (Nat.le_refl _) _
  clear hbb
  go_wp2_with fail
  rw [← HBB.out]
  go_loopw [18] (fun iv wr => ∃ i : Nat, i ≤ l.length ∧ iv = .int .i64 i ∧ Hid (BdAt bb bb (jobText (l.take i)) wr) ∧ Hid (Below w2.heap.size w2 wr) ∧ bb < wr.heap.size) (fun iv _ => l.length - (intOf iv).toNat)
  case atStart => exact ⟨0, Nat.zero_le _, rfl, hnew, hnb, by rw [HBB.out]; simp⟩
  case round =>
    obtain ⟨i, hi, rfl, HD, HB, hbw⟩ := hrel
    by_cases hlt : i < l.length
    · obtain ⟨hfit, hi64⟩ := HFIT.out l[i] (List.getElem_mem hlt)
      have HTK := Lib.hid (job_takeJ hlt)
      have HTL : Hid ((jobText (l.take i)).length ≤ 238 * 12) := by
        have := jobText_len (l := l.take i) fun n hn => HFIT.out n (List.mem_of_mem_take hn)
        have h2 : (l.take i).length ≤ 12 := by rw [List.length_take]; omega
        show _ ≤ _; omega
      have hsl := HL2.out.keep (fun j hj => HB.out.block j (hF2.out j hj))
      obtain ⟨b, off, A', c', rfl, hFb, x0, x1, x2, x3, htm, hki, hni, hfr⟩ := hsl.nod_ hlt
      have hbl := hF2.out b hFb
      obtain ⟨nd, hnd⟩ : ∃ nd, nd = l[i] := ⟨_, rfl⟩
      rw [← hnd] at hfit hi64 HTK x0 x1 x2 x3 hfr
      obtain ⟨W4, hW4⟩ : ∃ W4, W4 = wr.alloc (.cells #[.int .i64 nd.kind, .slice A' nd.from_.length c', .string nd.text, .int .i64 nd.n] 40) := ⟨_, rfl⟩
      have HNV : Hid (NodeVar W4 wr.heap.size nd A' c') := ⟨by rw [hW4]; exact heap_alloc_new _ _⟩
      have hb4 : Below wr.heap.size wr W4 := by rw [hW4]; exact (Below.refl _ _).alloc (Nat.le_refl _) _
      have HD4 := Lib.hid (HD.out.below hb4)
      have HB4 := Lib.hid (HB.out.trans (hb4.mono HB.out.size))
      have HFR4 : Hid (∀ W, Below bb W4 W → SlA (intE .i64) F W A' c' nd.from_) := fun W hW => hfr.keep fun k hk => by
        have hk2 := hF2.out k hk
        have e := HBB.out
        exact (hW.block k (by omega)).trans (hb4.block k (by omega))
      have hw4 : wr.heap.size < W4.heap.size := block_lt HNV.out.row
      obtain ⟨kd, hkd⟩ : ∃ kd : Nat, nd.kind = (kd : Int) := ⟨nd.kind.toNat, by have := hfit.k1; omega⟩
      have hkd1 : kd < 11 := by have := hfit.k2; omega
      have HKD := Lib.hid hkd
      have HFT := Lib.hid hfit
      have HI64 := Lib.hid hi64
      have HW4 := Lib.hid hW4
      obtain ⟨KN, hKN, hKNs, hKNl⟩ : ∃ KN : ByteArray, KN = ⟨(kindName (kd : Int)).toArray⟩ ∧ KN.size ≤ 6 ∧ KN.data.toList = kindName (kd : Int) := ⟨_, rfl, by show (kindName (kd : Int)).toArray.size ≤ 6; simpa using kindName_len _, by simp⟩
      have HKNL := Lib.hid hKNl
      have HKNE := Lib.hid hKN
      have HLT := Lib.hid hlt
      clear hnd hfr hsl htm hki hni hFb hkd hfit hi64 hKN hKNl hb4 hW4
      go_upto_region 8 with (fail)
      rw [← HW4.out]
      clear x0 x1 x2 x3 hbl
      have hkbb : wr.heap.size ≠ bb := by omega
      have hbk : bb ≤ wr.heap.size := by omega
      obtain ⟨s0, s1, s2, s3⟩ := HNV.out.c
      rw [HKD.out] at s0
      have HBS : Hid (bb < W4.heap.size) := by show _ < _; omega
      have hbs := HBS.out
      have htl := HTL.out
      have hbdr : Below bb W4 W4.drew := (Below.refl _ _).drew
      have HBDR := Lib.hid hbdr
      go_cut [] from 19 to 58 (fun wx => Hid (BdAt bb bb (jobText (l.take i) ++ kindName (kd : Int)) wx) ∧ Hid (NodeVar wx wr.heap.size nd A' c') ∧ Hid (Below bb W4 wx))
      case first =>
        go_region_with (first
          | (go_at_call 59; refine (jkinds_ok _).mono ?_; rintro e w5 ⟨rfl, hk5, hb5⟩; have t0 : w5.cell? ⟨wr.heap.size, 0, none⟩ = some (.int .i64 (kd : Int)) := (hb5.cell (p := ⟨wr.heap.size, 0, none⟩) hw4).trans s0; have y0 : w5.cell? ⟨W4.heap.size, kd, none⟩ = some (.string ⟨(kindName (kd : Int)).toArray⟩) := kinds_cellJ hk5 hkd1; rw [← HKNE.out] at y0; have hz5 := hb5.size)
          | (go_at_call 58; refine (bd_wstr bb bb (jobText (l.take i)) KN _ ((BdAt.keepAll (w := W4) HD4.out hb5.block).keepAll fun _ _ => rfl) (by omega) (Nat.le_trans (Nat.le_of_lt HBS.out) hb5.size)).mono ?_; rintro e w6 ⟨rfl, hd6, hb6, hk6⟩; have nv6 := NodeVar.okept (w := w5) ⟨(hb5.block wr.heap.size hw4).trans HNV.out.row⟩ hk6 hkbb))
        all_goals
          go_wp2_with fail
          go_meet
          case rel =>
            rw [HKNL.out] at hd6
            refine ⟨hd6, nv6, ?_⟩
            show Below _ _ _
            have h1 : Below bb W4 w5 := HBDR.out.trans (hb5.mono (Nat.le_of_lt HBS.out))
            exact h1.trans hb6
      case rest =>
        obtain ⟨HD6, HNV6, HB46⟩ := hcut
        obtain ⟨s0, s1, s2, s3⟩ := HNV6.out.c
        rw [HKD.out] at s0
        have hw6 : W4.heap.size ≤ wc.heap.size := HB46.out.size
        have hbw6 : bb < wc.heap.size := Nat.lt_of_lt_of_le hbs hw6
        have HCL := Lib.hid (iclone_ok F A' c' nd.from_ wc (HFR4.out wc HB46.out) (fun j hj => by have := hF2.out j hj; have e := HBB.out; omega) (by have := HFT.out.fr; omega))
        go_wp2_with fail
        refine HCL.out.mono ?_
        rintro e w7 ⟨A7, c7, rfl, ho7, ha7, hb7⟩
        have HO7 := Lib.hid ho7
        have HA7 : Hid (∀ k, blk A7 = some k → bb < k) := fun k e => by have := ha7 k e; omega
        have HNV7 := Lib.hid (HNV6.out.below hb7)
        have HD7 := Lib.hid (HD6.out.below hb7)
        have HB7 : Hid (Below bb W4 w7) := HB46.out.trans (hb7.mono (Nat.le_of_lt hbw6))
        have hbw7 : bb < w7.heap.size := Nat.lt_of_lt_of_le hbw6 hb7.size
        clear s0 s1 s2 s3 ho7 ha7 hb7 HCL HNV6 HD6 HB46
        obtain ⟨s0, s1, s2, s3⟩ := HNV7.out.c
        rw [HKD.out] at s0
        go_wp2_with fail
        refine (counted_ok (kd : Int) w7).mono ?_
        rintro e w8 ⟨rfl, rfl⟩
        obtain ⟨bc, hbc⟩ : ∃ bc, bc = counted (kd : Int) := ⟨_, rfl⟩
        have HN : Hid (numsOf nd = if bc then nd.from_ ++ [nd.n] else nd.from_) := by show _ = _; unfold numsOf; rw [HKD.out, hbc]
        rw [← hbc]
        clear hbc
        obtain ⟨ns, hns⟩ : ∃ ns, ns = numsOf nd := ⟨_, rfl⟩
        rw [← hns] at HN
        have HNS := Lib.hid hns
        clear hns
        go_upto_if 33 with (fail)
        go_cut [8] from 34 to 58 (fun v wx => ∃ A8 c8, v = .slice A8 ns.length c8 ∧ Hid (OwnS wx 3 1 A8 c8 ns.length (intV ns)) ∧ Hid (∀ k, blk A8 = some k → bb < k) ∧ Hid (BdAt bb bb (jobText (l.take i) ++ kindName (kd : Int)) wx) ∧ Hid (NodeVar wx wr.heap.size nd A' c') ∧ Hid (Below bb W4 wx) ∧ bb < wx.heap.size)
        case first =>
          have hfr4 := HFT.out.fr
          cases bc with
          | true =>
            have e8 : ns = nd.from_ ++ [nd.n] := HN.out
            have HE8 := Lib.hid e8
            clear e8
            go_wp2_with (at_builtin; refine wpList_push_S (w0 := w7) rfl (.tmp 34) (.tmp 37) 38 rfl 3 (.int .i64 0) 1 8 Tryz.underlying38 info_int rfl (by decide) A7 c7 nd.from_.length (intV nd.from_) rfl HO7.out [.int .i64 nd.n] rfl rfl (by simp [Value.oneCell']) (by unfold maxLen; omega) (by omega) ?_)
            intro A8 c8 w8 ho8 hg8 ha8
            have hb8 : Below bb W4 w8 := (HB7.out).grown hg8 (Nat.le_of_lt hbw7) (fun k e => Nat.le_of_lt (HA7.out k e))
            have HX : Hid (OwnS w8 3 1 A8 c8 ns.length (intV ns) ∧ (∀ k, blk A8 = some k → bb < k) ∧ BdAt bb bb (jobText (l.take i) ++ kindName (kd : Int)) w8 ∧ NodeVar w8 wr.heap.size nd A' c' ∧ Below bb W4 w8 ∧ bb < w8.heap.size) := by
              have e := HE8.out
              refine ⟨?_, ?_, HD7.out.keepT (HO7.out.grownT hg8), ⟨HO7.out.grownT hg8 _ _ _ _ HNV7.out.row (by decide)⟩, hb8, Nat.lt_of_lt_of_le hbw7 hg8.size⟩
              · rw [e]
                simpa [intV] using ho8
              · intro k hk
                rcases ha8 with h | ⟨k2, h, h2⟩
                · exact HA7.out k (by rw [← h]; exact hk)
                · rw [h] at hk; injection hk with hk; omega
            clear hb8 ho8 hg8 ha8
            go_wp2_with fail
            go_meet
            case rel => exact ⟨A8, c8, by rw [HE8.out]; simp, HX.out⟩
          | false =>
            have e8 : ns = nd.from_ := HN.out
            go_wp2_with fail
            go_meet
            case rel => rw [e8]; exact ⟨A7, c7, rfl, HO7, HA7, HD7, HNV7, HB7, hbw7⟩
        case rest =>
          obtain ⟨A8, c8, rfl, HO8, HA8, HD8, HNV8, HB8, hbw8⟩ := hcut
          have HPT : Hid (∀ W, Below bb W4 W → PowTab W) := fun W hW => by
            have h1 : Below w2.heap.size w2 W := HB4.out.trans (by rw [← HBB.out]; exact hW)
            exact HT.out.below (HB2.out.trans (h1.mono HB2.out.size))
          obtain ⟨T0, hT0⟩ : ∃ T0, T0 = jobText (l.take i) ++ kindName (kd : Int) := ⟨_, rfl⟩
          rw [← hT0] at HD8
          have hT0l : T0.length ≤ 3000 := by
            have h1 := HTL.out
            have h2 := kindName_len (kd : Int)
            rw [hT0, List.length_append]; omega
          have HT0 := Lib.hid hT0
          have hnl : ns.length ≤ 5 := by rw [HNS.out]; exact numsOf_len HFT.out
          have HI := Lib.hid (numsOf_i64 HI64.out)
          rw [← HNS.out] at HI
          clear hT0
          go_wp2_with fail
          go_loopw [41] (fun jv wx => ∃ j : Nat, j ≤ ns.length ∧ jv = .int .i64 j ∧ Hid (BdAt bb bb (T0 ++ numsTextJ (ns.take j)) wx) ∧ Hid (OwnS wx 3 1 A8 c8 ns.length (intV ns)) ∧ Hid (NodeVar wx wr.heap.size nd A' c') ∧ Hid (Below bb W4 wx) ∧ bb < wx.heap.size ∧ (numsTextJ (ns.take j)).length ≤ 22 * j) (fun jv _ => ns.length - (intOf jv).toNat)
          case atStart => exact ⟨0, Nat.zero_le _, rfl, by show BdAt _ _ _ _; simpa [numsTextJ] using HD8.out, HO8, HNV8, HB8, hbw8, by simp [numsTextJ]⟩
          case round =>
            obtain ⟨j, hj, rfl, HDx, HOx, HNx, HBx, hbx, hnx⟩ := hrel
            by_cases hlj : j < ns.length
            · obtain ⟨g8, o8, rfl, hcf⟩ := HOx.out.intAt hlj
              have HT2 := Lib.hid (nums_takeJ hlj)
              have hff := HI.out ns[j] (List.getElem_mem hlj)
              generalize ns[j] = f at hcf HT2 hff
              obtain ⟨D, hD, hDs, hDl⟩ : ∃ D : ByteArray, D = ⟨(Lib.itoa f).toArray⟩ ∧ D.size ≤ 21 ∧ D.data.toList = Lib.itoa f := ⟨_, rfl, by show (Lib.itoa f).toArray.size ≤ 21; simpa using Go.Lib.itoa_length_le f hff.1 hff.2, by simp⟩
              have HIT := Lib.hid (itoa_ok f wr hff (HPT.out _ HBx.out))
              rw [← hD] at HIT
              have HDL := Lib.hid hDl
              clear hD hDl hff
              go_wp2_with fail
              refine HIT.out.mono ?_
              rintro e w3 ⟨rfl, hb3⟩
              have hbx3 : bb < w3.heap.size := Nat.lt_of_lt_of_le hbx hb3.size
              have hsz : (⟨#[32]⟩ ++ D : ByteArray).size ≤ 22 := by rw [ByteArray.size_append]; have : (⟨#[32]⟩ : ByteArray).size = 1 := rfl; omega
              have hsl : (⟨#[32]⟩ ++ D : ByteArray).data.toList = 32 :: Lib.itoa f := by rw [← HDL.out]; simp
              have HW := Lib.hid (bd_wstr bb bb (T0 ++ numsTextJ (ns.take j)) (⟨#[32]⟩ ++ D) w3 (HDx.out.below hb3) (by rw [List.length_append]; omega) (Nat.le_of_lt hbx3))
              have HO3 := Lib.hid (HOx.out.keep fun k e => hb3.block k (OwnS.lt HOx.out k e))
              have HN3 := Lib.hid (HNx.out.below hb3)
              have HB3 : Hid (Below bb W4 w3) := HBx.out.trans (hb3.mono (Nat.le_of_lt hbx))
              rw [hsl] at HW
              have hnx1 : (numsTextJ (ns.take (j + 1))).length ≤ 22 * (j + 1) := by
                rw [HT2.out, List.length_append, ← hsl, size_listB]; omega
              clear hsl hb3 HIT HDx HOx HNx HBx hcf hbx hnx
              go_wp2_with fail
              refine HW.out.mono ?_
              rintro e w5 ⟨rfl, hd5, hb5, hk5⟩
              have HX1 : Hid (BdAt bb bb (T0 ++ numsTextJ (ns.take (j + 1))) w5) := by show BdAt _ _ _ _; rw [HT2.out, ← List.append_assoc]; exact hd5
              have HX2 := Lib.hid (HO3.out.okept hk5 (fun k e => Nat.ne_of_gt (HA8.out k e)))
              have HX3 := Lib.hid (HN3.out.okept hk5 hkbb)
              have HX4 := Lib.hid (HB3.out.trans hb5)
              have HX5 := Lib.hid (Nat.lt_of_lt_of_le hbx3 hb5.size)
              clear hd5 hb5 hk5 HW HO3 HN3 HB3 hbx3 hsz
              go_wp2_with fail
              go_roundw
              case rel => exact ⟨j + 1, by omega, by go_num, HX1, HX2, HX3, HX4, HX5.out, hnx1⟩
              case measure => simp [intOf]; omega
            · have dj : decide (j < ns.length) = false := decide_eq_false hlj
              have e : ns.take j = ns := List.take_of_length_le (by omega)
              rw [e] at HDx hnx
              have hns5 : (numsTextJ ns).length ≤ 110 := by omega
              have htx := HFT.out.tx
              obtain ⟨s0, s1, s2, s3⟩ := HNx.out.c
              rw [HKD.out] at s0
              clear e hlj hj hnx HI HOx HO8 HD8 HNV8 HB8 hbw8 HA8
              go_wp2_with fail
              refine (texted_ok (kd : Int) wr).mono ?_
              rintro e w3 ⟨rfl, rfl⟩
              obtain ⟨bt, hbt⟩ : ∃ bt, bt = texted (kd : Int) := ⟨_, rfl⟩
              have HNT : Hid (nodText nd = kindName (kd : Int) ++ numsTextJ ns ++ (if bt then 32 :: nd.text.data.toList else []) ++ [10]) := by
                show _ = _
                unfold nodText nodHead numsTextJ
                rw [HKD.out, ← HNS.out, ← hbt]
              rw [← hbt]
              clear hbt
              have htl2 : nd.text.data.toList.length = nd.text.size := size_listB _
              cases bt with
              | true =>
                have hsz : (⟨#[32]⟩ ++ nd.text : ByteArray).size ≤ 121 := by rw [ByteArray.size_append]; have : (⟨#[32]⟩ : ByteArray).size = 1 := rfl; omega
                have hsl : (⟨#[32]⟩ ++ nd.text : ByteArray).data.toList = 32 :: nd.text.data.toList := by simp
                have HW := Lib.hid (bd_wstr bb bb (T0 ++ numsTextJ ns) (⟨#[32]⟩ ++ nd.text) wr HDx.out (by rw [List.length_append]; omega) (Nat.le_of_lt hbx))
                rw [hsl] at HW
                clear hsl
                go_wp2_with fail
                refine HW.out.mono ?_
                rintro e w5 ⟨rfl, hd5, hb5, hk5⟩
                have hbx5 : bb < w5.heap.size := Nat.lt_of_lt_of_le hbx hb5.size
                have HB5 : Hid (Below bb W4 w5) := HBx.out.trans hb5
                have HY : Hid (Calls Tryz.prog 63 #[.pointer (some ⟨bb, 0, none⟩), .int .u8 10] w5 _) := bd_wbyte bb bb (T0 ++ numsTextJ ns ++ 32 :: nd.text.data.toList) 10 w5 hd5 (by simp only [List.length_append, List.length_cons]; omega) (Nat.le_of_lt hbx5)
                clear hd5 hb5 hk5 HW s0 s1 s2 s3 hsz HDx HNx HBx hbx
                go_wp2_with fail
                refine HY.out.mono ?_
                rintro e w6 ⟨rfl, hd6, hb6, hk6⟩
                have HX : Hid (BdAt bb bb (jobText (l.take (i + 1))) w6 ∧ Below w2.heap.size w2 w6 ∧ bb < w6.heap.size) := by
                  refine ⟨?_, HB4.out.trans (by rw [← HBB.out]; exact HB5.out.trans hb6), Nat.lt_of_lt_of_le hbx5 hb6.size⟩
                  rw [HTK.out, HNT.out]
                  rw [HT0.out] at hd6
                  simpa using hd6
                clear hd6 hb6 hk6 HY HB5 hbx5
                go_wp2_with fail
                go_roundw
                case rel => exact ⟨i + 1, by have := HLT.out; omega, by go_num, HX.out.1, HX.out.2.1, HX.out.2.2⟩
                case measure => have := HLT.out; simp [intOf]; omega
              | false =>
                have HB5 := HBx
                have HY : Hid (Calls Tryz.prog 63 #[.pointer (some ⟨bb, 0, none⟩), .int .u8 10] wr _) := bd_wbyte bb bb (T0 ++ numsTextJ ns) 10 wr HDx.out (by simp only [List.length_append]; omega) (Nat.le_of_lt hbx)
                clear s0 s1 s2 s3 HDx HNx HBx
                go_wp2_with fail
                refine HY.out.mono ?_
                rintro e w6 ⟨rfl, hd6, hb6, hk6⟩
                have HX : Hid (BdAt bb bb (jobText (l.take (i + 1))) w6 ∧ Below w2.heap.size w2 w6 ∧ bb < w6.heap.size) := by
                  refine ⟨?_, HB4.out.trans (by rw [← HBB.out]; exact HB5.out.trans hb6), Nat.lt_of_lt_of_le hbx hb6.size⟩
                  rw [HTK.out, HNT.out]
                  rw [HT0.out] at hd6
                  simpa using hd6
                clear hd6 hb6 hk6 HY HB5 hbx
                go_wp2_with fail
                go_roundw
                case rel => exact ⟨i + 1, by have := HLT.out; omega, by go_num, HX.out.1, HX.out.2.1, HX.out.2.2⟩
                case measure => have := HLT.out; simp [intOf]; omega
    · have dj : decide (i < l.length) = false := decide_eq_false hlt
      have e : l.take i = l := List.take_of_length_le (by omega)
      rw [e] at HD
      have HS := Lib.hid (bd_string bb bb (jobText l) wr HD.out (Nat.le_of_lt hbw))
      clear e hi hlt HD
      go_wp2_with fail
      refine HS.out.mono ?_
      rintro e w9 ⟨rfl, hb9⟩
      have HB9 : Hid (Below w.heap.size w w9) := HB2.out.trans ((HB.out.trans (by rw [← HBB.out]; exact hb9)).mono HB2.out.size)
      clear hb9 HS
      go_wp2_with fail
      go_ret2
      exact ⟨fun _ => rfl, fun h => absurd H0.out h, HB9.out⟩
end Go.Proofs.YtfndhfekbbbliaaGreatDoor

/-
  The contract of weirsame.Ints at equal lists. No condition.
-/
namespace Go.Proofs.YtfndhfekbbbliaaGreatDoor
open Go.RowKit
set_option linter.unusedVariables false

set_option maxRecDepth 100000 in
theorem ints_same (A B : Option Addr) (c d : Nat) (l : List Int) (w : World) (F G : Nat → Prop) (ha : SlA (intE .i64) F w A c l) (hb : SlA (intE .i64) G w B d l) :
    Calls Tryz.prog 28 #[.slice A l.length c, .slice B l.length d] w fun e w' => e = .returned (.bool true) ∧ ∃ k, w' = w.drewN k := by
  have hn := ha.le
  have H := Lib.hid ha
  have H' := Lib.hid hb
  clear ha hb
  go_enter Tryz.func28, Tryz.ntmps28
  go_wp2
  go_loopw [5] (fun i wr => ∃ k q : Nat, k ≤ l.length ∧ i = .int .i64 k ∧ wr = w.drewN q) (fun i _ => l.length - (intOf i).toNat)
  case atStart => exact ⟨0, 0, Nat.zero_le _, rfl, rfl⟩
  case round =>
    obtain ⟨k, q, hk, rfl, rfl⟩ := hrel
    by_cases hlt : k < l.length
    · obtain ⟨b, off, rfl, _, c0, _⟩ := H.out.int_ hlt
      obtain ⟨b', off', rfl, _, d0, _⟩ := H'.out.int_ hlt
      obtain ⟨s, hs⟩ : ∃ s, s = l[k] := ⟨_, rfl⟩
      rw [← hs] at c0 d0
      clear hs
      go_wp2
      go_quiet (fail)
      go_wp2
      go_roundw
      case rel => exact ⟨k + 1, q + nq, by omega, by go_num, by simp⟩
      case measure => simp [intOf]; omega
    · go_wp2
      go_ret
      exact ⟨rfl, q, rfl⟩
end Go.Proofs.YtfndhfekbbbliaaGreatDoor

/-
  Package den: the contract of Check. Conditions: where the job and the data lie; the two variables of Atoi's errors hold errors.
-/
namespace Go.Proofs.YtfndhfekbbbliaaGreatDoor
open Go.RowKit Go.Shelf
set_option linter.unusedVariables false

theorem sources_ok (F : Nat → Prop) (A : Option Addr) (c : Nat) (l : List Nod) (w : World) (hl : SlA nodE F w A c l) (hF : ∀ k, F k → k < w.heap.size) (hv : ErrVars w) :
    Calls Tryz.prog 25 #[.slice A l.length c] w (OfPost l 1 w) := by
  have HO := Lib.hid (of_ok F A c l 1 w hl hF hv)
  clear hl hv
  go_enter Tryz.func25, Tryz.ntmps25
  go_wp2_with fail
  refine HO.out.mono ?_
  rintro e w2 ⟨h1, h2, h3⟩
  have H3 := Lib.hid h3
  by_cases h0 : jobErr l = 0
  · obtain ⟨A', c', rfl, hs⟩ := h1 h0
    have HS := Lib.hid hs
    have H0 := Lib.hid h0
    clear h1 h2 h3 hs h0 HO
    go_wp2_with fail
    go_ret2
    exact ⟨fun _ => ⟨A', c', rfl, HS.out⟩, fun h => absurd H0.out h, H3.out⟩
  · have e0 := h2 h0
    subst e0
    obtain ⟨je, hje⟩ : ∃ je, je = jobErr l := ⟨_, rfl⟩
    have HJE := Lib.hid hje
    have H0 := Lib.hid h0
    rw [← hje]
    clear h1 h2 h3 h0 HO hje
    unfold errV
    go_wp2_with fail
    go_ret2
    exact ⟨fun h => absurd h H0.out, fun _ => by rw [← HJE.out]; rfl, H3.out⟩
theorem sinks_ok (F : Nat → Prop) (A : Option Addr) (c : Nat) (l : List Nod) (w : World) (hl : SlA nodE F w A c l) (hF : ∀ k, F k → k < w.heap.size) (hv : ErrVars w) :
    Calls Tryz.prog 26 #[.slice A l.length c] w (OfPost l 10 w) := by
  have HO := Lib.hid (of_ok F A c l 10 w hl hF hv)
  clear hl hv
  go_enter Tryz.func26, Tryz.ntmps26
  go_wp2_with fail
  refine HO.out.mono ?_
  rintro e w2 ⟨h1, h2, h3⟩
  have H3 := Lib.hid h3
  by_cases h0 : jobErr l = 0
  · obtain ⟨A', c', rfl, hs⟩ := h1 h0
    have HS := Lib.hid hs
    have H0 := Lib.hid h0
    clear h1 h2 h3 hs h0 HO
    go_wp2_with fail
    go_ret2
    exact ⟨fun _ => ⟨A', c', rfl, HS.out⟩, fun h => absurd H0.out h, H3.out⟩
  · have e0 := h2 h0
    subst e0
    obtain ⟨je, hje⟩ : ∃ je, je = jobErr l := ⟨_, rfl⟩
    have HJE := Lib.hid hje
    have H0 := Lib.hid h0
    rw [← hje]
    clear h1 h2 h3 h0 HO hje
    unfold errV
    go_wp2_with fail
    go_ret2
    exact ⟨fun h => absurd h H0.out, fun _ => by rw [← HJE.out]; rfl, H3.out⟩

theorem data_drop (data : List (List Rec)) {j : Nat} (hj : j < data.length) : dataErr (data.drop j) = if 300 < data[j].length then 4 else if data[j].any recErr = true then 1 else dataErr (data.drop (j + 1)) := by
  rw [List.drop_eq_getElem_cons hj]; rfl
theorem any_take (d : List Rec) {j : Nat} (hj : j < d.length) : (d.take (j + 1)).any recErr = ((d.take j).any recErr || recErr d[j]) := by
  rw [List.take_succ_eq_append_getElem hj, List.any_append]
  simp
theorem any_of (d : List Rec) {j : Nat} (hj : j < d.length) (h : recErr d[j] = true) : d.any recErr = true := List.any_eq_true.2 ⟨_, List.getElem_mem hj, h⟩
set_option maxRecDepth 100000 in
set_option maxHeartbeats 2000000 in
theorem dcheck_ok (F : Nat → Prop) (A : Option Addr) (c : Nat) (l : List Nod) (G : Nat → Prop) (Ad : Option Addr) (cd : Nat) (data : List (List Rec)) (w : World) (hl : SlA nodE F w A c l) (hF : ∀ k, F k → k < w.heap.size) (hd : SlA (slE recE) G w Ad cd data) (hG : ∀ k, G k → k < w.heap.size) (hv : ErrVars w) :
    Calls Tryz.prog 75 #[.slice A l.length c, .slice Ad data.length cd] w fun e w' => e = .returned (errJ (denErr l data)) ∧ Below w.heap.size w w' := by
  have HO := Lib.hid (sources_ok F A c l w hl hF hv)
  have HD := Lib.hid hd
  have HG := Lib.hid hG
  have hle := hd.le
  clear hl hd hv hG
  go_enter Tryz.func75, Tryz.ntmps75
  go_wp2_with fail
  refine HO.out.mono ?_
  rintro e w2 ⟨h1, h2, h3⟩
  have H3 := Lib.hid h3
  by_cases h0 : jobErr l = 0
  · obtain ⟨A', c', rfl, hs⟩ := h1 h0
    have hl2 := hs.le
    have HE : Hid (denErr l data = if data.length ≠ (ofKind l 1).length then 3 else dataErr data) := by show _ = _; unfold denErr; rw [if_neg (by simpa using h0)]
    obtain ⟨sn, hsn⟩ : ∃ sn, sn = (ofKind l 1).length := ⟨_, rfl⟩
    rw [← hsn] at hl2 HE ⊢
    have HD2 := Lib.hid (HD.out.keep (fun k hk => H3.out.block k (HG.out k hk)))
    have hz := h3.size
    clear h1 h2 h3 hs h0 HO hsn
    by_cases hn : data.length = sn
    · subst hn
      rw [if_neg (by simp)] at HE
      have dn : (data.length != data.length) = false := by simp
      go_wp2_with fail
      go_loopw [27] (fun jv wr => ∃ j : Nat, j ≤ data.length ∧ jv = .int .i64 j ∧ Hid (dataErr data = dataErr (data.drop j)) ∧ Hid (Below w2.heap.size w2 wr)) (fun jv _ => data.length - (intOf jv).toNat)
      case atStart => exact ⟨0, Nat.zero_le _, rfl, rfl, Below.refl _ _⟩
      case round =>
        obtain ⟨j, hj, rfl, HJ, HB⟩ := hrel
        by_cases hlt : j < data.length
        · obtain ⟨b, off, A2, c2, rfl, hGb, x0, hr⟩ := (HD2.out.keep (w' := wr) (fun k hk => HB.out.block k (Nat.lt_of_lt_of_le (HG.out k hk) hz))).sl_ hlt
          have HDR := Lib.hid (data_drop data hlt)
          generalize data[j] = d at x0 hr HDR
          have hdl := hr.le
          have hcap := hr.1
          have HR := Lib.hid hr
          clear hr
          by_cases h300 : 300 < d.length
          · have d3 : decide (300 < d.length) = true := decide_eq_true h300
            have HX : Hid (denErr l data = 4) := by show _ = _; rw [HE.out, HJ.out, HDR.out, if_pos h300]
            have HB9 := Lib.hid (H3.out.trans (HB.out.mono hz))
            clear HDR HJ HE
            go_wp2_with fail
            go_ret
            exact ⟨by rw [HX.out]; rfl, HB9.out⟩
          · have d3 : decide (300 < d.length) = false := decide_eq_false h300
            rw [if_neg h300] at HDR
            go_wp2_with fail
            go_loopw [37] (fun kv wx => ∃ k : Nat, k ≤ d.length ∧ kv = .int .i64 k ∧ Hid ((d.take k).any recErr = false) ∧ Hid (Below w2.heap.size w2 wx)) (fun kv _ => d.length - (intOf kv).toNat)
            case atStart => exact ⟨0, Nat.zero_le _, rfl, rfl, HB⟩
            case round =>
              obtain ⟨k, hk, rfl, HK, HBx⟩ := hrel
              by_cases hlk : k < d.length
              · obtain ⟨b3, off3, rfl, hG3, y0, y1, y2, _⟩ := (HR.out.keep (fun q hq => (HBx.out.block q (Nat.lt_of_lt_of_le (HG.out q hq) hz)).trans (HB.out.block q (Nat.lt_of_lt_of_le (HG.out q hq) hz)).symm)).rec_ hlk
                have HAT := Lib.hid (any_take d hlk)
                have HAO := Lib.hid (any_of d hlk)
                have hb3 : b3 < wr.heap.size := cell_lt y0
                have HB9 : ∀ o : Obj, Hid (Below w.heap.size w (wr.alloc o)) := fun o => H3.out.trans ((HBx.out.mono hz).trans ((Below.refl _ _).alloc (by have := HBx.out.size; omega) _))
                have HB8 : ∀ o : Obj, Hid (Below w2.heap.size w2 (wr.alloc o)) := fun o => HBx.out.alloc HBx.out.size _
                generalize d[k] = r at y0 y1 y2 HAT HAO
                obtain ⟨key, num, time⟩ := r
                simp only at y0 y1 y2
                obtain ⟨q, hq⟩ : ∃ q, q = recErr ⟨key, num, time⟩ := ⟨_, rfl⟩
                rw [← hq] at HAT HAO
                have hq2 : q = (decide (40 < key.size) || decide (time < 0) || decide (1000000 < time)) := hq
                cases q with
                | true =>
                  have HX : Hid (denErr l data = 1) := by show _ = _; rw [HE.out, HJ.out, HDR.out, if_pos (HAO.out rfl)]
                  clear HAT HAO HJ HE HDR hq HB
                  cases p1 : decide (40 < key.size) with
                  | true =>
                    have p1' : decide ((40 : Int) < (key.size : Int)) = true := decide_eq_true (by have := of_decide_eq_true p1; omega)
                    clear hq2
                    go_wp2_with fail
                    go_ret
                    exact ⟨by rw [HX.out]; rfl, (HB9 _).out⟩
                  | false =>
                    have p1' : decide ((40 : Int) < (key.size : Int)) = false := decide_eq_false (by have := of_decide_eq_false p1; omega)
                    cases p2 : decide (time < 0) with
                    | true =>
                      clear hq2
                      go_wp2_with fail
                      go_ret
                      exact ⟨by rw [HX.out]; rfl, (HB9 _).out⟩
                    | false =>
                      rw [p1, p2] at hq2
                      have p3 : decide (1000000 < time) = true := hq2.symm
                      clear hq2
                      go_wp2_with fail
                      go_ret
                      exact ⟨by rw [HX.out]; rfl, (HB9 _).out⟩
                | false =>
                  have hq3 := hq2.symm
                  rw [Bool.or_eq_false_iff, Bool.or_eq_false_iff] at hq3
                  obtain ⟨⟨p1, p2⟩, p3⟩ := hq3
                  have p1' : decide ((40 : Int) < (key.size : Int)) = false := decide_eq_false (by have := of_decide_eq_false p1; omega)
                  have HK2 : Hid ((d.take (k + 1)).any recErr = false) := by show _ = _; rw [HAT.out, HK.out]; rfl
                  clear hq hq2 HAT HAO
                  go_wp2_with fail
                  go_roundw
                  case rel => exact ⟨k + 1, by omega, by go_num, HK2, HB8 _⟩
                  case measure => simp [intOf]; omega
              · have dk : decide (k < d.length) = false := decide_eq_false hlk
                have HJ2 : Hid (dataErr data = dataErr (data.drop (j + 1))) := by
                  show _ = _
                  have h := HK.out
                  rw [List.take_of_length_le (by omega)] at h
                  rw [HJ.out, HDR.out, if_neg (by rw [h]; simp)]
                clear HJ HDR HK hk hlk
                go_wp2_with fail
                refine ⟨⟨j + 1, by omega, by go_num, HJ2, HBx⟩, ?_⟩
                simp [intOf]; omega
        · have dj : decide (j < data.length) = false := decide_eq_false hlt
          have HX : Hid (denErr l data = 0) := by show _ = _; rw [HE.out, HJ.out, show j = data.length from by omega, List.drop_length]; rfl
          have HB9 := Lib.hid (H3.out.trans (HB.out.mono hz))
          clear HJ HE hj hlt
          go_wp2_with fail
          go_ret
          exact ⟨by rw [HX.out]; rfl, HB9.out⟩
    · have dn : (data.length != sn) = true := by simp [hn]
      have dn2 : decide (data.length = sn) = false := decide_eq_false hn
      have HX : Hid (denErr l data = 3) := by show _ = _; rw [HE.out, if_pos hn]
      clear HE
      go_wp2_with fail
      go_ret
      exact ⟨by rw [HX.out]; rfl, H3.out⟩
  · have e0 := h2 h0
    subst e0
    have HX : Hid (denErr l data = jobErr l) := by show _ = _; unfold denErr; rw [if_pos h0]
    obtain ⟨je, hje⟩ : ∃ je, je = jobErr l := ⟨_, rfl⟩
    have HJE := Lib.hid hje
    have H0 := Lib.hid h0
    rw [← hje]
    clear h1 h2 h3 h0 HO hje
    unfold errV
    go_wp2_with fail
    go_ret
    exact ⟨by rw [HX.out]; unfold errJ; rw [if_neg H0.out, ← HJE.out]; rfl, H3.out⟩
end Go.Proofs.YtfndhfekbbbliaaGreatDoor

/-
  Contracts of errors.As at a target '*api.Errno', of plain.Told and of weirsame.Error: nil and an Errno. Condition: the variable errors.errorType reads as the program's text lays it. (Turned from the guide's worked example of errors.As to this program's types.)
-/
namespace Go.Proofs.YtfndhfekbbbliaaGreatDoor
open Go.RowKit Go.Extern.Stop Go.Stop Go.Extern
set_option linter.unusedVariables false

/-- The variable errors.errorType, as it is laid. -/
def ErrVar (w : World) : Prop := w.cell? ⟨0, 0, none⟩ = some (.iface 215 (.agg #[.pointer (some ⟨9, 28, none⟩)]))

theorem as_nil (t : Value) (w : World) :
    Calls Tryz.prog 86 #[.nilIface, t] w fun e w' => e = .returned (.bool false) ∧ w' = w := by
  go_enter Tryz.func86, Tryz.ntmps86
  go_wp2
  go_ret
  exact ⟨rfl, rfl⟩

theorem ea_valueOfP (t : Addr) (w : World) : (ReflectliteValue.unpack (.iface 155 (.pointer (some t)))).run Tryz.prog w
    = .ok (.agg #[.pointer (some ⟨9, 155, none⟩), .pointer (some ⟨w.heap.size, 0, none⟩), .int .u64 150]) (w.alloc (.cells #[.pointer (some t)] 155)) := by kernel_rfl
theorem ea_typeP (a : Addr) (w : World) : (ReflectliteValue.methodAny (ReflectliteValue.valueError "reflectlite.Value.Type" 0) (fun t _ _ _ => ReflectliteType.toType t) #[.agg #[.pointer (some ⟨9, 155, none⟩), .pointer (some a), .int .u64 150]]).run Tryz.prog w
    = .ok (.iface 215 (.agg #[.pointer (some ⟨9, 155, none⟩)])) w := by kernel_rfl
theorem ea_methodKind (h : Value) (w : World) : (Go.method 427 215 (.agg #[h]) "Kind").run Tryz.prog w = .ok (238, h) w := by kernel_rfl
theorem ea_kindP (w : World) : ((ReflectliteType.abiMethod fun t => (fun a : Nat => Value.int IntKind.u8 (a : Int)) <$> Rtype.kind t) #[.pointer (some ⟨9, 155, none⟩)]).run Tryz.prog w = .ok (.int .u8 22) w := by kernel_rfl
theorem ea_kindE (w : World) : ((ReflectliteType.abiMethod fun t => (fun a : Nat => Value.int IntKind.u8 (a : Int)) <$> Rtype.kind t) #[.pointer (some ⟨9, 89, none⟩)]).run Tryz.prog w = .ok (.int .u8 2) w := by kernel_rfl

theorem ea_rlm (z : Sem Value) (f : TypeId → Addr → Nat → Nat → Sem Value) (v : Value) :
    ReflectliteValue.method z f #[v] = (do match ← ReflectliteValue.parts v with | none => z | some (t, a, fl) => f t a fl (fl % 32)) := rfl
theorem ea_partsP (a : Addr) (w : World) : (ReflectliteValue.parts (.agg #[.pointer (some ⟨9, 155, none⟩), .pointer (some a), .int .u64 150])).run Tryz.prog w = .ok (some (155, a, 150)) w := by kernel_rfl
theorem ea_isNilP (a p : Addr) (W : World) (ha : W.cell? a = some (.pointer (some p))) :
    (ReflectliteValue.method (ReflectliteValue.valueError "reflectlite.Value.IsNil" 0) ReflectliteValue.isNil #[.agg #[.pointer (some ⟨9, 155, none⟩), .pointer (some a), .int .u64 150]]).run Tryz.prog W = .ok (.bool false) W := by
  rw [ea_rlm]
  simp only [Sem.run_bind, ea_partsP, Result.andThen]
  simp [ReflectliteValue.isNil, loadVar, isAgg, underlying, Tryz.underlying155, ha, Result.andThen]

theorem ea_methodElem (h : Value) (w : World) : (Go.method 427 215 (.agg #[h]) "Elem").run Tryz.prog w = .ok (251, .agg #[h]) w := by kernel_rfl
theorem ea_methodImplements (h : Value) (w : World) : (Go.method 427 215 (.agg #[h]) "Implements").run Tryz.prog w = .ok (252, .agg #[h]) w := by kernel_rfl
theorem ea_methodAssignableTo (h : Value) (w : World) : (Go.method 427 215 (.agg #[h]) "AssignableTo").run Tryz.prog w = .ok (249, .agg #[h]) w := by kernel_rfl
theorem ea_elemP (w : World) : (ReflectliteType.method ReflectliteType.elem #[.agg #[.pointer (some ⟨9, 155, none⟩)]]).run Tryz.prog w = .ok (.iface 215 (.agg #[.pointer (some ⟨9, 89, none⟩)])) w := by kernel_rfl
theorem ea_implementsE (w : World) : (ReflectliteType.relation "Implements" ReflectliteType.implements_ #[.agg #[.pointer (some ⟨9, 89, none⟩)], .iface 215 (.agg #[.pointer (some ⟨9, 28, none⟩)])]).run Tryz.prog w = .ok (.bool true) w := by kernel_rfl
theorem ea_typeOfE (v : Value) (w : World) : (ReflectliteType.typeOf #[.iface 89 v]).run Tryz.prog w = .ok (.iface 215 (.agg #[.pointer (some ⟨9, 89, none⟩)])) w := by kernel_rfl
theorem ea_assignableE (w : World) : (ReflectliteType.relation "AssignableTo" ReflectliteType.assignableTo #[.agg #[.pointer (some ⟨9, 89, none⟩)], .iface 215 (.agg #[.pointer (some ⟨9, 89, none⟩)])]).run Tryz.prog w = .ok (.bool true) w := by kernel_rfl
theorem ea_valueOfE (k : Int) (w : World) : (ReflectliteValue.unpack (.iface 89 (.int .i64 k))).run Tryz.prog w
    = .ok (.agg #[.pointer (some ⟨9, 89, none⟩), .pointer (some ⟨w.heap.size, 0, none⟩), .int .u64 130]) (w.alloc (.cells #[.int .i64 k] 89)) := by kernel_rfl

theorem ea_elemOfP (w : World) : (Rtype.elem? 155).run Tryz.prog w = .ok (some 89) w := by kernel_rfl
theorem ea_mkE (p : Addr) (w : World) : (ReflectliteValue.mk 89 p ReflectliteValue.flagAddr).run Tryz.prog w = .ok (.agg #[.pointer (some ⟨9, 89, none⟩), .pointer (some p), .int .u64 386]) w := by kernel_rfl
theorem ea_elemVP (a p : Addr) (W : World) (ha : W.cell? a = some (.pointer (some p))) :
    (ReflectliteValue.method (ReflectliteValue.valueError "reflectlite.Value.Elem" 0) ReflectliteValue.elem #[.agg #[.pointer (some ⟨9, 155, none⟩), .pointer (some a), .int .u64 150]]).run Tryz.prog W
      = .ok (.agg #[.pointer (some ⟨9, 89, none⟩), .pointer (some p), .int .u64 386]) W := by
  rw [ea_rlm]
  simp only [Sem.run_bind, ea_partsP, Result.andThen]
  simp [ReflectliteValue.elem, loadVar, isAgg, underlying, Tryz.underlying155, ha, Result.andThen, ea_elemOfP, ea_mkE]
theorem ea_rls (v x : Value) : ReflectliteValue.set #[v, x] = (do
    let (some (dst, a, fl), some (src, b, _)) := (← ReflectliteValue.parts v, ← ReflectliteValue.parts x)
      | unsupported (.noEntry "extern/(internal/reflectlite.Value).Set.zeroValue")
    if fl / ReflectliteValue.flagAddr % 2 == 0 then unsupported (.noEntry "extern/(internal/reflectlite.Value).Set.unaddressable")
    let val ← loadVar src b
    if ← Rtype.directlyAssignable dst src then storeVar dst a val
    else if ← Rtype.implements dst src then
      if (← Rtype.kind src) == 20 then
        match val with
        | .nilIface => unsupported (.noEntry "extern/reflectlite: a nil value of one interface type handed on as a value of another")
        | _ => storeVar dst a val
      else storeVar dst a (.iface src val)
    else panicString ("reflectlite.Set: value of type " ++ (← Rtype.spelt src) ++ " is not assignable to type " ++ (← Rtype.spelt dst))
    pure (.tuple #[])) := rfl
theorem ea_partsEa (a : Addr) (w : World) : (ReflectliteValue.parts (.agg #[.pointer (some ⟨9, 89, none⟩), .pointer (some a), .int .u64 386])).run Tryz.prog w = .ok (some (89, a, 386)) w := by kernel_rfl
theorem ea_partsE (a : Addr) (w : World) : (ReflectliteValue.parts (.agg #[.pointer (some ⟨9, 89, none⟩), .pointer (some a), .int .u64 130])).run Tryz.prog w = .ok (some (89, a, 130)) w := by kernel_rfl
theorem ea_directE (w : World) : (Rtype.directlyAssignable 89 89).run Tryz.prog w = .ok true w := by kernel_rfl
theorem ea_sizeE (w : World) : (sizeOf 89).run Tryz.prog w = .ok 1 w := by kernel_rfl
theorem ea_setE (ta b : Addr) (k : Int) (old : Value) (W : World) (hb : W.cell? b = some (.int .i64 k)) (ht : W.cell? ta = some old) (hf : W.frozen? ta = false) :
    (ReflectliteValue.set #[.agg #[.pointer (some ⟨9, 89, none⟩), .pointer (some ta), .int .u64 386], .agg #[.pointer (some ⟨9, 89, none⟩), .pointer (some b), .int .u64 130]]).run Tryz.prog W
      = .ok (.tuple #[]) (W.setCell ta (.int .i64 k)) := by
  rw [ea_rls]
  simp only [Sem.run_bind, ea_partsEa, ea_partsE, Result.andThen]
  simp [ReflectliteValue.flagAddr, loadVar, isAgg, underlying, Tryz.underlying89, hb, Result.andThen, ea_directE, storeVar, Value.cells, storeCells, Addr.add]
  rw [run_store Tryz.prog W ta _ _ (by rfl)]
  simp [ht, hf]

set_option maxHeartbeats 4000000 in
theorem as_hit (k : Int) (t : Addr) (old : Value) (w : World) (hg : ErrVar w) (ht0 : w.cell? t = some old) (hf0 : w.frozen? t = false) :
    Calls Tryz.prog 86 #[.iface 89 (.int .i64 k), .iface 155 (.pointer (some t))] w fun ev w' => ev = .returned (.bool true) ∧ w' = ((((w.alloc (.cells #[.pointer (some t)] 155)).alloc (.cells #[.pointer (some ⟨9, 155, none⟩), .pointer (some ⟨w.heap.size, 0, none⟩), .int .u64 150] 189)).alloc (.cells #[.pointer (some ⟨9, 155, none⟩), .pointer (some ⟨w.heap.size, 0, none⟩), .int .u64 150] 189)).alloc (.cells #[.int .i64 k] 89)).setCell t (.int .i64 k) := by
  unfold ErrVar at hg
  have h6 := @run_callFunc_extern Tryz.prog 120 _ (fun args => ReflectliteValue.unpack (args.getD 0 (.tuple #[]))) Tryz.func120 (by kernel_rfl) (by kernel_rfl) (by kernel_rfl) (by kernel_rfl)
  have h7 := @run_callFunc_extern Tryz.prog 121 _ (ReflectliteValue.methodAny (ReflectliteValue.valueError "reflectlite.Value.Type" 0) (fun t _ _ _ => ReflectliteType.toType t)) Tryz.func121 (by kernel_rfl) (by kernel_rfl) (by kernel_rfl) (by kernel_rfl)
  have h8 := @run_callFunc_extern Tryz.prog 122 _ (ReflectliteValue.method (ReflectliteValue.valueError "reflectlite.Value.IsNil" 0) ReflectliteValue.isNil) Tryz.func122 (by kernel_rfl) (by kernel_rfl) (by kernel_rfl) (by kernel_rfl)
  have h27 := @run_callFunc_extern Tryz.prog 238 _ (ReflectliteType.abiMethod fun t => do pure (.int .u8 (← Rtype.kind t))) Tryz.func238 (by kernel_rfl) (by kernel_rfl) (by kernel_rfl) (by kernel_rfl)
  have h37 := @run_callFunc_extern Tryz.prog 251 _ (ReflectliteType.method ReflectliteType.elem) Tryz.func251 (by kernel_rfl) (by kernel_rfl) (by kernel_rfl) (by kernel_rfl)
  have h38 := @run_callFunc_extern Tryz.prog 252 _ (ReflectliteType.relation "Implements" ReflectliteType.implements_) Tryz.func252 (by kernel_rfl) (by kernel_rfl) (by kernel_rfl) (by kernel_rfl)
  have h10 := @run_callFunc_extern Tryz.prog 146 _ ReflectliteType.typeOf Tryz.func146 (by kernel_rfl) (by kernel_rfl) (by kernel_rfl) (by kernel_rfl)
  have h35 := @run_callFunc_extern Tryz.prog 249 _ (ReflectliteType.relation "AssignableTo" ReflectliteType.assignableTo) Tryz.func249 (by kernel_rfl) (by kernel_rfl) (by kernel_rfl) (by kernel_rfl)
  have h11 := @run_callFunc_extern Tryz.prog 147 _ (ReflectliteValue.method (ReflectliteValue.valueError "reflectlite.Value.Elem" 0) ReflectliteValue.elem) Tryz.func147 (by kernel_rfl) (by kernel_rfl) (by kernel_rfl) (by kernel_rfl)
  have h12 := @run_callFunc_extern Tryz.prog 148 _ ReflectliteValue.set Tryz.func148 (by kernel_rfl) (by kernel_rfl) (by kernel_rfl) (by kernel_rfl)
  have tO := ea_typeOfE
  have mA := ea_methodAssignableTo
  have a25 := ea_assignableE
  have v25 := ea_valueOfE
  have f6 := ea_valueOfP
  have f7 := ea_typeP
  have mK := ea_methodKind
  have mE := ea_methodElem
  have mI := ea_methodImplements
  have k27 := ea_kindP
  have k25 := ea_kindE
  have e27 := ea_elemP
  have i25 := ea_implementsE
  have n8 := ea_isNilP ⟨w.heap.size, 0, none⟩ t ((w.alloc (.cells #[.pointer (some t)] 155)).alloc (.cells #[.pointer (some ⟨9, 155, none⟩), .pointer (some ⟨w.heap.size, 0, none⟩), .int .u64 150] 189)) (by simp)
  have hlt : 0 < w.heap.size := by
    rcases Nat.eq_zero_or_pos w.heap.size with h0 | h
    · simp [World.cell?, h0] at hg
    · exact h
  have hg2 : ((w.alloc (.cells #[.pointer (some t)] 155)).alloc (.cells #[.pointer (some ⟨9, 155, none⟩), .pointer (some ⟨w.heap.size, 0, none⟩), .int .u64 150] 189)).cell? ⟨0, 0, none⟩ = some (.iface 215 (.agg #[.pointer (some ⟨9, 28, none⟩)])) := by
    rw [World.cell?_alloc_lt _ _ ⟨0, 0, none⟩ (by simp), World.cell?_alloc_lt _ _ ⟨0, 0, none⟩ hlt]; exact hg
  have htl : t.block < w.heap.size := by
    rcases Nat.lt_or_ge t.block w.heap.size with h | h
    · exact h
    · simp [World.cell?, Array.getElem?_eq_none h] at ht0
  have el := ea_elemVP ⟨w.heap.size, 0, none⟩ t (((w.alloc (.cells #[.pointer (some t)] 155)).alloc (.cells #[.pointer (some ⟨9, 155, none⟩), .pointer (some ⟨w.heap.size, 0, none⟩), .int .u64 150] 189)).alloc (.cells #[.pointer (some ⟨9, 155, none⟩), .pointer (some ⟨w.heap.size, 0, none⟩), .int .u64 150] 189)) (by rw [World.cell?_alloc_lt _ _ ⟨w.heap.size, 0, none⟩ (by simp; omega)]; simp)
  have st := ea_setE t ⟨w.heap.size + 1 + 1 + 1, 0, none⟩ k old ((((w.alloc (.cells #[.pointer (some t)] 155)).alloc (.cells #[.pointer (some ⟨9, 155, none⟩), .pointer (some ⟨w.heap.size, 0, none⟩), .int .u64 150] 189)).alloc (.cells #[.pointer (some ⟨9, 155, none⟩), .pointer (some ⟨w.heap.size, 0, none⟩), .int .u64 150] 189)).alloc (.cells #[.int .i64 k] 89))
    (by rw [World.cell?_alloc_at _ _ _ _ (by simp)]; rfl)
    (by rw [World.cell?_alloc_lt _ _ t (by simp; omega), World.cell?_alloc_lt _ _ t (by simp; omega), World.cell?_alloc_lt _ _ t (by simp; omega), World.cell?_alloc_lt _ _ t htl]; exact ht0)
    (by rw [World.frozen?_alloc_old _ _ t (by simp; omega), World.frozen?_alloc_old _ _ t (by simp; omega), World.frozen?_alloc_old _ _ t (by simp; omega), World.frozen?_alloc_old _ _ t (Nat.ne_of_lt htl)]; exact hf0)
  go_enter Tryz.func86, Tryz.ntmps86
  go_wp2
  refine wp_loop_rounds 1 ?_
  rw [rounds_succ]
  go_wp2
  go_ret
  exact ⟨rfl, rfl⟩

/-! ### weirsame.Error -/
theorem ErrVar.below {w w' : World} {B : Nat} (h : ErrVar w) (hb : Below B w w') (hB : 0 < B) : ErrVar w' := by
  unfold ErrVar at h ⊢
  rw [hb.cell (p := ⟨0, 0, none⟩) hB]; exact h
theorem ErrVar.pos {w : World} (h : ErrVar w) : 0 < w.heap.size := by
  unfold ErrVar at h
  rcases Nat.eq_zero_or_pos w.heap.size with h0 | h'
  · simp [World.cell?, h0] at h
  · exact h'
theorem ErrVar.drewN {w : World} (h : ErrVar w) (q : Nat) : ErrVar (w.drewN q) := h
theorem ErrVar.alloc {w : World} (h : ErrVar w) (o : Obj) : ErrVar (w.alloc o) := by
  have hp := h.pos
  unfold ErrVar at h ⊢
  rw [World.cell?_alloc_lt _ _ ⟨0, 0, none⟩ hp]; exact h

theorem told_nil (w : World) : Calls Tryz.prog 38 #[.nilIface] w fun e w' => e = .returned (.int .i64 0) ∧ w = w' := by
  go_enter Tryz.func38, Tryz.ntmps38
  go_wp2
  go_ret
  exact ⟨rfl, rfl⟩
set_option maxHeartbeats 1000000 in
theorem told_errno (k : Int) (w : World) (hg : ErrVar w) : Calls Tryz.prog 38 #[.iface 89 (.int .i64 k)] w fun e w' => e = .returned (.int .i64 k) ∧ Below w.heap.size w w' := by
  have hgA := hg.alloc (.cells #[.int .i64 0] 89)
  have htA : (w.alloc (.cells #[.int .i64 0] 89)).cell? ⟨w.heap.size, 0, none⟩ = some (.int .i64 0) := by simp
  have hfA : (w.alloc (.cells #[.int .i64 0] 89)).frozen? ⟨w.heap.size, 0, none⟩ = false := by simp
  have HA := Lib.hid hgA
  clear hgA
  go_enter Tryz.func38, Tryz.ntmps38
  go_wp2_with (go_at_call 86; refine (as_hit k _ (.int .i64 0) _ HA.out htA hfA).mono ?_; rintro e w' ⟨rfl, rfl⟩)
  go_ret
  refine ⟨rfl, ?_⟩
  exact (((((Below.refl _ _).alloc (Nat.le_refl _) _).alloc (by simp) _).alloc (by simp; omega) _).alloc (by simp; omega) _).alloc (by simp; omega) _
theorem error_nil (e0 : Int) (w : World) : Calls Tryz.prog 11 #[.nilIface, .int .i64 e0] w fun e w' => e = .returned (.bool (0 == e0)) ∧ w = w' := by
  go_enter Tryz.func11, Tryz.ntmps11
  go_wp2_with (go_at_call 38; refine (told_nil _).mono ?_; rintro e w' ⟨rfl, rfl⟩)
  go_ret
  exact ⟨rfl, rfl⟩
theorem error_errno (k e0 : Int) (w : World) (hg : ErrVar w) : Calls Tryz.prog 11 #[.iface 89 (.int .i64 k), .int .i64 e0] w fun e w' => e = .returned (.bool (k == e0)) ∧ Below w.heap.size w w' := by
  have HA := Lib.hid hg
  clear hg
  go_enter Tryz.func11, Tryz.ntmps11
  go_wp2_with (go_at_call 38; refine (told_errno k _ HA.out).mono ?_; rintro e w' ⟨rfl, hb⟩)
  go_ret
  exact ⟨rfl, hb⟩
end Go.Proofs.YtfndhfekbbbliaaGreatDoor
