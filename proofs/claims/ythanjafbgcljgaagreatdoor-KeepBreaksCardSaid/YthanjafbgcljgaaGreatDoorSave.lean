/-
  Package keep: the contract of Save. Conditions: a picture that fits a file; fewer than 10^11 steps.
-/
import Derived.Test.YthanjafbgcljgaaGreatDoorKeep
namespace Go.Proofs.YthanjafbgcljgaaGreatDoor
open Go.RowKit Go.Shelf
set_option linter.unusedVariables false

structure DiskFine (S : DState) : Prop where
  st0 : 0 ≤ S.steps
  st1 : S.steps < 100000000000
  sp0 : -1 ≤ S.stop
  sp1 : S.stop ≤ 9223372036854775807
  len : S.since.length < 100000000000
theorem DiskFine.ok {S : DState} (h : DiskFine S) : DiskOk S := ⟨h.st0, by have := h.st1; omega, h.sp0, h.sp1, by have := h.len; omega⟩
def saveS (S : DState) (id : Int) (v : Value) : Nat → DState
  | 0 => S
  | 1 => doneS S (.wr halfN v)
  | 2 => syncS (doneS S (.wr halfN v))
  | 3 => doneS (syncS (doneS S (.wr halfN v))) (.ren halfN (picN id))
  | _ => syncS (doneS (syncS (doneS S (.wr halfN v))) (.ren halfN (picN id)))
theorem saveS_ok {S : DState} (h : DiskFine S) (id : Int) (v : Value) : ∀ j, j ≤ 4 → DiskOk (saveS S id v j) := by
  obtain ⟨h1, h2, h3, h4, h5⟩ := h
  intro j hj
  match j, hj with
  | 0, _ => exact ⟨h1, by simp only [saveS]; omega, h3, h4, by simp only [saveS]; omega⟩
  | 1, _ => exact ⟨by simp only [saveS, doneS]; omega, by simp only [saveS, doneS]; omega, h3, h4, by simp only [saveS, doneS, List.length_append, List.length_singleton]; omega⟩
  | 2, _ => exact ⟨by simp only [saveS, doneS, syncS]; omega, by simp only [saveS, doneS, syncS]; omega, h3, h4, by simp [saveS, doneS, syncS]⟩
  | 3, _ => exact ⟨by simp only [saveS, doneS, syncS]; omega, by simp only [saveS, doneS, syncS]; omega, h3, h4, by simp [saveS, doneS, syncS]⟩
  | 4, _ => exact ⟨by simp only [saveS, doneS, syncS]; omega, by simp only [saveS, doneS, syncS]; omega, h3, h4, by simp [saveS, doneS, syncS]⟩
theorem fhas_fset (fs : SMap) (k : ByteArray) (v : Value) : fhas (fset fs k v) k = true := by
  by_cases h : k ∈ skeys fs
  · obtain ⟨a, u, b, rfl, ha⟩ := split_key h
    rw [fset_split ha]; exact fhas_yes (by simp [skeys])
  · rw [fset_none h]; exact fhas_yes (by simp [skeys])
theorem bcells_flat (l : List UInt8) : bcells l = l.flatMap bytCells := by
  unfold bcells
  induction l with
  | nil => rfl
  | cons x r ih => simp [ih, bytCells]
theorem sealed_sl {w w' : World} {v : Value} {l : List UInt8} (h : w'.ownsRow w.heap.size 5 1 v l.length (bcells l)) : ∃ A c, v = .slice A l.length c ∧ SlA bytE (· < w'.heap.size) w' A c l := by
  obtain ⟨A, c, rfl, hown, hA⟩ := OwnS.of_row h
  rw [bcells_flat] at hown
  exact ⟨A, c, rfl, OwnS.sl (E := bytE) bytCells (fun _ => rfl) hown rfl (fun k e => hown.lt k e) (fun x hx => rfl)⟩
theorem PowTab.at_ {w0 w : World} {g : Nat} {S : DState} (h : PowTab w0) (D : DiskIn w0 w g S) : PowTab w := h.below D.all

/-- What Save leaves behind where it is stopped behind j steps (4: it is not). -/
structure Saved (w0 w : World) (g : Nat) (S : DState) (id : Int) (x : List UInt8) (w' : World) (v : Value) (j : Nat) : Prop where
  le : j ≤ 4
  went : ∀ i, i < j → stoppedB (saveS S id v i) = false
  stop : j < 4 → stoppedB (saveS S id v j) = true
  keep : QKeep w w'
  disk : DiskIn w0 w' g (saveS S id v j)
  blob : 0 < j → BlobAt w' v (sealB x)
def saveE (j : Nat) : Option Int := if j = 4 then none else some 7
theorem went1 {S : DState} {id : Int} {v : Value} (h : stoppedB S = false) : ∀ i, i < 1 → stoppedB (saveS S id v i) = false := by
  intro i hi
  match i, hi with
  | 0, _ => exact h
theorem went_s {S : DState} {id : Int} {v : Value} {j : Nat} (h : ∀ i, i < j → stoppedB (saveS S id v i) = false) (h1 : stoppedB (saveS S id v j) = false) : ∀ i, i < j + 1 → stoppedB (saveS S id v i) = false := fun i hi => by
  by_cases e : i = j
  · subst e; exact h1
  · exact h i (by omega)
set_option maxRecDepth 100000 in
set_option maxHeartbeats 4000000 in
theorem save_ok (w0 : World) (g : Nat) (S : DState) (id : Int) (A : Option Addr) (c : Nat) (x : List UInt8) (w : World) (D : DiskIn w0 w g S) (hG : Good id) (hT : PowTab w0) (hno : fhas S.now (picN id) = false) (hx : SlA bytE (· < w.heap.size) w A c x) (hl : (sealB x).length ≤ 60000) (ok : DiskFine S) :
    Calls Tryz.prog 5 #[.pointer (some ⟨g, 0, none⟩), .int .i64 id, .slice A x.length c] w fun e w' => ∃ v j, e = .returned (errV (saveE j)) ∧ Saved w0 w g S id x w' v j := by
  have hxl : x.length ≤ 1099511627776 := by rw [sealB_length] at hl; omega
  have HD := Lib.hid D
  have HX := Lib.hid hx
  have hg := good_yes hG w
  have hR := kread_no w0 g S id 6 w D hG (hT.at_ D) (by simp [hasE, named_pic hG, hno])
  have hwr : writeE halfN (sealB x) = none := by simp [writeE, named_half]; omega
  have hokS : ∀ v j, j ≤ 4 → DiskOk (saveS S id v j) := fun v => saveS_ok ok id v
  clear D hx
  go_enter Tryz.func5, Tryz.ntmps5
  go_wp2_with fail
  refine hg.mono ?_
  rintro e w1 ⟨rfl, rfl⟩
  go_wp2_with fail
  refine hR.mono ?_
  rintro e w2 ⟨rfl, hb2⟩
  have D2 := Lib.hid (HD.out.below hb2)
  have HX2 := Lib.hid (HX.out.below hb2)
  have HQ2 := Lib.hid (QKeep.below hb2)
  clear hb2 hg hR
  go_wp2_with fail
  refine (seal_ok c A x w2 HX2.out hxl).mono ?_
  rintro e w3 ⟨v3, rfl, ho3, hb3⟩
  obtain ⟨A3, c3, rfl, hs3⟩ := sealed_sl ho3
  have D3 := Lib.hid (D2.out.below hb3)
  have HS3 := Lib.hid hs3
  have HQ3 := Lib.hid (HQ2.out.trans (QKeep.below hb3))
  clear ho3 hb3 hs3
  cases hs0 : stoppedB S with
  | true =>
    have hr : stepE S (writeE halfN (sealB x)) = some 7 := by simp [stepE, hs0]
    go_wp2_with fail
    refine (write_in w0 g S halfN A3 c3 (sealB x) (· < w3.heap.size) w3 D3.out half_le HS3.out (fun k hk => hk) (by omega) ok.ok _ hr).mono ?_
    rintro e w4 ⟨he, q4, -, h4⟩
    obtain rfl : e = .returned (.iface 45 (.int .i64 7)) := he
    have HF : Hid (Saved w0 w1 g S id x w4 zB 0) := ⟨by omega, nofun, fun _ => hs0, HQ3.out.trans q4, h4 (by simp), fun h => by omega⟩
    clear q4 h4
    go_wp2_with fail
    go_ret
    exact ⟨zB, 0, rfl, HF.out⟩
  | false =>
    have hr : stepE S (writeE halfN (sealB x)) = none := by simp [stepE, hs0, hwr]
    go_wp2_with fail
    refine (write_in w0 g S halfN A3 c3 (sealB x) (· < w3.heap.size) w3 D3.out half_le HS3.out (fun k hk => hk) (by omega) ok.ok _ hr).mono ?_
    rintro e w4 ⟨he, q4, h4, -⟩
    obtain rfl : e = .returned .nilIface := he
    obtain ⟨v, hD4, hv⟩ := h4 rfl
    have D4 : Hid (DiskIn w0 w4 g (saveS S id v 1)) := hD4
    have HV4 := Lib.hid hv
    have HQ4 := Lib.hid (HQ3.out.trans q4)
    clear q4 h4 hD4 hv
    cases hs1 : stoppedB (saveS S id v 1) with
    | true =>
      go_wp2_with fail
      refine (sync_no w0 g _ w4 D4.out hs1).mono ?_
      rintro e w5 ⟨he, hb5⟩
      obtain rfl : e = .returned (.iface 45 (.int .i64 7)) := he
      have HF : Hid (Saved w0 w1 g S id x w5 v 1) := ⟨by omega, went1 hs0, fun _ => hs1, HQ4.out.trans (QKeep.below hb5), D4.out.below hb5, fun _ => HV4.out.qk (QKeep.below hb5)⟩
      clear hb5
      go_wp2_with fail
      go_ret
      exact ⟨v, 1, rfl, HF.out⟩
    | false =>
      go_wp2_with fail
      refine (sync_ok w0 g _ w4 D4.out (hokS v 1 (by omega)) hs1).mono ?_
      rintro e w5 ⟨rfl, q5, hD5⟩
      have D5 : Hid (DiskIn w0 w5 g (saveS S id v 2)) := hD5
      have HV5 := Lib.hid (HV4.out.qk q5)
      have HQ5 := Lib.hid (HQ4.out.trans q5)
      clear q5 hD5
      go_wp2_with fail
      refine (kname_ok id w5 hG (hT.at_ D5.out)).mono ?_
      rintro e w6 ⟨rfl, hb6⟩
      have D6 := Lib.hid (D5.out.below hb6)
      have HV6 := Lib.hid (HV5.out.qk (QKeep.below hb6))
      have HQ6 := Lib.hid (HQ5.out.trans (QKeep.below hb6))
      have hren : renE (saveS S id v 2) halfN (picN id) = none := by
        have h1 : fhas (saveS S id v 2).now halfN = true := fhas_fset S.now halfN v
        simp [renE, named_pic hG, hasE, named_half, h1]
      clear hb6
      cases hs2 : stoppedB (saveS S id v 2) with
      | true =>
        have hr2 : stepE (saveS S id v 2) (renE (saveS S id v 2) halfN (picN id)) = some 7 := by simp [stepE, hs2]
        go_wp2_with fail
        refine (rename_in w0 g _ halfN (picN id) w6 D6.out half_le (picN_le hG) (hokS v 2 (by omega)) _ hr2).mono ?_
        rintro e w7 ⟨he, q7, hD7⟩
        obtain rfl : e = .returned (.iface 45 (.int .i64 7)) := he
        have HF : Hid (Saved w0 w1 g S id x w7 v 2) := ⟨by omega, went_s (went1 hs0) hs1, fun _ => hs2, HQ6.out.trans q7, hD7, fun _ => HV6.out.qk q7⟩
        clear q7 hD7
        go_wp2_with fail
        go_ret
        exact ⟨v, 2, rfl, HF.out⟩
      | false =>
        have hr2 : stepE (saveS S id v 2) (renE (saveS S id v 2) halfN (picN id)) = none := by simp [stepE, hs2, hren]
        go_wp2_with fail
        refine (rename_in w0 g _ halfN (picN id) w6 D6.out half_le (picN_le hG) (hokS v 2 (by omega)) _ hr2).mono ?_
        rintro e w7 ⟨he, q7, hD7⟩
        obtain rfl : e = .returned .nilIface := he
        have D7 : Hid (DiskIn w0 w7 g (saveS S id v 3)) := hD7
        have HV7 := Lib.hid (HV6.out.qk q7)
        have HQ7 := Lib.hid (HQ6.out.trans q7)
        clear q7 hD7
        cases hs3 : stoppedB (saveS S id v 3) with
        | true =>
          go_wp2_with fail
          refine (sync_no w0 g _ w7 D7.out hs3).mono ?_
          rintro e w8 ⟨he, hb8⟩
          obtain rfl : e = .returned (.iface 45 (.int .i64 7)) := he
          have HF : Hid (Saved w0 w1 g S id x w8 v 3) := ⟨by omega, went_s (went_s (went1 hs0) hs1) hs2, fun _ => hs3, HQ7.out.trans (QKeep.below hb8), D7.out.below hb8, fun _ => HV7.out.qk (QKeep.below hb8)⟩
          clear hb8
          go_wp2_with fail
          go_ret
          exact ⟨v, 3, rfl, HF.out⟩
        | false =>
          go_wp2_with fail
          refine (sync_ok w0 g _ w7 D7.out (hokS v 3 (by omega)) hs3).mono ?_
          rintro e w8 ⟨rfl, q8, hD8⟩
          have HF : Hid (Saved w0 w1 g S id x w8 v 4) := ⟨by omega, went_s (went_s (went_s (went1 hs0) hs1) hs2) hs3, fun h => absurd h (by omega), HQ7.out.trans q8, hD8, fun _ => HV7.out.qk q8⟩
          clear q8 hD8
          go_wp2_with fail
          go_ret
          exact ⟨v, 4, rfl, HF.out⟩
end Go.Proofs.YthanjafbgcljgaaGreatDoor
