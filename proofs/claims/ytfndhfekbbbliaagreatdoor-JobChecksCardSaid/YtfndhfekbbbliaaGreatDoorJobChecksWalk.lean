/-
  The walk of JobChecks: it returns true. Conditions: the two variables of Atoi's errors hold errors; the table of powers of ten reads as Go's text lays it; errors.errorType is the handle of its type.
-/
import Derived.Test.YtfndhfekbbbliaaGreatDoorPackM
import Derived.Test.YtfndhfekbbbliaaGreatDoorPackJ
namespace Go.Proofs.YtfndhfekbbbliaaGreatDoor
open Go.RowKit Go.Shelf
set_option linter.unusedVariables false

theorem error_sameJ (k : Int) (w : World) (hg : ErrVar w) : Calls Tryz.prog 11 #[errV k, .int .i64 k] w fun e w' => e = .returned (.bool true) ∧ Below w.heap.size w w' := by
  refine (error_errno k k w hg).mono ?_
  rintro e w' ⟨rfl, hb⟩
  exact ⟨by simp, hb⟩
theorem error_nil0J (w : World) : Calls Tryz.prog 11 #[.nilIface, .int .i64 0] w fun e w' => e = .returned (.bool true) ∧ w = w' := by
  refine (error_nil 0 w).mono ?_
  rintro e w' ⟨rfl, rfl⟩
  exact ⟨rfl, rfl⟩
theorem uses_atJ (l : List Nod) {i : Nat} (h : i < (usesAll l).length) : (usesAll l)[i] = usesOf l (i : Int) := by
  have h2 : (usesAll l)[i]? = some (usesOf l (i : Int)) := by
    have hl : i < l.length := by unfold usesAll at h; simpa using h
    unfold usesAll; simp [hl]
  rw [List.getElem?_eq_getElem h] at h2; exact Option.some.inj h2
theorem uses_lenJ (l : List Nod) : (usesAll l).length = l.length := by unfold usesAll; simp
set_option maxRecDepth 100000 in
set_option maxHeartbeats 8000000 in
theorem jobChecks_bad (A : Option Addr) (c : Nat) (l : List Nod) (w : World) (hl : SlA nodE (· < w.heap.size) w A c l) (hv : ErrVars w) (hT : PowTab w) (hE : ErrVar w) (h0 : jobErr l ≠ 0) :
    Calls Tryz.prog 5 #[.slice A l.length c] w fun e w' => e = .returned (.bool true) ∧ Below w.heap.size w w' := by
  have HL := Lib.hid hl
  have HV := Lib.hid hv
  have HE := Lib.hid hE
  have HPOS := Lib.hid hE.pos
  have HLX : Hid (∀ W, Below w.heap.size w W → SlA nodE (· < w.heap.size) W A c l) := fun W hW => hl.keep fun k hk => hW.block k hk
  have HFX : Hid (∀ W, Below w.heap.size w W → ∀ k, k < w.heap.size → k < W.heap.size) := fun W hW k hk => Nat.lt_of_lt_of_le hk hW.size
  have hle := hl.le
  obtain ⟨je, hje⟩ : ∃ je, je = jobErr l := ⟨_, rfl⟩
  have H0 := Lib.hid h0
  have e1 : errJ je = errV je := by unfold errJ; rw [if_neg (by rw [hje]; exact h0)]
  have hj0 : (je == 0) = false := by rw [hje]; simp [h0]
  have hj1 : (je != 0) = true := by rw [hje]; simp [h0]
  have HJE := Lib.hid hje
  have HE1 := Lib.hid e1
  have HRJ := Lib.hid (rjob_ok (· < w.heap.size) A c l w hl (fun _ h => h))
  rw [← hje] at HRJ
  clear hl hv hE h0 hje e1 hT
  go_enter Tryz.func5, Tryz.ntmps5
  go_wp2_with fail
  refine HRJ.out.mono ?_
  rintro e w1 ⟨rfl, b1⟩
  have B1 := Lib.hid b1
  clear b1 HRJ
  go_wp2_with fail
  have hc := jcheck_ok _ A c l w1 (HLX.out w1 B1.out) (HFX.out w1 B1.out) (HV.out.below B1.out)
  rw [← HJE.out, HE1.out] at hc
  refine hc.mono ?_
  clear hc
  rintro e w2 ⟨rfl, b2⟩
  have B2 := Lib.hid (B1.out.trans (b2.mono B1.out.size))
  clear b2 B1
  go_wp2_with fail
  refine (error_sameJ je w2 (HE.out.below B2.out HPOS.out)).mono ?_
  rintro e w3 ⟨rfl, b3⟩
  have B3 := Lib.hid (B2.out.trans (b3.mono B2.out.size))
  clear b3 B2
  go_wp2_with fail
  refine (jprint_bad _ A c l w3 (HLX.out w3 B3.out) (HFX.out w3 B3.out) (HV.out.below B3.out) H0.out).mono ?_
  rintro e w4 ⟨-, hx, b4⟩
  obtain rfl := hx H0.out
  have B4 := Lib.hid (B3.out.trans (b4.mono B3.out.size))
  clear b4 B3 hx
  rw [← HJE.out]
  go_wp2_with fail
  refine (error_sameJ je w4 (HE.out.below B4.out HPOS.out)).mono ?_
  rintro e w5 ⟨rfl, b5⟩
  have B5 := Lib.hid (B4.out.trans (b5.mono B4.out.size))
  clear b5 B4
  go_wp2_with fail
  refine (sources_ok _ A c l w5 (HLX.out w5 B5.out) (HFX.out w5 B5.out) (HV.out.below B5.out)).mono ?_
  rintro e w6 ⟨-, hx, b6⟩
  obtain rfl := hx H0.out
  have B6 := Lib.hid (B5.out.trans (b6.mono B5.out.size))
  clear b6 B5 hx
  rw [← HJE.out]
  go_wp2_with fail
  refine (error_sameJ je w6 (HE.out.below B6.out HPOS.out)).mono ?_
  rintro e w7 ⟨rfl, b7⟩
  have B7 := Lib.hid (B6.out.trans (b7.mono B6.out.size))
  clear b7 B6
  go_wp2_with fail
  refine (sinks_ok _ A c l w7 (HLX.out w7 B7.out) (HFX.out w7 B7.out) (HV.out.below B7.out)).mono ?_
  rintro e w8 ⟨-, hx, b8⟩
  obtain rfl := hx H0.out
  have B8 := Lib.hid (B7.out.trans (b8.mono B7.out.size))
  clear b8 B7 hx
  rw [← HJE.out]
  go_wp2_with fail
  refine (error_sameJ je w8 (HE.out.below B8.out HPOS.out)).mono ?_
  rintro e w9 ⟨rfl, b9⟩
  have B9 := Lib.hid (B8.out.trans (b9.mono B8.out.size))
  clear b9 B8
  go_wp2_with fail
  refine (uses_ok _ A c l w9 (HLX.out w9 B9.out) (HFX.out w9 B9.out) (HV.out.below B9.out)).mono ?_
  rintro e w10 ⟨-, hx, b10⟩
  obtain rfl := hx H0.out
  have B10 := Lib.hid (B9.out.trans (b10.mono B9.out.size))
  clear b10 B9 hx
  rw [← HJE.out]
  go_wp2_with fail
  refine (error_sameJ je w10 (HE.out.below B10.out HPOS.out)).mono ?_
  rintro e w11 ⟨rfl, b11⟩
  have B11 := Lib.hid (B10.out.trans (b11.mono B10.out.size))
  clear b11 B10
  go_wp2_with fail
  refine (ints_same none none 0 0 [] w11 (fun _ => False) (fun _ => False) (SlA.nil _ _ _ _ _ (Nat.zero_le _)) (SlA.nil _ _ _ _ _ (Nat.zero_le _))).mono ?_
  rintro e w12 ⟨rfl, q1, rfl⟩
  go_wp2_with fail
  refine (ints_same none none 0 0 [] _ (fun _ => False) (fun _ => False) (SlA.nil _ _ _ _ _ (Nat.zero_le _)) (SlA.nil _ _ _ _ _ (Nat.zero_le _))).mono ?_
  rintro e w13 ⟨rfl, q2, rfl⟩
  have B13 : Hid (Below w.heap.size w ((w11.drewN q1).drewN q2)) := bdrewN (bdrewN B11.out q1) q2
  generalize (w11.drewN q1).drewN q2 = W13 at *
  go_wp2_with fail
  go_ret
  exact ⟨rfl, B13.out⟩
set_option maxRecDepth 100000 in
set_option maxHeartbeats 16000000 in
theorem jobChecks_good (A : Option Addr) (c : Nat) (l : List Nod) (w : World) (hl : SlA nodE (· < w.heap.size) w A c l) (hv : ErrVars w) (hT : PowTab w) (hE : ErrVar w) (h0 : jobErr l = 0) :
    Calls Tryz.prog 5 #[.slice A l.length c] w fun e w' => e = .returned (.bool true) ∧ Below w.heap.size w w' := by
  have HL := Lib.hid hl
  have HV := Lib.hid hv
  have HE := Lib.hid hE
  have HT := Lib.hid hT
  have HLX : Hid (∀ W, Below w.heap.size w W → SlA nodE (· < w.heap.size) W A c l) := fun W hW => hl.keep fun k hk => hW.block k hk
  have HFX : Hid (∀ W, Below w.heap.size w W → ∀ k, k < w.heap.size → k < W.heap.size) := fun W hW k hk => Nat.lt_of_lt_of_le hk hW.size
  have HFIT := Lib.hid (job_fit hl h0)
  have hl12 := (job_parts h0).1
  have hle := hl.le
  have H0 := Lib.hid h0
  have HRJ := Lib.hid (rjob_ok (· < w.heap.size) A c l w hl (fun _ h => h))
  rw [h0] at HRJ
  clear hl hv hE h0 hT
  go_enter Tryz.func5, Tryz.ntmps5
  go_wp2_with fail
  refine HRJ.out.mono ?_
  rintro e w1 ⟨rfl, b1⟩
  have B1 := Lib.hid b1
  clear b1 HRJ
  go_wp2_with fail
  have hc := jcheck_ok _ A c l w1 (HLX.out w1 B1.out) (HFX.out w1 B1.out) (HV.out.below B1.out)
  rw [H0.out, show errJ 0 = .nilIface from rfl] at hc
  refine hc.mono ?_
  clear hc
  rintro e w2 ⟨rfl, b2⟩
  have B2 := Lib.hid (B1.out.trans (b2.mono B1.out.size))
  clear b2 B1
  go_wp2_with fail
  refine (error_nil0J w2).mono ?_
  rintro e w3 ⟨rfl, rfl⟩
  go_wp2_with fail
  obtain ⟨S, hS⟩ : ∃ S : ByteArray, S = ⟨(jobText l).toArray⟩ := ⟨_, rfl⟩
  have hRP := rprint_ok _ A c l w2 (HLX.out w2 B2.out) (HFX.out w2 B2.out) HFIT.out hl12
  rw [← hS] at hRP
  have HS := Lib.hid hS
  clear hS
  refine hRP.mono ?_
  clear hRP
  rintro e w4 ⟨rfl, b4⟩
  have B4 := Lib.hid (B2.out.trans (b4.mono B2.out.size))
  clear b4 B2
  go_wp2_with fail
  refine (rof_ok _ A c l 1 w4 (HLX.out w4 B4.out) (HFX.out w4 B4.out) (by omega)).mono ?_
  rintro e w5 ⟨⟨A5, c5, rfl, hs5⟩, b5⟩
  have B5 := Lib.hid (B4.out.trans (b5.mono B4.out.size))
  have HS5 : Hid (∀ W, Below w5.heap.size w5 W → SlA (intE .i64) (fun j => w4.heap.size ≤ j ∧ j < w5.heap.size) W A5 c5 (ofKind l 1)) := fun W hW => hs5.keep fun k hk => hW.block k hk.2
  clear b5 B4 hs5
  go_wp2_with fail
  refine (rof_ok _ A c l 10 w5 (HLX.out w5 B5.out) (HFX.out w5 B5.out) (by omega)).mono ?_
  rintro e w6 ⟨⟨A6, c6, rfl, hs6⟩, b6⟩
  have B6 := Lib.hid (B5.out.trans (b6.mono B5.out.size))
  have C6 := Lib.hid b6
  have HS6 : Hid (∀ W, Below w6.heap.size w6 W → SlA (intE .i64) (fun j => w5.heap.size ≤ j ∧ j < w6.heap.size) W A6 c6 (ofKind l 10)) := fun W hW => hs6.keep fun k hk => hW.block k hk.2
  clear b6 B5 hs6
  go_wp2_with fail
  refine (jprint_good _ A c l w6 (HLX.out w6 B6.out) (HFX.out w6 B6.out) (HV.out.below B6.out) (HT.out.below B6.out) H0.out).mono ?_
  rintro e w7 ⟨hx, -, b7⟩
  obtain rfl := hx H0.out
  have C7 := Lib.hid b7
  rw [← HS.out]
  clear b7 hx
  go_wp2_with fail
  refine (error_nil0J w7).mono ?_
  rintro e w8 ⟨rfl, rfl⟩
  have B7 := Lib.hid (B6.out.trans (C7.out.mono B6.out.size))
  clear B6
  go_wp2_with fail
  refine (sources_ok _ A c l w7 (HLX.out w7 B7.out) (HFX.out w7 B7.out) (HV.out.below B7.out)).mono ?_
  rintro e w8 ⟨hx, -, b8⟩
  obtain ⟨A8, c8, rfl, hs8⟩ := hx H0.out
  have B8 := Lib.hid (B7.out.trans (b8.mono B7.out.size))
  have C8 := Lib.hid b8
  have HS8 : Hid (∀ W, Below w8.heap.size w8 W → SlA (intE .i64) (fun j => w7.heap.size ≤ j ∧ j < w8.heap.size) W A8 c8 (ofKind l 1)) := fun W hW => hs8.keep fun k hk => hW.block k hk.2
  clear b8 hx hs8 B7
  go_wp2_with fail
  refine (error_nil0J w8).mono ?_
  rintro e w9 ⟨rfl, rfl⟩
  go_wp2_with fail
  refine (sinks_ok _ A c l w8 (HLX.out w8 B8.out) (HFX.out w8 B8.out) (HV.out.below B8.out)).mono ?_
  rintro e w9 ⟨hx, -, b9⟩
  obtain ⟨A9, c9, rfl, hs9⟩ := hx H0.out
  have B9 := Lib.hid (B8.out.trans (b9.mono B8.out.size))
  have C9 := Lib.hid b9
  have HS9 : Hid (∀ W, Below w9.heap.size w9 W → SlA (intE .i64) (fun j => w8.heap.size ≤ j ∧ j < w9.heap.size) W A9 c9 (ofKind l 10)) := fun W hW => hs9.keep fun k hk => hW.block k hk.2
  clear b9 hx hs9 B8
  go_wp2_with fail
  refine (error_nil0J w9).mono ?_
  rintro e w10 ⟨rfl, rfl⟩
  go_wp2_with fail
  refine (uses_ok _ A c l w9 (HLX.out w9 B9.out) (HFX.out w9 B9.out) (HV.out.below B9.out)).mono ?_
  rintro e w10 ⟨hx, -, b10⟩
  obtain ⟨AU, cU, rfl, hsU⟩ := hx H0.out
  have B10 := Lib.hid (B9.out.trans (b10.mono B9.out.size))
  have C10 := Lib.hid b10
  clear b10 hx B9
  have HU : Hid (∀ W, Below w10.heap.size w10 W → SlA (slE (intE .i64)) (· < w10.heap.size) W AU cU (usesAll l)) := fun W hW => hsU.keep fun k hk => hW.block k hk
  clear hsU
  go_wp2_with fail
  refine (error_nil0J w10).mono ?_
  rintro e w11 ⟨rfl, rfl⟩
  go_wp2_with fail
  have c89 : Below w8.heap.size w8 w10 := C9.out.trans (C10.out.mono C9.out.size)
  have c59 : Below w5.heap.size w5 w10 := by
    have h6 : w5.heap.size ≤ w6.heap.size := C6.out.size
    have h7 : w6.heap.size ≤ w7.heap.size := C7.out.size
    have h8 : w7.heap.size ≤ w8.heap.size := C8.out.size
    exact C6.out.trans ((C7.out.trans ((C8.out.trans (c89.mono h8)).mono h7)).mono h6)
  have c69 : Below w6.heap.size w6 w10 := by
    have h7 : w6.heap.size ≤ w7.heap.size := C7.out.size
    have h8 : w7.heap.size ≤ w8.heap.size := C8.out.size
    exact C7.out.trans ((C8.out.trans (c89.mono h8)).mono h7)
  refine (ints_same A8 A5 c8 c5 (ofKind l 1) w10 _ _ (HS8.out _ c89) (HS5.out _ c59)).mono ?_
  rintro e w12 ⟨rfl, q1, rfl⟩
  go_wp2_with fail
  refine (ints_same A9 A6 c9 c6 (ofKind l 10) _ _ _ (HS9.out _ (bdrewN C10.out q1)) (HS6.out _ (bdrewN c69 q1))).mono ?_
  rintro e w13 ⟨rfl, q2, rfl⟩
  have B13 : Hid (Below w.heap.size w ((w10.drewN q1).drewN q2)) := bdrewN (bdrewN B10.out q1) q2
  have C13 : Hid (Below w10.heap.size w10 ((w10.drewN q1).drewN q2)) := bdrewN (bdrewN (Below.refl _ _) q1) q2
  generalize (w10.drewN q1).drewN q2 = W13 at *
  have hss : (S.data.toList == S.data.toList) = true := by simp
  clear c89 c59 c69 HS5 HS6 HS8 HS9 C6 C7 C8 C9 C10 B10
  go_wp2_with fail
  go_loopw [19] (fun iv wx => ∃ i : Nat, i ≤ l.length ∧ iv = .int .i64 i ∧ Hid (Below W13.heap.size W13 wx)) (fun iv _ => l.length - (intOf iv).toNat)
  case atStart => exact ⟨0, Nat.zero_le _, rfl, Below.refl _ _⟩
  case round =>
    obtain ⟨i, hi, rfl, HB⟩ := hrel
    by_cases hlt : i < l.length
    · have hu : i < (usesAll l).length := by rw [uses_lenJ]; exact hlt
      go_wp2_with fail
      go_loopw [20, 21] (fun uv kv wy => ∃ k : Nat, k ≤ l.length ∧ kv = .int .i64 k ∧ Hid (wy.ownsRow W13.heap.size 3 1 uv (usesOf (l.take k) (i : Int)).length (intV (usesOf (l.take k) (i : Int)))) ∧ Hid (Below W13.heap.size W13 wy)) (fun _ kv _ => l.length - (intOf kv).toNat)
      case atStart => exact ⟨0, Nat.zero_le _, rfl, by show World.ownsRow _ _ _ _ _ _ _; rw [List.take_zero]; exact World.ownsRow_nil _ _ _ _, HB⟩
      case round =>
        obtain ⟨k, hk, rfl, HO, HBk⟩ := hrel
        by_cases hlk : k < l.length
        · have HTK := Lib.hid (uses_take l (i : Int) hlk)
          have hbw : Below w.heap.size w wr := B13.out.trans (HBk.out.mono B13.out.size)
          have hfle := (HFIT.out l[k] (List.getElem_mem hlk)).1.fr
          obtain ⟨b, off, A', c', rfl, hFb, x0, x1, x2, x3, htm, hki, hni, hfr⟩ := (HLX.out _ hbw).nod_ hlk
          obtain ⟨fr, hfrE⟩ : ∃ fr, fr = l[k].from_ := ⟨_, rfl⟩
          rw [← hfrE] at x1 hfr HTK hfle
          clear hfrE x0 x2 x3 htm hki hni hbw
          have HFR := Lib.hid hfr
          clear hfr
          go_wp2_with fail
          go_loopw [22, 23] (fun bv jv wz => ∃ j : Nat, j ≤ fr.length ∧ jv = .int .i64 j ∧ bv = .bool ((fr.take j).contains (i : Int)) ∧ wz = wr) (fun _ jv _ => fr.length - (intOf jv).toNat)
          case atStart => exact ⟨0, Nat.zero_le _, rfl, rfl, rfl⟩
          case round =>
            obtain ⟨j, hj, rfl, rfl, hw⟩ := hrel
            subst hw
            by_cases hlj : j < fr.length
            · obtain ⟨bf, of_, rfl, _, hcf, _⟩ := HFR.out.int_ hlj
              have hct : (fr.take (j + 1)).contains (i : Int) = ((fr.take j).contains (i : Int) || fr[j] == (i : Int)) := by
                rw [List.take_succ_eq_append_getElem hlj, Bool.eq_iff_iff]
                simp only [List.contains_iff_mem, List.mem_append, List.mem_singleton, Bool.or_eq_true, beq_iff_eq]
                constructor
                · rintro (h | h)
                  · exact .inl h
                  · exact .inr h.symm
                · rintro (h | h)
                  · exact .inl h
                  · exact .inr h.symm
              generalize fr[j] = f at hcf hct
              have HCT := Lib.hid hct
              clear hct
              cases hb : (fr.take j).contains (i : Int) with
              | true =>
                have e : (fr.take (j + 1)).contains (i : Int) = true := by rw [HCT.out, hb]; rfl
                go_wp2_with fail
                go_roundw
                case rel => exact ⟨j + 1, by omega, by go_num, by rw [e], trivial⟩
                case measure => simp [intOf]; omega
              | false =>
                have e : (fr.take (j + 1)).contains (i : Int) = (f == (i : Int)) := by rw [HCT.out, hb]; rfl
                go_wp2_with fail
                go_roundw
                case rel => exact ⟨j + 1, by omega, by go_num, by rw [e], trivial⟩
                case measure => simp [intOf]; omega
            · have dj : decide (j < fr.length) = false := decide_eq_false hlj
              have e : fr.take j = fr := List.take_of_length_le (by omega)
              rw [e]
              have hlen : (usesOf (l.take k) (i : Int)).length ≤ 12 := by
                have h1 : (usesOf (l.take k) (i : Int)).length ≤ (l.take k).length := by
                  unfold usesOf
                  rw [List.length_map]
                  exact Nat.le_trans (List.length_filter_le _ _) (by rw [List.length_zipIdx]; exact Nat.le_refl _)
                rw [List.length_take] at h1; omega
              clear e hlj hj
              cases hb : fr.contains (i : Int) with
              | true =>
                have HT2 : Hid (usesOf (l.take (k + 1)) (i : Int) = usesOf (l.take k) (i : Int) ++ [(k : Int)]) := by show _ = _; rw [HTK.out, if_pos hb]
                clear hb
                go_wp2_with (at_builtin; refine wpList_push rfl _ _ 38 rfl W13.heap.size 3 (.int .i64 0) 1 8 Tryz.underlying38 info_int rfl (by decide) u20 _ _ rfl HO.out [.int .i64 k] rfl rfl ?_ ?_ ?_ HBk.out.size HBk.out (Nat.le_refl _) ?_)
                · simp [Value.oneCell']
                · unfold maxLen; omega
                · omega
                · intro v' w3 ho3 hg3 hb3 _
                  have HX : Hid (w3.ownsRow W13.heap.size 3 1 v' (usesOf (l.take (k + 1)) (i : Int)).length (intV (usesOf (l.take (k + 1)) (i : Int))) ∧ Below W13.heap.size W13 w3) := by
                    refine ⟨?_, hb3⟩
                    rw [HT2.out]
                    simpa [intV] using ho3
                  clear ho3 hg3 hb3
                  go_wp2_with fail
                  go_roundw
                  case rel => exact ⟨k + 1, by omega, by go_num, HX.out.1, HX.out.2⟩
                  case measure => simp [intOf]; omega
              | false =>
                have HT2 : Hid (usesOf (l.take (k + 1)) (i : Int) = usesOf (l.take k) (i : Int)) := by show _ = _; rw [HTK.out, if_neg (by rw [hb]; decide), List.append_nil]
                clear hb
                go_wp2_with fail
                go_roundw
                case rel => exact ⟨k + 1, by omega, by go_num, by show World.ownsRow _ _ _ _ _ _ _; rw [HT2.out]; exact HO.out, HBk⟩
                case measure => simp [intOf]; omega
        · have dj : decide (k < l.length) = false := decide_eq_false hlk
          have e : l.take k = l := List.take_of_length_le (by omega)
          rw [e] at HO
          obtain ⟨A7, c7, rfl, hs7⟩ := row_new HO.out (fun x hx => by
            unfold usesOf at hx
            obtain ⟨p, hp, rfl⟩ := List.mem_map.1 hx
            have h1 := List.snd_lt_of_mem_zipIdx (List.mem_filter.1 hp).1
            exact WalkArith.wf_i64 (by omega))
          have hb10 : Below w10.heap.size w10 wr := C13.out.trans (HBk.out.mono C13.out.size)
          obtain ⟨bU, oU, A9, c9, rfl, _, hcu, hsu⟩ := (HU.out wr hb10).sl_ hu
          rw [uses_atJ] at hcu hsu
          have HS7 := Lib.hid hs7
          have HSU := Lib.hid hsu
          clear e hlk hk HO hs7 hsu hb10
          go_wp2_with fail
          refine (ints_same A9 A7 c9 c7 (usesOf l (i : Int)) wr _ _ HSU.out HS7.out).mono ?_
          rintro e w3 ⟨rfl, q, rfl⟩
          have HBq : Hid (Below W13.heap.size W13 (wr.drewN q)) := bdrewN HBk.out q
          generalize wr.drewN q = W3 at *
          go_wp2_with fail
          go_roundw
          case rel => exact ⟨i + 1, by omega, by go_num, HBq⟩
          case measure => simp [intOf]; omega
    · have dj : decide (i < l.length) = false := decide_eq_false hlt
      have HF : Hid (Below w.heap.size w wr) := B13.out.trans (HB.out.mono B13.out.size)
      go_wp2_with fail
      go_ret
      exact ⟨rfl, HF.out⟩
theorem jobChecks_walk (A : Option Addr) (c : Nat) (l : List Nod) (w : World) (hl : SlA nodE (· < w.heap.size) w A c l) (hv : ErrVars w) (hT : PowTab w) (hE : ErrVar w) :
    Calls Tryz.prog 5 #[.slice A l.length c] w fun e w' => e = .returned (.bool true) ∧ Below w.heap.size w w' := by
  by_cases h0 : jobErr l = 0
  · exact jobChecks_good A c l w hl hv hT hE h0
  · exact jobChecks_bad A c l w hl hv hT hE h0
end Go.Proofs.YtfndhfekbbbliaaGreatDoor
