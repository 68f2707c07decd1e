/-
  Several texts of this claim in one, in build order; each begins with its own remark, which says what it proves and under which conditions.
-/
import Derived.Test.YtfndhfekbbbliaaGreatDoorPackG
import Derived.Test.YtfndhfekbbbliaaGreatDoorPackF
import Derived.Deep.RegionHeld3
import Derived.Test.YtfndhfekbbbliaaGreatDoorPackE
import Derived.Test.YtfndhfekbbbliaaGreatDoorPackD

/-
  The reference's reader: one, where a number has to stand. Conditions: the text takes at most 120 bytes, the depth is at most 20.
-/
namespace Go.Proofs.YtfndhfekbbbliaaGreatDoor
open Go.RowKit Go.ChangeShapes Go.WideShapes
set_option linter.unusedVariables false

theorem digs_at : ∀ (l : List UInt8) (k : Nat), k < (digsOf l).length → ∃ h : k < l.length, isDig l[k] = true := by
  intro l
  induction l with
  | nil => intro k hk; simp [digsOf] at hk
  | cons c r ih =>
    intro k hk
    unfold digsOf at hk ih
    rw [List.takeWhile_cons] at hk
    cases hc : isDig c with
    | false => rw [hc] at hk; simp at hk
    | true =>
      rw [hc] at hk
      cases k with
      | zero => exact ⟨by simp, hc⟩
      | succ k =>
        obtain ⟨h, h2⟩ := ih k (by simpa using hk)
        exact ⟨by simpa using h, by simpa using h2⟩
theorem digs_end : ∀ (l : List UInt8), (digsOf l).length = l.length ∨ ∃ h : (digsOf l).length < l.length, isDig l[(digsOf l).length] = false := by
  intro l
  induction l with
  | nil => exact .inl rfl
  | cons c r ih =>
    cases hc : isDig c with
    | false =>
      have e : digsOf (c :: r) = [] := by unfold digsOf; rw [List.takeWhile_cons, hc]; rfl
      refine .inr ?_
      rw [e]
      exact ⟨by simp, hc⟩
    | true =>
      have e : digsOf (c :: r) = c :: digsOf r := by unfold digsOf; rw [List.takeWhile_cons, hc]; rfl
      rw [e]
      rcases ih with h | ⟨h, h2⟩
      · exact .inl (by simp [h])
      · exact .inr ⟨by simpa using h, by simpa using h2⟩
theorem digs_le (l : List UInt8) : (digsOf l).length ≤ l.length := (List.takeWhile_prefix _).length_le
/-- How many digits count. -/
theorem num_len (l : List UInt8) : (numOf l).length = if (digsOf l).length = 0 then 0 else if l.head? = some 48 then 1 else (digsOf l).length := by
  cases l with
  | nil => rfl
  | cons c r =>
    cases hc : isDig c with
    | false =>
      have e : digsOf (c :: r) = [] := by unfold digsOf; rw [List.takeWhile_cons, hc]; rfl
      unfold numOf; rw [e]; rfl
    | true =>
      have e : digsOf (c :: r) = c :: digsOf r := by unfold digsOf; rw [List.takeWhile_cons, hc]; rfl
      unfold numOf; rw [e]
      cases hd : digsOf r with
      | nil => simp
      | cons d r' =>
        by_cases h48 : c = 48
        · simp [h48]
        · simp [h48]
theorem num_take (l : List UInt8) : numOf l = l.take (numOf l).length := by
  have hp : digsOf l <+: l := List.takeWhile_prefix _
  have h : numOf l <+: digsOf l := by
    unfold numOf
    split
    · rename_i c d r e
      rw [e]
      split
      · rename_i h48; rw [h48]; exact ⟨d :: r, rfl⟩
      · exact List.prefix_refl _
    · exact List.prefix_refl _
  exact List.prefix_iff_eq_take.1 (h.trans hp)
theorem dig_nat {c : UInt8} (h : isDig c = true) : 48 ≤ c.toNat ∧ c.toNat ≤ 57 := by
  unfold isDig at h; rw [Bool.and_eq_true, decide_eq_true_iff, decide_eq_true_iff] at h; exact h
theorem dig_nat_no {c : UInt8} (h : isDig c = false) : c.toNat < 48 ∨ 57 < c.toNat := by
  unfold isDig at h
  rw [Bool.and_eq_false_iff] at h
  rcases h with h | h
  · have := of_decide_eq_false h; omega
  · have := of_decide_eq_false h; omega
theorem num_digits (l : List UInt8) : ∀ c ∈ numOf l, 48 ≤ c.toNat ∧ c.toNat ≤ 57 := by
  have hd : ∀ c ∈ digsOf l, isDig c = true := fun c hc => List.all_eq_true.1 List.all_takeWhile c hc
  intro c hc
  refine dig_nat ?_
  unfold numOf at hc
  split at hc
  · rename_i c0 d r e
    split at hc
    · rename_i h48
      rw [List.mem_singleton.1 hc]; decide
    · exact hd c (by rw [e]; exact hc)
  · exact hd c hc
/-- A byte of what is left. -/
theorem PL.byte {w : World} {R : Nat} {s : ByteArray} {l : List UInt8} {d : Nat} (h : PL w R s l d) {k : Nat} (hk : k < l.length) : ∃ hx : s.size - l.length + k < s.size, s[s.size - l.length + k] = l[k] := by
  obtain ⟨h1, h2, _⟩ := h
  refine ⟨by omega, ?_⟩
  have e : l[k] = (s.data.toList.drop (s.size - l.length))[k]'(by rw [← h2]; exact hk) := by congr 1
  rw [e, List.getElem_drop]
  simp
  rfl
theorem PL.cut {w : World} {R : Nat} {s : ByteArray} {l : List UInt8} {d : Nat} (h : PL w R s l d) {k : Nat} (hk : k ≤ l.length) : (s.extract (s.size - l.length) (s.size - l.length + k)).data.toList = l.take k := by
  obtain ⟨h1, h2, _⟩ := h
  simp only [ByteArray.data_extract, Array.toList_extract]
  rw [List.extract_eq_take_drop, ← h2]
  congr 1
  omega
/-- Words are kept where only the reader's block turns. -/
theorem u32_keepP {w w' : World} {A : Option Addr} {c R p d : Nat} {s : ByteArray} {wr bad : Int} {l : List Nat} (h4 : SlA u32E (· < w.heap.size) w A c l) (hb : Frm (· = R) w w') (hR : PAt w R s p d wr bad) : SlA u32E (· < w'.heap.size) w' A c l := by
  refine ⟨h4.1, h4.2.1, fun i x hx => ?_⟩
  obtain ⟨b, off, cs, e, hb2, hc, hr⟩ := h4.2.2 i x hx
  refine ⟨b, off, cs, e, Nat.lt_of_lt_of_le hb2 hb.size, fun j u hj => ?_, hr⟩
  have h8 := hc j u hj
  by_cases hFb : b = R
  · rw [hr.1] at hj
    match j, hj with
    | 0, hj =>
      simp at hj; subst hj
      rw [cell_of_row w b _ _ _ _ (by rw [hFb]; exact hR)] at h8
      generalize off + (i * u32E.sz + 0) = q at h8
      match q, h8 with
      | 0, h8 => simp at h8
      | 1, h8 => simp at h8
      | 2, h8 => simp at h8
      | 3, h8 => simp at h8
      | 4, h8 => simp at h8
  · exact (World.cell?_of_block (a := ⟨b, _, none⟩) (hb.block b hb2 hFb)).trans h8
theorem BigAt.frmP {w w' : World} {g R p d : Nat} {s : ByteArray} {wr bad : Int} {f : Bool} {V : Nat} (h : BigAt w g f V) (hb : Frm (· = R) w w') (hg : g ≠ R) (hR : PAt w R s p d wr bad) : BigAt w' g f V := by
  obtain ⟨A, n, c, h1, ⟨l, h2, h3, h4, h5, h6⟩, h7⟩ := h.words
  exact BigAt.of (A := A) (n := n) (c := c) ((hb.block g (block_lt h1) hg).trans h1) ⟨l, h2, h3, u32_keepP h4 hb hR, h5, h6⟩ h7
set_option maxRecDepth 100000 in
set_option maxHeartbeats 16000000 in
theorem pone_num (R : Nat) (s : ByteArray) (l : List UInt8) (d : Nat) (w : World) (h : PL w R s l d) (hs : s.size ≤ 120) (hd : d ≤ 20) (hn1 : Lib.hasPrefix l (⟨#[109, 105, 110, 40]⟩ : ByteArray).data.toList = false) (hn2 : Lib.hasPrefix l (⟨#[109, 97, 120, 40]⟩ : ByteArray).data.toList = false)
    (h3 : (headR l == 110) = false) (h4 : (headR l == 115) = false) (h5 : (headR l == 40) = false) :
    Calls Tryz.prog 176 #[.pointer (some ⟨R, 0, none⟩)] w (PReads R s d w (numRd l)) := by
  have hlt := h.lt
  have HLT := Lib.hid hlt
  have HS1 := Lib.hid ((PSt.start hlt).var (.int .i64 0) (.int .i64 0) (.slice none 0 0))
  have HP1 : Hid (PL (w.alloc (.cells #[.int .i64 0, .int .i64 0, .slice none 0 0] 24)) R s l d) := h.keep (heap_alloc_old _ _ hlt)
  obtain ⟨wr1, hpa1⟩ := h.2.2
  obtain ⟨p, hp⟩ : ∃ p : Nat, p = s.size - l.length := ⟨_, rfl⟩
  rw [← hp] at hpa1
  have HPE := Lib.hid hp
  have hps : p ≤ s.size := by omega
  obtain ⟨c0, c1, c2, c3, c4, cf⟩ := hpa1.cells
  clear hpa1 h hp
  go_enter Tryz.func176, Tryz.ntmps176
  go_wp2_with fail
  refine (pisL_no R s ⟨#[109, 105, 110, 40]⟩ l d _ HP1.out hs (by show 4 ≤ 10; omega) hn1).mono ?_
  rintro e w1 ⟨rfl, hp, hf⟩
  have HS1b := Lib.hid (HS1.out.call hf)
  have HP1b := Lib.hid hp
  clear hp hf HS1 HP1 c0 c1 c2 c3 c4 cf hlt
  go_wp2_with fail
  refine (pisL_no R s ⟨#[109, 97, 120, 40]⟩ l d _ HP1b.out hs (by show 4 ≤ 10; omega) hn2).mono ?_
  rintro e w2 ⟨rfl, hp, hf⟩
  have HS2 := Lib.hid (HS1b.out.call hf)
  have HP2 := Lib.hid hp
  clear hp hf HS1b HP1b hn1 hn2
  go_wp2_with fail
  refine (ppeekL R s l d _ HP2.out).mono ?_
  rintro e w4 ⟨rfl, q, rfl⟩
  have HP4 : Hid (PL (w2.drewN q) R s l d) := HP2.out.keep rfl
  have HS4 := Lib.hid (HS2.out.drewN q)
  clear HS2 HP2
  generalize w2.drewN q = W4 at *
  obtain ⟨wr, hpa⟩ := HP4.out.2.2
  rw [← HPE.out] at hpa
  obtain ⟨c0, c1, c2, c3, c4, cf⟩ := hpa.cells
  clear hpa
  generalize headR l = cc at *
  go_wp2_with fail
  clear h3 h4 h5
  go_loopg [10] ((digsOf l).length) (fun gk iv wx => ∃ k, k ≤ (digsOf l).length ∧ gk = (digsOf l).length - k ∧ iv = .int .i64 ((p + k : Nat) : Int) ∧ wx = W4)
  case atStart => exact ⟨0, Nat.zero_le _, rfl, rfl, rfl⟩
  case round =>
    obtain ⟨k, hk, hgk, rfl, rfl⟩ := hrel
    obtain ⟨I, hI⟩ : ∃ I, I = p + k := ⟨_, rfl⟩
    rw [← hI]
    by_cases hkD : k < (digsOf l).length
    · obtain ⟨hkl, hdig⟩ := digs_at l k hkD
      obtain ⟨hx, hxe⟩ := HP4.out.byte hkl
      have e1 : s.size - l.length + k = I := by rw [hI, HPE.out]
      have hIs : I < s.size := by omega
      have hb : isDig s[I] = true := by
        have : s[s.size - l.length + k] = s[I] := by congr 1
        rw [← this, hxe]; exact hdig
      obtain ⟨b1, b2⟩ := dig_nat hb
      have d1 : decide ((I : Int) < (s.size : Int)) = true := decide_eq_true (by omega)
      have d2 : decide (48 ≤ ((s[I]'hIs).toNat : Int)) = true := decide_eq_true (by omega)
      have d3 : decide (((s[I]'hIs).toNat : Int) ≤ 57) = true := decide_eq_true (by omega)
      clear hx hxe hdig hb b1 b2 hkl e1
      have HI := Lib.hid hI
      clear hI
      go_wp2_with fail
      go_roundg ((digsOf l).length - (k + 1))
      case measure => omega
      case rel => exact ⟨k + 1, by omega, rfl, by rw [HI.out]; congr 1, rfl⟩
    · have hkE : k = (digsOf l).length := by omega
      have HKE := Lib.hid hkE
      have HI := Lib.hid hI
      have hIs : I ≤ s.size := by have := digs_le l; have := HPE.out; have := HP4.out.1; omega
      have hend : I = s.size ∨ ∃ h : I < s.size, ((s[I]'h).toNat < 48 ∨ 57 < (s[I]'h).toNat) := by
        rcases digs_end l with h | ⟨h, h2⟩
        · left; have := HPE.out; have := HP4.out.1; omega
        · right
          obtain ⟨hx, hxe⟩ := HP4.out.byte h
          have e1 : s.size - l.length + (digsOf l).length = I := by rw [hI, hkE, HPE.out]
          refine ⟨by omega, dig_nat_no ?_⟩
          have : s[s.size - l.length + (digsOf l).length] = s[I]'(by omega) := by congr 1
          rw [← this, hxe]; exact h2
      clear hI hkE hkD hgk hk
      go_upto_region 38 with (fail)
      go_cut [144] from 120 to 146 (fun bv wx => bv = .bool false ∧ wr = wx)
      case first =>
        rcases hend with he | ⟨hx, hb⟩
        · have d1 : ¬ I < s.size := by omega
          clear he
          go_wp2_with fail
          go_meet
          case rel => exact ⟨rfl, rfl⟩
        · have d1 : decide ((I : Int) < (s.size : Int)) = true := decide_eq_true (by omega)
          rcases Nat.lt_or_ge (s[I]'hx).toNat 48 with hb1 | hb1
          · have d2 : decide (48 ≤ ((s[I]'hx).toNat : Int)) = false := decide_eq_false (by omega)
            clear hb hb1
            go_wp2_with fail
            go_meet
            case rel => exact ⟨rfl, rfl⟩
          · have d2 : decide (48 ≤ ((s[I]'hx).toNat : Int)) = true := decide_eq_true (by omega)
            have d3 : decide (((s[I]'hx).toNat : Int) ≤ 57) = false := decide_eq_false (by omega)
            clear hb hb1
            go_wp2_with fail
            go_meet
            case rel => exact ⟨by first | rfl | rw [d3], rfl⟩
      case rest =>
        obtain ⟨rfl, rfl⟩ := hcut
        clear hend
        obtain ⟨N, hN⟩ : ∃ N, N = (numOf l).length := ⟨_, rfl⟩
        have HN := Lib.hid hN
        obtain ⟨J, hJ⟩ : ∃ J, J = p + N := ⟨_, rfl⟩
        have HJ := Lib.hid hJ
        have hlen := num_len l
        have hJs : J ≤ s.size := by have := numOf_le l; have := HPE.out; have := HP4.out.1; omega
        have hpJ : p ≤ J := by omega
        go_upto_region 40 with (fail)
        go_cut [164] from 147 to 164 (fun bv wx => (∃ bt : Bool, bv = .bool bt ∧ Hid ((bt = true → J = p + 1) ∧ (bt = false → J = I))) ∧ ∃ q, wx = wr.drewN q)
        case first =>
          have HLEN := Lib.hid hlen
          clear hlen hN hJ hJs hpJ
          by_cases hD : (digsOf l).length = 0
          · have e : J = I := by have := HLEN.out; rw [if_pos hD] at this; rw [HJ.out, HI.out, HN.out, HKE.out, this, hD]
            have e2 : I = p := by rw [HI.out, HKE.out, hD]; rfl
            have d1 : decide ((p : Int) < (I : Int)) = false := decide_eq_false (by omega)
            go_quiet (fail)
            go_wp2_with fail
            go_meet
            case rel => exact ⟨⟨false, rfl, And.intro (fun h => nomatch h) (fun _ => e)⟩, _, rfl⟩
          · have hpI : p < I := by rw [HI.out, HKE.out]; omega
            have d1 : decide ((p : Int) < (I : Int)) = true := decide_eq_true (by omega)
            have hps2 : p < s.size := by omega
            have hl0 : 0 < l.length := by have := digs_le l; omega
            have hhead : l.head? = some (s[p]'hps2) := by
              obtain ⟨hx, hxe⟩ := HP4.out.byte hl0
              have : s[s.size - l.length + 0] = s[p]'hps2 := by congr 1; rw [HPE.out]; rfl
              rw [← this, hxe, List.head?_eq_getElem?, List.getElem?_eq_getElem hl0]
            by_cases h48 : (s[p]'hps2) = 48
            · have d2 : (((s[p]'hps2).toNat : Int) == 48) = true := by rw [h48]; rfl
              have e : J = p + 1 := by have := HLEN.out; rw [if_neg hD, if_pos (by rw [hhead, h48])] at this; rw [HJ.out, HN.out, this]
              clear hhead h48 hD hl0
              go_quiet (fail)
              go_wp2_with fail
              go_meet
              case rel => exact ⟨⟨true, by first | rfl | rw [d2], And.intro (fun _ => e) (fun h => nomatch h)⟩, _, rfl⟩
            · have d2 : (((s[p]'hps2).toNat : Int) == 48) = false := beq_eq_false_iff_ne.2 fun e => h48 (UInt8.toNat_inj.1 (by have h48' : (48 : UInt8).toNat = 48 := rfl; omega))
              have e : J = I := by have := HLEN.out; rw [if_neg hD, if_neg (by rw [hhead]; exact fun e => h48 (Option.some.inj e))] at this; rw [HJ.out, HI.out, HN.out, HKE.out, this]
              clear hhead h48 hD hl0
              go_quiet (fail)
              go_wp2_with fail
              go_meet
              case rel => exact ⟨⟨false, by first | rfl | rw [d2], And.intro (fun h => nomatch h) (fun _ => e)⟩, _, rfl⟩
        case rest =>
          obtain ⟨⟨bt, rfl, HBT⟩, q2, rfl⟩ := hcut
          have hp119 : p + 1 ≤ 121 := by omega
          go_upto_if 164 with (fail)
          go_cut [10] from 165 to 169 (fun jv wx => jv = .int .i64 (J : Int) ∧ wr.drewN q2 = wx)
          case first =>
            cases bt with
            | true =>
              have e := HBT.out.1 rfl
              clear hlen hN hJ hJs hpJ HBT
              have e' : (J : Int) = (p : Int) + 1 := by omega
              clear e
              go_wp2_with fail
              go_meet
              case rel => exact ⟨by rw [e'], rfl⟩
            | false =>
              have e := HBT.out.2 rfl
              clear hlen hN hJ hJs hpJ HBT
              go_wp2_with fail
              go_meet
              case rel => exact ⟨by rw [e], rfl⟩
          case rest =>
            obtain ⟨rfl, rfl⟩ := hcut
            clear hlen HI HKE hIs HBT
            have HP5 : Hid (PL (wr.drewN q2) R s l d) := HP4.out.keep rfl
            have HS5 := Lib.hid (HS4.out.drewN q2)
            clear HS4 HP4 c0 c1 c2 c3 c4 cf
            generalize wr.drewN q2 = W5 at *
            obtain ⟨wr5, hpa⟩ := HP5.out.2.2
            rw [← HPE.out] at hpa
            have HPA := Lib.hid hpa
            obtain ⟨c0, c1, c2, c3, c4, cf⟩ := hpa.cells
            have hR5 := HS5.out.lt'
            have hstr : (s.extract p J).data.toList = numOf l := by
              rw [HJ.out, HPE.out, HP5.out.cut (k := N) (by rw [HN.out]; exact numOf_le l), HN.out]
              exact (num_take l).symm
            have hz5 := HS5.out.vars _ (.head _)
            have hzR : w.heap.size ≠ R := by have := HLT.out; omega
            clear hpa hN hJ
            by_cases hN0 : N = 0
            · have hnil : numOf l = [] := List.length_eq_zero_iff.1 (HN.out.symm.trans hN0)
              have he : s.extract p J = ⟨#[]⟩ := by
                apply ByteArray.ext
                apply Array.toList_inj.1
                rw [hstr, hnil]
              have HSS : Hid (∀ (gz : Nat) (W : World), Calls Tryz.prog 197 #[.pointer (some ⟨gz, 0, none⟩), .string (s.extract p J), .int .i64 10] W fun e w' => e = .returned (.tuple #[.pointer none, .bool false]) ∧ W = w') := fun gz W => by
                rw [he]; exact setString_none gz W
              have HE : Hid (numRd l = .bad l.length 2) := by show _ = _; unfold numRd; rw [if_pos (.inl hnil)]
              clear hnil he hstr hN0
              go_upto_region 42 with (fail)
              go_region_held3 (fun W => W.cell? ⟨R, 0, none⟩ = some (.string s) ∧ W.cell? ⟨R, 1, none⟩ = some (.int .i64 (p : Int))) (first | exact ⟨c0, c1⟩ | go_keep) ((go_at_call 197; refine (HSS.out _ _).mono ?_; rintro e w1 ⟨rfl, rfl⟩))
              clear HSS
              have HS6 := Lib.hid ((HS5.out.alloc (.cells #[.bool false, .slice none 0 0] 98)).call ((Frm.refl (· = R) _).drew))
              have HP6 : Hid (PAt (W5.alloc (.cells #[.bool false, .slice none 0 0] 98)).drew R s p d wr5 0) := HPA.out.keep (heap_alloc_old _ _ hR5)
              clear c0 c1 c2 c3 c4 cf hz5 HS5 HP5 HPA
              generalize (W5.alloc (.cells #[.bool false, .slice none 0 0] 98)).drew = W6 at *
              go_wp2_with fail
              refine (pfail_ok R p d s p 2 wr5 W6 HP6.out).mono ?_
              rintro e w7 ⟨rfl, hp, hf⟩
              have hS7 := HS6.out.call hf
              obtain ⟨z0, z1, z2, zf⟩ := hS7.cells (.head _)
              have hbad : PBad w7 R s d (s.size - l.length : Nat) 2 := ⟨p, d, hps, Nat.le_refl _, hd, by decide, by rw [← HPE.out]; exact hp⟩
              have HEND := Lib.hid (hS7.endBad (.head _) hbad (o := 0) (n := 0) (A := none) (c := 0))
              have HQ := Lib.hid (hS7.out (.head _) (.int .i64 0) (.int .i64 0) (.slice none 0 0))
              clear hp hf hS7 hbad HS6 HP6
              go_wp2_with fail
              obtain ⟨q0, q1, q2⟩ := HQ.out
              refine ⟨rfl, .agg #[.int .i64 0, .int .i64 0, .slice none 0 0], ?_, ?_⟩
              · simp only [results, Tryz.results176]
                simp [go_sem, q0, q1, q2]
              · rw [HE.out]; exact HEND.out
            · have hne : numOf l ≠ [] := fun e => hN0 (by rw [HN.out, e]; rfl)
              have hsz : (s.extract p J).size = N := by
                have : (s.extract p J).data.toList.length = (s.extract p J).size := Array.length_toList
                rw [← this, hstr, HN.out]
              obtain ⟨V, hV⟩ : ∃ V, V = digVal (numOf l) := ⟨_, rfl⟩
              have HSS : Hid (∀ (gz : Nat) (W : World), IntObj W gz → Calls Tryz.prog 197 #[.pointer (some ⟨gz, 0, none⟩), .string (s.extract p J), .int .i64 10] W fun e w' => e = .returned (.tuple #[.pointer (some ⟨gz, 0, none⟩), .bool true]) ∧ BigAt w' gz false V ∧ Frm (· = gz) W w') := fun gz W hz => by
                have := setString_ok gz (s.extract p J) W hz (by omega) (by have := HJ.out; omega) (by rw [hstr]; exact num_digits l)
                rw [hstr, ← hV] at this
                exact this
              have HE : Hid (numRd l = if V ≤ 9223372036854775807 then .ok (.num V) (l.drop N) else .bad l.length 2) := by
                show _ = _
                unfold numRd
                rw [← hV, ← HN.out]
                by_cases hc : V ≤ 9223372036854775807
                · rw [if_pos hc, if_neg (by intro h; rcases h with h | h; exact hne h; omega)]
                · rw [if_neg hc, if_pos (.inr (by omega))]
              have hRz : R ≠ W5.heap.size := by omega
              clear hne hstr hsz hV
              go_upto_region 42 with (fail)
              go_region_held3 (fun W => W.cell? ⟨R, 0, none⟩ = some (.string s) ∧ W.cell? ⟨R, 1, none⟩ = some (.int .i64 (p : Int))) (first | exact ⟨c0, c1⟩ | exact ⟨k0, k1⟩ | go_keep) ((go_at_call 197; refine (HSS.out _ (W5.alloc (.cells #[.bool false, .slice none 0 0] 98)).drew ⟨false, none, 0, 0, heap_alloc_new W5 _⟩).mono ?_; rintro e w6 ⟨rfl, hb, hf⟩; have k0 : w6.cell? ⟨R, 0, none⟩ = some (.string s) := (World.cell?_of_block (a := ⟨R, 0, none⟩) ((hf.block R (by show R < (W5.alloc _).heap.size; simp; omega) hRz).trans (heap_alloc_old _ _ hR5))).trans c0; have k1 : w6.cell? ⟨R, 1, none⟩ = some (.int .i64 (p : Int)) := (World.cell?_of_block (a := ⟨R, 1, none⟩) ((hf.block R (by show R < (W5.alloc _).heap.size; simp; omega) hRz).trans (heap_alloc_old _ _ hR5))).trans c1))
              have hfW : Frm (· = R) W5 w6 := ((Frm.refl (· = R) W5).alloc (.cells #[.bool false, .slice none 0 0] 98)).drew.trans hf (fun _ h => h) (fun k h => .inr (Nat.le_of_eq h.symm))
              have HS6 := Lib.hid (HS5.out.call hfW)
              have HP6 : Hid (PAt w6 R s p d wr5 0) := HPA.out.keep ((hf.block R (by show R < (W5.alloc _).heap.size; simp; omega) hRz).trans (heap_alloc_old _ _ hR5))
              have hPL6 : PL w6 R s l d := HP5.out.keep ((hf.block R (by show R < (W5.alloc _).heap.size; simp; omega) hRz).trans (heap_alloc_old _ _ hR5))
              have HPL6 := Lib.hid hPL6
              have HB := Lib.hid hb
              have HRZ := Lib.hid hRz
              clear c0 c1 c2 c3 c4 cf hz5 HS5 HP5 HPA hfW hf hb k0 k1 HSS hPL6 hRz
              generalize W5.heap.size = gz at *
              obtain ⟨c0, c1, c2, c3, c4, cf⟩ := HP6.out.cells
              go_wp2_with fail
              refine (isInt64_ok gz false V w6 HB.out nofun).mono ?_
              rintro e w7 ⟨rfl, rfl⟩
              by_cases hV : V < 9223372036854775808
              · rw [decide_eq_true hV]
                have HVL := Lib.hid hV
                have hfr : Frm (· = R) w6 (w6.setCell ⟨R, 1, none⟩ (.int .i64 (J : Int))) := (Frm.refl (· = R) _).setCell (p := ⟨R, 1, none⟩) (.inl rfl) _
                have HI64 := Lib.hid (int64_ok gz false V (w6.setCell ⟨R, 1, none⟩ (.int .i64 (J : Int))) (HB.out.frmP hfr (fun e => HRZ.out e.symm) HP6.out) (by omega) (fun _ => hV))
                have hS8 := HS6.out.setR 1 (.int .i64 (J : Int))
                obtain ⟨z0, z1, z2, zf⟩ := hS8.cells (.head _)
                have HQ := Lib.hid (hS8.out (.head _) (.int .i64 0) (.int .i64 (V : Int)) (.slice none 0 0))
                have HEND : Hid (PReads R s d w (numRd l) (.returned (.agg #[.int .i64 0, .int .i64 (V : Int), .slice none 0 0])) (rset (w6.setCell ⟨R, 1, none⟩ (.int .i64 (J : Int))) w.heap.size (.int .i64 0) (.int .i64 (V : Int)) (.slice none 0 0))) := by
                  show PReads _ _ _ _ _ _ _
                  rw [HE.out, if_pos (by omega)]
                  obtain ⟨e1, e2, e3, e4⟩ := hS8.res (.head _) (.int .i64 0) (.int .i64 (V : Int)) (.slice none 0 0)
                  refine ⟨0, V, none, 0, rfl, .num (WalkArith.wf_i64 (by omega)), PL.keep ?_ e3, e1⟩
                  have hm := HP6.out.moved J
                  have hNl : N ≤ l.length := by rw [HN.out]; exact numOf_le l
                  refine HPL6.out.on (n := N) (wr := wr5) (by rw [List.length_drop]; omega) rfl ?_
                  have : s.size - l.length + N = J := by have := HJ.out; have := HPE.out; omega
                  rw [this]; exact hm
                clear hfr hS8 HS6 HPL6 HB hV HE
                go_wp2_with fail
                refine HI64.out.mono ?_
                rintro e w8 ⟨rfl, rfl⟩
                clear HI64 HP6
                go_wp2_with fail
                obtain ⟨q0, q1, q2⟩ := HQ.out
                refine ⟨rfl, .agg #[.int .i64 0, .int .i64 (V : Int), .slice none 0 0], ?_, HEND.out⟩
                simp only [results, Tryz.results176]
                simp [go_sem, q0, q1, q2]
              · rw [decide_eq_false hV]
                have HE2 : Hid (numRd l = .bad l.length 2) := by show _ = _; rw [HE.out, if_neg (by omega)]
                clear HE hV
                go_wp2_with fail
                refine (pfail_ok R p d s p 2 wr5 w6 HP6.out).mono ?_
                rintro e w7 ⟨rfl, hp, hf⟩
                have hS7 := HS6.out.call hf
                obtain ⟨z0, z1, z2, zf⟩ := hS7.cells (.head _)
                have hbad : PBad w7 R s d (s.size - l.length : Nat) 2 := ⟨p, d, hps, Nat.le_refl _, hd, by decide, by rw [← HPE.out]; exact hp⟩
                have HEND := Lib.hid (hS7.endBad (.head _) hbad (o := 0) (n := 0) (A := none) (c := 0))
                have HQ := Lib.hid (hS7.out (.head _) (.int .i64 0) (.int .i64 0) (.slice none 0 0))
                clear hp hf hS7 hbad HS6 HP6 HPL6 HB c0 c1 c2 c3 c4 cf
                go_wp2_with fail
                obtain ⟨q0, q1, q2⟩ := HQ.out
                refine ⟨rfl, .agg #[.int .i64 0, .int .i64 0, .slice none 0 0], ?_, ?_⟩
                · simp only [results, Tryz.results176]
                  simp [go_sem, q0, q1, q2]
                · rw [HE2.out]; exact HEND.out
end Go.Proofs.YtfndhfekbbbliaaGreatDoor

/-
  The reference's reader: one, at any text; all methods by induction; Parse. Conditions: the text takes at most 120 bytes, the depth is at most 20 (Parse: none).
-/
namespace Go.Proofs.YtfndhfekbbbliaaGreatDoor
open Go.RowKit Go.ChangeShapes Go.WideShapes
set_option linter.unusedVariables false

theorem pref_no {l : List UInt8} {t : ByteArray} (h : ∀ r, l ≠ t.data.toList ++ r) : Lib.hasPrefix l t.data.toList = false := by
  cases hb : Lib.hasPrefix l t.data.toList with
  | false => rfl
  | true =>
    obtain ⟨r, e⟩ := List.isPrefixOf_iff_prefix.1 hb
    exact absurd e.symm (h r)
theorem headR_ne {l : List UInt8} {x : UInt8} (h0 : x ≠ 0) (h : ∀ r, l ≠ x :: r) : (headR l == (x.toNat : Int)) = false :=
  headR_no (ops := [x]) (fun y r e hy => h r (by rw [e, List.mem_singleton.1 hy])) (by simp) h0
theorem one_num {W : Reads} {d : Nat} {l : List UInt8} (h1 : ∀ r, l ≠ 109 :: 105 :: 110 :: 40 :: r) (h2 : ∀ r, l ≠ 109 :: 97 :: 120 :: 40 :: r) (h3 : ∀ r, l ≠ 110 :: r) (h4 : ∀ r, l ≠ 115 :: r) (h5 : ∀ r, l ≠ 40 :: r) : oneRd W d l = numRd l := by
  unfold oneRd
  split
  · exact absurd rfl (h1 _)
  · exact absurd rfl (h2 _)
  · exact absurd rfl (h3 _)
  · exact absurd rfl (h4 _)
  · exact absurd rfl (h5 _)
  · rfl
theorem pone_reads {W : Reads} {m : Nat} (hS : ∀ d, Short (W d)) (hW : PReadsLt 35 W m) : PReadsAs 176 (oneRd W) m := by
  intro R s l d w h hs hd hm
  by_cases h1 : ∃ r, l = 109 :: 105 :: 110 :: 40 :: r
  · obtain ⟨r, hr⟩ := h1
    have := pone_two hS hW R s l r 109 d w h hs hd hm (.inl ⟨rfl, hr⟩)
    have e : oneRd W d l = deepRd d l.length (twoRd W 109 (d + 1) r) := by rw [hr]; rfl
    rw [e]; exact this
  by_cases h2 : ∃ r, l = 109 :: 97 :: 120 :: 40 :: r
  · obtain ⟨r, hr⟩ := h2
    have := pone_two hS hW R s l r 77 d w h hs hd hm (.inr ⟨rfl, hr⟩)
    have e : oneRd W d l = deepRd d l.length (twoRd W 77 (d + 1) r) := by rw [hr]; rfl
    rw [e]; exact this
  by_cases h3 : ∃ r, l = 110 :: r
  · obtain ⟨r, rfl⟩ := h3
    exact pone_name (W := W) R s r true d w h hs hd
  by_cases h4 : ∃ r, l = 115 :: r
  · obtain ⟨r, rfl⟩ := h4
    exact pone_name (W := W) R s r false d w h hs hd
  by_cases h5 : ∃ r, l = 40 :: r
  · obtain ⟨r, rfl⟩ := h5
    exact pone_brk hW R s r d w h hs hd (by simp only [List.length_cons] at hm; omega)
  have e : oneRd W d l = numRd l := one_num (fun r e => h1 ⟨r, e⟩) (fun r e => h2 ⟨r, e⟩) (fun r e => h3 ⟨r, e⟩) (fun r e => h4 ⟨r, e⟩) (fun r e => h5 ⟨r, e⟩)
  rw [e]
  exact pone_num R s l d w h hs hd (pref_no fun r e => h1 ⟨r, e⟩) (pref_no fun r e => h2 ⟨r, e⟩) (headR_ne (by decide) fun r e => h3 ⟨r, e⟩) (headR_ne (by decide) fun r e => h4 ⟨r, e⟩) (headR_ne (by decide) fun r e => h5 ⟨r, e⟩)
theorem pstep_reads {W : Reads} {m : Nat} (hS : ∀ d, Short (W d)) (hW : PReadsLt 35 W m) : PReadsAs 35 (wholeStep W) m := by
  have h4 := prow4_as (pless_reads (pone_reads hS hW))
  have h3 : PRowAs 3 (mulRd W) m := prow_loop (ops := [42, 47, 37]) (.inr ⟨rfl, rfl, rfl⟩) (fun d => less_short hS d) h4
  have h2 : PRowAs 2 (addRd W) m := prow_loop (ops := [43, 45]) (.inl ⟨rfl, rfl, rfl⟩) (fun d => row_short (less_short hS d) _) h3
  exact pwhole_reads hS (pcmp_reads hS h2) hW
theorem pwhole_all (k : Nat) : PReadsAs 35 (wholeRd k) k := by
  induction k with
  | zero => exact pstep_reads (bad_short 2) fun R s l d w _ _ _ h => absurd h (Nat.not_lt_zero _)
  | succ k ih => exact pstep_reads (whole_short k) fun R s l d w h1 h2 h3 h4 => ih R s l d w h1 h2 h3 (by omega)
/-- What Parse gives. -/
def PParse (w : World) (r : Parsed) (e : Ending) (w' : World) : Prop := Below w.heap.size w w' ∧ match r with
  | .tree t => ∃ o n A c, e = .returned (.tuple #[.agg #[.int .i64 o, .int .i64 n, .slice A c c], .int .i64 0, .int .i64 0]) ∧ TreeAt (fun k => w.heap.size ≤ k ∧ k < w'.heap.size) w' (.agg #[.int .i64 o, .int .i64 n, .slice A c c]) t
  | .fault a j => e = .returned (.tuple #[.agg #[.int .i64 0, .int .i64 0, .slice none 0 0], .int .i64 (a : Int), .int .i64 j]) ∧ j ≠ 0
theorem below_frmR {w w2 w3 : World} {R : Nat} (hb : Below w.heap.size w w2) (hf : Frm (· = R) w2 w3) (hR : w.heap.size ≤ R) : Below w.heap.size w w3 :=
  hb.trans ⟨hf.os, hf.tape, hf.output, hf.size, fun k hk => hf.block k (Nat.lt_of_lt_of_le hk hb.size) (by omega)⟩
set_option maxRecDepth 100000 in
theorem pparse_long (s : ByteArray) (w : World) (hs : 120 < s.size) : Calls Tryz.prog 9 #[.string s] w (PParse w (parseT s.data.toList)) := by
  have e : parseT s.data.toList = .fault 0 4 := by unfold parseT; rw [if_pos (by simpa using hs)]
  rw [e]
  have d1 : decide ((120 : Int) < (s.size : Int)) = true := decide_eq_true (by omega)
  have hend : Below w.heap.size w (w.alloc (.cells #[.int .i64 0, .int .i64 0, .slice none 0 0] 24)) := (Below.refl _ _).alloc (Nat.le_refl _) _
  have HE := Lib.hid hend
  have hv := RTVar.new w (.int .i64 0) (.int .i64 0) (.slice none 0 0)
  obtain ⟨q0, q1, q2, _⟩ := hv.cells
  clear e hend hv
  go_enter Tryz.func9, Tryz.ntmps9
  go_wp2_with fail
  refine ⟨rfl, .tuple #[.agg #[.int .i64 0, .int .i64 0, .slice none 0 0], .int .i64 0, .int .i64 4], ?_, HE.out, rfl, by decide⟩
  simp only [results, Tryz.results9]
  simp [go_sem, q0, q1, q2]
def rparsedOf (n : Nat) (r : Rd) : Parsed := match r with
  | .ok t [] => .tree t
  | .ok _ (_ :: r) => .fault (n - (r.length + 1)) 2
  | .bad k e => .fault (n - k) e
theorem rparse_of (l : List UInt8) (h : l.length ≤ 120) : parseT l = rparsedOf l.length (wholeRd l.length 0 l) := by
  unfold parseT rparsedOf; rw [if_neg (by omega)]
  rfl
set_option maxRecDepth 100000 in
set_option maxHeartbeats 8000000 in
theorem pparse_short (s : ByteArray) (w : World) (hs : s.size ≤ 120) : Calls Tryz.prog 9 #[.string s] w (PParse w (parseT s.data.toList)) := by
  obtain ⟨r0, hr0⟩ : ∃ r0, r0 = parseT s.data.toList := ⟨_, rfl⟩
  obtain ⟨r1, hr1⟩ : ∃ r1, r1 = wholeRd s.size 0 s.data.toList := ⟨_, rfl⟩
  rw [← hr0]
  have hlen : s.data.toList.length = s.size := Array.length_toList
  have e0 : r0 = rparsedOf s.size r1 := by rw [hr0, hr1, rparse_of _ (by omega), hlen]
  have HR0 := Lib.hid e0
  have HR1 := Lib.hid hr1
  have d1 : decide ((120 : Int) < (s.size : Int)) = false := decide_eq_false (by omega)
  obtain ⟨w2, hw2⟩ : ∃ w2, w2 = (w.alloc (.cells #[.int .i64 0, .int .i64 0, .slice none 0 0] 24)).alloc (.cells #[.string s, .int .i64 0, .int .i64 0, .int .i64 0, .int .i64 0] 81) := ⟨_, rfl⟩
  have hR : w2.heap[w.heap.size + 1]? = some (.cells #[.string s, .int .i64 0, .int .i64 0, .int .i64 0, .int .i64 0] 81 (0, 0)) := by
    rw [hw2]
    have := heap_alloc_new (w.alloc (.cells #[.int .i64 0, .int .i64 0, .slice none 0 0] 24)) (.cells #[.string s, .int .i64 0, .int .i64 0, .int .i64 0, .int .i64 0] 81)
    simpa using this
  have hv2 : RTVar w2 w.heap.size (.int .i64 0) (.int .i64 0) (.slice none 0 0) := by
    rw [hw2]
    exact (heap_alloc_old _ _ (by simp)).trans (RTVar.new _ _ _ _)
  have hb2 : Below w.heap.size w w2 := by rw [hw2]; exact ((Below.refl _ _).alloc (Nat.le_refl _) _).alloc (by simp) _
  obtain ⟨R, hRe⟩ : ∃ R, R = w.heap.size + 1 := ⟨_, rfl⟩
  rw [← hRe] at hR
  have hPL : PL w2 R s s.data.toList 0 := ⟨by omega, by rw [hlen, Nat.sub_self]; rfl, 0, by rw [hlen, Nat.sub_self]; exact hR⟩
  have HCALL := Lib.hid (pwhole_all s.size R s s.data.toList 0 w2 hPL hs (by omega) (by omega))
  rw [← HR1.out] at HCALL
  have HV2 := Lib.hid hv2
  have HB2 := Lib.hid hb2
  have HW2 := Lib.hid hw2
  have HRE := Lib.hid hRe
  clear hr0 hr1 e0 hlen hR hv2 hb2 hw2 hPL hRe
  go_enter Tryz.func9, Tryz.ntmps9
  go_wp2_with fail
  rw [← HRE.out, ← HW2.out]
  refine HCALL.out.mono ?_
  intro e w3 hr
  obtain ⟨o, n, A, c, rfl, hf, hst⟩ := hr.form
  have hkR : w.heap.size ≠ R := by have := HRE.out; omega
  have hv3 := HV2.out.frm hf hkR
  have HV3 := Lib.hid hv3
  have HB3 := Lib.hid (below_frmR HB2.out hf (by have := HRE.out; omega))
  have hlt3 : w.heap.size < w3.heap.size := block_lt hv3
  have hR3 : R < w3.heap.size := by
    rcases hst with ⟨t, l, h1, ht, hp⟩ | ⟨k, j, h1, hp⟩
    · exact hp.lt
    · obtain ⟨_, _, _, _, _, _, g5⟩ := hp; exact g5.lt
  have hsz2 : w.heap.size < w2.heap.size := block_lt HV2.out
  have hz : ∀ ob, RTVar (w3.alloc ob) w.heap.size (.int .i64 0) (.int .i64 0) (.slice none 0 0) := fun ob => (heap_alloc_old _ _ hlt3).trans hv3
  have z0 := fun ob => (hz ob).cells.1
  have z1 := fun ob => (hz ob).cells.2.1
  have z2 := fun ob => (hz ob).cells.2.2.1
  have z3 := fun ob => (hz ob).cells.2.2.2
  have HZ := Lib.hid hz
  have hb4 : Below w.heap.size w (w3.alloc (.cells #[.int .i64 o, .int .i64 n, .slice A c c] 24)) := HB3.out.alloc (Nat.le_of_lt hlt3) _
  have HB4 := Lib.hid hb4
  rcases hst with ⟨t, l, h1, ht, hp⟩ | ⟨k, j, h1, hp⟩
  · cases l with
    | nil =>
      have HE : Hid (r0 = .tree t) := by show _ = _; rw [HR0.out, h1]; rfl
      obtain ⟨wr, hpa⟩ := hp.2.2
      have e : s.size - ([] : List UInt8).length = s.size := Nat.sub_zero _
      rw [e] at hpa
      obtain ⟨c0, c1, c2, c3, c4, cf⟩ := hpa.cells
      have ht4 : TreeAt (fun k => w.heap.size ≤ k ∧ k < (rset (w3.alloc (.cells #[.int .i64 o, .int .i64 n, .slice A c c] 24)) w.heap.size (.int .i64 o) (.int .i64 n) (.slice A c c)).heap.size) (rset (w3.alloc (.cells #[.int .i64 o, .int .i64 n, .slice A c c] 24)) w.heap.size (.int .i64 o) (.int .i64 n) (.slice A c c)) (.agg #[.int .i64 o, .int .i64 n, .slice A c c]) t :=
        ((ht.keep fun k hk => heap_alloc_old _ _ hk.2).keep fun k hk => rset_far _ (by have := hk.1; omega) _ _ _).more fun k hk => ⟨by have := hk.1; omega, by rw [rset_size]; simp; have := hk.2; omega⟩
      have hb5 : Below w.heap.size w (rset (w3.alloc (.cells #[.int .i64 o, .int .i64 n, .slice A c c] 24)) w.heap.size (.int .i64 o) (.int .i64 n) (.slice A c c)) := ((hb4.setCell (Nat.le_refl _) _).setCell (Nat.le_refl _) _).setCell (Nat.le_refl _) _
      have HEND := Lib.hid (And.intro hb5 ht4)
      obtain ⟨q0, q1, q2, _⟩ := ((hz (.cells #[.int .i64 o, .int .i64 n, .slice A c c] 24)).put (.int .i64 o) (.int .i64 n) (.slice A c c)).cells
      have HQ := Lib.hid (And.intro q0 (And.intro q1 q2))
      clear hr hf hv3 ht hp hpa h1 ht4 hb5 hb4 hz q0 q1 q2 HR0 HR1 hsz2 hlt3 HCALL
      go_wp2_with fail
      obtain ⟨q0, q1, q2⟩ := HQ.out
      simp only [rset] at q0 q1 q2
      refine ⟨rfl, .tuple #[.agg #[.int .i64 o, .int .i64 n, .slice A c c], .int .i64 0, .int .i64 0], ?_, ?_⟩
      · simp only [results, Tryz.results9]
        simp [go_sem, q0, q1, q2]
      · rw [HE.out]
        exact ⟨HEND.out.1, o, n, A, c, rfl, HEND.out.2⟩
    | cons x r =>
      have HE : Hid (r0 = .fault (s.size - (r.length + 1)) 2) := by show _ = _; rw [HR0.out, h1]; rfl
      obtain ⟨wr, hpa⟩ := hp.2.2
      have hlen : r.length + 1 ≤ s.size := by have := hp.1; simpa using this
      obtain ⟨k, hk⟩ : ∃ k, k = r.length + 1 := ⟨_, rfl⟩
      have e : (x :: r : List UInt8).length = k := hk.symm
      rw [e] at hpa
      have d2 : decide (((s.size - k : Nat) : Int) < (s.size : Int)) = true := decide_eq_true (by omega)
      obtain ⟨p, hpk⟩ : ∃ p, p = s.size - k := ⟨_, rfl⟩
      rw [← hpk] at hpa d2
      have hps : p < s.size := by omega
      have h4 : PAt (w3.alloc (.cells #[.int .i64 o, .int .i64 n, .slice A c c] 24)) R s p 0 wr 0 := hpa.keep (heap_alloc_old _ _ hR3)
      have hv4 := hz (.cells #[.int .i64 o, .int .i64 n, .slice A c c] 24)
      obtain ⟨c0, c1, c2, c3, c4, cf⟩ := hpa.cells
      have HPK := Lib.hid hpk
      have HE2 : Hid (r0 = .fault (s.size - k) 2) := by show _ = _; rw [hk]; exact HE.out
      have HSZ : Hid (w.heap.size < (w3.alloc (.cells #[.int .i64 o, .int .i64 n, .slice A c c] 24)).heap.size) := block_lt hv4
      clear hr hf hv3 h1 hb4 hz HR0 HR1 hsz2 hlt3 HCALL z0 z1 z2 z3 HZ HV3 HB3 hp ht hpa hk e hpk hlen HE
      go_wp2_with fail
      refine (pfail_ok R p 0 s p 2 wr _ h4).mono ?_
      rintro e w5 ⟨rfl, hp5, hf5⟩
      have HB5 := Lib.hid (below_frmR HB4.out hf5 (by have := HRE.out; omega))
      have hv5 := RTVar.frm hv4 hf5 hkR
      clear hv4 h4 HB4 hf5 c0 c1 c2 c3 c4 cf hR3 d2
      obtain ⟨c0, c1, c2, c3, c4, cf⟩ := hp5.cells
      go_upto_region 8 with (fail)
      obtain ⟨z0, z1, z2, zf⟩ := hv5.cells
      have k3 : ∀ x y z, (rset w5 w.heap.size x y z).cell? ⟨R, 3, none⟩ = some (.int .i64 (p : Int)) := fun x y z => (World.cell?_of_block (a := ⟨R, 3, none⟩) (rset_far _ (Ne.symm hkR) _ _ _)).trans c3
      have k4 : ∀ x y z, (rset w5 w.heap.size x y z).cell? ⟨R, 4, none⟩ = some (.int .i64 2) := fun x y z => (World.cell?_of_block (a := ⟨R, 4, none⟩) (rset_far _ (Ne.symm hkR) _ _ _)).trans c4
      simp only [rset] at k3 k4
      go_region_held3 (fun W => W.cell? ⟨R, 3, none⟩ = some (.int .i64 (p : Int)) ∧ W.cell? ⟨R, 4, none⟩ = some (.int .i64 2)) (first | exact ⟨c3, c4⟩ | exact ⟨k3 _ _ _, k4 _ _ _⟩ | go_keep) (fail)
      have HEND : Hid (Below w.heap.size w (rset w5 w.heap.size (.int .i64 0) (.int .i64 0) (.slice none 0 0)).drew) := (((HB5.out.setCell (Nat.le_refl _) _).setCell (Nat.le_refl _) _).setCell (Nat.le_refl _) _).drew
      obtain ⟨q0, q1, q2, _⟩ := (hv5.put (.int .i64 0) (.int .i64 0) (.slice none 0 0)).cells
      have HQ : Hid ((rset w5 w.heap.size (.int .i64 0) (.int .i64 0) (.slice none 0 0)).drew.cell? ⟨w.heap.size, 0, none⟩ = some (.int .i64 0) ∧ (rset w5 w.heap.size (.int .i64 0) (.int .i64 0) (.slice none 0 0)).drew.cell? ⟨w.heap.size, 1, none⟩ = some (.int .i64 0) ∧ (rset w5 w.heap.size (.int .i64 0) (.int .i64 0) (.slice none 0 0)).drew.cell? ⟨w.heap.size, 2, none⟩ = some (.slice none 0 0)) := ⟨q0, q1, q2⟩
      clear k3 k4 q0 q1 q2 c0 c1 c2 c3 c4 cf z0 z1 z2 zf hv5 hp5 HB5
      go_wp2_with fail
      obtain ⟨q0, q1, q2⟩ := HQ.out
      simp only [rset] at q0 q1 q2
      refine ⟨rfl, .tuple #[.agg #[.int .i64 0, .int .i64 0, .slice none 0 0], .int .i64 (p : Int), .int .i64 2], ?_, ?_⟩
      · simp only [results, Tryz.results9]
        simp [go_sem, q0, q1, q2]
      · rw [HE2.out]; exact ⟨HEND.out, by rw [HPK.out], by decide⟩
  · have HE : Hid (r0 = .fault (s.size - k) j) := by show _ = _; rw [HR0.out, h1]; rfl
    obtain ⟨p, d', g1, g2, g3, g4, g5⟩ := hp
    have d0 : (j == 0) = false := beq_eq_false_iff_ne.2 g4
    have h4 : PAt (w3.alloc (.cells #[.int .i64 o, .int .i64 n, .slice A c c] 24)) R s p d' (s.size - k : Nat) j := g5.keep (heap_alloc_old _ _ hR3)
    have hv4 := hz (.cells #[.int .i64 o, .int .i64 n, .slice A c c] 24)
    have HJ := Lib.hid g4
    clear hr hf hv3 g1 g2 g3 g4 h1 hb4 hz HR0 HR1 hsz2 hlt3 HCALL z0 z1 z2 z3 HZ HV3 HB3
    obtain ⟨c0, c1, c2, c3, c4, cf⟩ := g5.cells
    go_upto_region 8 with (fail)
    clear c0 c1 c2 c3 c4 cf g5
    generalize w3.alloc (.cells #[.int .i64 o, .int .i64 n, .slice A c c] 24) = W4 at *
    obtain ⟨c0, c1, c2, c3, c4, cf⟩ := h4.cells
    obtain ⟨z0, z1, z2, zf⟩ := hv4.cells
    have k3 : ∀ x y z, (rset W4 w.heap.size x y z).cell? ⟨R, 3, none⟩ = some (.int .i64 (s.size - k : Nat)) := fun x y z => (World.cell?_of_block (a := ⟨R, 3, none⟩) (rset_far _ (Ne.symm hkR) _ _ _)).trans c3
    have k4 : ∀ x y z, (rset W4 w.heap.size x y z).cell? ⟨R, 4, none⟩ = some (.int .i64 j) := fun x y z => (World.cell?_of_block (a := ⟨R, 4, none⟩) (rset_far _ (Ne.symm hkR) _ _ _)).trans c4
    simp only [rset] at k3 k4
    go_region_held3 (fun W => W.cell? ⟨R, 3, none⟩ = some (.int .i64 (s.size - k : Nat)) ∧ W.cell? ⟨R, 4, none⟩ = some (.int .i64 j)) (first | exact ⟨c3, c4⟩ | exact ⟨k3 _ _ _, k4 _ _ _⟩ | go_keep) (fail)
    have HEND : Hid (Below w.heap.size w (rset W4 w.heap.size (.int .i64 0) (.int .i64 0) (.slice none 0 0)).drew) := (((HB4.out.setCell (Nat.le_refl _) _).setCell (Nat.le_refl _) _).setCell (Nat.le_refl _) _).drew
    obtain ⟨q0, q1, q2, _⟩ := (hv4.put (.int .i64 0) (.int .i64 0) (.slice none 0 0)).cells
    have HQ : Hid ((rset W4 w.heap.size (.int .i64 0) (.int .i64 0) (.slice none 0 0)).drew.cell? ⟨w.heap.size, 0, none⟩ = some (.int .i64 0) ∧ (rset W4 w.heap.size (.int .i64 0) (.int .i64 0) (.slice none 0 0)).drew.cell? ⟨w.heap.size, 1, none⟩ = some (.int .i64 0) ∧ (rset W4 w.heap.size (.int .i64 0) (.int .i64 0) (.slice none 0 0)).drew.cell? ⟨w.heap.size, 2, none⟩ = some (.slice none 0 0)) := ⟨q0, q1, q2⟩
    clear k3 k4 q0 q1 q2 c0 c1 c2 c3 c4 cf z0 z1 z2 zf hv4 h4 HB4
    go_wp2_with fail
    obtain ⟨q0, q1, q2⟩ := HQ.out
    simp only [rset] at q0 q1 q2
    refine ⟨rfl, .tuple #[.agg #[.int .i64 0, .int .i64 0, .slice none 0 0], .int .i64 (s.size - k : Nat), .int .i64 j], ?_, ?_⟩
    · simp only [results, Tryz.results9]
      simp [go_sem, q0, q1, q2]
    · rw [HE.out]; exact ⟨HEND.out, rfl, HJ.out⟩
theorem pparse_ok (s : ByteArray) (w : World) : Calls Tryz.prog 9 #[.string s] w (PParse w (parseT s.data.toList)) := by
  rcases Nat.lt_or_ge 120 s.size with h | h
  · exact pparse_long s w h
  · exact pparse_short s w h
end Go.Proofs.YtfndhfekbbbliaaGreatDoor

/-
  The statements' own whole numbers (weirgatebig), by words: division by one word, the digits of a number. No condition.
-/
namespace Go.Proofs.YtfndhfekbbbliaaGreatDoor
open Go.RowKit Go.ChangeShapes Go.WideShapes
set_option linter.unusedVariables false

/-! ### A number divided by one word -/
theorem small_step (V r a d : Nat) (hd : 0 < d) (hr : r = V % d) : (a + 4294967296 * V) / d = 4294967296 * (V / d) + (r * 4294967296 + a) / d ∧ (a + 4294967296 * V) % d = (r * 4294967296 + a) % d := by
  have h1 := Nat.div_add_mod V d
  have h2 : a + 4294967296 * V = d * (4294967296 * (V / d)) + (r * 4294967296 + a) := by
    rw [Nat.mul_left_comm]
    have : 4294967296 * V = 4294967296 * (d * (V / d)) + 4294967296 * (V % d) := by rw [← Nat.mul_add, h1]
    rw [hr]; omega
  rw [h2, Nat.mul_add_div hd, Nat.mul_add_mod]
  exact ⟨rfl, rfl⟩
theorem small_lt (r a d : Nat) (hd : 0 < d) (hr : r < d) (ha : a < 4294967296) : (r * 4294967296 + a) / d < 4294967296 := by
  rw [Nat.div_lt_iff_lt_mul hd]
  have : (r + 1) * 4294967296 ≤ d * 4294967296 := Nat.mul_le_mul_right _ hr
  rw [Nat.add_mul] at this
  omega
/-- The quotient's block: so many still noughts, then the words found. -/
def qCells (k : Nat) (qs : List Nat) : Array Value := ((List.replicate k 0 ++ qs).map u32v).toArray
theorem q_made (w : World) (n : Nat) : (w.alloc (.cells (madeCells #[.int .u32 0] n) 202)).heap[w.heap.size]? = some (.cells (qCells n []) 202 (0, 0)) := by
  rw [heap_alloc_new w _]
  congr 2
  apply Array.ext'
  rw [toList_madeCells_one]
  simp [qCells, u32v]
theorem q_at (k : Nat) (qs : List Nat) : (qCells (k + 1) qs)[k]? = some (u32v 0) := by
  unfold qCells
  rw [List.getElem?_toArray, List.getElem?_map, List.getElem?_append_left (by simp), List.getElem?_replicate, if_pos (by omega)]
  rfl
theorem q_set (k : Nat) (qs : List Nat) (x : Nat) : (qCells (k + 1) qs).setIfInBounds k (u32v x) = qCells k (x :: qs) := by
  unfold qCells
  apply Array.ext'
  rw [Array.toList_setIfInBounds]
  apply List.ext_getElem?
  intro j
  rw [List.getElem?_set]
  simp only [List.getElem?_map, List.length_map, List.length_append, List.length_replicate]
  by_cases e : k = j
  · subst e
    rw [if_pos rfl, if_pos (by omega), List.getElem?_append_right (by simp)]
    simp
  · rw [if_neg e]
    by_cases hj : j < k
    · rw [List.getElem?_append_left (by simp; omega), List.getElem?_append_left (by simp; omega)]
      simp [List.getElem?_replicate, hj, show j < k + 1 by omega]
    · rw [List.getElem?_append_right (by simp; omega), List.getElem?_append_right (by simp; omega)]
      simp only [List.length_replicate]
      rw [show j - k = (j - (k + 1)) + 1 by omega, List.getElem?_cons_succ]
set_option maxRecDepth 100000 in
set_option maxHeartbeats 1000000 in
theorem small_ok (F : Nat → Prop) (A : Option Addr) (c : Nat) (l : List Nat) (d : Nat) (w : World) (h : SlA u32E F w A c l) (hF : ∀ k, F k → k < w.heap.size) (hd : 0 < d) (hd2 : d < 4294967296) (hl : l.length ≤ 1000) :
    Calls Tryz.prog 150 #[.slice A l.length c, .int .u32 (d : Int)] w fun e w' => ∃ n q, e = .returned (.tuple #[.slice (some ⟨w.heap.size, 0, none⟩) n l.length, .int .u32 ((wVal l % d : Nat) : Int)]) ∧ n ≤ List.length q ∧ TrimOf q n ∧
      SlA u32E (fun k => w.heap.size ≤ k ∧ k < w'.heap.size) w' (some ⟨w.heap.size, 0, none⟩) l.length q ∧ wVal q = wVal l / d ∧ q.length = l.length ∧ Below w.heap.size w w' := by
  have H := Lib.hid h
  have HF := Lib.hid hF
  have hmk : ∀ u : World, (Instr.makeSlice 96 (.int .i64 (l.length : Int)) (.int .i64 (l.length : Int))).run Tryz.prog u = .ok (.slice (some ⟨u.heap.size, 0, none⟩) l.length l.length) (u.alloc (.cells (madeCells #[.int .u32 0] l.length) 202)) := fun u =>
    run_make_row' (P := Tryz.prog) 96 202 (.int .u32 0) 4 Tryz.underlying96 u32_info rfl .i64 .i64 l.length (by omega) (by omega) u
  have hc := h.1
  clear h hF
  go_enter Tryz.func150, Tryz.ntmps150
  go_wp2_with fail
  go_loopw [7, 8] (fun rv iv wx => ∃ (k : Nat) (qs : List Nat), k ≤ l.length ∧ iv = .int .i64 ((k : Int) - 1) ∧ rv = .int .u64 ((wVal (l.drop k) % d : Nat) : Int) ∧ Hid (wx.heap[w.heap.size]? = some (.cells (qCells k qs) 202 (0, 0)) ∧ k + qs.length = l.length ∧ (∀ x ∈ qs, x < 4294967296) ∧ wVal qs = wVal (l.drop k) / d ∧ Below w.heap.size w wx)) (fun _ iv _ => (intOf iv + 1).toNat)
  case atStart => exact ⟨l.length, [], Nat.le_refl _, rfl, by simp [wVal], q_made w l.length, by simp, nofun, by simp [wVal], (Below.refl _ _).alloc (Nat.le_refl _) _⟩
  case round =>
    obtain ⟨k, qs, hk, rfl, rfl, HI⟩ := hrel
    by_cases h0 : k = 0
    · subst h0
      obtain ⟨hg, hq, hqs, hv, hb⟩ := HI.out
      rw [Nat.zero_add] at hq
      rw [List.drop_zero] at hv ⊢
      have hsl : SlA u32E (fun k => w.heap.size ≤ k ∧ k < wr.heap.size) wr (some ⟨w.heap.size, 0, none⟩) l.length qs := by
        rw [← hq]
        exact ws_sl qs hg (by simp [qCells]; intros; rfl) ⟨Nat.le_refl _, block_lt hg⟩ hqs (by unfold maxLen; omega)
      have HT := Lib.hid (trim_ok _ _ _ _ _ hsl)
      have HS := Lib.hid hsl
      have HR := Lib.hid (And.intro hv (And.intro hq hb))
      rw [hq] at HT
      have hrd := Nat.mod_lt (wVal l) hd
      obtain ⟨r, hr⟩ : ∃ r, r = wVal l % d := ⟨_, rfl⟩
      rw [← hr] at hrd ⊢
      have HRM := Lib.hid hr
      clear hr
      clear HI hg hq hqs hv hb hsl
      go_wp2_with fail
      refine HT.out.mono ?_
      rintro e w3 ⟨n, rfl, hn, ht, rfl⟩
      go_wp2_with fail
      go_ret2
      exact ⟨n, qs, by rw [← HRM.out]; rfl, by rw [HR.out.2.1]; exact hn, ht, HS.out, HR.out⟩
    · obtain ⟨m, rfl⟩ : ∃ m, k = m + 1 := ⟨k - 1, by omega⟩
      obtain ⟨b, off, rfl, hb, c0, hw⟩ := H.out.u32_ (k := m) (by omega)
      have e1 : ((m + 1 : Nat) : Int) - 1 = (m : Int) := by omega
      have hz : wr.cell? ⟨b, off + m, none⟩ = some (.int .u32 (l[m] : Int)) := (HI.out.2.2.2.2.cell (p := ⟨b, off + m, none⟩) (HF.out _ hb)).trans c0
      have HD := Lib.hid (List.drop_eq_getElem_cons (show m < l.length by omega))
      generalize l[m] = a at hz hw HD
      obtain ⟨V, hV⟩ : ∃ V, V = wVal (l.drop (m + 1)) := ⟨_, rfl⟩
      rw [← hV] at HI ⊢
      have HV := Lib.hid hV
      have hrd := Nat.mod_lt V hd
      obtain ⟨r, hr⟩ : ∃ r, r = V % d := ⟨_, rfl⟩
      rw [← hr] at hrd ⊢
      have HR := Lib.hid hr
      clear hV hr c0
      have hra : r * 4294967296 + a < 18446744073709551616 := by
        have : (r + 1) * 4294967296 ≤ d * 4294967296 := Nat.mul_le_mul_right _ hrd
        rw [Nat.add_mul] at this
        omega
      have hor := or_add r a hw hra
      have hq32 := small_lt r a d hd hrd hw
      obtain ⟨T, hT⟩ : ∃ T, T = r * 4294967296 + a := ⟨_, rfl⟩
      rw [← hT] at hra hor hq32
      have HT := Lib.hid hT
      clear hT
      obtain ⟨Q, hQ⟩ : ∃ Q, Q = T / d := ⟨_, rfl⟩
      rw [← hQ] at hq32
      have hq1 : ((T : Int) / (d : Int)) = (Q : Int) := by rw [hQ]; exact Int.natCast_ediv T d ▸ rfl
      have HQ := Lib.hid hQ
      clear hQ
      obtain ⟨R, hR⟩ : ∃ R, R = T % d := ⟨_, rfl⟩
      have hr1 : ((T : Int) % (d : Int)) = (R : Int) := by rw [hR]; rfl
      have HRR := Lib.hid hR
      clear hR
      have hcl : wr.cell? ⟨w.heap.size, m, none⟩ = some (u32v 0) := by
        have h1 := cell_of_row wr w.heap.size m _ _ _ HI.out.1
        rw [h1]
        exact q_at m qs
      have hfz : wr.frozen? ⟨w.heap.size, m, none⟩ = false := by simp [World.frozen?, HI.out.1]
      unfold u32v at hcl
      have HN : Hid ((wr.setCell ⟨w.heap.size, m, none⟩ (.int .u32 (Q : Int))).heap[w.heap.size]? = some (.cells (qCells m (Q :: qs)) 202 (0, 0)) ∧ m + (Q :: qs).length = l.length ∧ (∀ x ∈ Q :: qs, x < 4294967296) ∧ wVal (Q :: qs) = wVal (l.drop m) / d ∧ Below w.heap.size w (wr.setCell ⟨w.heap.size, m, none⟩ (.int .u32 (Q : Int)))) := by
        obtain ⟨i1, i2, i3, i4, i5⟩ := HI.out
        refine ⟨?_, by rw [List.length_cons]; omega, ?_, ?_, i5.setCell (Nat.le_refl _) _⟩
        · rw [show (wr.setCell ⟨w.heap.size, m, none⟩ (.int .u32 (Q : Int))).heap[w.heap.size]? = some (.cells ((qCells (m + 1) qs).setIfInBounds m (u32v Q)) 202 (0, 0)) by simp [World.setCell, Array.getElem?_modify, i1, u32v], q_set]
        · intro x hx
          rcases List.mem_cons.1 hx with rfl | hx
          · exact hq32
          · exact i3 x hx
        · rw [HD.out, wVal, wVal, i4, ← HV.out, (small_step V r a d hd HR.out).1, HQ.out, HT.out]; omega
      have HN2 : Hid (R = wVal (l.drop m) % d) := by
        show _ = _
        rw [HD.out, wVal, ← HV.out, (small_step V r a d hd HR.out).2, HRR.out, HT.out]
      clear HI HR HRR HQ HD HV HT
      go_wp2_with fail
      go_roundw
      case rel => exact ⟨m, Q :: qs, by omega, rfl, by rw [hr1, HN2.out], HN⟩
      case measure => simp [intOf]

/-! ### The digits -/
theorem own_stays {w w' : World} {B e size n : Nat} {v : Value} {xs : List Value} (h : w.ownsRow B e size v n xs) (hb : Below w.heap.size w w') : w'.ownsRow B e size v n xs :=
  h.kept (row := none) ⟨hb.os, hb.tape, hb.output, hb.size, fun k hk _ => hb.block k hk⟩ (by
    cases hv : v.ownBlock with
    | none => exact .inl rfl
    | some k => exact .inr (by simp))
def bytV (x : UInt8) : Value := .int .u8 (x.toNat : Int)
theorem u8_info : (Tryz.prog.info? 5).map (fun i => (i.zero, i.size, i.bytes)) = some (some (.int .u8 0), 1, 1) := by kernel_rfl
/-- The digits but for a nought alone. -/
def dds (V : Nat) : List UInt8 := if V = 0 then [] else Lib.decDigits V
theorem dds_step {V : Nat} (h : V ≠ 0) : dds V = dds (V / 10) ++ [UInt8.ofNat (48 + V % 10)] := by
  unfold dds
  rw [if_neg h]
  by_cases h1 : V < 10
  · rw [Lib.decDigits, dif_pos h1, if_pos (by omega), Nat.mod_eq_of_lt h1]; rfl
  · rw [Lib.decDigits, dif_neg h1, if_neg (by omega)]
/-- A row whose first and last i are turned round. -/
def revC (l : List UInt8) (i : Nat) : List UInt8 := (List.range l.length).map fun p => if p < i ∨ l.length ≤ p + i then l.getD (l.length - 1 - p) 0 else l.getD p 0
theorem revC_len (l : List UInt8) (i : Nat) : (revC l i).length = l.length := by unfold revC; simp
theorem revC_get (l : List UInt8) (i : Nat) {p : Nat} (hp : p < l.length) : (revC l i)[p]? = some (if p < i ∨ l.length ≤ p + i then l.getD (l.length - 1 - p) 0 else l.getD p 0) := by
  unfold revC
  rw [List.getElem?_map, List.getElem?_range hp]; rfl
theorem revC_zero (l : List UInt8) : revC l 0 = l := by
  apply List.ext_getElem?
  intro p
  by_cases hp : p < l.length
  · rw [revC_get l 0 hp, if_neg (by omega), List.getD_eq_getElem?_getD, List.getElem?_eq_getElem hp]; rfl
  · rw [List.getElem?_eq_none (by rw [revC_len]; omega), List.getElem?_eq_none (by omega)]
theorem revC_end (l : List UInt8) {i : Nat} (h : l.length ≤ 2 * i + 1) : revC l i = l.reverse := by
  apply List.ext_getElem?
  intro p
  by_cases hp : p < l.length
  · rw [revC_get l i hp, List.getElem?_reverse hp]
    by_cases hc : p < i ∨ l.length ≤ p + i
    · rw [if_pos hc, List.getD_eq_getElem?_getD, List.getElem?_eq_getElem (by omega)]; rfl
    · rw [if_neg hc, show l.length - 1 - p = p by omega, List.getD_eq_getElem?_getD, List.getElem?_eq_getElem hp]; rfl
  · rw [List.getElem?_eq_none (by rw [revC_len]; omega), List.getElem?_eq_none (by rw [List.length_reverse]; omega)]
theorem revC_step (l : List UInt8) {i : Nat} (h : 2 * i + 1 < l.length) : ((revC l i).set i (l.getD (l.length - 1 - i) 0)).set (l.length - 1 - i) (l.getD i 0) = revC l (i + 1) := by
  apply List.ext_getElem?
  intro p
  by_cases hp : p < l.length
  · rw [revC_get l (i + 1) hp, List.getElem?_set, List.getElem?_set, revC_get l i hp]
    simp only [List.length_set, revC_len]
    by_cases h1 : l.length - 1 - i = p
    · rw [if_pos h1, if_pos (by omega), if_pos (.inr (by omega)), ← h1, show l.length - 1 - (l.length - 1 - i) = i by omega]
    · rw [if_neg h1]
      by_cases h2 : i = p
      · rw [if_pos h2, if_pos (by omega), if_pos (.inl (by omega)), h2]
      · rw [if_neg h2]
        by_cases hc : p < i ∨ l.length ≤ p + i
        · rw [if_pos hc, if_pos (by omega)]
        · rw [if_neg hc, if_neg (by omega)]
  · rw [List.getElem?_eq_none (by rw [List.length_set, List.length_set, revC_len]; omega), List.getElem?_eq_none (by rw [revC_len]; omega)]
theorem OwnS.set1 {w : World} {e : TypeId} {cap n g off j : Nat} {xs : List Value} (h : OwnS w e 1 (some ⟨g, off, none⟩) cap n xs) (hj : j < n) (u : Value) : OwnS (w.setCell ⟨g, off + j, none⟩ u) e 1 (some ⟨g, off, none⟩) cap n (xs.set j u) := by
  obtain ⟨h1, h2, h3, h4⟩ := h
  refine ⟨by rw [List.length_set]; exact h1, h2, h3, ?_⟩
  rcases h4 with ⟨h4, _⟩ | ⟨g', off', cur, e1, hh, hc, hr⟩
  · cases h4
  · injection e1 with e1; injection e1 with e1 e2; subst e1; subst e2
    refine .inr ⟨g, off, cur.setIfInBounds (off + j) u, rfl, by simp [World.setCell, Array.getElem?_modify, hh], by simpa using hc, fun i v hi => ?_⟩
    rw [List.getElem?_set] at hi
    by_cases e : j = i
    · subst e
      rw [if_pos rfl] at hi
      split at hi
      · injection hi with hi; subst hi
        rw [Array.getElem?_setIfInBounds_self_of_lt (by omega)]
      · cases hi
    · rw [if_neg e] at hi
      rw [Array.getElem?_setIfInBounds_ne (by omega)]
      exact hr i v hi
def sliceLen : Value → Nat
  | .slice _ n _ => n
  | _ => 0
theorem dec20_len {V : Nat} (h : V < 18446744073709551616) : (Lib.decDigits V).length ≤ 20 := by
  rw [Lib.decDigits_length]
  have : ∀ (k u : Nat), u < 10 ^ (k + 1) → Lib.nDigits u ≤ k + 1 := fun k => by
    induction k with
    | zero => intro u hu; rw [Lib.nDigits_small (by simpa using hu)]; omega
    | succ k ih =>
      intro u hu
      by_cases h1 : u < 10
      · rw [Lib.nDigits_small h1]; omega
      · rw [Lib.nDigits_big h1]
        have := ih (u / 10) (by rw [Nat.pow_succ] at hu; omega)
        omega
  exact this 19 V (by omega)
def numeral (neg : Bool) (V : Nat) : List UInt8 := if V = 0 then [48] else if neg then 45 :: Lib.decDigits V else Lib.decDigits V
theorem flat_one {α β : Type} (f : α → β) : ∀ l : List α, (l.flatMap fun x => [f x]) = l.map f
  | [] => rfl
  | x :: l => by rw [List.flatMap_cons, flat_one f l]; rfl
theorem own_len {w : World} {B e size n : Nat} {v : Value} {xs : List Value} (h : w.ownsRow B e size v n xs) : sliceLen v = n := by
  rcases h.2 with ⟨rfl, h0⟩ | ⟨g, cap, cur, rfl, _⟩
  · exact h0.symm
  · rfl
set_option maxRecDepth 100000 in
set_option maxHeartbeats 1000000 in
theorem text_ok (g : Nat) (neg : Bool) (V : Nat) (w : World) (h : BigAt w g neg V) (hl : V < 18446744073709551616) :
    Calls Tryz.prog 124 #[.pointer (some ⟨g, 0, none⟩), .int .i64 10] w fun e w' => e = .returned (.string ⟨(numeral neg V).toArray⟩) ∧ Below w.heap.size w w' := by
  obtain ⟨A0, n, c, l, hg, hn, ht, hsl, hv, hlen, hfp⟩ := h.ex
  have c0 := cell_of_row w g 0 _ _ _ hg
  have c1 := cell_of_row w g 1 _ _ _ hg
  simp at c0 c1
  have hglt := block_lt hg
  clear hg h
  by_cases h0 : n = 0
  · subst h0
    have hV := (ht.zero (Nat.zero_le _)).2 rfl
    have HN : Hid (numeral neg V = [48]) := by unfold numeral; rw [← hv, hV]; rfl
    clear hsl hv ht hV
    go_enter Tryz.func124, Tryz.ntmps124
    go_wp2_with fail
    go_ret
    rw [HN.out]
    exact ⟨rfl, Below.refl _ _⟩
  · have hV : V ≠ 0 := fun e => h0 ((ht.zero hn).1 (hv.trans e))
    have hhd := hsl.head hn
    have hnl : (l.take n).length = n := by rw [List.length_take]; omega
    have HT1 := twin_ok _ _ _ _ w hhd (by omega)
    rw [hnl] at HT1
    have HT2 := Lib.hid HT1
    have hcap := hsl.1
    have hvt : wVal (l.take n) = V := ht.val.trans hv
    have HTR : Hid (n = 0 ↔ wVal (l.take n) = 0) := ⟨fun e => absurd e h0, fun e => absurd (hvt.symm.trans e) hV⟩
    have HVT := Lib.hid hvt
    have HNL := Lib.hid hnl
    clear HT1 hhd hsl ht hv hvt
    generalize l.take n = ws at HT2 HTR HVT HNL
    go_enter Tryz.func124, Tryz.ntmps124
    go_wp2_with fail
    refine HT2.out.mono ?_
    rintro e w2 ⟨A2, c2, rfl, hs2, hb2⟩
    have HS2 : Hid (SlA u32E (fun k => w.heap.size ≤ k ∧ k < w2.heap.size) w2 A2 c2 ws) := hs2
    have HB2 := Lib.hid hb2
    clear hs2 hb2 HT2
    go_wp2_with fail
    go_loopw [5, 6] (fun bv av wx => ∃ (bs : List UInt8) (A : Option Addr) (n c : Nat) (l : List Nat), av = .slice A n c ∧ n ≤ 1000 ∧ l.length = n ∧ Hid ((n = 0 ↔ wVal l = 0) ∧ SlA u32E (fun k => w.heap.size ≤ k ∧ k < wx.heap.size) wx A c l ∧ Lib.decDigits V = dds (wVal l) ++ bs.reverse) ∧ Hid (wx.ownsRow w.heap.size 5 1 bv bs.length (bs.map bytV)) ∧ Hid (Below w.heap.size w wx)) (fun bv _ _ => (Lib.decDigits V).length - sliceLen bv)
    case atStart => exact ⟨[], A2, n, c2, ws, rfl, by omega, HNL.out, ⟨HTR.out, HS2.out, by rw [HVT.out]; unfold dds; rw [if_neg hV]; simp⟩, World.ownsRow_nil _ _ _ _, HB2.out⟩
    case round =>
      clear HTR HVT HNL HS2 HB2
      obtain ⟨bs, A, m, cm, ls, rfl, hm, hlm, HI, HO, HB⟩ := hrel
      by_cases hm0 : m = 0
      · subst hm0
        have hrev : Lib.decDigits V = bs.reverse := by rw [HI.out.2.2, HI.out.1.1 rfl]; rfl
        have hbl : bs.length ≤ 20 := by have := dec20_len hl; rw [hrev, List.length_reverse] at this; exact this
        have hx0 : wr.cell? ⟨g, 0, none⟩ = some (.bool neg) := (HB.out.cell (p := ⟨g, 0, none⟩) hglt).trans c0
        have HREV := Lib.hid hrev
        have hszr := HB.out.size
        clear HI hrev hlm
        go_upto_if 52 with (fail)
        go_cut [5] from 53 to 55 (fun bv wx => ∃ bs2 : List UInt8, bs2.length ≤ 21 ∧ Hid (bs2.reverse = numeral neg V) ∧ Hid (wx.ownsRow w.heap.size 5 1 bv bs2.length (bs2.map bytV)) ∧ Hid (Below w.heap.size w wx))
        case first =>
          cases neg with
          | false =>
            go_wp2_with fail
            go_meet
            case rel => exact ⟨bs, by omega, (by show _ = _; rw [← HREV.out]; unfold numeral; rw [if_neg hV]; rfl), HO, HB⟩
          | true =>
            go_wp2_with (at_builtin; refine wpList_push (w0 := wr) rfl _ _ 94 rfl w.heap.size 5 (.int .u8 0) 1 1 Tryz.underlying94 u8_info rfl (by decide) u5 bs.length _ rfl HO.out [.int .u8 45] (by simp [Act.eval]) rfl ?_ ?_ ?_ HB.out.size HB.out (Nat.le_refl _) ?_)
            · first | rfl | (intro u hu; rw [List.mem_singleton.1 hu]; rfl)
            · unfold maxLen; omega
            · omega
            · intro v4 w4 hown4 hg4 hb4 hat4
              have HO4 : Hid (w4.ownsRow w.heap.size 5 1 v4 (bs ++ [45]).length ((bs ++ [45]).map bytV)) := by
                rw [List.length_append, List.length_singleton, List.map_append, List.map_singleton]; exact hown4
              have HB4 := Lib.hid hb4
              clear hown4 hg4 hb4 hat4 HO HB
              go_wp2_with fail
              go_meet
              case rel => exact ⟨bs ++ [45], by rw [List.length_append, List.length_singleton]; omega, (by show _ = _; rw [List.reverse_append, ← HREV.out]; unfold numeral; rw [if_neg hV]; rfl), HO4, HB4⟩
        case rest =>
          clear HO HB HREV hbl hx0
          obtain ⟨bs2, hbl, HREV, HO, HB⟩ := hcut
          obtain ⟨A5, c5, hv5, hown5, hbs5⟩ := OwnS.of_row HO.out
          obtain rfl := hv5
          have hnp : 0 < bs2.length := by
            rcases bs2 with _ | ⟨x, xs⟩
            · have := HREV.out
              unfold numeral at this
              rw [if_neg hV] at this
              have hd := Lib.decDigits_length V
              have hd2 := Lib.nDigits_pos V
              split at this
              · cases this
              · rw [← this] at hd; simp at hd; omega
            · simp
          obtain ⟨g5, o5, rfl, hg5, hc5⟩ := hown5.head hnp (by decide)
          have hb5 := hbs5 g5 rfl
          have hcap5 := hown5.2.1
          have HOW := Lib.hid hown5
          clear hown5 hbs5 HO hc5
          go_wp2_with fail
          go_loopw [8, 9] (fun iv jv wx => ∃ i j : Nat, 2 * i ≤ bs2.length ∧ i + j + 1 = bs2.length ∧ iv = .int .i64 i ∧ jv = .int .i64 j ∧ Hid (OwnS wx 5 1 (some ⟨g5, o5, none⟩) c5 bs2.length ((revC bs2 i).map bytV)) ∧ Hid (Below w.heap.size w wx)) (fun iv _ _ => bs2.length - (intOf iv).toNat)
          case atStart => exact ⟨0, bs2.length - 1, by omega, by omega, rfl, (by congr 1; omega), (by rw [revC_zero]; exact HOW.out), HB⟩
          case round =>
            clear HOW HB
            obtain ⟨i, j, hi, hij1, rfl, rfl, HOW, HB⟩ := hrel
            by_cases hij : 2 * i + 1 < bs2.length
            · have hcell : ∀ p, p < bs2.length → wr.cell? ⟨g5, o5 + p, none⟩ = some (bytV ((revC bs2 i).getD p 0)) := fun p hp => by
                obtain ⟨g', o', e, _, hc⟩ := HOW.out.head hnp (by decide)
                injection e with e; injection e with e1 e2; subst e1; subst e2
                refine hc p _ ?_
                rw [List.getElem?_map, List.getD_eq_getElem?_getD, List.getElem?_eq_getElem (by rw [revC_len]; exact hp)]
                rfl
              have hold : ∀ p, i ≤ p → p + i < bs2.length → (revC bs2 i).getD p 0 = bs2.getD p 0 := fun p h1 h2 => by
                rw [List.getD_eq_getElem?_getD, revC_get bs2 i (by omega), if_neg (by omega)]; rfl
              have y0 := hcell i (by omega)
              have y1 := hcell j (by omega)
              rw [hold i (Nat.le_refl _) (by omega)] at y0
              rw [hold j (by omega) (by omega)] at y1
              have hfz : ∀ (W : World) (cs : List Value) (p : Nat), OwnS W 5 1 (some ⟨g5, o5, none⟩) c5 bs2.length cs → W.frozen? ⟨g5, p, none⟩ = false := fun W cs p h => by
                rcases h.2.2.2 with ⟨h4, _⟩ | ⟨g', off', cur, e1, hh, _⟩
                · cases h4
                · injection e1 with e1; injection e1 with e1 e2; subst e1; simp [World.frozen?, hh]
              have f0 := hfz _ _ (o5 + i) HOW.out
              have hst := revC_step bs2 hij
              rw [show bs2.length - 1 - i = j by omega] at hst
              have HST := Lib.hid hst
              have hs1 := HOW.out.set1 (j := i) (by omega) (bytV (bs2.getD j 0))
              have f1 := hfz _ _ (o5 + j) hs1
              have y2 : (wr.setCell ⟨g5, o5 + i, none⟩ (bytV (bs2.getD j 0))).cell? ⟨g5, o5 + j, none⟩ = some (bytV (bs2.getD j 0)) := by
                obtain ⟨g', o', e, _, hc⟩ := hs1.head hnp (by decide)
                injection e with e; injection e with e1 e2; subst e1; subst e2
                refine hc j _ ?_
                rw [List.getElem?_set_ne (by omega), List.getElem?_map, List.getElem?_eq_getElem (by rw [revC_len]; omega), Option.map_some]
                have := hold j (by omega) (by omega)
                rw [List.getD_eq_getElem?_getD, List.getElem?_eq_getElem (by rw [revC_len]; omega)] at this
                rw [← this]; rfl
              have HS2 : Hid (OwnS ((wr.setCell ⟨g5, o5 + i, none⟩ (bytV (bs2.getD j 0))).setCell ⟨g5, o5 + j, none⟩ (bytV (bs2.getD i 0))) 5 1 (some ⟨g5, o5, none⟩) c5 bs2.length ((revC bs2 (i + 1)).map bytV)) := by
                have h2 := hs1.set1 (j := j) (by omega) (bytV (bs2.getD i 0))
                rw [← List.map_set, ← List.map_set, HST.out] at h2
                exact h2
              have HB2 : Hid (Below w.heap.size w ((wr.setCell ⟨g5, o5 + i, none⟩ (bytV (bs2.getD j 0))).setCell ⟨g5, o5 + j, none⟩ (bytV (bs2.getD i 0)))) := (HB.out.setCell hb5 _).setCell hb5 _
              have dij : decide (i < j) = true := decide_eq_true (by omega)
              clear hcell hold hfz hst HST hs1 HOW HB
              unfold bytV at y0 y1 y2 f1 HS2 HB2
              generalize bs2.getD i 0 = x at y0 HS2 HB2
              generalize bs2.getD j 0 = y at y1 y2 f1 HS2 HB2
              go_wp2_with fail
              go_roundw
              case rel => exact ⟨i + 1, j - 1, by omega, by omega, by go_num, by go_num, HS2, HB2⟩
              case measure => simp [intOf]; omega
            · have dij : decide (i < j) = false := decide_eq_false (by omega)
              have hrv := revC_end bs2 (i := i) (by omega)
              have hsl : SlA bytE (· < wr.heap.size) wr (some ⟨g5, o5, none⟩) c5 (numeral neg V) := by
                have h1 := HOW.out
                rw [hrv, HREV.out] at h1
                have h2 : OwnS wr 5 bytE.sz (some ⟨g5, o5, none⟩) c5 bs2.length ((numeral neg V).flatMap fun x => [bytV x]) := by
                  rw [show ((numeral neg V).flatMap fun x => [bytV x]) = (numeral neg V).map bytV from flat_one bytV _]
                  exact h1
                exact h2.sl (E := bytE) (fun x => [bytV x]) (fun _ => rfl) (by rw [← HREV.out, List.length_reverse]) (fun k e => HOW.out.lt k e) (fun x _ => rfl)
              have hcv := conv_string (P := Tryz.prog) (src := 94) (dst := 9) hsl Tryz.underlying94 Tryz.underlying5 Tryz.underlying9
              rw [← HREV.out, List.length_reverse, HREV.out] at hcv
              clear hsl hrv HOW
              go_wp2_with fail
              go_ret
              exact ⟨rfl, HB.out⟩
      · have hwv : wVal ls ≠ 0 := fun e => hm0 (HI.out.1.2 e)
        have HSM := small_ok _ A cm ls 10 wr HI.out.2.1 (fun k hk => hk.2) (by decide) (by decide) (by omega)
        rw [hlm] at HSM
        have HC := Lib.hid HSM
        clear HSM
        have hbl := HO.out.1
        have hdd := dds_step hwv
        have hdl : bs.length < (Lib.decDigits V).length := by
          rw [HI.out.2.2, hdd]
          simp only [List.length_append, List.length_reverse, List.length_singleton]
          omega
        have HDD := Lib.hid hdd
        have hdm : (Lib.decDigits V).length ≤ 20 := dec20_len hl
        have HWV := Lib.hid hwv
        clear hdd hwv hbl
        have hm63 : m ≤ 1000 := hm
        go_wp2_with fail
        refine HC.out.mono ?_
        rintro e w3 ⟨n3, q, rfl, hn3, ht3, hs3, hv3, hql, hb3⟩
        have hrr := Nat.mod_lt (wVal ls) (show 0 < 10 by decide)
        obtain ⟨r, hr⟩ : ∃ r, r = wVal ls % 10 := ⟨_, rfl⟩
        rw [← hr] at hrr ⊢
        have HRE := Lib.hid hr
        have dr : decide (r < 10) = true := decide_eq_true hrr
        have hu8 : ((UInt8.ofNat (48 + r)).toNat : Int) = 48 + (r : Int) := by rw [UInt8.toNat_ofNat']; omega
        have HN3 : Hid ((n3 = 0 ↔ wVal (q.take n3) = 0) ∧ SlA u32E (fun k => wr.heap.size ≤ k ∧ k < w3.heap.size) w3 (some ⟨wr.heap.size, 0, none⟩) m (q.take n3) ∧ wVal (q.take n3) = wVal ls / 10 ∧ (q.take n3).length = n3) :=
          ⟨by rw [ht3.val]; exact (ht3.zero hn3).symm, hs3.head hn3, by rw [ht3.val, hv3], by rw [List.length_take]; omega⟩
        have hn3m : n3 ≤ m := by omega
        have HB3 := Lib.hid hb3
        have HO3 : Hid (w3.ownsRow w.heap.size 5 1 u5 bs.length (bs.map bytV)) := own_stays HO.out hb3
        clear hn3 ht3 hs3 hv3 hql hb3 hr
        have hsz3 := HB3.out.size
        have hszr := HB.out.size
        go_wp2_with (at_builtin; refine wpList_push (w0 := w3) rfl _ _ 94 rfl w.heap.size 5 (.int .u8 0) 1 1 Tryz.underlying94 u8_info rfl (by decide) u5 bs.length _ rfl HO3.out [.int .u8 (48 + (r : Int))] (by simp [Act.eval]) rfl ?_ ?_ ?_ (by omega) (HB.out.trans (HB3.out.mono HB.out.size)) (Nat.le_refl _) ?_)
        · intro u hu; rw [List.mem_singleton.1 hu]; rfl
        · unfold maxLen; omega
        · omega
        · intro v4 w4 hown4 hg4 hb4 hat4
          have HO4 : Hid (w4.ownsRow w.heap.size 5 1 v4 (bs ++ [UInt8.ofNat (48 + r)]).length ((bs ++ [UInt8.ofNat (48 + r)]).map bytV)) := by
            rw [List.length_append, List.length_singleton, List.map_append, List.map_singleton, show bytV (UInt8.ofNat (48 + r)) = .int .u8 (48 + (r : Int)) by unfold bytV; rw [hu8]]
            exact hown4
          have hsz4 := hg4.size
          have HI4 : Hid ((n3 = 0 ↔ wVal (q.take n3) = 0) ∧ SlA u32E (fun k => w.heap.size ≤ k ∧ k < w4.heap.size) w4 (some ⟨wr.heap.size, 0, none⟩) m (q.take n3) ∧ Lib.decDigits V = dds (wVal (q.take n3)) ++ (bs ++ [UInt8.ofNat (48 + r)]).reverse) := by
            refine ⟨HN3.out.1, (HN3.out.2.1.keep fun k hk => hg4.block k hk.2 fun e => ?_).more fun k hk => ⟨by have := hk.1; omega, by have := hk.2; omega⟩, ?_⟩
            · have := (HO.out.lt k e.symm).2
              have := hk.1
              omega
            · rw [HI.out.2.2, HDD.out, HN3.out.2.2.1, HRE.out]; simp
          have HB4 := Lib.hid hb4
          have HNL4 : Hid ((q.take n3).length = n3) := HN3.out.2.2.2
          have hl4 := own_len HO4.out
          rw [List.length_append, List.length_singleton] at hl4
          have hl5 := own_len HO.out
          clear hown4 hg4 hb4 hat4 HI HO HB HB3 HO3 HN3 HDD HRE HWV
          go_wp2_with fail
          go_roundw
          case rel => exact ⟨bs ++ [UInt8.ofNat (48 + r)], some ⟨wr.heap.size, 0, none⟩, n3, m, q.take n3, rfl, by omega, HNL4.out, HI4, HO4, HB4⟩
          case measure => rw [hl4, hl5]; omega
theorem string_ok (g : Nat) (s : ByteArray) (w : World) (h : Calls Tryz.prog 124 #[.pointer (some ⟨g, 0, none⟩), .int .i64 10] w fun e w' => e = .returned (.string s) ∧ Below w.heap.size w w') :
    Calls Tryz.prog 87 #[.pointer (some ⟨g, 0, none⟩)] w fun e w' => e = .returned (.string s) ∧ Below w.heap.size w w' := by
  have H := Lib.hid h
  clear h
  go_enter Tryz.func87, Tryz.ntmps87
  go_wp2_with fail
  refine H.out.mono ?_
  rintro e w2 ⟨rfl, hb⟩
  have HB := Lib.hid hb
  clear hb H
  go_wp2_with fail
  go_ret
  exact ⟨rfl, HB.out⟩
theorem digits_ok (x : Int) (w : World) (hx : -9223372036854775808 ≤ x ∧ x ≤ 9223372036854775807) :
    Calls Tryz.prog 39 #[.int .i64 x] w fun e w' => e = .returned (.string ⟨(Lib.itoa x).toArray⟩) ∧ Below w.heap.size w w' := by
  have HN := Lib.hid (newInt_ok x w hx)
  have HT := Lib.hid (fun g W h => text_ok g (decide (x < 0)) x.natAbs W h (by omega))
  have hnum : numeral (decide (x < 0)) x.natAbs = Lib.itoa x := by
    unfold numeral Lib.itoa
    by_cases h0 : x < 0
    · rw [if_neg (by omega), decide_eq_true h0, if_pos rfl, if_pos h0]
    · rw [if_neg h0, decide_eq_false h0]
      by_cases h1 : x = 0
      · subst h1; rw [if_pos (by decide)]; exact (Lib.decDigits_one (i := 0) (by omega)).symm
      · rw [if_neg (by omega), if_neg (by decide), show x.natAbs = x.toNat by omega]
  rw [hnum] at HT
  clear hx hnum
  go_enter Tryz.func39, Tryz.ntmps39
  go_wp2_with fail
  refine HN.out.mono ?_
  rintro e w2 ⟨g, rfl, hg, hb⟩
  have HT2 := Lib.hid (HT.out g w2 hg)
  have HB := Lib.hid hb
  clear hg hb HN HT
  go_wp2_with fail
  refine (string_ok g _ w2 HT2.out).mono ?_
  rintro e w3 ⟨rfl, hb⟩
  have HB3 := Lib.hid (HB.out.trans (hb.mono HB.out.size))
  clear hb HB HT2
  go_wp2_with fail
  go_ret
  exact ⟨rfl, HB3.out⟩
end Go.Proofs.YtfndhfekbbbliaaGreatDoor

/-
  The reference's Text of a tree. Conditions: the tree's text takes at most 120 bytes.
-/
namespace Go.Proofs.YtfndhfekbbbliaaGreatDoor
open Go.RowKit Go.ChangeShapes Go.WideShapes
set_option linter.unusedVariables false

theorem bin_ops {op : UInt8} (h : op ∈ binOps) : op = 109 ∨ op = 77 ∨ op = 43 ∨ op = 45 ∨ op = 42 ∨ op = 61 ∨ op = 60 ∨ op = 62 ∨ op = 47 ∨ op = 37 := by simpa [binOps] using h
set_option maxRecDepth 100000 in
theorem rtight_ok {F : Nat → Prop} (t : Tr) (v : Value) (w : World) (h : TreeAt F w v t) : Calls Tryz.prog 41 #[v] w fun e w' => e = .returned (.int .i64 (t.tight : Int)) ∧ Below w.heap.size w w' := by
  obtain ⟨o, n, A, c, rfl⟩ : ∃ o n A c, v = .agg #[.int .i64 o, .int .i64 n, .slice A c c] := by cases h <;> exact ⟨_, _, _, _, rfl⟩
  have HE : Hid (Below w.heap.size w (w.alloc (.cells #[.int .i64 o, .int .i64 n, .slice A c c] 24))) := (Below.refl _ _).alloc (Nat.le_refl _) _
  have ho : ∃ k : Nat, t.tight = k ∧ ((o = 63 ∧ k = 0) ∨ (o = 60 ∧ k = 1) ∨ (o = 61 ∧ k = 1) ∨ (o = 62 ∧ k = 1) ∨ (o = 43 ∧ k = 2) ∨ (o = 45 ∧ k = 2) ∨ (o = 42 ∧ k = 3) ∨ (o = 47 ∧ k = 3) ∨ (o = 37 ∧ k = 3) ∨ (o = 126 ∧ k = 4) ∨ (o = 0 ∧ k = 5) ∨ (o = 110 ∧ k = 5) ∨ (o = 115 ∧ k = 5) ∨ (o = 109 ∧ k = 5) ∨ (o = 77 ∧ k = 5)) := by
    refine ⟨_, rfl, ?_⟩
    cases h with
    | num => simp [Tr.tight]
    | nam x => cases x <;> simp [Tr.tight]
    | neg => simp [Tr.tight]
    | sel => simp [Tr.tight]
    | bin hop => rcases bin_ops hop with rfl | rfl | rfl | rfl | rfl | rfl | rfl | rfl | rfl | rfl <;> simp [Tr.tight, tightOp]
  obtain ⟨k, hk, ho⟩ := ho
  rw [hk]
  clear h hk
  go_enter Tryz.func41, Tryz.ntmps41
  rcases ho with ⟨rfl, rfl⟩ | ⟨rfl, rfl⟩ | ⟨rfl, rfl⟩ | ⟨rfl, rfl⟩ | ⟨rfl, rfl⟩ | ⟨rfl, rfl⟩ | ⟨rfl, rfl⟩ | ⟨rfl, rfl⟩ | ⟨rfl, rfl⟩ | ⟨rfl, rfl⟩ | ⟨rfl, rfl⟩ | ⟨rfl, rfl⟩ | ⟨rfl, rfl⟩ | ⟨rfl, rfl⟩ | ⟨rfl, rfl⟩
  all_goals
    go_wp2_with fail
    go_ret
    exact ⟨rfl, HE.out⟩
theorem str_eq {a : ByteArray} {l : List UInt8} (h : a.data.toList = l) : a = ⟨l.toArray⟩ := by
  apply ByteArray.ext
  apply Array.toList_inj.1
  rw [h]
def TextOk (t : Tr) : Prop := ∀ (v : Value) (w : World), TreeAt (· < w.heap.size) w v t → t.raw.length ≤ 120 → Calls Tryz.prog 12 #[v] w fun e w' => e = .returned (.string ⟨t.raw.toArray⟩) ∧ Below w.heap.size w w'
set_option maxRecDepth 100000 in
theorem rin_ok (t : Tr) (ht : TextOk t) (L : Nat) (v : Value) (w : World) (h : TreeAt (· < w.heap.size) w v t) (hl : t.raw.length ≤ 120) (hL : L ≤ 10) :
    Calls Tryz.prog 40 #[v, .int .i64 (L : Int)] w fun e w' => e = .returned (.string ⟨(t.at_ L).toArray⟩) ∧ Below w.heap.size w w' := by
  obtain ⟨o, n, A, c, rfl⟩ : ∃ o n A c, v = .agg #[.int .i64 o, .int .i64 n, .slice A c c] := by cases h <;> exact ⟨_, _, _, _, rfl⟩
  obtain ⟨W1, hW1⟩ : ∃ W1, W1 = w.alloc (.cells #[.int .i64 o, .int .i64 n, .slice A c c] 24) := ⟨_, rfl⟩
  have hb1 : Below w.heap.size w W1 := by rw [hW1]; exact (Below.refl _ _).alloc (Nat.le_refl _) _
  have g1 := heap_alloc_new w (.cells #[.int .i64 o, .int .i64 n, .slice A c c] 24)
  rw [← hW1] at g1
  have h1 : TreeAt (· < W1.heap.size) W1 (.agg #[.int .i64 o, .int .i64 n, .slice A c c]) t := h.under hb1
  have HT := Lib.hid (ht _ W1 h1 hl)
  have HG : Hid (∀ W, Below W1.heap.size W1 W → (W.cell? ⟨w.heap.size, 0, none⟩ = some (.int .i64 o) ∧ W.cell? ⟨w.heap.size, 1, none⟩ = some (.int .i64 n) ∧ W.cell? ⟨w.heap.size, 2, none⟩ = some (.slice A c c)) ∧ Calls Tryz.prog 41 #[.agg #[.int .i64 o, .int .i64 n, .slice A c c]] W fun e w' => e = .returned (.int .i64 (t.tight : Int)) ∧ Below W.heap.size W w') := fun W hW =>
    ⟨⟨(hW.cell (p := ⟨w.heap.size, 0, none⟩) (block_lt g1)).trans ((cell_of_row W1 w.heap.size 0 _ _ _ g1).trans rfl), (hW.cell (p := ⟨w.heap.size, 1, none⟩) (block_lt g1)).trans ((cell_of_row W1 w.heap.size 1 _ _ _ g1).trans rfl), (hW.cell (p := ⟨w.heap.size, 2, none⟩) (block_lt g1)).trans ((cell_of_row W1 w.heap.size 2 _ _ _ g1).trans rfl)⟩, rtight_ok t _ W (h1.under hW)⟩
  obtain ⟨⟨x0, x1, x2⟩, _⟩ := HG.out W1 (Below.refl _ _)
  have HB1 := Lib.hid hb1
  have HW1 := Lib.hid hW1
  obtain ⟨S, hS⟩ : ∃ S : ByteArray, S = ⟨t.raw.toArray⟩ := ⟨_, rfl⟩
  rw [← hS] at HT
  have hsz : S.size ≤ 120 := by rw [hS]; show t.raw.toArray.size ≤ 120; simpa using hl
  have HS := Lib.hid hS
  clear ht h h1 hb1 hW1 g1 hS hl
  obtain ⟨k, hk⟩ : ∃ k, k = t.tight := ⟨_, rfl⟩
  rw [← hk] at HG
  have hat : t.at_ L = brk (decide (k < L)) t.raw := by rw [hk]; rfl
  have HAT := Lib.hid hat
  clear hat hk
  go_enter Tryz.func40, Tryz.ntmps40
  go_wp2_with fail
  rw [← HW1.out]
  refine HT.out.mono ?_
  rintro e w2 ⟨rfl, hb2⟩
  obtain ⟨⟨y0, y1, y2⟩, hti⟩ := HG.out w2 hb2
  have HTI := Lib.hid hti
  have HB2 := Lib.hid (HB1.out.trans (hb2.mono HB1.out.size))
  clear hb2 hti HT HG x0 x1 x2
  go_wp2_with fail
  refine HTI.out.mono ?_
  rintro e w3 ⟨rfl, hb3⟩
  have HB3 := Lib.hid (HB2.out.trans (hb3.mono HB2.out.size))
  clear hb3 HTI y0 y1 y2
  by_cases hlt : k < L
  · have d1 : decide (k < L) = true := decide_eq_true hlt
    have HD := Lib.hid d1
    go_wp2_with fail
    go_ret
    refine ⟨?_, HB3.out⟩
    rw [HAT.out, HD.out]
    exact congrArg (fun x => Ending.returned (Value.string x)) (str_eq (a := ⟨#[40]⟩ ++ S ++ ⟨#[41]⟩) (by rw [HS.out]; simp [brk]))
  · have d1 : decide (k < L) = false := decide_eq_false hlt
    have HD := Lib.hid d1
    go_wp2_with fail
    go_ret
    refine ⟨?_, HB3.out⟩
    rw [HAT.out, HD.out, HS.out]; rfl
set_option maxRecDepth 100000 in
theorem rtext_num (k : Int) : TextOk (.num k) := by
  intro v w h hl
  cases h with
  | num hk =>
    have hk2 : -9223372036854775808 ≤ k ∧ k ≤ 9223372036854775807 := by
      simp only [Lit.wf, IntKind.min, IntKind.max, IntKind.signed, IntKind.bits, Bool.and_eq_true, decide_eq_true_eq, if_true] at hk
      exact ⟨by omega, by omega⟩
    have HD := Lib.hid (fun W => digits_ok k W hk2)
    have HB : Hid (Below w.heap.size w (w.alloc (.cells #[.int .i64 0, .int .i64 k, .slice none 0 0] 24))) := (Below.refl _ _).alloc (Nat.le_refl _) _
    have hr : (Tr.num k).raw = Lib.itoa k := rfl
    rw [hr]
    clear hk hk2 hr hl
    go_enter Tryz.func12, Tryz.ntmps12
    go_wp2_with fail
    refine (HD.out _).mono ?_
    rintro e w2 ⟨rfl, hb⟩
    have HB2 := Lib.hid (HB.out.trans (hb.mono HB.out.size))
    clear hb HD
    go_wp2_with fail
    go_ret
    exact ⟨rfl, HB2.out⟩
set_option maxRecDepth 100000 in
theorem rtext_nam (x : Bool) : TextOk (.nam x) := by
  intro v w h hl
  cases h with
  | nam =>
    cases x with
    | true =>
      have HB : Hid (Below w.heap.size w (w.alloc (.cells #[.int .i64 110, .int .i64 0, .slice none 0 0] 24))) := (Below.refl _ _).alloc (Nat.le_refl _) _
      clear hl
      go_enter Tryz.func12, Tryz.ntmps12
      go_wp2_with fail
      go_ret
      exact ⟨rfl, HB.out⟩
    | false =>
      have HB : Hid (Below w.heap.size w (w.alloc (.cells #[.int .i64 115, .int .i64 0, .slice none 0 0] 24))) := (Below.refl _ _).alloc (Nat.le_refl _) _
      clear hl
      go_enter Tryz.func12, Tryz.ntmps12
      go_wp2_with fail
      go_ret
      exact ⟨rfl, HB.out⟩
/-- A string so long, as bytes. -/
theorem str_of (l : List UInt8) (n : Nat) (h : l.length ≤ n) : ∃ S : ByteArray, S = ⟨l.toArray⟩ ∧ S.size ≤ n ∧ S.data.toList = l := ⟨_, rfl, by show l.toArray.size ≤ n; simpa using h, by simp⟩
set_option maxRecDepth 100000 in
theorem rtext_neg (a : Tr) (ia : TextOk a) : TextOk (.neg a) := by
  intro v w h hl
  cases h with
  | @neg b o nn ss _ hb h0 h1 h2 hx =>
    have hr : (Tr.neg a).raw = 45 :: a.at_ 4 := rfl
    have ha : a.raw.length ≤ 120 := by rw [hr] at hl; have h1 := at_mono (Nat.zero_le 4) a; rw [at_zero] at h1; simp only [List.length_cons] at hl; omega
    have hat : (a.at_ 4).length ≤ 120 := by rw [hr] at hl; simp only [List.length_cons] at hl; omega
    obtain ⟨W1, hW1⟩ : ∃ W1, W1 = w.alloc (.cells #[.int .i64 126, .int .i64 0, .slice (some ⟨b, 0, none⟩) 1 1] 24) := ⟨_, rfl⟩
    have hb1 : Below w.heap.size w W1 := by rw [hW1]; exact (Below.refl _ _).alloc (Nat.le_refl _) _
    have HA := Lib.hid (rin_ok a ia 4 _ W1 (hx.under hb1) ha (by omega))
    obtain ⟨S, hS, hsz, hSl⟩ := str_of (a.at_ 4) 120 hat
    rw [← hS] at HA
    have HS := Lib.hid hSl
    have HB1 := Lib.hid hb1
    have HR := Lib.hid hr
    have g1 := heap_alloc_new w (.cells #[.int .i64 126, .int .i64 0, .slice (some ⟨b, 0, none⟩) 1 1] 24)
    rw [← hW1] at g1
    have z0 := (hb1.cell (p := ⟨b, 0, none⟩) hb).trans h0
    have z1 := (hb1.cell (p := ⟨b, 1, none⟩) hb).trans h1
    have z2 := (hb1.cell (p := ⟨b, 2, none⟩) hb).trans h2
    have HW := Lib.hid hW1
    clear hx hb1 hW1 g1 ia ha hat hS hSl hr hl
    go_enter Tryz.func12, Tryz.ntmps12
    go_wp2_with fail
    rw [← HW.out]
    refine HA.out.mono ?_
    rintro e w2 ⟨rfl, hb2⟩
    have HB2 := Lib.hid (HB1.out.trans (hb2.mono HB1.out.size))
    clear HA hb2 z0 z1 z2
    go_wp2_with fail
    go_ret
    refine ⟨?_, HB2.out⟩
    exact congrArg (fun x => Ending.returned (Value.string x)) (str_eq (a := ⟨#[45]⟩ ++ S) (by rw [HR.out, ← HS.out]; simp))
set_option maxRecDepth 100000 in
set_option maxHeartbeats 2000000 in
theorem rtext_sel (x y z : Tr) (ix : TextOk x) (iy : TextOk y) (iz : TextOk z) : TextOk (.sel x y z) := by
  intro v w h hl
  cases h with
  | @sel b o nn ss o' n' s' o'' n'' s'' _ _ _ hb h0 h1 h2 hx h3 h4 h5 hy h6 h7 h8 hz =>
    have hr : (Tr.sel x y z).raw = x.at_ 1 ++ 63 :: (y.raw ++ 58 :: z.raw) := rfl
    have hll : (x.at_ 1).length + y.raw.length + z.raw.length + 2 ≤ 120 := by rw [hr] at hl; simp only [List.length_append, List.length_cons] at hl; omega
    have hxl : x.raw.length ≤ 120 := by have h1 := at_mono (Nat.zero_le 1) x; rw [at_zero] at h1; omega
    obtain ⟨W1, hW1⟩ : ∃ W1, W1 = w.alloc (.cells #[.int .i64 63, .int .i64 0, .slice (some ⟨b, 0, none⟩) 3 3] 24) := ⟨_, rfl⟩
    have hb1 : Below w.heap.size w W1 := by rw [hW1]; exact (Below.refl _ _).alloc (Nat.le_refl _) _
    have g1 := heap_alloc_new w (.cells #[.int .i64 63, .int .i64 0, .slice (some ⟨b, 0, none⟩) 3 3] 24)
    rw [← hW1] at g1
    have HX := Lib.hid (rin_ok x ix 1 _ W1 (hx.under hb1) hxl (by omega))
    have HY : Hid (∀ W, Below w.heap.size w W → Calls Tryz.prog 12 #[.agg #[o', n', s']] W fun e w' => e = .returned (.string ⟨y.raw.toArray⟩) ∧ Below W.heap.size W w') := fun W hW => iy _ W (hy.under hW) (by omega)
    have HZ : Hid (∀ W, Below w.heap.size w W → Calls Tryz.prog 12 #[.agg #[o'', n'', s'']] W fun e w' => e = .returned (.string ⟨z.raw.toArray⟩) ∧ Below W.heap.size W w') := fun W hW => iz _ W (hz.under hW) (by omega)
    have HC : Hid (∀ W, Below w.heap.size w W → (W.cell? ⟨b, 0, none⟩ = some o ∧ W.cell? ⟨b, 1, none⟩ = some nn ∧ W.cell? ⟨b, 2, none⟩ = some ss) ∧ (W.cell? ⟨b, 3, none⟩ = some o' ∧ W.cell? ⟨b, 4, none⟩ = some n' ∧ W.cell? ⟨b, 5, none⟩ = some s') ∧ (W.cell? ⟨b, 6, none⟩ = some o'' ∧ W.cell? ⟨b, 7, none⟩ = some n'' ∧ W.cell? ⟨b, 8, none⟩ = some s'')) := fun W hW =>
      ⟨⟨(hW.cell (p := ⟨b, 0, none⟩) hb).trans h0, (hW.cell (p := ⟨b, 1, none⟩) hb).trans h1, (hW.cell (p := ⟨b, 2, none⟩) hb).trans h2⟩, ⟨(hW.cell (p := ⟨b, 3, none⟩) hb).trans h3, (hW.cell (p := ⟨b, 4, none⟩) hb).trans h4, (hW.cell (p := ⟨b, 5, none⟩) hb).trans h5⟩, ⟨(hW.cell (p := ⟨b, 6, none⟩) hb).trans h6, (hW.cell (p := ⟨b, 7, none⟩) hb).trans h7, (hW.cell (p := ⟨b, 8, none⟩) hb).trans h8⟩⟩
    obtain ⟨SX, hSX, hszX, hSlX⟩ := str_of (x.at_ 1) 120 (by omega)
    obtain ⟨SY, hSY, hszY, hSlY⟩ := str_of y.raw 120 (by omega)
    obtain ⟨SZ, hSZ, hszZ, hSlZ⟩ := str_of z.raw 120 (by omega)
    rw [← hSX] at HX
    rw [← hSY] at HY
    rw [← hSZ] at HZ
    have HS := Lib.hid (And.intro hSlX (And.intro hSlY hSlZ))
    have HB1 := Lib.hid hb1
    have HR := Lib.hid hr
    have hl1 := block_lt g1
    have y2 := cell_of_row W1 w.heap.size 2 _ _ _ g1
    simp at y2
    have HG : Hid (∀ W, Below W1.heap.size W1 W → W.cell? ⟨w.heap.size, 2, none⟩ = some (.slice (some ⟨b, 0, none⟩) 3 3)) := fun W hW => (hW.cell (p := ⟨w.heap.size, 2, none⟩) hl1).trans y2
    have HW := Lib.hid hW1
    obtain ⟨⟨z0, z1, z2⟩, _⟩ := HC.out W1 hb1
    clear hx hy hz hb1 hW1 g1 ix iy iz hxl hll hSX hSY hSZ hSlX hSlY hSlZ hr hl h3 h4 h5 h6 h7 h8 y2
    go_enter Tryz.func12, Tryz.ntmps12
    go_wp2_with fail
    rw [← HW.out]
    refine HX.out.mono ?_
    rintro e w2 ⟨rfl, hb2⟩
    have hB2 := HB1.out.trans (hb2.mono HB1.out.size)
    have HB2 := Lib.hid hB2
    have HU2 := Lib.hid hb2
    have u2 := HG.out w2 hb2
    obtain ⟨_, ⟨p0, p1, p2⟩, _⟩ := HC.out w2 hB2
    have HYC := Lib.hid (HY.out w2 hB2)
    clear HX hb2 hB2 HB1 z0 z1 z2 HY h0 h1 h2
    go_wp2_with fail
    refine HYC.out.mono ?_
    rintro e w3 ⟨rfl, hb3⟩
    have hB3 := HB2.out.trans (hb3.mono HB2.out.size)
    have HB3 := Lib.hid hB3
    have u3 := HG.out w3 (HU2.out.trans (hb3.mono HU2.out.size))
    obtain ⟨_, _, ⟨r0, r1, r2⟩⟩ := HC.out w3 hB3
    have HZC := Lib.hid (HZ.out w3 hB3)
    clear HYC hb3 hB3 HB2 HU2 HG p0 p1 p2 u2 HZ HC
    go_wp2_with fail
    refine HZC.out.mono ?_
    rintro e w4 ⟨rfl, hb4⟩
    have HB4 := Lib.hid (HB3.out.trans (hb4.mono HB3.out.size))
    clear HZC hb4 HB3 r0 r1 r2 u3
    go_wp2_with fail
    go_ret
    refine ⟨?_, HB4.out⟩
    exact congrArg (fun x => Ending.returned (Value.string x)) (str_eq (a := SX ++ ⟨#[63]⟩ ++ SY ++ ⟨#[58]⟩ ++ SZ) (by rw [HR.out, ← HS.out.1, ← HS.out.2.1, ← HS.out.2.2]; simp))
set_option maxRecDepth 100000 in
set_option maxHeartbeats 2000000 in
theorem rtext_two_109 (x y : Tr) (ix : TextOk x) (iy : TextOk y) : TextOk (.bin 109 x y) := by
  intro v w h hl
  cases h with
  | @bin b o nn ss o' n' s' _ _ _ hop hb h0 h1 h2 hx h3 h4 h5 hy =>
    change Calls _ _ #[.agg #[.int .i64 109, .int .i64 0, .slice (some ⟨b, 0, none⟩) 2 2]] w _
    have hr : (Tr.bin 109 x y).raw = [109, 105, 110, 40] ++ (x.raw ++ 44 :: (y.raw ++ [41])) := rfl
    have hll : x.raw.length + y.raw.length + 6 ≤ 120 := by rw [hr] at hl; simp only [List.length_append, List.length_cons, List.length_nil] at hl; omega
    obtain ⟨W1, hW1⟩ : ∃ W1, W1 = w.alloc (.cells #[.int .i64 109, .int .i64 0, .slice (some ⟨b, 0, none⟩) 2 2] 24) := ⟨_, rfl⟩
    have hb1 : Below w.heap.size w W1 := by rw [hW1]; exact (Below.refl _ _).alloc (Nat.le_refl _) _
    have g1 := heap_alloc_new w (.cells #[.int .i64 109, .int .i64 0, .slice (some ⟨b, 0, none⟩) 2 2] 24)
    rw [← hW1] at g1
    have HX := Lib.hid (ix _ W1 (hx.under hb1) (by omega))
    have HY : Hid (∀ W, Below w.heap.size w W → Calls Tryz.prog 12 #[.agg #[o', n', s']] W fun e w' => e = .returned (.string ⟨y.raw.toArray⟩) ∧ Below W.heap.size W w') := fun W hW => iy _ W (hy.under hW) (by omega)
    have HC : Hid (∀ W, Below w.heap.size w W → (W.cell? ⟨b, 0, none⟩ = some o ∧ W.cell? ⟨b, 1, none⟩ = some nn ∧ W.cell? ⟨b, 2, none⟩ = some ss) ∧ (W.cell? ⟨b, 3, none⟩ = some o' ∧ W.cell? ⟨b, 4, none⟩ = some n' ∧ W.cell? ⟨b, 5, none⟩ = some s')) := fun W hW =>
      ⟨⟨(hW.cell (p := ⟨b, 0, none⟩) hb).trans h0, (hW.cell (p := ⟨b, 1, none⟩) hb).trans h1, (hW.cell (p := ⟨b, 2, none⟩) hb).trans h2⟩, ⟨(hW.cell (p := ⟨b, 3, none⟩) hb).trans h3, (hW.cell (p := ⟨b, 4, none⟩) hb).trans h4, (hW.cell (p := ⟨b, 5, none⟩) hb).trans h5⟩⟩
    obtain ⟨SX, hSX, hszX, hSlX⟩ := str_of x.raw 120 (by omega)
    obtain ⟨SY, hSY, hszY, hSlY⟩ := str_of y.raw 120 (by omega)
    rw [← hSX] at HX
    rw [← hSY] at HY
    have HS := Lib.hid (And.intro hSlX hSlY)
    have HB1 := Lib.hid hb1
    have HR := Lib.hid hr
    have hl1 := block_lt g1
    have y0 := cell_of_row W1 w.heap.size 0 _ _ _ g1
    have y2 := cell_of_row W1 w.heap.size 2 _ _ _ g1
    simp at y0 y2
    have HG : Hid (∀ W, Below W1.heap.size W1 W → W.cell? ⟨w.heap.size, 0, none⟩ = some (.int .i64 109) ∧ W.cell? ⟨w.heap.size, 2, none⟩ = some (.slice (some ⟨b, 0, none⟩) 2 2)) := fun W hW => ⟨(hW.cell (p := ⟨w.heap.size, 0, none⟩) hl1).trans y0, (hW.cell (p := ⟨w.heap.size, 2, none⟩) hl1).trans y2⟩
    have HW := Lib.hid hW1
    obtain ⟨⟨z0, z1, z2⟩, _⟩ := HC.out W1 hb1
    clear hx hy hb1 hW1 g1 ix iy hll hSX hSY hSlX hSlY hr hl h3 h4 h5 y0 y2 hop
    go_enter Tryz.func12, Tryz.ntmps12
    go_wp2_with fail
    rw [← HW.out]
    refine HX.out.mono ?_
    rintro e w2 ⟨rfl, hb2⟩
    have hB2 := HB1.out.trans (hb2.mono HB1.out.size)
    have HB2 := Lib.hid hB2
    have HU2 := Lib.hid hb2
    obtain ⟨_, u2⟩ := HG.out w2 hb2
    obtain ⟨_, p0, p1, p2⟩ := HC.out w2 hB2
    have HYC := Lib.hid (HY.out w2 hB2)
    clear HX hb2 hB2 HB1 z0 z1 z2 HY HC h0 h1 h2
    go_wp2_with fail
    refine HYC.out.mono ?_
    rintro e w3 ⟨rfl, hb3⟩
    have HB3 := Lib.hid (HB2.out.trans (hb3.mono HB2.out.size))
    obtain ⟨u3, _⟩ := HG.out w3 (HU2.out.trans (hb3.mono HU2.out.size))
    clear HYC hb3 HB2 HU2 HG p0 p1 p2 u2
    go_wp2_with fail
    go_ret
    refine ⟨?_, HB3.out⟩
    exact congrArg (fun x => Ending.returned (Value.string x)) (str_eq (a := ⟨#[109, 105, 110, 40]⟩ ++ SX ++ ⟨#[44]⟩ ++ SY ++ ⟨#[41]⟩) (by rw [HR.out, ← HS.out.1, ← HS.out.2]; simp))
set_option maxRecDepth 100000 in
set_option maxHeartbeats 2000000 in
theorem rtext_two_77 (x y : Tr) (ix : TextOk x) (iy : TextOk y) : TextOk (.bin 77 x y) := by
  intro v w h hl
  cases h with
  | @bin b o nn ss o' n' s' _ _ _ hop hb h0 h1 h2 hx h3 h4 h5 hy =>
    change Calls _ _ #[.agg #[.int .i64 77, .int .i64 0, .slice (some ⟨b, 0, none⟩) 2 2]] w _
    have hr : (Tr.bin 77 x y).raw = [109, 97, 120, 40] ++ (x.raw ++ 44 :: (y.raw ++ [41])) := rfl
    have hll : x.raw.length + y.raw.length + 6 ≤ 120 := by rw [hr] at hl; simp only [List.length_append, List.length_cons, List.length_nil] at hl; omega
    obtain ⟨W1, hW1⟩ : ∃ W1, W1 = w.alloc (.cells #[.int .i64 77, .int .i64 0, .slice (some ⟨b, 0, none⟩) 2 2] 24) := ⟨_, rfl⟩
    have hb1 : Below w.heap.size w W1 := by rw [hW1]; exact (Below.refl _ _).alloc (Nat.le_refl _) _
    have g1 := heap_alloc_new w (.cells #[.int .i64 77, .int .i64 0, .slice (some ⟨b, 0, none⟩) 2 2] 24)
    rw [← hW1] at g1
    have HX := Lib.hid (ix _ W1 (hx.under hb1) (by omega))
    have HY : Hid (∀ W, Below w.heap.size w W → Calls Tryz.prog 12 #[.agg #[o', n', s']] W fun e w' => e = .returned (.string ⟨y.raw.toArray⟩) ∧ Below W.heap.size W w') := fun W hW => iy _ W (hy.under hW) (by omega)
    have HC : Hid (∀ W, Below w.heap.size w W → (W.cell? ⟨b, 0, none⟩ = some o ∧ W.cell? ⟨b, 1, none⟩ = some nn ∧ W.cell? ⟨b, 2, none⟩ = some ss) ∧ (W.cell? ⟨b, 3, none⟩ = some o' ∧ W.cell? ⟨b, 4, none⟩ = some n' ∧ W.cell? ⟨b, 5, none⟩ = some s')) := fun W hW =>
      ⟨⟨(hW.cell (p := ⟨b, 0, none⟩) hb).trans h0, (hW.cell (p := ⟨b, 1, none⟩) hb).trans h1, (hW.cell (p := ⟨b, 2, none⟩) hb).trans h2⟩, ⟨(hW.cell (p := ⟨b, 3, none⟩) hb).trans h3, (hW.cell (p := ⟨b, 4, none⟩) hb).trans h4, (hW.cell (p := ⟨b, 5, none⟩) hb).trans h5⟩⟩
    obtain ⟨SX, hSX, hszX, hSlX⟩ := str_of x.raw 120 (by omega)
    obtain ⟨SY, hSY, hszY, hSlY⟩ := str_of y.raw 120 (by omega)
    rw [← hSX] at HX
    rw [← hSY] at HY
    have HS := Lib.hid (And.intro hSlX hSlY)
    have HB1 := Lib.hid hb1
    have HR := Lib.hid hr
    have hl1 := block_lt g1
    have y0 := cell_of_row W1 w.heap.size 0 _ _ _ g1
    have y2 := cell_of_row W1 w.heap.size 2 _ _ _ g1
    simp at y0 y2
    have HG : Hid (∀ W, Below W1.heap.size W1 W → W.cell? ⟨w.heap.size, 0, none⟩ = some (.int .i64 77) ∧ W.cell? ⟨w.heap.size, 2, none⟩ = some (.slice (some ⟨b, 0, none⟩) 2 2)) := fun W hW => ⟨(hW.cell (p := ⟨w.heap.size, 0, none⟩) hl1).trans y0, (hW.cell (p := ⟨w.heap.size, 2, none⟩) hl1).trans y2⟩
    have HW := Lib.hid hW1
    obtain ⟨⟨z0, z1, z2⟩, _⟩ := HC.out W1 hb1
    clear hx hy hb1 hW1 g1 ix iy hll hSX hSY hSlX hSlY hr hl h3 h4 h5 y0 y2 hop
    go_enter Tryz.func12, Tryz.ntmps12
    go_wp2_with fail
    rw [← HW.out]
    refine HX.out.mono ?_
    rintro e w2 ⟨rfl, hb2⟩
    have hB2 := HB1.out.trans (hb2.mono HB1.out.size)
    have HB2 := Lib.hid hB2
    have HU2 := Lib.hid hb2
    obtain ⟨_, u2⟩ := HG.out w2 hb2
    obtain ⟨_, p0, p1, p2⟩ := HC.out w2 hB2
    have HYC := Lib.hid (HY.out w2 hB2)
    clear HX hb2 hB2 HB1 z0 z1 z2 HY HC h0 h1 h2
    go_wp2_with fail
    refine HYC.out.mono ?_
    rintro e w3 ⟨rfl, hb3⟩
    have HB3 := Lib.hid (HB2.out.trans (hb3.mono HB2.out.size))
    obtain ⟨u3, _⟩ := HG.out w3 (HU2.out.trans (hb3.mono HU2.out.size))
    clear HYC hb3 HB2 HU2 HG p0 p1 p2 u2
    go_wp2_with fail
    go_ret
    refine ⟨?_, HB3.out⟩
    exact congrArg (fun x => Ending.returned (Value.string x)) (str_eq (a := ⟨#[109, 97, 120, 40]⟩ ++ SX ++ ⟨#[44]⟩ ++ SY ++ ⟨#[41]⟩) (by rw [HR.out, ← HS.out.1, ← HS.out.2]; simp))
theorem conv_one (c : Int) (op : UInt8) (hc : c = (op.toNat : Int)) (w : World) : (convert 94 9 (.slice (some ⟨w.heap.size, 0, none⟩) 1 1)).run Tryz.prog (w.alloc (.cells #[.int .u8 c] 5)) = .ok (.string ⟨#[op]⟩) (w.alloc (.cells #[.int .u8 c] 5)) := by
  subst hc
  refine run_convert_bytes_back (P := Tryz.prog) (w.alloc (.cells #[.int .u8 (op.toNat : Int)] 5)) 94 9 5 ⟨w.heap.size, 0, none⟩ 1 [op] Tryz.underlying94 Tryz.underlying5 Tryz.underlying9 (fun j hj => ?_)
  obtain rfl : j = 0 := by simpa using hj
  have := cell_of_row (w.alloc (.cells #[.int .u8 (op.toNat : Int)] 5)) w.heap.size 0 _ _ _ (heap_alloc_new w _)
  exact this.trans rfl
set_option maxRecDepth 100000 in
set_option maxHeartbeats 8000000 in
theorem rtext_op (op : UInt8) (hop8 : op = 43 ∨ op = 45 ∨ op = 42 ∨ op = 61 ∨ op = 60 ∨ op = 62 ∨ op = 47 ∨ op = 37) (x y : Tr) (ix : TextOk x) (iy : TextOk y) : TextOk (.bin op x y) := by
  intro v w h hl
  have hT := h
  cases h with
  | @bin b o nn ss o' n' s' _ _ _ hop hb h0 h1 h2 hx h3 h4 h5 hy =>
    obtain ⟨k, hk⟩ : ∃ k, k = tightOp op := ⟨_, rfl⟩
    obtain ⟨L, hL⟩ : ∃ L, L = leftOf k := ⟨_, rfl⟩
    have hr : (Tr.bin op x y).raw = x.at_ L ++ op :: y.at_ (k + 1) := by
      rw [hL, hk]
      have e1 : op ≠ 109 := by rcases hop8 with rfl | rfl | rfl | rfl | rfl | rfl | rfl | rfl <;> decide
      have e2 : op ≠ 77 := by rcases hop8 with rfl | rfl | rfl | rfl | rfl | rfl | rfl | rfl <;> decide
      show (if op = 109 then _ else if op = 77 then _ else _) = _
      rw [if_neg e1, if_neg e2]; rfl
    have hLk : (k = 1 ∧ L = 2) ∨ (k = 2 ∧ L = 2) ∨ (k = 3 ∧ L = 3) := by
      rw [hL, hk]; rcases hop8 with rfl | rfl | rfl | rfl | rfl | rfl | rfl | rfl <;> decide
    have hll : (x.at_ L).length + (y.at_ (k + 1)).length + 1 ≤ 120 := by rw [hr] at hl; simp only [List.length_append, List.length_cons] at hl; omega
    have hxl : x.raw.length ≤ 120 := by have h1 := at_mono (Nat.zero_le L) x; rw [at_zero] at h1; omega
    have hyl : y.raw.length ≤ 120 := by have h1 := at_mono (Nat.zero_le (k + 1)) y; rw [at_zero] at h1; omega
    obtain ⟨oi, hoi⟩ : ∃ oi : Int, oi = (op.toNat : Int) := ⟨_, rfl⟩
    rw [← hoi] at hT ⊢
    obtain ⟨W1, hW1⟩ : ∃ W1, W1 = w.alloc (.cells #[.int .i64 oi, .int .i64 0, .slice (some ⟨b, 0, none⟩) 2 2] 24) := ⟨_, rfl⟩
    have hb1 : Below w.heap.size w W1 := by rw [hW1]; exact (Below.refl _ _).alloc (Nat.le_refl _) _
    have g1 := heap_alloc_new w (.cells #[.int .i64 oi, .int .i64 0, .slice (some ⟨b, 0, none⟩) 2 2] 24)
    rw [← hW1] at g1
    have HTI : Hid (Calls Tryz.prog 41 #[.agg #[.int .i64 oi, .int .i64 0, .slice (some ⟨b, 0, none⟩) 2 2]] W1 fun e w' => e = .returned (.int .i64 (k : Int)) ∧ Below W1.heap.size W1 w') := by
      rw [hk]; exact rtight_ok (.bin op x y) _ W1 (hT.under hb1)
    have HX : Hid (∀ W, Below w.heap.size w W → Calls Tryz.prog 40 #[.agg #[o, nn, ss], .int .i64 (L : Int)] W fun e w' => e = .returned (.string ⟨(x.at_ L).toArray⟩) ∧ Below W.heap.size W w') := fun W hW => rin_ok x ix L _ W (hx.under hW) hxl (by omega)
    have HY : Hid (∀ W, Below w.heap.size w W → Calls Tryz.prog 40 #[.agg #[o', n', s'], .int .i64 ((k + 1 : Nat) : Int)] W fun e w' => e = .returned (.string ⟨(y.at_ (k + 1)).toArray⟩) ∧ Below W.heap.size W w') := fun W hW => rin_ok y iy (k + 1) _ W (hy.under hW) hyl (by omega)
    have HC : Hid (∀ W, Below w.heap.size w W → (W.cell? ⟨b, 0, none⟩ = some o ∧ W.cell? ⟨b, 1, none⟩ = some nn ∧ W.cell? ⟨b, 2, none⟩ = some ss) ∧ (W.cell? ⟨b, 3, none⟩ = some o' ∧ W.cell? ⟨b, 4, none⟩ = some n' ∧ W.cell? ⟨b, 5, none⟩ = some s')) := fun W hW =>
      ⟨⟨(hW.cell (p := ⟨b, 0, none⟩) hb).trans h0, (hW.cell (p := ⟨b, 1, none⟩) hb).trans h1, (hW.cell (p := ⟨b, 2, none⟩) hb).trans h2⟩, ⟨(hW.cell (p := ⟨b, 3, none⟩) hb).trans h3, (hW.cell (p := ⟨b, 4, none⟩) hb).trans h4, (hW.cell (p := ⟨b, 5, none⟩) hb).trans h5⟩⟩
    obtain ⟨SX, hSX, hszX, hSlX⟩ := str_of (x.at_ L) 120 (by omega)
    obtain ⟨SY, hSY, hszY, hSlY⟩ := str_of (y.at_ (k + 1)) 120 (by omega)
    rw [← hSX] at HX
    rw [← hSY] at HY
    have HS := Lib.hid (And.intro hSlX hSlY)
    have HB1 := Lib.hid hb1
    have HR := Lib.hid hr
    have hl1 := block_lt g1
    have y0 := cell_of_row W1 w.heap.size 0 _ _ _ g1
    have y1 := cell_of_row W1 w.heap.size 1 _ _ _ g1
    have y2 := cell_of_row W1 w.heap.size 2 _ _ _ g1
    simp at y0 y1 y2
    have HG : Hid (∀ W, Below W1.heap.size W1 W → W.cell? ⟨w.heap.size, 0, none⟩ = some (.int .i64 oi) ∧ W.cell? ⟨w.heap.size, 2, none⟩ = some (.slice (some ⟨b, 0, none⟩) 2 2)) := fun W hW => ⟨(hW.cell (p := ⟨w.heap.size, 0, none⟩) hl1).trans y0, (hW.cell (p := ⟨w.heap.size, 2, none⟩) hl1).trans y2⟩
    have HW := Lib.hid hW1
    have hoik : (oi = 43 ∧ k = 2 ∧ L = 2) ∨ (oi = 45 ∧ k = 2 ∧ L = 2) ∨ (oi = 42 ∧ k = 3 ∧ L = 3) ∨ (oi = 61 ∧ k = 1 ∧ L = 2) ∨ (oi = 60 ∧ k = 1 ∧ L = 2) ∨ (oi = 62 ∧ k = 1 ∧ L = 2) ∨ (oi = 47 ∧ k = 3 ∧ L = 3) ∨ (oi = 37 ∧ k = 3 ∧ L = 3) := by
      rw [hoi, hL, hk]; rcases hop8 with rfl | rfl | rfl | rfl | rfl | rfl | rfl | rfl <;> decide
    have HOI := Lib.hid hoi
    clear hx hy hb1 hW1 g1 ix iy hll hxl hyl hSX hSY hSlX hSlY hr hl h0 h1 h2 h3 h4 h5 hop hT hLk hoi hL hk hop8
    go_enter Tryz.func12, Tryz.ntmps12
    rcases hoik with ⟨rfl, rfl, rfl⟩ | ⟨rfl, rfl, rfl⟩ | ⟨rfl, rfl, rfl⟩ | ⟨rfl, rfl, rfl⟩ | ⟨rfl, rfl, rfl⟩ | ⟨rfl, rfl, rfl⟩ | ⟨rfl, rfl, rfl⟩ | ⟨rfl, rfl, rfl⟩
    all_goals
      go_wp2_with fail
      rw [← HW.out]
      refine HTI.out.mono ?_
      rintro e w2 ⟨rfl, hb2⟩
      have hB2 := HB1.out.trans (hb2.mono HB1.out.size)
      have HB2 := Lib.hid hB2
      have HU2 := Lib.hid hb2
      obtain ⟨_, u2⟩ := HG.out w2 hb2
      obtain ⟨⟨p0, p1, p2⟩, _⟩ := HC.out w2 hB2
      have HXC := Lib.hid (HX.out w2 hB2)
      clear HTI hb2 hB2 HB1 HX y0 y1 y2
      go_wp2_with fail
      refine HXC.out.mono ?_
      rintro e w3 ⟨rfl, hb3⟩
      have hB3 := HB2.out.trans (hb3.mono HB2.out.size)
      have HB3 := Lib.hid hB3
      have hu3 := HU2.out.trans (hb3.mono HU2.out.size)
      have HU3 := Lib.hid hu3
      obtain ⟨_, u3⟩ := HG.out w3 hu3
      obtain ⟨_, r0, r1, r2⟩ := HC.out w3 hB3
      have HYC := Lib.hid (HY.out w3 hB3)
      clear HXC hb3 hB3 HB2 HU2 p0 p1 p2 u2 HY HC hu3
      go_wp2_with fail
      refine HYC.out.mono ?_
      rintro e w4 ⟨rfl, hb4⟩
      have HB4 := Lib.hid (HB3.out.trans (hb4.mono HB3.out.size))
      obtain ⟨u4, _⟩ := HG.out w4 (HU3.out.trans (hb4.mono HU3.out.size))
      clear HYC hb4 HB3 HU3 HG r0 r1 r2 u3
      have hcv := conv_one _ op HOI.out w4
      clear HOI
      go_wp2_with fail
      go_ret
      refine ⟨?_, HB4.out.alloc HB4.out.size _⟩
      exact congrArg (fun x => Ending.returned (Value.string x)) (str_eq (a := SX ++ ⟨#[op]⟩ ++ SY) (by rw [HR.out, ← HS.out.1, ← HS.out.2]; simp))
theorem rtext_ok (t : Tr) : TextOk t := by
  induction t with
  | num k => exact rtext_num k
  | nam x => exact rtext_nam x
  | neg a ia => exact rtext_neg a ia
  | sel x y z ix iy iz => exact rtext_sel x y z ix iy iz
  | bin op x y ix iy =>
    intro v w h hl
    have hop : op ∈ binOps := by cases h with | bin hop => exact hop
    rcases bin_ops hop with rfl | rfl | hop8
    · exact rtext_two_109 x y ix iy v w h hl
    · exact rtext_two_77 x y ix iy v w h hl
    · exact rtext_op op hop8 x y ix iy v w h hl
end Go.Proofs.YtfndhfekbbbliaaGreatDoor
