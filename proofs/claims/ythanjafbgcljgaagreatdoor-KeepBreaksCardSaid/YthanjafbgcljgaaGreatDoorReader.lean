/-
  Contracts of package frame's Reader: Fail, Num over bytes that begin with a number, and over a number's beginning. No condition.
-/
import Derived.Test.YthanjafbgcljgaaGreatDoorFrame
import Derived.Test.YthanjafbgcljgaaGreatDoorHeap
import Derived.Deep.LoopGhost
namespace Go.Proofs.YthanjafbgcljgaaGreatDoor
open Go.RowKit Go.ChangeShapes Go.WideShapes
set_option linter.unusedVariables false

/-- The reader at block g. -/
def RdAt (w : World) (g : Nat) (A : Option Addr) (n c : Nat) (at_ : Nat) (err : Value) : Prop := w.heap[g]? = some (.cells #[.slice A n c, .int .i64 at_, err] 86 (0, 0))
theorem RdAt.cells {w : World} {g n c at_ : Nat} {A : Option Addr} {err : Value} (h : RdAt w g A n c at_ err) : w.cell? ⟨g, 0, none⟩ = some (.slice A n c) ∧ w.cell? ⟨g, 1, none⟩ = some (.int .i64 at_) ∧ w.cell? ⟨g, 2, none⟩ = some err ∧ ∀ i, w.frozen? ⟨g, i, none⟩ = false := by
  have h' : w.heap[g]? = some (.cells #[.slice A n c, .int .i64 at_, err] 86 (0, 0)) := h
  have c0 := cell_of_row w g 0 _ _ _ h'
  have c1 := cell_of_row w g 1 _ _ _ h'
  have c2 := cell_of_row w g 2 _ _ _ h'
  simp at c0 c1 c2
  exact ⟨c0, c1, c2, fun i => by simp [World.frozen?, h']⟩
theorem RdAt.lt {w : World} {g n c at_ : Nat} {A : Option Addr} {err : Value} (h : RdAt w g A n c at_ err) : g < w.heap.size := block_lt h
theorem RdAt.setAt {w : World} {g n c at_ : Nat} {A : Option Addr} {err : Value} (h : RdAt w g A n c at_ err) (k : Nat) : RdAt (w.setCell ⟨g, 1, none⟩ (.int .i64 k)) g A n c k err := by
  have h' : w.heap[g]? = some (.cells #[.slice A n c, .int .i64 at_, err] 86 (0, 0)) := h
  unfold RdAt
  simp [World.setCell, Array.getElem?_modify, h']
theorem RdAt.setErr {w : World} {g n c at_ : Nat} {A : Option Addr} {err : Value} (h : RdAt w g A n c at_ err) (e : Value) : RdAt (w.setCell ⟨g, 2, none⟩ e) g A n c at_ e := by
  have h' : w.heap[g]? = some (.cells #[.slice A n c, .int .i64 at_, err] 86 (0, 0)) := h
  unfold RdAt
  simp [World.setCell, Array.getElem?_modify, h']
def errFile : Value := .iface 45 (.int .i64 9)

theorem rdFail_any (g n c at_ : Nat) (A : Option Addr) (err : Value) (w : World) (h : RdAt w g A n c at_ err) : Calls Tryz.prog 76 #[.pointer (some ⟨g, 0, none⟩)] w fun e w' => e = .returned (.tuple #[]) ∧ w' = w.setCell ⟨g, 2, none⟩ errFile := by
  obtain ⟨c0, c1, c2, fz⟩ := h.cells
  have f2 := fz 2
  clear fz
  go_enter Tryz.func76, Tryz.ntmps76
  go_wp2_with fail
  exact bodyPost_end (by simp [results, Tryz.results76, go_sem]) rfl ⟨rfl, rfl⟩

/-! ### Plain: what is read -/
/-- The i-th byte of a number: y is what is left. -/
def vb (y : Nat) : Nat := if y < 128 then y else y % 128 + 128
theorem vl_at (f m i : Nat) (h : i < (vl f m).length) (hf : m < 2 * 128 ^ f) : (vl f m)[i]? = some (vb (m / 128 ^ i)) := by
  induction f generalizing m i with
  | zero =>
    have : i = 0 := by simp [vl] at h; omega
    subst this
    simp [vl, vb]; simp at hf; rw [if_pos (by omega)]; omega
  | succ f ih =>
    unfold vl at h ⊢
    by_cases h1 : m < 128
    · rw [if_pos h1] at h ⊢
      have : i = 0 := by simp at h; omega
      subst this
      simp [vb, h1]
    · rw [if_neg h1] at h ⊢
      cases i with
      | zero => simp [vb, h1]
      | succ i =>
        rw [List.getElem?_cons_succ, ih (m / 128) i (by simpa using h) (by rw [Nat.pow_succ] at hf; omega)]
        rw [Nat.div_div_eq_div_mul, Nat.pow_succ, Nat.mul_comm 128]
/-- Behind the i-th byte there is another one just where 128 is reached. -/
theorem vl_more (f m i : Nat) (h : i < (vl f m).length) (hf : m < 2 * 128 ^ f) : i + 1 < (vl f m).length ↔ 128 ≤ m / 128 ^ i := by
  induction f generalizing m i with
  | zero =>
    have : i = 0 := by simp [vl] at h; omega
    subst this
    simp [vl]; simp at hf; omega
  | succ f ih =>
    unfold vl at h ⊢
    by_cases h1 : m < 128
    · rw [if_pos h1] at h ⊢
      have : i = 0 := by simp at h; omega
      subst this
      simp; omega
    · rw [if_neg h1] at h ⊢
      cases i with
      | zero =>
        have : 0 < (vl f (m / 128)).length := by cases f <;> simp [vl] <;> split <;> simp
        simp; omega
      | succ i =>
        have := ih (m / 128) i (by simpa using h) (by rw [Nat.pow_succ] at hf; omega)
        rw [Nat.div_div_eq_div_mul, Nat.mul_comm 128, ← Nat.pow_succ] at this
        rw [List.length_cons, ← this]
        omega
theorem vl_prev (f m i : Nat) (h : i < (vl f m).length) (hf : m < 2 * 128 ^ f) (hi : 0 < i) : 0 < m / 128 ^ i := by
  obtain ⟨i, rfl⟩ : ∃ k, i = k + 1 := ⟨i - 1, by omega⟩
  have := (vl_more f m i (by omega) hf).1 h
  rw [Nat.pow_succ, ← Nat.div_div_eq_div_mul]; omega
theorem i64_xor_zero (a : Nat) (h : a < 9223372036854775808) : bits .xor .i64 (a : Int) 0 = a := by
  show IntKind.i64.wrap ((BitVec.ofInt 64 (a : Int) ^^^ BitVec.ofInt 64 0).toNat : Int) = _
  have e : BitVec.ofInt 64 0 = 0#64 := rfl
  rw [e, BitVec.xor_zero, BitVec.toNat_ofInt]
  have : ((a : Int) % ((2 ^ 64 : Nat) : Int)).toNat = a := by omega
  rw [this]
  exact IntWalk.i64_in _ (by omega)
theorem i64_xor_ones (a : Nat) (h : a < 9223372036854775808) : bits .xor .i64 (a : Int) (-1) = -1 - a := by
  show IntKind.i64.wrap ((BitVec.ofInt 64 (a : Int) ^^^ BitVec.ofInt 64 (-1)).toNat : Int) = _
  have e : BitVec.ofInt 64 (-1) = BitVec.allOnes 64 := by decide
  rw [e, BitVec.xor_allOnes, BitVec.toNat_not, BitVec.toNat_ofInt]
  have : ((a : Int) % ((2 ^ 64 : Nat) : Int)).toNat = a := by omega
  rw [this]
  have e2 : ((2 ^ 64 - 1 - a : Nat) : Int) = 18446744073709551615 - a := by omega
  rw [e2]
  have e3 : IntKind.i64.wrap (18446744073709551615 - (a : Int)) = wrap64 (18446744073709551615 - (a : Int)) := by simp [IntKind.wrap, IntKind.bits, IntKind.signed, wrap64]; split <;> omega
  rw [e3]
  unfold wrap64
  omega
theorem zigback (z : Nat) (n : Int) (h0 : -9223372036854775808 ≤ n) (h1 : n ≤ 9223372036854775807) (h : z = zz n) : bits .xor .i64 (wrap64 ((z : Int) / 2)) (wrap64 (- wrap64 (bits .and .u64 (z : Int) 1))) = n := by
  have hz := zz_lt n h0 h1
  have e1 : bits .and .u64 (z : Int) 1 = ((z % 2 : Nat) : Int) := by
    rw [show (1 : Int) = ((1 : Nat) : Int) from rfl, u64_and_nat z 1 (by omega) (by omega), Nat.and_one_is_mod]
  have e2 : wrap64 ((z : Int) / 2) = ((z / 2 : Nat) : Int) := by
    rw [IntWalk.wrap64_in _ (by omega)]; omega
  have e3 : wrap64 ((z % 2 : Nat) : Int) = ((z % 2 : Nat) : Int) := IntWalk.wrap64_in _ (by omega)
  have e4 : wrap64 (-((z % 2 : Nat) : Int)) = -((z % 2 : Nat) : Int) := IntWalk.wrap64_in _ (by omega)
  rw [e1, e2, e3, e4]
  rcases (show z % 2 = 0 ∨ z % 2 = 1 by omega) with h2 | h2
  · rw [h2, show (-((0 : Nat) : Int)) = 0 from rfl, i64_xor_zero _ (by omega)]
    unfold zz at h; split at h <;> omega
  · rw [h2, show (-((1 : Nat) : Int)) = -1 from rfl, i64_xor_ones _ (by omega)]
    unfold zz at h; split at h <;> omega
theorem rd_or_add (a b i : Nat) (h : a < 2 ^ i) : a ||| b * 2 ^ i = a + b * 2 ^ i := by
  have := Nat.shiftLeft_add_eq_or_of_lt h b
  rw [Nat.shiftLeft_eq] at this
  rw [Nat.or_comm, ← this, Nat.add_comm]
theorem low_step (z i : Nat) : z % 128 ^ i + (z / 128 ^ i % 128) * 128 ^ i = z % 128 ^ (i + 1) := by
  rw [Nat.pow_succ, Nat.mod_mul, Nat.mul_comm (128 ^ i)]
theorem and127 : ∀ c : Fin 256, c.1 &&& 127 = c.1 % 128 := by decide +kernel
theorem vb_low (y : Nat) : vb y % 128 = y % 128 := by unfold vb; split <;> omega
theorem vb_lt (y : Nat) : vb y < 256 := by unfold vb; split <;> omega
theorem pow128 (i : Nat) : 128 ^ i = 2 ^ (7 * i) := by rw [Nat.pow_mul]
theorem read_step (v q z k y : Nat) (hv : v = vb q) (hq : q = z / 128 ^ k) (hy : y = z % 128 ^ k) (hz : z < 18446744073709551616) (hk : k ≤ 9) :
    bits .or .u64 (y : Int) (IntKind.u64.wrap (IntKind.u64.wrap (bits .and .u8 (v : Int) 127) * 2 ^ (7 * k))) = ((z % 128 ^ (k + 1) : Nat) : Int) := by
  have hv256 : v < 256 := by rw [hv]; exact vb_lt q
  have e1 : bits .and .u8 (v : Int) 127 = ((q % 128 : Nat) : Int) := by
    rw [show (127 : Int) = ((127 : Nat) : Int) from rfl, u8_and_nat v 127 hv256 (by omega), and127 ⟨v, hv256⟩]
    show ((v % 128 : Nat) : Int) = _
    rw [hv, vb_low]
  have e2 : IntKind.u64.wrap ((q % 128 : Nat) : Int) = ((q % 128 : Nat) : Int) := by rw [wrap_u64]; omega
  have hle : q % 128 * 128 ^ k ≤ z := by
    rw [hq]
    exact Nat.le_trans (Nat.mul_le_mul_right _ (Nat.mod_le _ _)) (Nat.div_mul_le_self z (128 ^ k))
  have e3 : IntKind.u64.wrap (((q % 128 : Nat) : Int) * 2 ^ (7 * k)) = ((q % 128 * 128 ^ k : Nat) : Int) := by
    rw [wrap_u64, pow128]
    have : (((q % 128 : Nat) : Int) * 2 ^ (7 * k)) = ((q % 128 * 2 ^ (7 * k) : Nat) : Int) := by
      rw [Int.natCast_mul, Int.natCast_pow]; rfl
    rw [this]
    rw [pow128] at hle
    omega
  have hyl : y < 2 ^ (7 * k) := by rw [hy, ← pow128]; exact Nat.mod_lt _ (Nat.pow_pos (by omega))
  have hyz : y ≤ z := by rw [hy]; exact Nat.mod_le _ _
  rw [e1, e2, e3, u64_or_nat _ _ (by omega) (by omega), pow128, rd_or_add _ _ _ hyl, ← pow128, hy, hq, low_step]
set_option maxRecDepth 100000 in
set_option maxHeartbeats 4000000 in
theorem rdNum_ok (g c at_ : Nat) (A : Option Addr) (l tail : List UInt8) (F : Nat → Prop) (n : Int) (w : World) (h : RdAt w g A l.length c at_ .nilIface) (hl : SlA bytE F w A c l) (hF : ¬ F g) (hlt : ∀ k, F k → k < w.heap.size) (h0 : -9223372036854775808 ≤ n) (h1 : n ≤ 9223372036854775807) (hd : l.drop at_ = numB n ++ tail) :
    Calls Tryz.prog 51 #[.pointer (some ⟨g, 0, none⟩)] w fun e w' => e = .returned (.int .i64 n) ∧ RdAt w' g A l.length c (at_ + (numB n).length) .nilIface ∧ Frm (· = g) w w' := by
  have hle := hl.le
  have hgl := h.lt
  obtain ⟨z, hz⟩ : ∃ z, z = zz n := ⟨_, rfl⟩
  have hzl : z < 2 * 128 ^ 9 := by rw [hz]; have := zz_lt n h0 h1; omega
  obtain ⟨m, hm⟩ : ∃ m, m = (numB n).length := ⟨_, rfl⟩
  have hm' : m = (vl 9 z).length := by rw [hm, numB_length, hz]; rfl
  have hat : at_ + m ≤ l.length := by
    have := congrArg List.length hd
    rw [List.length_drop, List.length_append, ← hm] at this
    have : 1 ≤ m := by rw [hm']; cases hh : vl 9 z with | nil => unfold vl at hh; split at hh <;> simp at hh | cons => simp
    omega
  have hm10 : m ≤ 10 := by rw [hm]; exact numB_len n
  have hbyte : ∀ i (hi : i < m) (hl' : at_ + i < l.length), (l[at_ + i].toNat : Int) = (vb (z / 128 ^ i) : Nat) := by
    intro i hi hl'
    have e1 : l[at_ + i]? = (numB n)[i]? := by
      rw [← List.getElem?_drop, hd, List.getElem?_append_left (by omega)]
    have e2 : (numB n)[i]? = some (UInt8.ofNat (vb (z / 128 ^ i))) := by
      unfold numB numBytes
      rw [List.getElem?_map, ← hz, vl_at 9 z i (by omega) hzl]; rfl
    rw [List.getElem?_eq_getElem hl', e2] at e1
    injection e1 with e1
    rw [e1, UInt8.toNat_ofNat']
    have := vb_lt (z / 128 ^ i)
    omega
  have HB := Lib.hid hbyte
  have HM := Lib.hid hm'
  have HM2 := Lib.hid hm
  have HZ := Lib.hid hz
  have HZL := Lib.hid hzl
  have H := Lib.hid h
  have HL := Lib.hid hl
  have HLT := Lib.hid hlt
  clear hbyte hm' hm hz hzl h hl hd hlt
  obtain ⟨c0, c1, c2, fz⟩ := H.out.cells
  have f1 := fz 1
  clear fz
  go_enter Tryz.func51, Tryz.ntmps51
  go_wp2_with fail
  clear c0 c1 c2 f1
  go_loopw [3, 4] (fun x i wr => ∃ k y p : Nat, k < m ∧ i = .int .i64 k ∧ x = .int .u64 y ∧ Hid (p = at_ + k) ∧ Hid (y = z % 128 ^ k) ∧ Hid (RdAt wr g A l.length c p .nilIface) ∧ Hid (Frm (· = g) w wr)) (fun _ i _ => 10 - (intOf i).toNat)
  case atStart => exact ⟨0, 0, at_, by have := HM.out; rw [this]; cases hh : vl 9 z with | nil => unfold vl at hh; split at hh <;> simp at hh | cons => simp, rfl, rfl, rfl, by show 0 = _; rw [Nat.pow_zero, Nat.mod_one], H.out, Frm.refl _ _⟩
  case round =>
    obtain ⟨k, y, p, hk, rfl, rfl, HP, HY, HR, HFR⟩ := hrel
    have hpl : p < l.length := by have := HP.out; omega
    obtain ⟨b, off, rfl, hbF, hc⟩ := (HL.out.keep (HFR.out.same HLT.out (fun k hk e => hF (e ▸ hk)))).byt_ (k := p) hpl
    obtain ⟨q, hq⟩ : ∃ q, q = z / 128 ^ k := ⟨_, rfl⟩
    have hbv := HB.out k hk (by have := HP.out; omega)
    rw [← hq] at hbv
    simp only [← HP.out] at hbv
    rw [hbv] at hc
    obtain ⟨c0, c1, c2, fz⟩ := HR.out.cells
    have f1 := fz 1
    clear fz hbv
    obtain ⟨v, hv⟩ : ∃ v, v = vb q := ⟨_, rfl⟩
    rw [← hv] at hc
    obtain ⟨L, hL⟩ : ∃ L, L = l.length := ⟨_, rfl⟩
    rw [← hL] at c0 hpl hle hat
    have d1 : decide (L ≤ p) = false := by simp; omega
    have HLL := Lib.hid hL
    clear hL
    have d2 : decide ((9 : Int) < (k : Int)) = false := by simp; omega
    have hq9 : k = 9 → v ≤ 1 := by
      intro e
      have h2 : q < 2 := by rw [hq, e]; have := HZL.out; omega
      rw [hv]; unfold vb; split <;> omega
    have hq0 : 0 < k → 0 < v := by
      intro e
      have h2 : 0 < q := by rw [hq]; exact vl_prev 9 z k (by rw [← HM.out]; exact hk) HZL.out e
      rw [hv]; unfold vb; split <;> omega
    have HV := Lib.hid hv
    have HQ := Lib.hid hq
    clear hv hq
    have hv256 : v < 256 := by rw [HV.out]; exact vb_lt q
    have hstep := read_step v q z k y HV.out HQ.out HY.out (by have := HZL.out; omega) (by omega)
    have HS := Lib.hid hstep
    clear hstep
    have hmq := vl_more 9 z k (by rw [← HM.out]; exact hk) HZL.out
    rw [← HM.out, ← HQ.out] at hmq
    have HMQ := Lib.hid hmq
    clear hmq
    by_cases hmore : k + 1 < m
    · have hv128 : 128 ≤ v := by
        have := HMQ.out.1 hmore
        rw [HV.out]; unfold vb; rw [if_neg (by omega)]; omega
      rcases (show k = 0 ∨ (0 < k ∧ k < 9) by omega) with hk0 | ⟨hk0, hk9⟩
      · have d3 : ((k : Int) == 9) = false := by rw [beq_eq_false_iff_ne]; omega
        have d4 : decide (0 < k) = false := by simp; omega
        have HK := Lib.hid hk0
        clear hq9 hq0 hk0
        go_wp2_with fail
        go_quiet (fail)
        go_wp2_with fail
        go_quiet (fail)
        go_wp2_with fail
        go_roundw
        case rel =>
          refine ⟨k + 1, z % 128 ^ (k + 1), p + 1, hmore, by go_num, by rw [HS.out], by show _ = _; rw [HP.out, Nat.add_assoc], rfl, ?_, ?_⟩
          · exact RdAt.setAt (show RdAt (wr.drewN _) g _ l.length c p .nilIface from HR.out) (p + 1)
          · exact (HFR.out.drewN _).setCell (.inl rfl) _
        case measure => simp [intOf]; omega
      · have d3 : ((k : Int) == 9) = false := by rw [beq_eq_false_iff_ne]; omega
        have d4 : decide (0 < k) = true := by simp; omega
        have hv0 := hq0 hk0
        have d5 : ((v : Int) == 0) = false := by rw [beq_eq_false_iff_ne]; omega
        clear hq9 hq0
        go_wp2_with fail
        go_quiet (fail)
        go_wp2_with fail
        go_quiet (fail)
        go_wp2_with fail
        go_roundw
        case rel =>
          refine ⟨k + 1, z % 128 ^ (k + 1), p + 1, hmore, by go_num, by rw [HS.out], by show _ = _; rw [HP.out, Nat.add_assoc], rfl, ?_, ?_⟩
          · exact RdAt.setAt (show RdAt (wr.drewN _) g _ l.length c p .nilIface from HR.out) (p + 1)
          · exact (HFR.out.drewN _).setCell (.inl rfl) _
        case measure => simp [intOf]; omega
    · have hv128 : v < 128 := by
        have h2 : ¬ 128 ≤ q := fun h => hmore (HMQ.out.2 h)
        rw [HV.out]; unfold vb; rw [if_pos (by omega)]; omega
      have hzz : z % 128 ^ (k + 1) = z := by
        have h2 : ¬ 128 ≤ q := fun h => hmore (HMQ.out.2 h)
        apply Nat.mod_eq_of_lt
        rw [HQ.out] at h2
        rw [Nat.pow_succ, Nat.mul_comm]
        exact (Nat.div_lt_iff_lt_mul (Nat.pow_pos (by omega))).1 (Nat.lt_of_not_le h2)
      have hret := zigback z n h0 h1 HZ.out
      have HZZ := Lib.hid hzz
      have HRET := Lib.hid hret
      clear hzz hret
      have hkm : k + 1 = (numB n).length := by rw [← HM2.out]; omega
      have HKM := Lib.hid hkm
      clear hkm
      rcases (show k = 0 ∨ (0 < k ∧ k < 9) ∨ k = 9 by omega) with hk0 | ⟨hk0, hk9⟩ | hk9
      · have d3 : ((k : Int) == 9) = false := by rw [beq_eq_false_iff_ne]; omega
        have d4 : decide (0 < k) = false := by simp; omega
        have HK := Lib.hid hk0
        clear hq9 hq0 hk0
        go_wp2_with fail
        go_quiet (fail)
        go_wp2_with fail
        go_quiet (fail)
        go_wp2_with fail
        go_ret
        refine ⟨?_, ?_, (HFR.out.drewN _).setCell (.inl rfl) _⟩
        · show Ending.returned (.int .i64 (bits BinOp.xor IntKind.i64 _ _)) = _
          rw [HS.out, HZZ.out, HRET.out]
        · rw [← HKM.out, ← Nat.add_assoc, ← HP.out]
          exact RdAt.setAt (show RdAt (wr.drewN _) g _ l.length c p .nilIface from HR.out) (p + 1)
      · have d3 : ((k : Int) == 9) = false := by rw [beq_eq_false_iff_ne]; omega
        have d4 : decide (0 < k) = true := by simp; omega
        have hv0 := hq0 hk0
        have d5 : ((v : Int) == 0) = false := by rw [beq_eq_false_iff_ne]; omega
        clear hq9 hq0
        go_wp2_with fail
        go_quiet (fail)
        go_wp2_with fail
        go_quiet (fail)
        go_wp2_with fail
        go_ret
        refine ⟨?_, ?_, (HFR.out.drewN _).setCell (.inl rfl) _⟩
        · show Ending.returned (.int .i64 (bits BinOp.xor IntKind.i64 _ _)) = _
          rw [HS.out, HZZ.out, HRET.out]
        · rw [← HKM.out, ← Nat.add_assoc, ← HP.out]
          exact RdAt.setAt (show RdAt (wr.drewN _) g _ l.length c p .nilIface from HR.out) (p + 1)
      · have d3 : ((k : Int) == 9) = true := by rw [beq_iff_eq]; omega
        have d4 : decide (0 < k) = true := by simp; omega
        have hv1 := hq9 hk9
        have hv0 := hq0 (by omega)
        have d5 : ((v : Int) == 0) = false := by rw [beq_eq_false_iff_ne]; omega
        have d6 : decide ((1 : Int) < (v : Int)) = false := by simp; omega
        have HK := Lib.hid hk9
        clear hq9 hq0 hk9
        go_wp2_with fail
        go_quiet (fail)
        go_wp2_with fail
        go_quiet (fail)
        go_wp2_with fail
        go_ret
        refine ⟨?_, ?_, (HFR.out.drewN _).setCell (.inl rfl) _⟩
        · show Ending.returned (.int .i64 (bits BinOp.xor IntKind.i64 _ _)) = _
          rw [HS.out, HZZ.out, HRET.out]
        · rw [← HKM.out, ← Nat.add_assoc, ← HP.out]
          exact RdAt.setAt (show RdAt (wr.drewN _) g _ l.length c p .nilIface from HR.out) (p + 1)

set_option maxRecDepth 100000 in
set_option maxHeartbeats 4000000 in
theorem rdNum_short (g c at_ j : Nat) (A : Option Addr) (l : List UInt8) (F : Nat → Prop) (n : Int) (w : World) (h : RdAt w g A l.length c at_ .nilIface) (hl : SlA bytE F w A c l) (hF : ¬ F g) (hlt : ∀ k, F k → k < w.heap.size) (h0 : -9223372036854775808 ≤ n) (h1 : n ≤ 9223372036854775807) (hd : l.drop at_ = (numB n).take j) (hj : j < (numB n).length) (hatl : at_ ≤ l.length) :
    Calls Tryz.prog 51 #[.pointer (some ⟨g, 0, none⟩)] w fun e w' => e = .returned (.int .i64 0) ∧ RdAt w' g A l.length c l.length errFile ∧ Frm (· = g) w w' := by
  have hle := hl.le
  have hgl := h.lt
  obtain ⟨z, hz⟩ : ∃ z, z = zz n := ⟨_, rfl⟩
  have hzl : z < 2 * 128 ^ 9 := by rw [hz]; have := zz_lt n h0 h1; omega
  obtain ⟨m, hm⟩ : ∃ m, m = (numB n).length := ⟨_, rfl⟩
  have hm' : m = (vl 9 z).length := by rw [hm, numB_length, hz]; rfl
  have hat : at_ + j = l.length := by
    have := congrArg List.length hd
    rw [List.length_drop, List.length_take, Nat.min_eq_left (by omega)] at this
    omega
  rw [← hm] at hj
  have hm10 : m ≤ 10 := by rw [hm]; exact numB_len n
  have hbyte : ∀ i (hi : i < j) (hl' : at_ + i < l.length), (l[at_ + i].toNat : Int) = (vb (z / 128 ^ i) : Nat) := by
    intro i hi hl'
    have e1 : l[at_ + i]? = (numB n)[i]? := by
      rw [← List.getElem?_drop, hd, List.getElem?_take, if_pos hi]
    have e2 : (numB n)[i]? = some (UInt8.ofNat (vb (z / 128 ^ i))) := by
      unfold numB numBytes
      rw [List.getElem?_map, ← hz, vl_at 9 z i (by omega) hzl]; rfl
    rw [List.getElem?_eq_getElem hl', e2] at e1
    injection e1 with e1
    rw [e1, UInt8.toNat_ofNat']
    have := vb_lt (z / 128 ^ i)
    omega
  have HB := Lib.hid hbyte
  have HM := Lib.hid hm'
  have HM2 := Lib.hid hm
  have HZ := Lib.hid hz
  have HZL := Lib.hid hzl
  have H := Lib.hid h
  have HL := Lib.hid hl
  have HLT := Lib.hid hlt
  clear hbyte hm' hm hz hzl h hl hd hlt
  obtain ⟨c0, c1, c2, fz⟩ := H.out.cells
  have f1 := fz 1
  clear fz
  go_enter Tryz.func51, Tryz.ntmps51
  go_wp2_with fail
  clear c0 c1 c2 f1
  go_loopw [3, 4] (fun x i wr => ∃ k y p : Nat, k ≤ j ∧ i = .int .i64 k ∧ x = .int .u64 y ∧ Hid (p = at_ + k) ∧ Hid (y = z % 128 ^ k) ∧ Hid (RdAt wr g A l.length c p .nilIface) ∧ Hid (Frm (· = g) w wr)) (fun _ i _ => 10 - (intOf i).toNat)
  case atStart => exact ⟨0, 0, at_, Nat.zero_le _, rfl, rfl, rfl, by show 0 = _; rw [Nat.pow_zero, Nat.mod_one], H.out, Frm.refl _ _⟩
  case round =>
    obtain ⟨k, y, p, hk, rfl, rfl, HP, HY, HR, HFR⟩ := hrel
    by_cases hkj : k < j
    · have hpl : p < l.length := by have := HP.out; omega
      obtain ⟨b, off, rfl, hbF, hc⟩ := (HL.out.keep (HFR.out.same HLT.out (fun k hk e => hF (e ▸ hk)))).byt_ (k := p) hpl
      obtain ⟨q, hq⟩ : ∃ q, q = z / 128 ^ k := ⟨_, rfl⟩
      have hbv := HB.out k hkj (by have := HP.out; omega)
      rw [← hq] at hbv
      simp only [← HP.out] at hbv
      rw [hbv] at hc
      obtain ⟨c0, c1, c2, fz⟩ := HR.out.cells
      have f1 := fz 1
      clear fz hbv
      obtain ⟨v, hv⟩ : ∃ v, v = vb q := ⟨_, rfl⟩
      rw [← hv] at hc
      obtain ⟨L, hL⟩ : ∃ L, L = l.length := ⟨_, rfl⟩
      rw [← hL] at c0 hpl hle hat
      have d1 : decide (L ≤ p) = false := by simp; omega
      have HLL := Lib.hid hL
      clear hL
      have d2 : decide ((9 : Int) < (k : Int)) = false := by simp; omega
      have hq9 : k = 9 → v ≤ 1 := by
        intro e
        have h2 : q < 2 := by rw [hq, e]; have := HZL.out; omega
        rw [hv]; unfold vb; split <;> omega
      have hq0 : 0 < k → 0 < v := by
        intro e
        have h2 : 0 < q := by rw [hq]; exact vl_prev 9 z k (by rw [← HM.out]; omega) HZL.out e
        rw [hv]; unfold vb; split <;> omega
      have HV := Lib.hid hv
      have HQ := Lib.hid hq
      clear hv hq
      have hv256 : v < 256 := by rw [HV.out]; exact vb_lt q
      have hstep := read_step v q z k y HV.out HQ.out HY.out (by have := HZL.out; omega) (by omega)
      have HS := Lib.hid hstep
      clear hstep
      have hmq := vl_more 9 z k (by rw [← HM.out]; omega) HZL.out
      rw [← HM.out, ← HQ.out] at hmq
      have HMQ := Lib.hid hmq
      clear hmq
      have hmore : k + 1 < m := by omega
      have hv128 : 128 ≤ v := by
        have := HMQ.out.1 hmore
        rw [HV.out]; unfold vb; rw [if_neg (by omega)]; omega
      rcases (show k = 0 ∨ (0 < k ∧ k < 9) by omega) with hk0 | ⟨hk0, hk9⟩
      · have d3 : ((k : Int) == 9) = false := by rw [beq_eq_false_iff_ne]; omega
        have d4 : decide (0 < k) = false := by simp; omega
        have HK := Lib.hid hk0
        clear hq9 hq0 hk0
        go_wp2_with fail
        go_quiet (fail)
        go_wp2_with fail
        go_quiet (fail)
        go_wp2_with fail
        go_roundw
        case rel =>
          refine ⟨k + 1, z % 128 ^ (k + 1), p + 1, by omega, by go_num, by rw [HS.out], by show _ = _; rw [HP.out, Nat.add_assoc], rfl, ?_, ?_⟩
          · exact RdAt.setAt (show RdAt (wr.drewN _) g _ l.length c p .nilIface from HR.out) (p + 1)
          · exact (HFR.out.drewN _).setCell (.inl rfl) _
        case measure => simp [intOf]; omega
      · have d3 : ((k : Int) == 9) = false := by rw [beq_eq_false_iff_ne]; omega
        have d4 : decide (0 < k) = true := by simp; omega
        have hv0 := hq0 hk0
        have d5 : ((v : Int) == 0) = false := by rw [beq_eq_false_iff_ne]; omega
        clear hq9 hq0
        go_wp2_with fail
        go_quiet (fail)
        go_wp2_with fail
        go_quiet (fail)
        go_wp2_with fail
        go_roundw
        case rel =>
          refine ⟨k + 1, z % 128 ^ (k + 1), p + 1, by omega, by go_num, by rw [HS.out], by show _ = _; rw [HP.out, Nat.add_assoc], rfl, ?_, ?_⟩
          · exact RdAt.setAt (show RdAt (wr.drewN _) g _ l.length c p .nilIface from HR.out) (p + 1)
          · exact (HFR.out.drewN _).setCell (.inl rfl) _
        case measure => simp [intOf]; omega
    · obtain ⟨c0, c1, c2, fz⟩ := HR.out.cells
      have f2 := fz 2
      clear fz
      have hpl : p = l.length := by have := HP.out; omega
      obtain ⟨L, hL⟩ : ∃ L, L = l.length := ⟨_, rfl⟩
      rw [← hL] at c0 hpl hle
      have d1 : decide (L ≤ p) = true := by simp; omega
      have HLL := Lib.hid hL
      have HPL := Lib.hid hpl
      clear hL hpl
      go_wp2_with fail
      go_quiet (fail)
      go_wp2_with fail
      refine (rdFail_any g l.length c p A .nilIface _ ?rd).mono ?_
      case rd => exact HR.out
      rintro e w' ⟨rfl, rfl⟩
      go_wp2_with fail
      go_ret
      refine ⟨rfl, ?_, (HFR.out.drewN _).setCell (.inl rfl) _⟩
      have hr : RdAt wr g A l.length c l.length .nilIface := by
        have h5 := HR.out
        rw [show p = l.length from HPL.out.trans HLL.out] at h5
        exact h5
      exact RdAt.setErr (show RdAt (wr.drewN _) g A l.length c l.length .nilIface from hr) errFile
end Go.Proofs.YthanjafbgcljgaaGreatDoor
