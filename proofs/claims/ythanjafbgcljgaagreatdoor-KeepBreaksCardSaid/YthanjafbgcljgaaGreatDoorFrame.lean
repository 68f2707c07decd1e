/-
  Contracts of package frame: Num and Text. Num: at most ten bytes, and how many.
-/
import Derived.Test.YthanjafbgcljgaaGreatDoorWalk
namespace Go.Proofs.YthanjafbgcljgaaGreatDoor
open Go.RowKit
set_option linter.unusedVariables false
theorem info_u8 : (Tryz.prog.info? 5).map (fun i => (i.zero, i.size, i.bytes)) = some (some (.int .u8 0), 1, 1) := by kernel_rfl


/-- The number that is written, from 0 on. -/
def zz (n : Int) : Nat := if 0 ≤ n then (2 * n).toNat else (-2 * n - 1).toNat
/-- Seven bits a byte. -/
def vl : Nat → Nat → List Nat
  | 0, m => [m % 256]
  | f + 1, m => if m < 128 then [m] else (m % 128 + 128) :: vl f (m / 128)
def numBytes (n : Int) : List Nat := vl 9 (zz n)
/-- A number's bytes. -/
def numB (n : Int) : List UInt8 := (numBytes n).map UInt8.ofNat
/-- A text's bytes. -/
def textB (s : ByteArray) : List UInt8 := numB s.size ++ s.data.toList
def byteCells (l : List Nat) : List Value := l.map fun (b : Nat) => Value.int .u8 (b : Int)

theorem xor_ones (a : Nat) (h : a < 18446744073709551616) : a ^^^ 18446744073709551615 = 18446744073709551615 - a := by
  have e : (BitVec.ofNat 64 a ^^^ BitVec.allOnes 64) = ~~~ (BitVec.ofNat 64 a) := BitVec.xor_allOnes
  have := congrArg BitVec.toNat e
  rw [BitVec.toNat_xor, BitVec.toNat_not, BitVec.toNat_ofNat, BitVec.toNat_allOnes, Nat.mod_eq_of_lt h] at this
  exact this
theorem wrap_u64 (n : Int) : IntKind.u64.wrap n = n % 18446744073709551616 := by simp [IntKind.wrap, IntKind.bits, IntKind.signed]
theorem zz_eq (n : Int) (h0 : -9223372036854775808 ≤ n) (h1 : n ≤ 9223372036854775807) :
    bits BinOp.xor IntKind.u64 (IntKind.u64.wrap (IntKind.u64.wrap n * 2)) (IntKind.u64.wrap (n / 9223372036854775808)) = (zz n : Int) := by
  rw [wrap_u64, wrap_u64, wrap_u64]
  unfold zz
  split
  · have e1 : n / 9223372036854775808 % 18446744073709551616 = ((0 : Nat) : Int) := by omega
    have e2 : n % 18446744073709551616 * 2 % 18446744073709551616 = (((2 * n).toNat : Nat) : Int) := by omega
    rw [e1, e2, u64_xor_nat _ _ (by omega) (by omega), Nat.xor_zero]
  · have e1 : n / 9223372036854775808 % 18446744073709551616 = ((18446744073709551615 : Nat) : Int) := by omega
    have e2 : n % 18446744073709551616 * 2 % 18446744073709551616 = (((2 * n + 18446744073709551616).toNat : Nat) : Int) := by omega
    rw [e1, e2, u64_xor_nat _ _ (by omega) (by omega), xor_ones _ (by omega)]
    omega
theorem zz_lt (n : Int) (h0 : -9223372036854775808 ≤ n) (h1 : n ≤ 9223372036854775807) : zz n < 18446744073709551616 := by unfold zz; split <;> omega
theorem or128 : ∀ y : Fin 256, y.1 ||| 128 = y.1 % 128 + 128 := by decide +kernel
theorem or128_eq (x : Nat) : bits .or .u8 ((x : Int) % 256) 128 = ((x % 128 + 128 : Nat) : Int) := by
  have e : ((x : Int) % 256) = ((x % 256 : Nat) : Int) := by omega
  rw [e, show (128 : Int) = ((128 : Nat) : Int) from rfl, u8_or_nat _ _ (by omega) (by omega), or128 ⟨x % 256, by omega⟩]
  show (((x % 256) % 128 + 128 : Nat) : Int) = _
  omega

theorem vl_len (f m : Nat) : (vl f m).length ≤ f + 1 := by
  induction f generalizing m with
  | zero => simp [vl]
  | succ f ih => unfold vl; split; · simp
                 · have := ih (m / 128); simp; omega
theorem numBytes_len (n : Int) : (numBytes n).length ≤ 10 := vl_len 9 _
set_option maxRecDepth 100000 in
theorem num_any (n : Int) (w : World) (h0 : -9223372036854775808 ≤ n) (h1 : n ≤ 9223372036854775807) :
    Calls Tryz.prog 35 #[.int .i64 n] w fun e w' => ∃ v, e = .returned v ∧ w'.ownsRow w.heap.size 5 1 v (numBytes n).length (byteCells (numBytes n)) ∧ Below w.heap.size w w' := by
  obtain ⟨i0, hi, hz0, hz1, hz2⟩ := info_parts info_u8
  have hzz := zz_eq n h0 h1
  have hlt := zz_lt n h0 h1
  obtain ⟨z, hz⟩ : ∃ z, z = zz n := ⟨_, rfl⟩
  rw [← hz] at hzz hlt
  have HZ := Lib.hid hz
  have HLT := Lib.hid hlt
  clear hz hlt h0 h1
  go_enter Tryz.func35, Tryz.ntmps35
  go_wp2_with fail
  clear hzz
  go_loopw [2, 3] (fun v x wr => ∃ (pre : List Nat) (f y : Nat), x = .int .u64 y ∧ Hid (y < 2 * 128 ^ f) ∧ f ≤ 9 ∧ pre.length + f = 9 ∧ Hid (numBytes n = pre ++ vl f y) ∧ wr.ownsRow w.heap.size 5 1 v pre.length (byteCells pre) ∧ Below w.heap.size w wr) (fun _ x _ => (intOf x).toNat)
  case atStart => exact ⟨[], 9, z, rfl, by have := HLT.out; show z < 2 * 128 ^ 9; omega, by omega, rfl, by show numBytes n = _; unfold numBytes; rw [HZ.out]; rfl, World.ownsRow_nil _ _ _ _, Below.refl _ _⟩
  case round =>
    obtain ⟨pre, f, y, rfl, hy, hf, hl, HE, hown, hbel⟩ := hrel
    by_cases h128 : 128 ≤ y
    · go_wp2_with (at_builtin; refine wpList_push rfl _ _ 28 rfl w.heap.size 5 (.int .u8 0) 1 1 Tryz.underlying28 info_u8 rfl (by decide) _ _ _ rfl hown [_] rfl rfl ?_ ?_ ?_ hbel.size hbel (Nat.le_refl _) ?_)
      · rintro u hu; simp at hu; subst hu; rfl
      · unfold maxLen; omega
      · omega
      · intro v' w1 hown1 hg1 hbel1 _
        clear hown hg1 hbel
        have hf1 : 1 ≤ f := by
          rcases Nat.eq_zero_or_pos f with h | h
          · have := hy.out; subst h; omega
          · exact h
        obtain ⟨f', rfl⟩ : ∃ f', f = f' + 1 := ⟨f - 1, by omega⟩
        go_wp2_with fail
        refine ⟨⟨pre ++ [y % 128 + 128], f', y / 128, by go_num, ?_, by omega, by simp; omega, ?_, ?_, hbel1⟩, ?_⟩
        · show y / 128 < 2 * 128 ^ f'
          have h := hy.out
          rw [Nat.pow_succ, ← Nat.mul_assoc] at h
          exact Nat.div_lt_of_lt_mul (by rw [Nat.mul_comm]; exact h)
        · show _ = _
          rw [HE.out]; simp [vl]; omega
        · have e : byteCells (pre ++ [y % 128 + 128]) = byteCells pre ++ [Value.int .u8 (bits BinOp.or IntKind.u8 ((y : Int) % 256) 128)] := by
            rw [or128_eq]; simp [byteCells]
          rw [e, List.length_append]
          exact hown1
        · simp [intOf]; omega
    · go_wp2_with (at_builtin; refine wpList_push rfl _ _ 28 rfl w.heap.size 5 (.int .u8 0) 1 1 Tryz.underlying28 info_u8 rfl (by decide) _ _ _ rfl hown [_] rfl rfl ?_ ?_ ?_ hbel.size hbel (Nat.le_refl _) ?_)
      · rintro u hu; simp at hu; subst hu; rfl
      · unfold maxLen; omega
      · omega
      · intro v' w1 hown1 hg1 hbel1 _
        clear hown hg1 hbel
        go_wp2_with fail
        go_ret
        have e : numBytes n = pre ++ [y] := by
          rw [HE.out]
          cases f with
          | zero => simp [vl]; omega
          | succ f => simp [vl]; omega
        refine ⟨_, rfl, ?_, hbel1⟩
        rw [e, List.length_append]
        have e2 : byteCells (pre ++ [y]) = byteCells pre ++ [Value.int .u8 (y : Int)] := by simp [byteCells]
        rw [e2]
        exact hown1

theorem vl_lt (f m : Nat) : ∀ b ∈ vl f m, b < 256 := by
  induction f generalizing m with
  | zero => intro b hb; simp [vl] at hb; omega
  | succ f ih =>
    intro b hb
    unfold vl at hb
    split at hb
    · simp at hb; omega
    · rcases List.mem_cons.1 hb with rfl | hb
      · omega
      · exact ih _ b hb
theorem byteCells_numB (n : Int) : byteCells (numBytes n) = bcells (numB n) := by
  unfold byteCells bcells numB
  rw [List.map_map]
  apply List.map_congr_left
  intro b hb
  have := vl_lt 9 _ b hb
  have e : ((UInt8.ofNat b).toNat : Int) = b := by rw [UInt8.toNat_ofNat']; omega
  show _ = Value.int .u8 ((UInt8.ofNat b).toNat : Int)
  rw [e]
theorem numB_length (n : Int) : (numB n).length = (numBytes n).length := by simp [numB]
theorem numB_len (n : Int) : (numB n).length ≤ 10 := by rw [numB_length]; exact numBytes_len n
theorem num_ok (n : Int) (w : World) (h0 : -9223372036854775808 ≤ n) (h1 : n ≤ 9223372036854775807) :
    Calls Tryz.prog 35 #[.int .i64 n] w fun e w' => ∃ v, e = .returned v ∧ w'.ownsRow w.heap.size 5 1 v (numB n).length (bcells (numB n)) ∧ Below w.heap.size w w' := by
  refine (num_any n w h0 h1).mono ?_
  rintro e w' ⟨v, h, ho, hb⟩
  exact ⟨v, h, by rw [← byteCells_numB, numB_length]; exact ho, hb⟩

end Go.Proofs.YthanjafbgcljgaaGreatDoor
