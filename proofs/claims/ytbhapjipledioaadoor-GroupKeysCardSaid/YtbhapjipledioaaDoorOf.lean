/-
  Contract of group.Of: the document's sum of a key, folded. Condition: no more bytes than there may be.
-/
import Derived.Test.YtbhapjipledioaaDoorWalk
namespace Go.Proofs.YtbhapjipledioaaDoor
open Go.RowKit

def hstep (x c : Nat) : Nat := ((x ^^^ c) * 16777619) % 4294967296
def hash32 (l : List UInt8) : Nat := l.foldl (fun x c => hstep x c.toNat) 2166136261
def ofKey (s : ByteArray) : Nat := (hash32 s.data.toList / 65536 ^^^ hash32 s.data.toList) % 16
theorem hstep_lt (x c : Nat) : hstep x c < 4294967296 := by unfold hstep; omega
theorem ofKey_lt (s : ByteArray) : ofKey s < 16 := Nat.mod_lt _ (by decide)
theorem hash32_snoc (s : ByteArray) (k : Nat) (h : k < s.size) : hash32 (s.data.toList.take (k + 1)) = hstep (hash32 (s.data.toList.take k)) s[k].toNat := by
  have e : s.data.toList.take (k + 1) = s.data.toList.take k ++ [s[k]] := by
    rw [List.take_succ_eq_append_getElem (by simpa using h)]; rfl
  unfold hash32
  rw [e]; exact foldl_snoc _ _ _ _
theorem hstep_eq (m : Nat) (c : UInt8) (hm : m < 4294967296) : bits BinOp.xor IntKind.u32 (m : Int) ((c.toNat : Int) % 4294967296) * 16777619 % 4294967296 = (hstep m c.toNat : Nat) := by
  have hc := c.toNat_lt
  have e : ((c.toNat : Int) % 4294967296) = ((c.toNat : Nat) : Int) := by omega
  rw [e, u32_xor_nat m c.toNat hm (by omega)]
  unfold hstep; omega
theorem hfin_eq (m : Nat) (hm : m < 4294967296) : bits BinOp.xor IntKind.u32 ((m : Int) / 65536) (m : Int) % 16 = ((m / 65536 ^^^ m) % 16 : Nat) := by
  have e : ((m : Int) / 65536) = ((m / 65536 : Nat) : Int) := by omega
  rw [e, u32_xor_nat _ m (by omega) hm]; omega
theorem of_any (s : ByteArray) (w : World) (hs : s.size ≤ maxLen) :
    Calls Tryd.prog 4 #[.string s] w fun e w' => e = .returned (.int .i64 (ofKey s)) ∧ Below w.heap.size w w' := by
  unfold maxLen at hs
  obtain ⟨cap, o, hrun, hcell⟩ := bytes_of Tryd.prog w 9 30 5 s Tryd.underlying9 Tryd.underlying30 Tryd.underlying5
  have HC := Lib.hid hcell
  clear hcell
  go_enter Tryd.func4, Tryd.ntmps4
  go_wp2
  go_loop [3, 9] (fun x i => ∃ k m : Nat, k ≤ s.size ∧ i = .int .i64 k ∧ m < 4294967296 ∧ x = .int .u32 m ∧ Hid (m = hash32 (s.data.toList.take k))) (fun _ i => s.size - (intOf i).toNat)
  case atStart => exact ⟨0, 2166136261, Nat.zero_le _, rfl, by omega, rfl, rfl⟩
  case round =>
    obtain ⟨k, m, hk, rfl, hm, rfl, HM⟩ := hrel
    by_cases hlt : k < s.size
    · have c0 := HC.out k hlt
      go_wp2
      refine ⟨⟨k + 1, hstep m s[k].toNat, by omega, by go_num, hstep_lt _ _, ?_, ?_⟩, ?_⟩
      · rw [hstep_eq _ _ hm]
      · show _ = _
        rw [hash32_snoc s k hlt, HM.out]
      · simp [intOf]; omega
    · go_wp2
      go_ret
      refine ⟨?_, ((Below.refl _ _).alloc (Nat.le_refl _) _).drew⟩
      have hb : (0:Int) ≤ bits BinOp.xor IntKind.u32 ((m : Int) / 65536) (m : Int) := by
        rw [show ((m : Int) / 65536) = ((m / 65536 : Nat) : Int) by omega, u32_xor_nat _ m (by omega) hm]; omega
      show Ending.returned (Value.int IntKind.i64 (wrap64 ((bits BinOp.xor IntKind.u32 ((m : Int) / 65536) (m : Int)).tmod 16))) = _
      rw [Int.tmod_eq_emod_of_nonneg hb, hfin_eq m hm]
      have hk' : s.data.toList.take k = s.data.toList := List.take_of_length_le (by have : s.data.toList.length = s.size := by rw [Array.length_toList]; rfl
                                                                                    omega)
      have hm' := HM.out
      rw [hk'] at hm'
      rw [hm']
      have := ofKey_lt s
      have e : wrap64 (ofKey s : Int) = ofKey s := IntWalk.wrap64_in _ (by omega)
      exact congrArg (fun z => Ending.returned (Value.int IntKind.i64 z)) e

end Go.Proofs.YtbhapjipledioaaDoor
