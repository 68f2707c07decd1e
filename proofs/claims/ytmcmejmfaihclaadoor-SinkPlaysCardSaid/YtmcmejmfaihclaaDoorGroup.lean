/-
  Contracts of package group: Owner, as the document says, whatever its arguments. No condition.
-/
import Derived.Test.YtmcmejmfaihclaaDoorElts
import Derived.WalkSpells
import Derived.WalkLawsBesides
import Derived.Deep.QuietTactic
import Derived.BigQuiet
import Derived.Laws.IdiomStrings
import Derived.IntWalk
namespace Go.Proofs.YtmcmejmfaihclaaDoor
open Go.RowKit

theorem ret_true {b : Bool} (h : b = true) : Ending.returned (.bool b) = .returned (.bool true) := by rw [h]

theorem owner_ok (p g : Int) (w : World) (hp : 1 ≤ p) (hp' : p ≤ 16) (hg : 0 ≤ g) (hg' : g < 16) :
    Calls Tryd.prog 13 #[.int .i64 p, .int .i64 g] w fun e w' => e = .returned (.tuple #[.int .i64 (g * p / 16), .nilIface]) ∧ w = w' := by
  have hb : 0 ≤ g * p := Int.mul_nonneg hg (by omega)
  have hb2 : g * p ≤ 16 * 16 := Int.mul_le_mul (by omega) (by omega) (by omega) (by omega)
  go_enter Tryd.func13, Tryd.ntmps13
  go_wp2
  all_goals (go_ret2; exact ⟨rfl, rfl⟩)
theorem owner_bad (p g : Int) (w : World) (h : ¬ (1 ≤ p ∧ p ≤ 16 ∧ 0 ≤ g ∧ g < 16)) :
    Calls Tryd.prog 13 #[.int .i64 p, .int .i64 g] w fun e w' => e = .returned (.tuple #[.int .i64 0, .iface 64 (.int .i64 1)]) ∧ w = w' := by
  by_cases h1 : 1 ≤ p
  · by_cases h2 : p ≤ 16
    · by_cases h3 : g < 0
      · go_enter Tryd.func13, Tryd.ntmps13
        go_wp2
        all_goals (go_ret2; exact ⟨rfl, rfl⟩)
      · have h4 : 16 ≤ g := by omega
        go_enter Tryd.func13, Tryd.ntmps13
        go_wp2
        all_goals (go_ret2; exact ⟨rfl, rfl⟩)
    · go_enter Tryd.func13, Tryd.ntmps13
      go_wp2
      all_goals (go_ret2; exact ⟨rfl, rfl⟩)
  · go_enter Tryd.func13, Tryd.ntmps13
    go_wp2
    all_goals (go_ret2; exact ⟨rfl, rfl⟩)

def fst (p i : Nat) : Nat := (i * 16 + p - 1) / p
theorem range_ok (p i : Nat) (w : World) (hp : 1 ≤ p) (hp' : p ≤ 16) (hi : i < p) :
    Calls Tryd.prog 11 #[.int .i64 p, .int .i64 i] w fun e w' => e = .returned (.tuple #[.int .i64 (fst p i), .int .i64 (fst p (i+1)), .nilIface]) ∧ w = w' := by
  have e1 : (fst p i : Int) = ((i : Int) * 16 + p - 1) / p := by unfold fst; rw [Int.natCast_ediv]; congr 1; omega
  have e2 : (fst p (i+1) : Int) = (((i : Int) + 1) * 16 + p - 1) / p := by unfold fst; rw [Int.natCast_ediv]; congr 1; omega
  have H1 := Lib.hid e1
  have H2 := Lib.hid e2
  clear e1 e2
  go_enter Tryd.func11, Tryd.ntmps11
  go_wp2
  all_goals go_ret3
  rw [H1.out, H2.out]
  exact ⟨rfl, rfl⟩

theorem bytes_of (P : Program) (w : World) (src dst e : TypeId) (s : ByteArray) (hs : P.underlying src = some .string) (hd : P.underlying dst = some (.slice e)) (he : P.underlying e = some (.int .u8)) :
    ∃ cap o, (convert src dst (.string s)).run P w = .ok (.slice (some ⟨w.heap.size, 0, none⟩) s.size cap) (w.drew.alloc o) ∧ ∀ j (hj : j < s.size), (w.alloc o).cell? ⟨w.heap.size, j, none⟩ = some (.int .u8 (s[j].toNat : Int)) := by
  refine ⟨_, _, run_bytes_of_string w src dst e s hs hd he, fun j hj => ?_⟩
  have e1 : (w.alloc (.cells (bytesRow s (grownCap w s.size 0 e)) e ((bytesRow s (grownCap w s.size 0 e)).size, (bytesRow s (grownCap w s.size 0 e)).size + 1))).heap[w.heap.size]? = some (.cells (bytesRow s (grownCap w s.size 0 e)) e ((bytesRow s (grownCap w s.size 0 e)).size, (bytesRow s (grownCap w s.size 0 e)).size + 1)) := heap_alloc_new w _
  simp only [World.cell?, e1]
  have hj' : j < s.data.size := hj
  simp only [bytesRow]
  rw [Array.getElem?_append_left (by simpa using hj'), Array.getElem?_map, Array.getElem?_eq_getElem hj']
  rfl

def hstep (x c : Nat) : Nat := ((x ^^^ c) * 16777619) % 4294967296
def hash32 (l : List UInt8) : Nat := l.foldl (fun x c => hstep x c.toNat) 2166136261
def ofKey (s : ByteArray) : Nat := (hash32 s.data.toList / 65536 ^^^ hash32 s.data.toList) % 16
theorem hstep_lt (x c : Nat) : hstep x c < 4294967296 := by unfold hstep; omega
theorem ofKey_lt (s : ByteArray) : ofKey s < 16 := Nat.mod_lt _ (by decide)
theorem foldl_snoc {α β : Type} (f : α → β → α) (x : α) (l : List β) (c : β) : (l ++ [c]).foldl f x = f (l.foldl f x) c := by rw [List.foldl_append]; rfl
theorem hash32_snoc (s : ByteArray) (k : Nat) (h : k < s.size) : hash32 (s.data.toList.take (k + 1)) = hstep (hash32 (s.data.toList.take k)) s[k].toNat := by
  have e : s.data.toList.take (k + 1) = s.data.toList.take k ++ [s[k]] := by
    rw [List.take_succ_eq_append_getElem (by simpa using h)]; rfl
  unfold hash32
  rw [e]; exact foldl_snoc _ _ _ _
theorem hstep_eq (m : Nat) (c : UInt8) (hm : m < 4294967296) : bits BinOp.xor IntKind.u32 (m : Int) ((c.toNat : Int) % 4294967296) * 16777619 % 4294967296 = (hstep m c.toNat : Nat) := by
  have hc := c.toNat_lt
  have e : ((c.toNat : Int) % 4294967296) = ((c.toNat : Nat) : Int) := by omega
  rw [e, u32_xor_nat m c.toNat hm (by omega)]
  unfold hstep; omega
theorem hfin_eq (m : Nat) (hm : m < 4294967296) : bits BinOp.xor IntKind.u32 ((m : Int) / 65536) (m : Int) % 16 = ((m / 65536 ^^^ m) % 16 : Nat) := by
  have e : ((m : Int) / 65536) = ((m / 65536 : Nat) : Int) := by omega
  rw [e, u32_xor_nat _ m (by omega) hm]; omega
theorem of_any (s : ByteArray) (w : World) (hs : s.size ≤ maxLen) :
    Calls Tryd.prog 6 #[.string s] w fun e w' => e = .returned (.int .i64 (ofKey s)) ∧ Below w.heap.size w w' := by
  unfold maxLen at hs
  obtain ⟨cap, o, hrun, hcell⟩ := bytes_of Tryd.prog w 9 58 5 s Tryd.underlying9 Tryd.underlying58 Tryd.underlying5
  have HC := Lib.hid hcell
  clear hcell
  go_enter Tryd.func6, Tryd.ntmps6
  go_wp2
  go_loop [3, 9] (fun x i => ∃ k m : Nat, k ≤ s.size ∧ i = .int .i64 k ∧ m < 4294967296 ∧ x = .int .u32 m ∧ Hid (m = hash32 (s.data.toList.take k))) (fun _ i => s.size - (intOf i).toNat)
  case atStart => exact ⟨0, 2166136261, Nat.zero_le _, rfl, by omega, rfl, rfl⟩
  case round =>
    obtain ⟨k, m, hk, rfl, hm, rfl, HM⟩ := hrel
    by_cases hlt : k < s.size
    · have c0 := HC.out k hlt
      go_wp2
      refine ⟨⟨k + 1, hstep m s[k].toNat, by omega, by go_num, hstep_lt _ _, ?_, ?_⟩, ?_⟩
      · rw [hstep_eq _ _ hm]
      · show _ = _
        rw [hash32_snoc s k hlt, HM.out]
      · simp [intOf]; omega
    · go_wp2
      go_ret
      refine ⟨?_, ((Below.refl _ _).alloc (Nat.le_refl _) _).drew⟩
      have hb : (0:Int) ≤ bits BinOp.xor IntKind.u32 ((m : Int) / 65536) (m : Int) := by
        rw [show ((m : Int) / 65536) = ((m / 65536 : Nat) : Int) by omega, u32_xor_nat _ m (by omega) hm]; omega
      show Ending.returned (Value.int IntKind.i64 (wrap64 ((bits BinOp.xor IntKind.u32 ((m : Int) / 65536) (m : Int)).tmod 16))) = _
      rw [Int.tmod_eq_emod_of_nonneg hb, hfin_eq m hm]
      have hk' : s.data.toList.take k = s.data.toList := List.take_of_length_le (by have : s.data.toList.length = s.size := by rw [Array.length_toList]; rfl
                                                                                    omega)
      have hm' := HM.out
      rw [hk'] at hm'
      rw [hm']
      have := ofKey_lt s
      have e : wrap64 (ofKey s : Int) = ofKey s := IntWalk.wrap64_in _ (by omega)
      exact congrArg (fun z => Ending.returned (Value.int IntKind.i64 z)) e

theorem range_bad0 (p : Int) (w : World) (h : ¬ (1 ≤ p ∧ p ≤ 16)) :
    Calls Tryd.prog 11 #[.int .i64 p, .int .i64 0] w fun e w' => e = .returned (.tuple #[.int .i64 0, .int .i64 0, .iface 64 (.int .i64 1)]) ∧ w = w' := by
  by_cases h1 : 1 ≤ p
  · have h2 : 16 < p := by omega
    go_enter Tryd.func11, Tryd.ntmps11
    go_wp2
    all_goals (go_ret3; exact ⟨rfl, rfl⟩)
  · go_enter Tryd.func11, Tryd.ntmps11
    go_wp2
    all_goals (go_ret3; exact ⟨rfl, rfl⟩)

theorem fst_facts : ∀ p : Fin 17, 1 ≤ p.1 → fst p.1 0 = 0 ∧ fst p.1 p.1 = 16 ∧ ∀ i : Fin 16, i.1 < p.1 → fst p.1 i.1 < fst p.1 (i.1 + 1) ∧ fst p.1 (i.1 + 1) ≤ 16 ∧
    16 / p.1 + fst p.1 i.1 ≤ fst p.1 (i.1 + 1) ∧ fst p.1 (i.1 + 1) ≤ 16 / p.1 + 1 + fst p.1 i.1 ∧ ∀ g : Fin 16, fst p.1 i.1 ≤ g.1 → g.1 < fst p.1 (i.1 + 1) → g.1 * p.1 / 16 = i.1 := by decide +kernel
end Go.Proofs.YtmcmejmfaihclaaDoor
