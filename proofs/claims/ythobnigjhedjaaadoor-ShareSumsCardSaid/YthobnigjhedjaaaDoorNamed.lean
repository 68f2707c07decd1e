/-
  Package disk: Named; the errors as values. Condition: names that memory holds.
-/
import Derived.Test.YthobnigjhedjaaaDoorWalk
import Derived.Test.YthobnigjhedjaaaDoorLays
import Derived.Lib.SlTrimSet
namespace Go.Proofs.YthobnigjhedjaaaDoor
open Go.RowKit Go.Shelf
set_option linter.unusedVariables false

def nameSet : List UInt8 := [97, 98, 99, 100, 101, 102, 103, 104, 105, 106, 107, 108, 109, 110, 111, 112, 113, 114, 115, 116, 117, 118, 119, 120, 121, 122, 48, 49, 50, 51, 52, 53, 54, 55, 56, 57, 45]
def namedB (s : ByteArray) : Bool := decide (0 < s.size) && decide (s.size ≤ 20) && (Lib.trimS s.data.toList nameSet).isEmpty
def errV : Option Int → Value
  | none => .nilIface
  | some k => .iface 51 (.int .i64 k)
def alnum : ByteArray := ⟨#[97, 98, 99, 100, 101, 102, 103, 104, 105, 106, 107, 108, 109, 110, 111, 112, 113, 114, 115, 116, 117, 118, 119, 120, 121, 122, 48, 49, 50, 51, 52, 53, 54, 55, 56, 57, 45]⟩
set_option maxRecDepth 100000 in
theorem trim_ok (s : ByteArray) (w : World) (hs : s.size ≤ maxLen) : Calls Tryd.prog 40 #[.string s, .string alnum] w fun e w' => e = .returned (.string ⟨(Lib.trimS s.data.toList nameSet).toArray⟩) ∧ Below w.heap.size w w' :=
  Any.strings_Trim_laid Tryd.trim (by kernel_rfl) s alnum w (by unfold maxLen at hs; omega) (by decide) (ascii_of_all (by decide))
theorem toList_size (s : ByteArray) : s.toList.length = s.size := by rw [Lib.toList_data]; simp
set_option maxRecDepth 100000 in
theorem named_ok (s : ByteArray) (w : World) (hs : s.size ≤ maxLen) : Calls Tryd.prog 21 #[.string s] w fun e w' => e = .returned (.bool (namedB s)) ∧ Below w.heap.size w w' := by
  have hT := trim_ok s w hs
  obtain ⟨T, hTT⟩ : ∃ T, T = Lib.trimS s.data.toList nameSet := ⟨_, rfl⟩
  have hN : namedB s = (decide (0 < s.size) && decide (s.size ≤ 20) && T.isEmpty) := by rw [hTT]; rfl
  rw [← hTT] at hT
  generalize hb : namedB s = b at hN
  clear hb hTT
  have HN := Lib.hid hN
  clear hN
  unfold alnum at hT
  go_enter Tryd.func21, Tryd.ntmps21
  go_wp2_with (go_at_call 40; refine hT.mono ?_; rintro e w1 ⟨rfl, hb1⟩)
  · rename_i h0
    have e : b = false := by
      have h1 : s.size = 0 := by rw [← toList_size, h0]; rfl
      rw [HN.out]; simp [h1]
    subst e
    go_ret
    exact ⟨rfl, Below.refl _ _⟩
  · rename_i h0 h1
    have h2 : 0 < s.size := by rw [← toList_size]; exact List.length_pos_iff.2 h0
    have e : (!s.toList.isEmpty && T.isEmpty) = b := by
      rw [HN.out]
      have : s.toList.isEmpty = false := by cases hh : s.toList with
        | nil => exact absurd hh h0
        | cons _ _ => rfl
      rw [this]
      simp [h2, show s.size ≤ 20 by omega]
    rw [e]
    go_ret
    exact ⟨rfl, hb1⟩
  · rename_i h0 h1
    have e : b = false := by rw [HN.out]; simp [show ¬ s.size ≤ 20 by omega]
    subst e
    go_ret
    exact ⟨rfl, Below.refl _ _⟩

end Go.Proofs.YthobnigjhedjaaaDoor
