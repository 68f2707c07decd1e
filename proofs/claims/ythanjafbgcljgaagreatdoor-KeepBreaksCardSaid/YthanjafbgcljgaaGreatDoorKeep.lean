/-
  Package keep: contracts of name, good, read. Condition: the table of powers of ten reads as the library's text lays it.
-/
import Derived.Test.YthanjafbgcljgaaGreatDoorDiskSync
import Derived.Test.YthanjafbgcljgaaGreatDoorPicName
import Derived.Test.YthanjafbgcljgaaGreatDoorOpen
import Derived.Test.YthanjafbgcljgaaGreatDoorLays
import Derived.Lib.AppendIntMem
import Derived.Lib.SmallJoins
namespace Go.Proofs.YthanjafbgcljgaaGreatDoor
open Go.RowKit Go.Shelf
set_option linter.unusedVariables false

/-- The table of powers of ten is as the library lays it. -/
def PowTab (w : World) : Prop := Lib.TabIs Tryz.prog w "internal/strconv.uint64pow10" .u64 Lib.pow10Tab
theorem PowTab.below {w w' : World} (h : PowTab w) (hb : Below w.heap.size w w') : PowTab w' := by
  obtain ⟨g, hg⟩ := Option.isSome_iff_exists.1 (show (Tryz.prog.globalNamed "internal/strconv.uint64pow10").isSome = true by kernel_rfl)
  exact Go.Joins.tab_stays hg h hb (Nat.le_refl _)
theorem Good.i64 {id : Int} (h : Good id) : I64 id := WalkArith.wf_i64 (by obtain ⟨h1, h2⟩ := h; omega)
theorem itoa_ok (id : Int) (w : World) (hG : Good id) (hT : PowTab w) : Calls Tryz.prog 38 #[.int .i64 id] w fun e w' => e = .returned (.string ⟨(Lib.itoa id).toArray⟩) ∧ Below w.heap.size w w' := by
  refine (Any.strconv_Itoa Tryz.itoa id (by have := hG.1; omega) (by have := hG.2; omega) w hT).mono ?_
  rintro e w' ⟨he, k, os, rfl⟩
  exact ⟨he, Go.Lib.below_grow _ w (Nat.le_refl _) k os⟩
set_option maxRecDepth 100000 in
theorem kname_ok (id : Int) (w : World) (hG : Good id) (hT : PowTab w) : Calls Tryz.prog 19 #[.int .i64 id] w fun e w' => e = .returned (.string (picN id)) ∧ Below w.heap.size w w' := by
  have hT := itoa_ok id w hG hT
  have hlen := itoa_len hG
  generalize hs : (⟨(Lib.itoa id).toArray⟩ : ByteArray) = s at hT
  have hsz : s.size ≤ 10 := by rw [← hs]; exact hlen
  have hN : picN id = picHead ++ s := by
    rw [← hs]; unfold picN
    apply ByteArray.ext
    rw [ByteArray.data_append]
    simp
  rw [hN]
  unfold picHead
  clear hN hs hlen
  go_enter Tryz.func19, Tryz.ntmps19
  go_wp2_with fail
  refine hT.mono ?_
  rintro e w1 ⟨rfl, hb⟩
  go_wp2_with fail
  go_ret
  exact ⟨rfl, hb⟩
theorem good_ok (id : Int) (w : World) : Calls Tryz.prog 13 #[.int .i64 id] w fun e w' => e = .returned (.bool (decide (1 ≤ id) && decide (id ≤ 1000000000))) ∧ w' = w := by
  go_enter Tryz.func13, Tryz.ntmps13
  go_wp2_with fail
  · rename_i h
    go_ret
    exact ⟨by simp [h], rfl⟩
  · rename_i h
    go_ret
    exact ⟨by simp [show ¬ 1 ≤ id by omega], rfl⟩
theorem good_yes {id : Int} (h : Good id) (w : World) : Calls Tryz.prog 13 #[.int .i64 id] w fun e w' => e = .returned (.bool true) ∧ w' = w := by
  have := good_ok id w
  rw [decide_eq_true h.1, decide_eq_true h.2] at this
  exact this

/-! ### read -/
set_option maxRecDepth 100000 in
theorem kread_no (w0 : World) (g : Nat) (S : DState) (id k : Int) (w : World) (D : DiskIn w0 w g S) (hG : Good id) (hT : PowTab w) (hk : hasE S (picN id) = some k) :
    Calls Tryz.prog 14 #[.pointer (some ⟨g, 0, none⟩), .int .i64 id] w fun e w' => e = .returned (.tuple #[.slice none 0 0, .bool false]) ∧ Below w.heap.size w w' := by
  have hN := kname_ok id w hG hT
  have HR : ∀ w1, Below w.heap.size w w1 → _ := fun w1 hb => read_no_in w0 g S (picN id) k w1 (D.below hb) (picN_le hG) hk
  clear D hT hk
  go_enter Tryz.func14, Tryz.ntmps14
  go_wp2_with fail
  refine hN.mono ?_
  rintro e w1 ⟨rfl, hb1⟩
  have HR1 := Lib.hid (HR w1 hb1)
  clear HR
  go_wp2_with fail
  refine HR1.out.mono ?_
  rintro e w2 ⟨he, hb2⟩
  obtain rfl : e = .returned (.tuple #[.slice none 0 0, .iface 45 (.int .i64 k)]) := he
  have hb := hb1.trans (hb2.mono hb1.size)
  go_wp2_with fail
  exact bodyPost_ret (v := .tuple #[.slice none 0 0, .bool false]) (by simp [results, Tryz.results14, go_sem]) rfl ⟨rfl, hb⟩
set_option maxRecDepth 100000 in
set_option maxHeartbeats 2000000 in
theorem kread_yes (w0 : World) (g : Nat) (S : DState) (id : Int) (x : List UInt8) (w : World) (D : DiskIn w0 w g S) (hG : Good id) (hT : PowTab w) (hk : hasE S (picN id) = none) (hv : BlobAt w (fgetD zB S.now (picN id)) (sealB x)) (hx : (sealB x).length ≤ 1099511627776) :
    Calls Tryz.prog 14 #[.pointer (some ⟨g, 0, none⟩), .int .i64 id] w fun e w' => ∃ A c, e = .returned (.tuple #[.slice A x.length c, .bool true]) ∧ SlA bytE (· < w'.heap.size) w' A c x ∧ Below w.heap.size w w' := by
  have hN := kname_ok id w hG hT
  have HR : ∀ w1, Below w.heap.size w w1 → _ := fun w1 hb => read_yes_in w0 g S (picN id) (sealB x) w1 (D.below hb) (picN_le hG) hk (hv.qk (QKeep.below hb)) (by omega)
  have HX := Lib.hid hx
  clear D hT hk hv hx
  go_enter Tryz.func14, Tryz.ntmps14
  go_wp2_with fail
  refine hN.mono ?_
  rintro e w1 ⟨rfl, hb1⟩
  have HR1 := Lib.hid (HR w1 hb1)
  clear HR
  go_wp2_with fail
  refine HR1.out.mono ?_
  rintro e w2 ⟨v, rfl, ⟨A2, c2, rfl, hs2⟩, hb2⟩
  have HO := Lib.hid (open_ok c2 A2 (sealB x) x [] w2 (hs2.more fun k hk => hk.lt) HX.out (List.append_nil _).symm)
  have HB2 := Lib.hid (hb1.trans (hb2.mono hb1.size))
  clear hs2 hb1 hb2
  go_wp2_with fail
  refine HO.out.mono ?_
  rintro e w3 ⟨A3, c3, rfl, hs3, hb3⟩
  have HB3 := Lib.hid (HB2.out.trans (hb3.mono HB2.out.size))
  have HS3 := Lib.hid hs3
  clear hs3 hb3
  go_wp2_with fail
  exact bodyPost_ret (v := .tuple #[.slice A3 x.length c3, .bool true]) (by simp [results, Tryz.results14, go_sem]) rfl ⟨_, _, rfl, HS3.out, HB3.out⟩
end Go.Proofs.YthanjafbgcljgaaGreatDoor
