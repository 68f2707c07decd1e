/-
  The walk of TableParts: it returns true. No condition.
-/
import Derived.Test.YtdnmdekmgbgioaaTabMerge
namespace Go.Proofs.Ytdnmdekmgbgioaa
open Go.RowKit
open Go.Sort hiding Below
set_option linter.unusedVariables false

theorem lit_two {w : World} {g : Nat} {t : TypeId} {fr : Nat × Nat} {A1 A2 : Option Addr} {c1 c2 : Nat} {l1 l2 : List UInt8} (hg : w.heap[g]? = some (.cells #[Value.slice A1 l1.length c1, Value.slice A2 l2.length c2] t fr)) (h1 : SlA bytE (· < w.heap.size) w A1 c1 l1) (h2 : SlA bytE (· < w.heap.size) w A2 c2 l2) :
    SlA (slE bytE) (· < w.heap.size) w (some ⟨g, 0, none⟩) 2 [l1, l2] := by
  have hgl := block_lt hg
  have hc : ∀ i, w.cell? ⟨g, i, none⟩ = (#[Value.slice A1 l1.length c1, Value.slice A2 l2.length c2] : Array Value)[i]? := fun i => cell_of_row w g i _ _ _ hg
  refine ⟨by simp, by unfold maxLen; omega, fun i x hx => ?_⟩
  match i, hx with
  | 0, hx =>
    simp at hx; subst hx
    refine ⟨g, 0, [Value.slice A1 l1.length c1], rfl, hgl, fun j u hj => ?_, _, rfl, A1, c1, rfl, h1⟩
    match j, hj with
    | 0, hj => simp at hj; subst hj; exact (hc 0).trans rfl
    | j + 1, hj => simp at hj
  | 1, hx =>
    simp at hx; subst hx
    refine ⟨g, 0, [Value.slice A2 l2.length c2], rfl, hgl, fun j u hj => ?_, _, rfl, A2, c2, rfl, h2⟩
    match j, hj with
    | 0, hj => simp at hj; subst hj; exact (hc 1).trans rfl
    | j + 1, hj => simp at hj
  | i + 2, hx => simp at hx
def e1 : Ent := ⟨⟨#[97]⟩, ⟨#[98]⟩, false⟩
theorem tab_e1 : TabOk [e1] := ⟨by decide, fun e he => by rw [List.mem_singleton.1 he]; exact ⟨by decide, by decide, nofun⟩, List.pairwise_singleton _ _⟩
theorem part_e1 : part [e1] ByteArray.empty ByteArray.empty = [e1] := by rw [part_high, below_empty]; rfl

set_option maxHeartbeats 4000000 in
set_option maxRecDepth 100000 in
theorem tableParts_walk (A : Option Addr) (c : Nat) (l : List Ent) (key : ByteArray) (w : World) (hl : SlA entE (· < w.heap.size) w A c l) (wk : key.size ≤ maxLen) :
    Calls Try.prog 6 #[.slice A l.length c, .string key] w fun e w' => e = .returned (.bool true) ∧ Below w.heap.size w w' := by
  have H := Lib.hid hl
  have hle := hl.le
  clear hl
  go_enter Try.func6, Try.ntmps6
  go_wp2_with fail
  refine (build_any (some ⟨w.heap.size, 0, none⟩) 1 [e1] _ (lit_one (heap_alloc_new w _) ⟨rfl, by show (1 : Nat) ≤ maxLen; unfold maxLen; omega, by show (1 : Nat) ≤ maxLen; unfold maxLen; omega⟩ (by omega) (by unfold maxLen; omega))).mono ?_
  rintro e w1 ⟨⟨-, A1, c1, rfl, hs1⟩ | ⟨hno, -⟩, hb1⟩
  · have HS1 := Lib.hid hs1
    have HB1 : Hid (Below w.heap.size w w1) := ((Below.refl w.heap.size w).alloc (Nat.le_refl _) _).trans (hb1.mono (by simp))
    clear hs1 hb1
    go_wp2_with fail
    have hsc := scan_ok A1 c1 [e1] ByteArray.empty ByteArray.empty w1 HS1.out tab_e1
    rw [part_e1] at hsc
    refine hsc.mono ?_
    clear hsc
    rintro e w2 ⟨A2, c2, rfl, -, hb2⟩
    have HB2 : Hid (Below w.heap.size w w2) := HB1.out.trans (hb2.mono HB1.out.size)
    have hl1 : ([e1] : List Ent).length = 1 := rfl
    rw [hl1]
    clear hb2 HB1 HS1 hl1
    go_wp2_with fail
    have HL2 := Lib.hid (H.out.below HB2.out)
    have hz2 := HB2.out.size
    refine (build_any A c l _ HL2.out).mono ?_
    rintro e w3 ⟨⟨hok, A3, c3, rfl, hs3⟩ | ⟨-, v, ⟨q, hq, rfl⟩, rfl⟩, hb3⟩
    · have HB3 : Hid (Below w2.heap.size w2 w3) := hb3
      have HOK := Lib.hid hok
      have HS3 := Lib.hid hs3
      have HL3 := Lib.hid (HL2.out.below hb3)
      have hz3 := hb3.size
      have hll := hok.1
      clear hok hs3 hb3 HL2
      by_cases hk0 : key.size = 0
      · have hke := bytes_nil hk0
        subst hke
        go_wp2_with fail
        go_ret
        exact ⟨rfl, HB2.out.trans (HB3.out.mono hz2)⟩
      · have hkn := bytes_ne hk0
        go_wp2_with fail
        obtain ⟨i, hi⟩ : ∃ i, i = below key l := ⟨_, rfl⟩
        have hx1 := part_low l key hk0
        have hy1 := part_high l key
        rw [← hi] at hx1 hy1
        have hsx := scan_ok A3 c3 l ByteArray.empty key w3 HS3.out HOK.out
        rw [hx1] at hsx
        obtain ⟨X, hX⟩ : ∃ X, X = l.take i := ⟨_, rfl⟩
        obtain ⟨Y, hY⟩ : ∃ Y, Y = l.drop i := ⟨_, rfl⟩
        have hXY : X ++ Y = l := by rw [hX, hY]; exact List.take_append_drop i l
        have htX : TabOk X := by rw [hX]; exact tab_sub HOK.out (List.take_sublist _ _)
        have htY : TabOk Y := by rw [hY]; exact tab_sub HOK.out (List.drop_sublist _ _)
        have hmp : (mixed [Y, X]).Perm l := by rw [hX, hY]; exact mixed_parts HOK.out.2.2 i
        have hms : (mixed [l, l]).Perm l := by rw [mixed_self HOK.out.2.2]
        rw [← hX] at hsx hx1
        rw [← hY] at hy1
        have HSX := Lib.hid hsx
        have HY1 := Lib.hid hy1
        have HXY := Lib.hid hXY
        have HTX := Lib.hid htX
        have HTY := Lib.hid htY
        have HMP := Lib.hid hmp
        have HMS := Lib.hid hms
        clear hsx hx1 hy1 hX hY hXY htX htY hmp hms hi
        refine HSX.out.mono ?_
        rintro e w4 ⟨A4, c4, rfl, hs4, hb4⟩
        have HX4 := Lib.hid hs4
        have HB4 : Hid (Below w2.heap.size w2 w4) := HB3.out.trans (hb4.mono hz3)
        have HS4 := Lib.hid (HS3.out.below hb4)
        have HL4 := Lib.hid (HL3.out.below hb4)
        clear hs4 hb4 HSX HB3 HS3 HL3
        go_wp2_with fail
        have hsy := scan_ok A3 c3 l key ByteArray.empty w4 HS4.out HOK.out
        rw [HY1.out] at hsy
        refine hsy.mono ?_
        clear hsy
        rintro e w5 ⟨A5, c5, rfl, hs5, hb5⟩
        have HY5 := Lib.hid hs5
        have HB5 : Hid (Below w2.heap.size w2 w5) := HB4.out.trans (hb5.mono HB4.out.size)
        have HX5 := Lib.hid (HX4.out.below hb5)
        have HS5 := Lib.hid (HS4.out.below hb5)
        have HL5 := Lib.hid (HL4.out.below hb5)
        clear hs5 hb5 HB4 HX4 HS4 HL4 HY1
        have hXl := HTX.out.1
        have hYl := HTY.out.1
        have hn : X.length + Y.length = l.length := by rw [← HXY.out, List.length_append]
        have hsrcX := Src.of_sl (P := Try.prog) (tx := 46) HX5.out Try.underlying46 entCells (fun cs x hx => hx.1) (fun _ => rfl) (fun x u hu => by simp [entCells] at hu; rcases hu with rfl | rfl | rfl <;> rfl)
        have HSRX := Lib.hid hsrcX
        have hsrcY : ∀ W, Below w5.heap.size w5 W → Src Try.prog 3 46 (.slice A5 Y.length c5) Y.length (Y.flatMap entCells) W := fun W hb => Src.of_sl (P := Try.prog) (tx := 46) (HY5.out.below hb) Try.underlying46 entCells (fun cs x hx => hx.1) (fun _ => rfl) (fun x u hu => by simp [entCells] at hu; rcases hu with rfl | rfl | rfl <;> rfl)
        have HSRY := Lib.hid hsrcY
        have HNN := Lib.hid hn
        clear hsrcX hsrcY hn
        go_wp2_with (at_builtin; refine wpList_append_S rfl (.tmp 74) (.tmp 75) 46 46 rfl 51 _ 3 40 Try.underlying46 info_ent rfl (by decide) none 0 0 [] rfl (OwnS.nil _ _ _) _ rfl _ _ HSRX.out (by unfold maxLen; omega) (by omega) ?_)
        intro A6 c6 w6 ho6 hg6 hat6
        have hB6 : Below w5.heap.size w5 w6 := (Below.refl _ _).grown hg6 (Nat.le_refl _) (fun k e => by cases e)
        have hf6 : ∀ k, blk A6 = some k → w5.heap.size ≤ k := fun k e => by
          rcases hat6 with h1 | h1
          · rw [h1] at e; cases e
          · rw [h1] at e; injection e with e; omega
        have HO6 := Lib.hid ho6
        have HF6 := Lib.hid hf6
        have HB6 := Lib.hid hB6
        clear ho6 hg6 hat6 hf6 hB6 HSRX
        go_wp2_with (at_builtin; refine wpList_append_S rfl (.tmp 77) (.tmp 78) 46 46 rfl 51 _ 3 40 Try.underlying46 info_ent rfl (by decide) _ _ _ _ rfl HO6.out _ rfl _ _ (HSRY.out _ HB6.out) (by unfold maxLen; omega) (by omega) ?_)
        intro A7 c7 w7 ho7 hg7 hat7
        have hB7 : Below w5.heap.size w5 w7 := HB6.out.grown hg7 HB6.out.size HF6.out
        have HB7 := Lib.hid hB7
        have hsl7 : SlA entE (· < w7.heap.size) w7 A7 c7 l := by
          rw [← List.flatMap_append, HXY.out] at ho7
          exact OwnS.sl (E := entE) entCells (fun _ => rfl) ho7 HNN.out (fun k e => ho7.lt k e) (fun x hx => ⟨rfl, ent_sizes HL5.out x hx⟩)
        have HSAME := Lib.hid (same_ents A7 A c7 c l w7 _ _ hsl7 (HL5.out.below hB7))
        have HBB : Hid (Below w2.heap.size w2 w7) := HB5.out.trans (hB7.mono HB5.out.size)
        have HX7 := Lib.hid (HX5.out.below hB7)
        have HY7 := Lib.hid (HY5.out.below hB7)
        have HS7 := Lib.hid (HS5.out.below hB7)
        clear ho7 hg7 hat7 hB7 hsl7 HO6 HF6 HB6 HSRY HB7 HX5 HY5 HS5 HL5 HB5
        go_wp2_with fail
        rw [HNN.out]
        refine HSAME.out.mono ?_
        rintro e w8 ⟨rfl, qq, rfl⟩
        go_wp2_with fail
        refine (build_any A4 c4 X (w7.drewN qq) (HX7.out.drewN qq)).mono ?_
        rintro e w9 ⟨⟨-, A9, c9, rfl, hs9⟩ | ⟨hno, -⟩, hb9⟩
        · have hb9' : Below w7.heap.size w7 w9 := bundrewN hb9
          have HP9 := Lib.hid hs9
          have HB9 := Lib.hid (HBB.out.trans (hb9'.mono HBB.out.size))
          have HY9 := Lib.hid (HY7.out.below hb9')
          have HS9 := Lib.hid (HS7.out.below hb9')
          clear hs9 hb9 hb9' HX7 HY7 HS7 HBB HSAME
          go_wp2_with fail
          refine (build_any A5 c5 Y _ HY9.out).mono ?_
          rintro e w10 ⟨⟨-, A10, c10, rfl, hs10⟩ | ⟨hno, -⟩, hb10⟩
          · have hB10 := HB9.out.trans (hb10.mono HB9.out.size)
            have HB10 := Lib.hid hB10
            have hsm := lit_two (heap_alloc_new w10 (.cells #[.slice A10 (tabB Y).length c10, .slice A9 (tabB X).length c9] 47)) (hs10.below ((Below.refl _ _).alloc (Nat.le_refl _) _)) ((HP9.out.below hb10).below ((Below.refl _ _).alloc (Nat.le_refl _) _))
            have HSM := Lib.hid (merge_ok (some ⟨w10.heap.size, 0, none⟩) 2 [Y, X] l _ hsm (fun x hx => by simp at hx; rcases hx with rfl | rfl; exact HTY.out; exact HTX.out) (by simp [cnt]; omega) (by simp) HOK.out HMP.out)
            have HS10 := Lib.hid ((HS9.out.below hb10).below ((Below.refl _ _).alloc (Nat.le_refl _) (.cells #[.slice A10 (tabB Y).length c10, .slice A9 (tabB X).length c9] 47)))
            have HBL : Hid (Below w2.heap.size w2 (w10.alloc (.cells #[.slice A10 (tabB Y).length c10, .slice A9 (tabB X).length c9] 47))) := hB10.alloc hB10.size _
            clear hs10 hb10 hB10 hsm HP9 HY9 HS9 HB9
            go_wp2_with fail
            refine HSM.out.mono ?_
            rintro e w11 ⟨A11, c11, rfl, hs11, hb11⟩
            have hB11 := HBL.out.trans (hb11.mono HBL.out.size)
            have hS11 := HS10.out.below hb11
            have hsn := lit_two (heap_alloc_new w11 (.cells #[.slice A3 (tabB l).length c3, .slice A3 (tabB l).length c3] 47)) (hS11.below ((Below.refl _ _).alloc (Nat.le_refl _) _)) (hS11.below ((Below.refl _ _).alloc (Nat.le_refl _) _))
            have HSN := Lib.hid (merge_ok (some ⟨w11.heap.size, 0, none⟩) 2 [l, l] l _ hsn (fun x hx => by simp at hx; subst hx; exact HOK.out) (by simp [cnt]; omega) (by simp) HOK.out HMS.out)
            have HM11 := Lib.hid (hs11.below ((Below.refl _ _).alloc (Nat.le_refl _) (.cells #[.slice A3 (tabB l).length c3, .slice A3 (tabB l).length c3] 47)))
            have HS11 := Lib.hid (hS11.below ((Below.refl _ _).alloc (Nat.le_refl _) (.cells #[.slice A3 (tabB l).length c3, .slice A3 (tabB l).length c3] 47)))
            have HBM : Hid (Below w2.heap.size w2 (w11.alloc (.cells #[.slice A3 (tabB l).length c3, .slice A3 (tabB l).length c3] 47))) := hB11.alloc hB11.size _
            clear hs11 hb11 hB11 hS11 hsn HSM HS10 HBL
            go_wp2_with fail
            refine HSN.out.mono ?_
            rintro e w12 ⟨A12, c12, rfl, hs12, hb12⟩
            have v1 := conv_string (P := Try.prog) (src := 47) (dst := 9) (HM11.out.below hb12) Try.underlying47 Try.underlying5 Try.underlying9
            have v2 := conv_string (P := Try.prog) (src := 47) (dst := 9) hs12 Try.underlying47 Try.underlying5 Try.underlying9
            have v3 := conv_string (P := Try.prog) (src := 47) (dst := 9) (HS11.out.below hb12) Try.underlying47 Try.underlying5 Try.underlying9
            have HBF : Hid (Below w.heap.size w w12) := HB2.out.trans ((HBM.out.trans (hb12.mono HBM.out.size)).mono hz2)
            clear hs12 hb12 HM11 HS11 HSN HBM
            go_wp2_with fail
            go_ret
            exact ⟨by simp, HBF.out⟩
          · exact absurd HTY.out hno
        · exact absurd HTX.out hno
    · have hq' : (q == 0) = false := by simpa using hq
      have HB3 := Lib.hid (HB2.out.trans (hb3.mono hz2))
      clear hb3
      go_wp2_with fail
      go_ret
      exact ⟨rfl, HB3.out⟩
  · exact absurd tab_e1 hno
end Go.Proofs.Ytdnmdekmgbgioaa
