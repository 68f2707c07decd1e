/-
  Contracts of table.entry and table.Build: the bytes of a table, or that lists that are none are refused. Condition: none beyond the model's bounds.
-/
import Derived.Test.YthobnigjhedjaaaDoorTabs
import Derived.Test.YthobnigjhedjaaaDoorRowset
import Derived.Deep.CutBlock
import Derived.Deep.RegionHeld3
import Derived.Shelf.SlSorted.Search
namespace Go.Proofs.YthobnigjhedjaaaDoor
open Go.RowKit
open Go.Sort hiding Below
set_option linter.unusedVariables false

def entCells (e : Ent) : List Value := [.string e.key, .string e.value, .bool e.dead]
theorem info_ent : (Tryd.prog.info? 67).map (fun i => (i.zero, i.size, i.bytes)) = some (some (.agg #[.string ByteArray.empty, .string ByteArray.empty, .bool false]), 3, 40) := by kernel_rfl
theorem bytes_nil {v : ByteArray} (h : v.size = 0) : v = ⟨#[]⟩ := by
  cases v with | mk d => congr 1; exact Array.eq_empty_of_size_eq_zero h
theorem bytes_ne {v : ByteArray} (h : v.size ≠ 0) : v.toList.isEmpty = false := by
  rw [Lib.toList_data]
  cases hv : v.data.toList with
  | nil =>
    exfalso
    apply h
    have := congrArg List.length hv
    rw [Array.length_toList] at this
    exact this
  | cons x l => rfl
theorem entry_yes (k v : ByteArray) (d : Bool) (w : World) (h : entOk ⟨k, v, d⟩) : Calls Tryd.prog 54 #[.agg #[.string k, .string v, .bool d]] w fun e w' => e = .returned .nilIface ∧ Below w.heap.size w w' := by
  obtain ⟨h1, h2, h3⟩ := h
  simp only at h1 h2 h3
  have d1 : decide ((120 : Int) < (k.size : Int)) = false := decide_eq_false (by omega)
  have d2 : decide ((120 : Int) < (v.size : Int)) = false := decide_eq_false (by omega)
  cases d with
  | false =>
    clear h3
    go_enter Tryd.func54, Tryd.ntmps54
    go_wp2
    go_ret
    exact ⟨rfl, (Below.refl _ _).alloc (Nat.le_refl _) _⟩
  | true =>
    have hv := bytes_nil (h3 rfl)
    subst hv
    clear h3 h2 d2
    go_enter Tryd.func54, Tryd.ntmps54
    go_wp2
    go_ret
    exact ⟨rfl, (Below.refl _ _).alloc (Nat.le_refl _) _⟩
def IsErr (v : Value) : Prop := ∃ k : Int, k ≠ 0 ∧ v = .iface 51 (.int .i64 k)
theorem entry_no (k v : ByteArray) (d : Bool) (w : World) (h : ¬ entOk ⟨k, v, d⟩) : Calls Tryd.prog 54 #[.agg #[.string k, .string v, .bool d]] w fun e w' => (∃ v, IsErr v ∧ e = .returned v) ∧ Below w.heap.size w w' := by
  by_cases h1 : 120 < k.size
  · have d1 : decide ((120 : Int) < (k.size : Int)) = true := decide_eq_true (by omega)
    clear h
    go_enter Tryd.func54, Tryd.ntmps54
    go_wp2
    go_ret
    exact ⟨⟨_, ⟨1, by decide, rfl⟩, rfl⟩, (Below.refl _ _).alloc (Nat.le_refl _) _⟩
  · by_cases h2 : 120 < v.size
    · have d1 : decide ((120 : Int) < (k.size : Int)) = false := decide_eq_false (by omega)
      have d2 : decide ((120 : Int) < (v.size : Int)) = true := decide_eq_true (by omega)
      clear h
      go_enter Tryd.func54, Tryd.ntmps54
      go_wp2
      go_ret
      exact ⟨⟨_, ⟨1, by decide, rfl⟩, rfl⟩, (Below.refl _ _).alloc (Nat.le_refl _) _⟩
    · have d1 : decide ((120 : Int) < (k.size : Int)) = false := decide_eq_false (by omega)
      have d2 : decide ((120 : Int) < (v.size : Int)) = false := decide_eq_false (by omega)
      have hd : d = true ∧ v.size ≠ 0 := by
        refine ⟨?_, fun e => h ⟨by show k.size ≤ 120; omega, by show v.size ≤ 120; omega, fun _ => e⟩⟩
        cases d with
        | true => rfl
        | false => exact absurd ⟨by show k.size ≤ 120; omega, by show v.size ≤ 120; omega, fun h => by cases h⟩ h
      obtain ⟨rfl, hv⟩ := hd
      have d3 := bytes_ne hv
      clear h hv
      go_enter Tryd.func54, Tryd.ntmps54
      go_wp2
      go_ret
      exact ⟨⟨_, ⟨3, by decide, rfl⟩, rfl⟩, (Below.refl _ _).alloc (Nat.le_refl _) _⟩

def BuildPost (w : World) (l : List Ent) (e : Ending) (w' : World) : Prop := ((TabOk l ∧ ∃ A' c', e = .returned (.tuple #[.slice A' (tabB l).length c', .nilIface]) ∧ SlA bytE (· < w'.heap.size) w' A' c' (tabB l)) ∨ (¬ TabOk l ∧ ∃ v, IsErr v ∧ e = .returned (.tuple #[.slice none 0 0, v]))) ∧ Below w.heap.size w w'
theorem take_tab {l : List Ent} {k : Nat} (hk : k < l.length) {P : Ent → Prop} (h : ∀ e ∈ l.take k, P e) (hk2 : P l[k]) : ∀ e ∈ l.take (k + 1), P e := fun e he => by
  rw [List.take_succ_eq_append_getElem hk] at he
  rcases List.mem_append.1 he with he | he
  · exact h e he
  · rw [List.mem_singleton.1 he]; exact hk2
theorem take_rises {l : List Ent} {k : Nat} (hk : k < l.length) (h : Rises (l.take k)) (h2 : ∀ j (hj : j < l.length), j + 1 = k → kLt l[j].key l[k].key = true) : Rises (l.take (k + 1)) := by
  rw [List.take_succ_eq_append_getElem hk]
  refine rises_snoc h fun x hx => ?_
  rw [List.getLast?_eq_getElem?] at hx
  have hl : (l.take k).length = k := by rw [List.length_take]; omega
  rw [hl] at hx
  cases k with
  | zero => simp at hx
  | succ j =>
    have hj : j < l.length := by omega
    rw [Nat.add_sub_cancel, List.getElem?_take, if_pos (by omega), List.getElem?_eq_getElem hj] at hx
    injection hx with hx
    subst hx
    exact h2 j hj rfl
theorem ent_row (e : Ent) (d : UInt8) (hd : d = if e.dead then 1 else 0) (n : Nat) (xs : List UInt8) : bcells (xs ++ entB e) = ((bcells xs ++ bcells (textB e.key)) ++ [Value.int .u8 (d.toNat : Int)]) ++ bcells (textB e.value) := by
  unfold entB
  rw [bcells_append, bcells_append, bcells_append, ← hd]
  simp [bcells]

set_option maxRecDepth 100000 in
set_option maxHeartbeats 4000000 in
theorem build_any (A : Option Addr) (c : Nat) (l : List Ent) (w : World) (hl : SlA entE (· < w.heap.size) w A c l) : Calls Tryd.prog 33 #[.slice A l.length c] w (BuildPost w l) := by
  have H := Lib.hid hl
  have hle := hl.le
  clear hl
  by_cases h400 : 400 < l.length
  · have hno : ¬ TabOk l := fun h => by have := h.1; omega
    have HNO := Lib.hid hno
    have d1 : decide (400 < l.length) = true := decide_eq_true h400
    clear hno
    go_enter Tryd.func33, Tryd.ntmps33
    go_wp2_with fail
    go_ret2
    exact ⟨.inr ⟨HNO.out, _, ⟨4, by decide, rfl⟩, rfl⟩, Below.refl _ _⟩
  · have d1 : decide (400 < l.length) = false := decide_eq_false h400
    have hnl : (numB l.length).length ≤ 10 := numB_len _
    obtain ⟨NB, hNB⟩ : ∃ NB, NB = numB l.length := ⟨_, rfl⟩
    rw [← hNB] at hnl
    have HNB := Lib.hid hNB
    have hnum : ∀ w, Calls Tryd.prog 53 #[.int .i64 (l.length : Int)] w fun e w' => ∃ v, e = .returned v ∧ w'.ownsRow w.heap.size 5 1 v NB.length (bcells NB) ∧ Below w.heap.size w w' := fun w => by rw [hNB]; exact num_ok _ w (by omega) (by omega)
    have HNUM := Lib.hid hnum
    clear hNB hnum
    go_enter Tryd.func33, Tryd.ntmps33
    go_wp2_with fail
    refine (HNUM.out _).mono ?_
    rintro e w1 ⟨v, rfl, hrow, hb1⟩
    obtain ⟨A1, c1, rfl, ho1, hfar⟩ := OwnS.of_row hrow
    have HO1 := Lib.hid ho1
    have HB1 := Lib.hid hb1
    have HFAR := Lib.hid hfar
    clear hrow hb1 hfar ho1 HNUM
    go_wp2_with fail
    go_loopw [4, 18] (fun bv iv wr => ∃ (k n c' : Nat) (A' : Option Addr), k ≤ l.length ∧ iv = .int .i64 k ∧ bv = .slice A' n c' ∧ n ≤ 10 + 261 * k ∧ Hid (OwnS wr 5 1 A' c' n (bcells (NB ++ rowsB (l.take k)))) ∧ Hid (∀ b, blk A' = some b → w.heap.size ≤ b) ∧ Hid (∀ e ∈ l.take k, entOk e) ∧ Hid (Rises (l.take k)) ∧ Hid (Below w.heap.size w wr)) (fun _ iv _ => l.length - (intOf iv).toNat)
    case atStart => exact ⟨0, NB.length, c1, A1, by omega, rfl, rfl, by omega, by show OwnS _ _ _ _ _ _ _; simpa [rowsB] using HO1.out, HFAR, nofun, .nil, HB1⟩
    case round =>
      clear HO1 HB1 HFAR
      obtain ⟨k, n, c', A', hk, rfl, rfl, hn, HO, HF, HE, HR, HB⟩ := hrel
      have hz := HB.out.size
      by_cases hlt : k < l.length
      · have dk1 : decide (k < l.length) = true := decide_eq_true hlt
        obtain ⟨b0, off, rfl, hb0, c0, c1', c2', hks, hvs⟩ := H.out.ent_ hlt
        have e0 := (HB.out.cell (p := ⟨b0, off + k * 3, none⟩) hb0).trans c0
        have e1 := (HB.out.cell (p := ⟨b0, off + k * 3 + 1, none⟩) hb0).trans c1'
        have e2 := (HB.out.cell (p := ⟨b0, off + k * 3 + 2, none⟩) hb0).trans c2'
        have hEE : ∀ h : entOk l[k], ∀ e ∈ l.take (k + 1), entOk e := fun h => take_tab hlt HE.out h
        have hRR : (∀ j (hj : j < l.length), j + 1 = k → kLt l[j].key l[k].key = true) → Rises (l.take (k + 1)) := take_rises hlt HR.out
        have hrow : NB ++ rowsB (l.take (k + 1)) = (NB ++ rowsB (l.take k)) ++ entB l[k] := by rw [List.take_succ_eq_append_getElem hlt, rowsB_snoc, List.append_assoc]
        have hin : TabOk l → entOk l[k] := fun h => h.2.1 _ (List.getElem_mem hlt)
        have hin2 : TabOk l → ∀ j (hj : j < l.length), j + 1 = k → kLt l[j].key l[k].key = true := fun h j hj e => List.pairwise_iff_getElem.1 h.2.2 j k hj hlt (by omega)
        obtain ⟨r, hr⟩ : ∃ r, r = l[k] := ⟨_, rfl⟩
        rw [← hr] at e0 e1 e2 hks hvs hEE hRR hrow hin hin2
        obtain ⟨rk, rv, rd⟩ := r
        simp only at e0 e1 e2 hks hvs
        have HEE := Lib.hid hEE
        have HRR := Lib.hid hRR
        have HROW := Lib.hid hrow
        have HIN := Lib.hid hin
        have HIN2 := Lib.hid hin2
        have hzb : b0 < wr.heap.size := by omega
        clear hr c0 c1' c2' hks hvs hEE hRR hrow hin hin2
        go_wp2_with fail
        have hbx : (wr.alloc (.cells #[.string rk, .string rv, .bool rd] 67)).heap[wr.heap.size]? = some (.cells #[.string rk, .string rv, .bool rd] 67 (0, 0)) := heap_alloc_new wr _
        have HBX := Lib.hid hbx
        clear hbx
        by_cases hok : entOk ⟨rk, rv, rd⟩
        · have HOK := Lib.hid hok
          have hsk := hok.1
          have hsv := hok.2.1
          simp only at hsk hsv
          clear hok
          refine (entry_yes rk rv rd _ HOK.out).mono ?_
          rintro e w2 ⟨rfl, hb2⟩
          have hx2 : w2.heap[wr.heap.size]? = some (.cells #[.string rk, .string rv, .bool rd] 67 (0, 0)) := (hb2.block _ (by simp)).trans HBX.out
          have hB2 : Below wr.heap.size wr w2 := ((Below.refl wr.heap.size wr).alloc (Nat.le_refl _) _).trans (hb2.mono (by simp))
          have x0 := cell_of_row w2 wr.heap.size 0 _ _ _ hx2
          have x1 := cell_of_row w2 wr.heap.size 1 _ _ _ hx2
          have x2 := cell_of_row w2 wr.heap.size 2 _ _ _ hx2
          simp at x0 x1 x2
          have HX2 := Lib.hid hx2
          have HO2 := Lib.hid (HO.out.keep fun k e => hB2.block k (HO.out.lt k e))
          have hlb := HO.out.lt
          have HLB : Hid (∀ b, blk A' = some b → b < wr.heap.size) := hlb
          have HB2 := Lib.hid (HB.out.trans (hB2.mono hz))
          have hz2 := hB2.size
          have hzx : wr.heap.size < w2.heap.size := block_lt hx2
          have e0' := (hB2.cell (p := ⟨b0, off + k * 3, none⟩) hzb).trans e0
          clear hb2 hx2 hB2 hlb e0 e1 e2 HBX HO HB
          go_upto_region 10 with (fail)
          go_cut [40] from 28 to 39 (fun bv wx => ∃ (B : Bool) (q : Nat), bv = .bool B ∧ wx = w2.drewN q ∧ Hid (B = false → ∀ j (hj : j < l.length), j + 1 = k → kLt l[j].key rk = true) ∧ Hid (B = true → ¬ TabOk l))
          case first =>
            rcases Nat.eq_zero_or_pos k with rfl | hpos
            · go_quiet (fail)
              go_wp2_with fail
              go_meet
              case rel => exact ⟨false, _, rfl, rfl, fun _ j hj e => by omega, nofun⟩
            · obtain ⟨j, rfl⟩ : ∃ j, k = j + 1 := ⟨k - 1, by omega⟩
              have hj : j < l.length := by omega
              obtain ⟨b0', off', hA', hb0', p0, -⟩ := H.out.ent_ hj
              injection hA' with hA'
              injection hA' with hA1 hA2
              subst hA1; subst hA2
              have p0 := (HB2.out.cell (p := ⟨b0, off + j * 3, none⟩) hb0).trans p0
              obtain ⟨pk, hpk⟩ : ∃ pk, pk = l[j].key := ⟨_, rfl⟩
              rw [← hpk] at p0
              have HPK := Lib.hid hpk
              have dk2 : decide ((0 : Int) < (j : Int) + 1) = true := decide_eq_true (by omega)
              have dk3 : IntKind.i64.wrap ((j : Int) + 1 - 1) = (j : Int) := by rw [IntWalk.i64_in _ (by omega)]; omega
              have dk4 : IntKind.i64.wrap (j : Int) = (j : Int) := IntWalk.i64_in _ (by omega)
              have dk5 : (j : Int) < (l.length : Int) := by omega
              have dk7 : (0 : Int) ≤ (j : Int) + 1 := by omega
              have hb02 : b0 < w2.heap.size := by omega
              clear hpk
              cases hlk : Op.bytesLess pk.toList rk.toList with
              | true =>
                have HLK : Hid (kLt pk rk = true) := by show _ = _; unfold kLt; rw [← ltStr_of]; exact hlk
                go_quiet (fail)
                go_wp2_with fail
                go_meet
                case rel =>
                  refine ⟨false, _, by simp, rfl, fun _ i hi e => ?_, nofun⟩
                  obtain rfl : i = j := by omega
                  rw [← HPK.out]; exact HLK.out
              | false =>
                have HLK : Hid (kLt pk rk = false) := by show _ = _; unfold kLt; rw [← ltStr_of]; exact hlk
                go_quiet (fail)
                go_wp2_with fail
                go_meet
                case rel =>
                  refine ⟨true, _, by simp, rfl, nofun, fun _ h => ?_⟩
                  have := HIN2.out h j hj rfl
                  rw [← HPK.out, HLK.out] at this
                  cases this
          case rest =>
            obtain ⟨B, q, rfl, rfl, HBF, HBT⟩ := hcut
            cases B with
            | true =>
              go_wp2_with fail
              go_ret2
              exact ⟨.inr ⟨HBT.out (by simp), _, ⟨5, by decide, rfl⟩, rfl⟩, bdrewN HB2.out _⟩
            | false =>
              have HR' := Lib.hid (HRR.out (HBF.out (by simp)))
              have HE' := Lib.hid (HEE.out HOK.out)
              clear HBF HBT HRR HEE HIN HIN2 HE HR
              obtain ⟨d, hd⟩ : ∃ d : UInt8, d = if rd then 1 else 0 := ⟨_, rfl⟩
              have HD := Lib.hid hd
              clear hd
              go_upto_if 43 with (fail)
              go_cut [8] from 42 to 43 (fun dv wx => dv = .int .u8 (d.toNat : Int) ∧ wx = w2.drewN q)
              case first =>
                cases rd with
                | true =>
                  go_wp2_with fail
                  go_meet
                  case rel => exact ⟨by rw [HD.out]; rfl, rfl⟩
                | false =>
                  go_wp2_with fail
                  go_meet
                  case rel => exact ⟨by rw [HD.out]; rfl, rfl⟩
              case rest =>
                obtain ⟨rfl, rfl⟩ := hcut
                have hI : BI w w.heap.size wr.heap.size (.cells #[.string rk, .string rv, .bool rd] 67 (0, 0)) (w2.drewN q).drew [⟨5, 1, A', c', n, bcells (NB ++ rowsB (l.take k))⟩] := by
                  refine ⟨⟨fun r hr => ?_, List.pairwise_singleton _ _⟩, HX2.out, (bdrewN HB2.out _).drew, ?_⟩
                  · rw [List.mem_singleton.1 hr]; exact HO2.out.keep fun _ _ => rfl
                  · rintro k ⟨r, hr, e⟩
                    rw [List.mem_singleton.1 hr] at e
                    have := HF.out k e
                    have := HLB.out k e
                    omega
                have HSK : Hid (rk.size ≤ 140737488351232) := by show _ ≤ _; omega
                have HSV : Hid (rv.size ≤ 140737488351232) := by show _ ≤ _; omega
                have hkl := textB_len rk hsk
                have hvl := textB_len rv hsv
                have hln := hI.F.head.1
                have y0 : (w2.drewN q).drew.cell? ⟨wr.heap.size, 0, none⟩ = some (.string rk) := x0
                have y1 : (w2.drewN q).drew.cell? ⟨wr.heap.size, 1, none⟩ = some (.string rv) := x1
                clear x2 HX2 HO2 HLB HB2 e0' HF hln
                go_upto_region 15 with (fail)
                have hfin : ∀ (A3 : Option Addr) (c3 : Nat) (W : World) (rs : List ORow), BI w w.heap.size wr.heap.size (.cells #[.string rk, .string rv, .bool rd] 67 (0, 0)) W (⟨5, 1, A3, c3, n + (textB rk).length + 1 + (textB rv).length, ((bcells (NB ++ rowsB (l.take k)) ++ bcells (textB rk)) ++ [Value.int .u8 (d.toNat : Int)]) ++ bcells (textB rv)⟩ :: rs) →
                    n + (textB rk).length + 1 + (textB rv).length ≤ 10 + 261 * (k + 1) ∧ Hid (OwnS W 5 1 A3 c3 (n + (textB rk).length + 1 + (textB rv).length) (bcells (NB ++ rowsB (l.take (k + 1))))) ∧ Hid (∀ b, blk A3 = some b → w.heap.size ≤ b) ∧ Hid (Below w.heap.size w W) := by
                  intro A3 c3 W rs h
                  refine ⟨by omega, ?_, fun b e => (h.far b ⟨_, .head _, e⟩).1, h.bel⟩
                  show OwnS _ _ _ _ _ _ _
                  rw [HROW.out, ent_row ⟨rk, rv, rd⟩ d HD.out n]
                  exact h.F.head
                have HFIN := Lib.hid hfin
                clear hfin HROW HD
                go_region_held3 (fun W => W.cell? ⟨wr.heap.size, 0, none⟩ = some (.string rk) ∧ W.cell? ⟨wr.heap.size, 1, none⟩ = some (.string rv)) (first | exact ⟨x0, x1⟩ | exact ⟨y0, y1⟩ | go_keep)
                  (first | (refine step_append_B rfl (.tmp 44) (.tmp 47) 70 rfl 5 (.int .u8 0) 1 Tryd.underlying70 info_u8 rfl (ys := bcells (textB rk)) (by first | exact hI | exact hI.one (Nat.le_refl _) _ _) (Nat.le_refl _) rfl (by first | exact .head _ | exact .tail _ (.head _) | exact .tail _ (.tail _ (.head _))) rfl (bcells_one _) (by unfold maxLen; omega) (by omega) ?_; intro A3 c3 W3 hI3; clear hI; have hI := hI3; clear hI3; have x0 : W3.cell? ⟨wr.heap.size, 0, none⟩ = some (.string rk) := cell_of_row _ _ 0 _ _ _ hI.box; have x1 : W3.cell? ⟨wr.heap.size, 1, none⟩ = some (.string rv) := cell_of_row _ _ 1 _ _ _ hI.box; have hlw := block_lt hI.box) | (refine step_append_B rfl (.tmp 48) (.tmp 50) 70 rfl 5 (.int .u8 0) 1 Tryd.underlying70 info_u8 rfl (ys := [Value.int .u8 (d.toNat : Int)]) (by first | exact hI | exact hI.one (Nat.le_refl _) _ _) (Nat.le_refl _) rfl (by first | exact .head _ | exact .tail _ (.head _) | exact .tail _ (.tail _ (.head _))) rfl (by intro u hu; simp at hu; subst hu; rfl) (by unfold maxLen; omega) (by omega) ?_; intro A3 c3 W3 hI3; clear hI; have hI := hI3; clear hI3; have x0 : W3.cell? ⟨wr.heap.size, 0, none⟩ = some (.string rk) := cell_of_row _ _ 0 _ _ _ hI.box; have x1 : W3.cell? ⟨wr.heap.size, 1, none⟩ = some (.string rv) := cell_of_row _ _ 1 _ _ _ hI.box; have hlw := block_lt hI.box) | (refine step_append_B rfl (.tmp 51) (.tmp 54) 70 rfl 5 (.int .u8 0) 1 Tryd.underlying70 info_u8 rfl (ys := bcells (textB rv)) (by first | exact hI | exact hI.one (Nat.le_refl _) _ _) (Nat.le_refl _) rfl (by first | exact .head _ | exact .tail _ (.head _) | exact .tail _ (.tail _ (.head _))) rfl (bcells_one _) (by unfold maxLen; omega) (by omega) ?_; intro A3 c3 W3 hI3; clear hI; have hI := hI3; clear hI3; have x0 : W3.cell? ⟨wr.heap.size, 0, none⟩ = some (.string rk) := cell_of_row _ _ 0 _ _ _ hI.box; have x1 : W3.cell? ⟨wr.heap.size, 1, none⟩ = some (.string rv) := cell_of_row _ _ 1 _ _ _ hI.box; have hlw := block_lt hI.box) | (refine (text_any rk _ HSK.out).mono ?_; rintro e W' ⟨v, rfl, hrw, hbl⟩; obtain ⟨AK, cK, rfl, hok, hfk⟩ := OwnS.of_row hrw; have hI' := BI.add (w := w) (base := w.heap.size) (Bx := wr.heap.size) (o := .cells #[.string rk, .string rv, .bool rd] 67 (0, 0)) (by first | exact hI | exact hI.one (Nat.le_refl _) _ _) (Nat.le_refl _) hbl (r := ⟨5, 1, AK, cK, _, _⟩) hok hfk; clear hrw hbl hok hfk hI; have hI := hI'; clear hI'; have x0 : W'.cell? ⟨wr.heap.size, 0, none⟩ = some (.string rk) := cell_of_row _ _ 0 _ _ _ hI.box; have x1 : W'.cell? ⟨wr.heap.size, 1, none⟩ = some (.string rv) := cell_of_row _ _ 1 _ _ _ hI.box; have hlw := block_lt hI.box) | (refine (text_any rv _ HSV.out).mono ?_; rintro e W' ⟨v, rfl, hrw, hbl⟩; obtain ⟨AV, cV, rfl, hok, hfk⟩ := OwnS.of_row hrw; have hI' := BI.add (w := w) (base := w.heap.size) (Bx := wr.heap.size) (o := .cells #[.string rk, .string rv, .bool rd] 67 (0, 0)) (by first | exact hI | exact hI.one (Nat.le_refl _) _ _) (Nat.le_refl _) hbl (r := ⟨5, 1, AV, cV, _, _⟩) hok hfk; clear hrw hbl hok hfk hI; have hI := hI'; clear hI'; have x0 : W'.cell? ⟨wr.heap.size, 0, none⟩ = some (.string rk) := cell_of_row _ _ 0 _ _ _ hI.box; have x1 : W'.cell? ⟨wr.heap.size, 1, none⟩ = some (.string rv) := cell_of_row _ _ 1 _ _ _ hI.box; have hlw := block_lt hI.box))
                all_goals
                  go_wp2_with fail
                  go_roundw
                  case rel =>
                    obtain ⟨f1, f2, f3, f4⟩ := HFIN.out _ _ _ _ hI
                    exact ⟨k + 1, _, _, _, by omega, by go_num, rfl, f1, f2, f3, HE', HR', f4⟩
                  case measure => simp [intOf]; omega
        · have HOK := Lib.hid hok
          clear hok
          refine (entry_no rk rv rd _ HOK.out).mono ?_
          rintro e w2 ⟨⟨v, ⟨q, hq, rfl⟩, rfl⟩, hb2⟩
          have HB2 : Hid (Below w.heap.size w w2) := (HB.out.alloc hz _).trans (hb2.mono (by simp; omega))
          have hq' : (q == 0) = false := by simpa using hq
          clear hb2
          go_wp2_with fail
          go_ret2
          exact ⟨.inr ⟨fun h => HOK.out (HIN.out h), _, ⟨q, hq, rfl⟩, rfl⟩, HB2.out⟩
      · obtain rfl : k = l.length := by omega
        have dk1 : decide (l.length < l.length) = false := by simp
        have hE := HE.out
        have hR := HR.out
        have hO := HO.out
        rw [List.take_length] at hE hR hO
        have hok : TabOk l := ⟨by omega, hE, hR⟩
        have hbody : NB ++ rowsB l = bodyB l := by rw [HNB.out]; rfl
        rw [hbody] at hO
        have HOK := Lib.hid hok
        have hnb : n = (bodyB l).length := by have := hO.1; rw [bcells_length] at this; omega
        have hsl : SlA bytE (· < wr.heap.size) wr A' c' (bodyB l) := by
          refine OwnS.sl (E := bytE) (e := 5) (fun b => [Value.int .u8 (b.toNat : Int)]) (fun _ => rfl) ?_ hnb (fun k e => hO.lt k e) (fun x _ => rfl)
          rw [flat_bcells]; exact hO
        have hbl : (bodyB l).length ≤ 1099511627776 := by have := bodyB_len hok; omega
        have HSEAL := Lib.hid (seal_ok c' A' (bodyB l) wr hsl hbl)
        have HNN := Lib.hid hnb
        clear hE hR hO hok hbody hsl hbl hnb HE HR HO
        go_wp2_with fail
        rw [HNN.out]
        refine HSEAL.out.mono ?_
        rintro e w3 ⟨v, rfl, hrow, hb3⟩
        have HB3 := Lib.hid (HB.out.trans (hb3.mono hz))
        obtain ⟨A3, c3, rfl, ho3, hf3⟩ := OwnS.of_row hrow
        have HS3 : Hid (SlA bytE (· < w3.heap.size) w3 A3 c3 (tabB l)) := by
          refine OwnS.sl (E := bytE) (e := 5) (fun b => [Value.int .u8 (b.toNat : Int)]) (fun _ => rfl) ?_ rfl (fun k e => ho3.lt k e) (fun x _ => rfl)
          rw [flat_bcells]; exact ho3
        clear hb3 hrow ho3 hf3
        go_wp2_with fail
        go_ret2
        exact ⟨.inl ⟨HOK.out, A3, c3, rfl, HS3.out⟩, HB3.out⟩
end Go.Proofs.YthobnigjhedjaaaDoor
