/-
  Several texts of this claim in one, in build order; each begins with its own remark, which says what it proves and under which conditions.
-/
import Derived.Test.YtfndhfekbbbliaaGreatDoorPackI
import Derived.Test.YtfndhfekbbbliaaGreatDoorPackE
import Derived.Deep.RegionLaw
import Derived.Deep.OwnRows
import Derived.Test.YtfndhfekbbbliaaGreatDoorPackF
import Derived.Shelf.Strconv.Itoa3
import Derived.Lib.LaidTab
import Derived.Lib.SmallJoins
import Derived.Lib.AppendIntMem
import Derived.Deep.RegionHeld3
import Derived.Outline

/-
  Package job: the contract of Uses. Conditions: where the job lies; the two variables of Atoi's errors hold errors.
-/
namespace Go.Proofs.YtfndhfekbbbliaaGreatDoor
open Go.RowKit Go.Shelf
set_option linter.unusedVariables false

def IdxPost (l : List Int) (x : Int) (w : World) (e : Ending) (w' : World) : Prop := ∃ j : Int, e = .returned (.int .i64 j) ∧ decide (0 ≤ j) = l.contains x ∧ w = w'
theorem con_take (l : List Int) (x : Int) {j : Nat} (hj : j < l.length) : (l.take (j + 1)).contains x = ((l.take j).contains x || x == l[j]) := by
  rw [Bool.eq_iff_iff, Bool.or_eq_true, beq_iff_eq, List.contains_iff_mem, List.contains_iff_mem, List.take_succ_eq_append_getElem hj, List.mem_append, List.mem_singleton]
set_option maxRecDepth 100000 in
theorem index_int (F : Nat → Prop) (A : Option Addr) (c : Nat) (l : List Int) (x : Int) (w : World) (hl : SlA (intE .i64) F w A c l) :
    Calls Tryz.prog 103 #[.slice A l.length c, .int .i64 x] w (IdxPost l x w) := by
  have HL := Lib.hid hl
  have hle := hl.le
  clear hl
  go_enter Tryz.func103, Tryz.ntmps103
  go_wp2_with fail
  go_loop [8] (fun jv => ∃ j : Nat, j ≤ l.length ∧ jv = .int .i64 j ∧ Hid ((l.take j).contains x = false)) (fun jv => l.length - (intOf jv).toNat)
  case atStart => exact ⟨0, Nat.zero_le _, rfl, rfl⟩
  case round =>
    obtain ⟨j, hj, rfl, HJ⟩ := hrel
    by_cases hlt : j < l.length
    · obtain ⟨b, off, rfl, _, hc, _⟩ := HL.out.int_ hlt
      have HT := Lib.hid (con_take l x hlt)
      have HM := Lib.hid (List.getElem_mem hlt)
      generalize l[j] = y at hc HT HM
      cases hxy : (x == y) with
      | true =>
        have HC : Hid (l.contains x = true) := by
          show _ = _
          rw [List.contains_iff_mem, beq_iff_eq.1 hxy]; exact HM.out
        go_wp2_with fail
        go_ret
        exact ⟨j, rfl, by rw [HC.out]; exact decide_eq_true (by omega), rfl⟩
      | false =>
        have HJ2 : Hid ((l.take (j + 1)).contains x = false) := by show _ = _; rw [HT.out, HJ.out, hxy]; rfl
        clear HT HM HJ
        go_wp2_with fail
        go_round
        case rel => exact ⟨j + 1, by omega, by go_num, HJ2⟩
        case measure => simp [intOf]; omega
    · have dj : decide (j < l.length) = false := decide_eq_false hlt
      have HC : Hid (l.contains x = false) := by
        have h := HJ.out
        rw [List.take_of_length_le (by omega)] at h
        exact h
      clear hj hlt HJ
      go_wp2_with fail
      go_ret
      exact ⟨-1, rfl, by rw [HC.out]; rfl, rfl⟩
set_option maxRecDepth 100000 in
theorem contains_int (F : Nat → Prop) (A : Option Addr) (c : Nat) (l : List Int) (x : Int) (w : World) (hl : SlA (intE .i64) F w A c l) :
    Calls Tryz.prog 66 #[.slice A l.length c, .int .i64 x] w fun e w' => e = .returned (.bool (l.contains x)) ∧ w = w' := by
  have HI := Lib.hid (index_int F A c l x w hl)
  clear hl
  go_enter Tryz.func66, Tryz.ntmps66
  go_wp2_with fail
  refine HI.out.mono ?_
  rintro e w2 ⟨j, rfl, hj, rfl⟩
  have HJ := Lib.hid hj
  clear hj HI
  go_wp2_with fail
  go_ret
  exact ⟨by rw [← HJ.out]; rfl, rfl⟩
theorem info_ints : (Tryz.prog.info? 38).map (fun i => (i.zero, i.size, i.bytes)) = some (some (.slice none 0 0), 1, 24) := by kernel_rfl
theorem upk_same {rows : List (List Int)} {i : Nat} {fs : List Int} {k : Nat} (hk : k < fs.length) (h : (fs.take k).contains fs[k] = true) : upk rows i fs (k + 1) = upk rows i fs k := by
  conv => lhs; unfold upk
  rw [List.getElem?_eq_getElem hk]
  simp only
  rw [if_pos h]
theorem upk_add {rows : List (List Int)} {i : Nat} {fs : List Int} {k fn : Nat} {r : List Int} (hk : k < fs.length) (h : (fs.take k).contains fs[k] = false) (hfn : fs[k] = fn) (hr : (upk rows i fs k)[fn]? = some r) : upk rows i fs (k + 1) = (upk rows i fs k).set fn (r ++ [(i : Int)]) := by
  conv => lhs; unfold upk
  rw [List.getElem?_eq_getElem hk]
  simp only
  rw [if_neg (by rw [h]; decide), hfn, Int.toNat_natCast]
  apply List.ext_getElem?
  intro j
  rw [List.getElem?_modify, List.getElem?_set]
  by_cases hj : fn = j
  · subst hj
    have hlt : fn < (upk rows i fs k).length := by
      rcases Nat.lt_or_ge fn (upk rows i fs k).length with h | h
      · exact h
      · rw [List.getElem?_eq_none h] at hr; cases hr
    rw [hr, if_pos rfl, if_pos hlt]
    simp
  · rw [if_neg hj]
    cases (upk rows i fs k)[j]? with
    | none => rfl
    | some x => show some ((fun a => if fn = j then a ++ [(i : Int)] else a) x) = _; simp [hj]
def rowsV (rows : List (List Int)) : List (List Value) := rows.map fun r => r.flatMap fun n => [Value.int .i64 n]
def UsesPost (l : List Nod) (w : World) (e : Ending) (w' : World) : Prop :=
  (jobErr l = 0 → ∃ A c, e = .returned (.tuple #[.slice A l.length c, .nilIface]) ∧ SlA (slE (intE .i64)) (· < w'.heap.size) w' A c (usesAll l)) ∧ (jobErr l ≠ 0 → e = .returned (.tuple #[.slice none 0 0, errV (jobErr l)])) ∧ Below w.heap.size w w'
set_option maxRecDepth 100000 in
set_option maxHeartbeats 2000000 in
theorem uses_ok (F : Nat → Prop) (A : Option Addr) (c : Nat) (l : List Nod) (w : World) (hl : SlA nodE F w A c l) (hF : ∀ k, F k → k < w.heap.size) (hv : ErrVars w) :
    Calls Tryz.prog 27 #[.slice A l.length c] w (UsesPost l w) := by
  have HL := Lib.hid hl
  have hle := hl.le
  have HC := Lib.hid (jcheck_ok F A c l w hl hF hv)
  clear hl hv
  by_cases h0 : jobErr l = 0
  · rw [h0] at HC
    have H0 := Lib.hid h0
    have hl12 := (job_parts h0).1
    have HPOS := Lib.hid (job_from_pos h0)
    clear h0
    have hmk : ∀ u : World, (Instr.makeSlice 59 (.int .i64 (l.length : Int)) (.int .i64 (l.length : Int))).run Tryz.prog u = .ok (.slice (some ⟨u.heap.size, 0, none⟩) l.length l.length) (u.alloc (.cells (madeCells #[.slice none 0 0] l.length) 38)) := fun u =>
      run_make_row' (P := Tryz.prog) 59 38 (.slice none 0 0) 24 Tryz.underlying59 info_ints rfl .i64 .i64 l.length (by omega) (by omega) u
    go_enter Tryz.func27, Tryz.ntmps27
    go_wp2_with fail
    refine HC.out.mono ?_
    rintro e w2 ⟨rfl, hb2⟩
    rw [show errJ 0 = .nilIface from rfl]
    have HB2 := Lib.hid hb2
    have HL2 := Lib.hid (HL.out.keep (fun i hi => hb2.block i (hF i hi)))
    have hF2 : Hid (∀ i, F i → i < w2.heap.size) := fun i hi => Nat.lt_of_lt_of_le (hF i hi) hb2.size
    clear hb2 HL HC
    go_wp2_with fail
    clear hmk
    go_loopw [20] (fun iv wr => ∃ (i : Nat) (vs : List Value), i ≤ l.length ∧ iv = .int .i64 i ∧ Hid (Nest wr w2.heap.size w2.heap.size 38 3 1 vs (rowsV (upn l i)) ((upn l i).map (·.length))) ∧ Hid (Below w2.heap.size w2 wr)) (fun iv _ => l.length - (intOf iv).toNat)
    case atStart =>
      refine ⟨0, List.replicate l.length (.slice none 0 0), Nat.zero_le _, rfl, ?_, (Below.refl _ _).alloc (Nat.le_refl _) _⟩
      have := Nest.made w2 w2.heap.size 38 3 1 l.length (Nat.le_refl _) (by decide)
      show Nest _ _ _ _ _ _ _ _ _
      simpa [upn, rowsV] using this
    case round =>
      obtain ⟨i, vs, hi, rfl, HN, HB⟩ := hrel
      by_cases hlt : i < l.length
      · obtain ⟨b, off, A', c', rfl, hFb, x0, x1, x2, x3, htm, hki, hni, hfr⟩ := (HL2.out.keep (fun j hj => HB.out.block j (hF2.out j hj))).nod_ hlt
        have HFB := Lib.hid (job_from H0.out hlt)
        have HUN : Hid (upn l (i + 1) = upk (upn l i) i l[i].from_ l[i].from_.length) := by show _ = _; conv => lhs; unfold upn; rw [List.getElem?_eq_getElem hlt]
        clear hki hni hFb htm
        generalize l[i] = nd at x0 x1 x2 x3 HFB HUN hfr
        obtain ⟨kind, from_, text, nn⟩ := nd
        simp only at x0 x1 x2 x3 HFB HUN hfr
        have HFR := Lib.hid hfr
        have hfl := hfr.le
        clear hfr
        obtain ⟨W3, hW3⟩ : ∃ W3, W3 = wr.alloc (.cells #[.int .i64 kind, .slice A' from_.length c', .string text, .int .i64 nn] 40) := ⟨_, rfl⟩
        have hv3 : W3.heap[wr.heap.size]? = some (.cells #[.int .i64 kind, .slice A' from_.length c', .string text, .int .i64 nn] 40 (0, 0)) := by rw [hW3]; exact heap_alloc_new _ _
        have HB3 : Hid (Below w2.heap.size w2 W3) := by rw [hW3]; exact HB.out.alloc HB.out.size _
        have HN3 : Hid (Nest W3 w2.heap.size w2.heap.size 38 3 1 vs (rowsV (upn l i)) ((upn l i).map (·.length))) := by rw [hW3]; exact HN.out.alloc _
        have y1 : W3.cell? ⟨wr.heap.size, 1, none⟩ = some (.slice A' from_.length c') := (cell_of_row W3 _ 1 _ _ _ hv3).trans rfl
        have HFR2 : Hid (SlA (intE .i64) F w2 A' c' from_) := HFR.out.keep (fun j hj => (HB.out.block j (hF2.out j hj)).symm)
        have HV3 := Lib.hid hv3
        have hvb : wr.heap.size < W3.heap.size := block_lt hv3
        clear hv3 HB HN HFR
        go_upto_region 8 with (fail)
        rw [← hW3]
        clear hW3 x0 x1 x2 x3
        generalize wr.heap.size = vb at HV3 y1 hvb ⊢
        go_wp2_with fail
        go_loopw [28] (fun kv wx => ∃ (k : Nat) (vs : List Value), k ≤ from_.length ∧ kv = .int .i64 k ∧ Hid (Nest wx w2.heap.size w2.heap.size 38 3 1 vs (rowsV (upk (upn l i) i from_ k)) ((upk (upn l i) i from_ k).map (·.length))) ∧ Hid (wx.heap[vb]? = some (.cells #[.int .i64 kind, .slice A' from_.length c', .string text, .int .i64 nn] 40 (0, 0))) ∧ Hid (Below w2.heap.size w2 wx)) (fun kv _ => from_.length - (intOf kv).toNat)
        case atStart => exact ⟨0, vs, Nat.zero_le _, rfl, HN3, HV3, HB3⟩
        case round =>
          clear HN3 HV3 HB3 y1 hvb
          obtain ⟨k, vs2, hk, rfl, HNk, HVk, HBk⟩ := hrel
          have hvb := block_lt HVk.out
          have y1 : wr.cell? ⟨vb, 1, none⟩ = some (.slice A' from_.length c') := (cell_of_row wr _ 1 _ _ _ HVk.out).trans rfl
          by_cases hk2 : k < from_.length
          · have hfrw := HFR2.out.keep (w' := wr) (fun j hj => HBk.out.block j (hF2.out j hj))
            obtain ⟨bf, of_, rfl, _, hcf, _⟩ := hfrw.int_ hk2
            have hcap := hfrw.1
            have hlk : (from_.take k).length = k := by rw [List.length_take]; omega
            have HCI := Lib.hid (contains_int F (some ⟨bf, of_, none⟩) c' (from_.take k) from_[k] wr (hfrw.head (k := k) (by omega)))
            rw [hlk] at HCI
            obtain ⟨hf0, hfi⟩ := HFB.out from_[k] (List.getElem_mem hk2)
            have HSA := Lib.hid (fun h => upk_same (rows := upn l i) (i := i) hk2 h)
            have HAD := Lib.hid (fun (fn : Nat) (r : List Int) h h1 h2 => upk_add (rows := upn l i) (i := i) (fn := fn) (r := r) hk2 h h1 h2)
            clear hfrw hlk
            generalize from_[k] = f at hcf HCI hf0 hfi HSA HAD
            obtain ⟨fn, rfl⟩ : ∃ fn : Nat, f = fn := ⟨f.toNat, by omega⟩
            have hfn : fn < l.length := by omega
            cases hct : (from_.take k).contains (fn : Int) with
            | true =>
              rw [hct] at HCI
              have HS2 := Lib.hid (HSA.out hct)
              clear HSA HAD hct
              go_wp2_with fail
              refine HCI.out.mono ?_
              rintro e w4 ⟨rfl, rfl⟩
              go_wp2_with fail
              go_roundw
              case rel => exact ⟨k + 1, vs2, by omega, by go_num, by show Nest _ _ _ _ _ _ _ _ _; rw [HS2.out]; exact HNk.out, HVk, HBk⟩
              case measure => simp [intOf]; omega
            | false =>
              rw [hct] at HCI
              have hlenU : (upk (upn l i) i from_ k).length = l.length := by rw [upk_length, upn_length]
              have hlenv : vs2.length = l.length := by rw [HNk.out.len]; unfold rowsV; rw [List.length_map, hlenU]
              obtain ⟨v, hv⟩ : ∃ v, vs2[fn]? = some v := ⟨vs2[fn], List.getElem?_eq_getElem (by omega)⟩
              have hcv := HNk.out.cell fn
              rw [hv] at hcv
              have hfz := HNk.out.frozen fn
              obtain ⟨r, hr⟩ : ∃ r, (upk (upn l i) i from_ k)[fn]? = some r := ⟨_, List.getElem?_eq_getElem (by omega)⟩
              have hrl : r.length ≤ i + 1 := upk_rowlen (upn_rowlen HPOS.out (by omega)) (fun x hx => (HFB.out x hx).1) k hk r (List.mem_of_getElem? hr)
              have HSU := Lib.hid (HAD.out fn r hct rfl hr)
              have hown := HNk.out.own fn v (r.flatMap fun n => [Value.int .i64 n]) r.length hv (by unfold rowsV; rw [List.getElem?_map, hr]; rfl) (by rw [List.getElem?_map, hr]; rfl)
              have hvne : ∀ g, v.ownBlock = some g → vb ≠ g := fun g hg e => by
                rcases ownBlock_cases hown with h | ⟨g2, cur, h1, _, h2⟩
                · rw [h] at hg; cases hg
                · rw [h1] at hg; injection hg with hg; subst hg; subst e
                  rw [HVk.out] at h2; injection h2 with h2; injection h2 with _ h3; exact absurd h3 (by decide)
              have hvne2 : vb ≠ w2.heap.size := fun e => by
                have h1 := HNk.out.blk
                rw [← e, HVk.out] at h1; injection h1 with h1; injection h1 with _ h3; exact absurd h3 (by decide)
              have HO := Lib.hid hown
              have HV := Lib.hid hv
              have hgl := HNk.out.lt
              have HNE := Lib.hid hvne
              have HNE2 := Lib.hid hvne2
              clear hown hv hr hlenv hlenU HSA HAD hct hvne hvne2
              go_wp2_with fail
              refine HCI.out.mono ?_
              rintro e w4 ⟨rfl, rfl⟩
              go_wp2_with (at_builtin; refine wpList_push rfl _ _ 38 rfl w2.heap.size 3 (.int .i64 0) 1 8 Tryz.underlying38 info_int rfl (by decide) v r.length _ rfl HO.out [.int .i64 i] rfl rfl ?_ ?_ ?_ HBk.out.size HBk.out (Nat.le_refl _) ?_)
              · rintro u hu; simp at hu; subst hu; rfl
              · unfold maxLen; omega
              · omega
              · intro v' w8 hown8 hg8 hb8 hat8
                obtain ⟨hc8, hf8⟩ := HNk.out.after HV.out hg8 fn
                rw [HV.out] at hc8
                have hv8 : (w8.setCell ⟨w2.heap.size, fn, none⟩ v').heap[vb]? = some (.cells #[.int .i64 kind, .slice (some ⟨bf, of_, none⟩) from_.length c', .string text, .int .i64 nn] 40 (0, 0)) :=
                  (Below.heap_setCell _ _ _ _ (fun e => HNE2.out e)).trans ((hg8.block vb hvb (fun e => HNE.out vb e.symm rfl)).trans HVk.out)
                have hn8 : Nest (w8.setCell ⟨w2.heap.size, fn, none⟩ v') w2.heap.size w2.heap.size 38 3 1 (vs2.set fn v') (rowsV (upk (upn l i) i from_ (k + 1))) ((upk (upn l i) i from_ (k + 1)).map (·.length)) := by
                  have hp := HNk.out.push (w' := w8) HV.out hown8 hg8 (hat8.imp_right .inr)
                  rw [HSU.out]
                  unfold rowsV at hp ⊢
                  rw [List.map_set, List.map_set, List.flatMap_append, List.length_append]
                  exact hp
                have HV8 := Lib.hid hv8
                have HN8 := Lib.hid hn8
                have HB8 := Lib.hid (hb8.setCell (p := ⟨w2.heap.size, fn, none⟩) (Nat.le_refl _) v')
                obtain ⟨g', cap', rfl, _, _⟩ := hown8.form (by omega)
                clear hv8 hn8 hown8 hg8 hb8 hat8 HNE HNE2 HSU HV
                go_wp2_with fail
                refine ⟨⟨k + 1, _, by omega, by go_num, HN8, HV8, HB8⟩, ?_⟩
                simp [intOf]; omega
          · have dk : decide (k < from_.length) = false := decide_eq_false hk2
            have HN9 : Hid (Nest wr w2.heap.size w2.heap.size 38 3 1 vs2 (rowsV (upn l (i + 1))) ((upn l (i + 1)).map (·.length))) := by
              have e : k = from_.length := by omega
              show Nest _ _ _ _ _ _ _ _ _
              rw [HUN.out, ← e]; exact HNk.out
            clear HNk hk hk2
            go_wp2_with fail
            refine ⟨⟨i + 1, vs2, by omega, by go_num, HN9, HBk⟩, ?_⟩
            simp [intOf]; omega
      · have di : decide (i < l.length) = false := decide_eq_false hlt
        have hie : i = l.length := by omega
        rw [hie, upn_all l HPOS.out] at HN
        have hlenU : (usesAll l).length = l.length := by unfold usesAll; simp
        have hmem : ∀ r ∈ usesAll l, ∀ x ∈ r, 0 ≤ x ∧ x < l.length := by rw [← upn_all l HPOS.out]; exact upn_mem (Nat.le_refl _)
        have hrow := HN.out.sl (E := intE .i64) (ls := usesAll l) (cap := l.length) (fun n => [Value.int .i64 n]) (fun _ => rfl) (by decide) (fun r hr x hx F u => ⟨rfl, WalkArith.wf_i64 (by have := hmem r hr x hx; omega)⟩) (by omega) (by unfold maxLen; omega)
        have HR := Lib.hid hrow
        have HB9 := Lib.hid (HB2.out.trans (HB.out.mono HB2.out.size))
        clear hrow hlenU hmem HN hie hi hlt
        go_wp2_with fail
        go_ret2
        exact ⟨fun _ => ⟨_, _, rfl, HR.out⟩, fun h => absurd H0.out h, HB9.out⟩
  · have H0 := Lib.hid h0
    rw [show errJ (jobErr l) = errV (jobErr l) from by unfold errJ; rw [if_neg h0]] at HC
    obtain ⟨je, hje⟩ : ∃ je, je = jobErr l := ⟨_, rfl⟩
    have HJE := Lib.hid hje
    rw [← hje] at HC
    clear h0 hje
    go_enter Tryz.func27, Tryz.ntmps27
    go_wp2_with fail
    refine HC.out.mono ?_
    rintro e w2 ⟨rfl, hb2⟩
    have HB2 := Lib.hid hb2
    clear hb2
    unfold errV
    go_wp2_with fail
    go_ret2
    exact ⟨fun h => absurd h H0.out, fun _ => by rw [← HJE.out]; rfl, HB2.out⟩
end Go.Proofs.YtfndhfekbbbliaaGreatDoor

/-
  Package den: the contract of Apply's pass. Conditions: the record's numbers are ints.
-/
namespace Go.Proofs.YtfndhfekbbbliaaGreatDoor
open Go.RowKit Go.Shelf
set_option linter.unusedVariables false

def recV (r : Rec) : Value := .agg #[.string r.key, .int .i64 r.num, .int .i64 r.time]
def recCells (r : Rec) : List Value := [.string r.key, .int .i64 r.num, .int .i64 r.time]
def RecOk (r : Rec) : Prop := r.key.size ≤ maxLen ∧ I64 r.num ∧ I64 r.time
theorem own_recs {w : World} {e : TypeId} {A : Option Addr} {cap n : Nat} {l : List Rec} (h : OwnS w e 3 A cap n (l.flatMap recCells)) (hn : n = l.length) {F : Nat → Prop} (hF : ∀ k, blk A = some k → F k) (hR : ∀ r ∈ l, RecOk r) : SlA recE F w A cap l :=
  OwnS.sl (E := recE) recCells (fun _ => rfl) h hn hF (fun x hx => ⟨rfl, hR x hx⟩)
theorem src_recs {P : Program} {F : Nat → Prop} {w : World} {A : Option Addr} {c : Nat} {l : List Rec} {tx e' : TypeId} (h : SlA recE F w A c l) (hk : P.underlying tx = some (.slice e')) : Src P 3 tx (.slice A l.length c) l.length (l.flatMap recCells) w :=
  Src.of_sl (P := P) (E := recE) h hk recCells (fun cs x hx => hx.1) (fun _ => rfl) (fun x u hu => by
    unfold recCells at hu
    simp only [List.mem_cons, List.not_mem_nil, or_false] at hu
    rcases hu with rfl | rfl | rfl <;> rfl)
def PassPost (r : Rec) (w : World) (e : Ending) (w' : World) : Prop := ∃ A c, e = .returned (.slice A (passR r).length c) ∧ OwnS w' 44 3 A c (passR r).length ((passR r).flatMap recCells) ∧ (∀ k, blk A = some k → w.heap.size ≤ k) ∧ Below w.heap.size w w'
set_option maxRecDepth 100000 in
theorem dpass_ok (r : Rec) (w : World) (hk : r.key.size ≤ maxLen) : Calls Tryz.prog 52 #[.agg #[.string r.key, .int .i64 r.num, .int .i64 r.time]] w (PassPost r w) := by
  obtain ⟨key, num, time⟩ := r
  simp only at hk ⊢
  unfold maxLen at hk
  by_cases h : 40 < key.size
  · have d1 : decide (40 < key.size) = true := decide_eq_true h
    have HP : Hid (passR ⟨key, num, time⟩ = []) := by show _ = _; unfold passR; rw [if_pos h]
    go_enter Tryz.func52, Tryz.ntmps52
    go_wp2_with fail
    go_ret
    exact ⟨none, 0, by rw [HP.out]; rfl, by rw [HP.out]; exact OwnS.nil _ _ _, nofun, (Below.refl _ _).alloc (Nat.le_refl _) _⟩
  · have d1 : decide (40 < key.size) = false := decide_eq_false h
    have HP : Hid (passR ⟨key, num, time⟩ = [⟨key, num, time⟩]) := by show _ = _; unfold passR; rw [if_neg h]
    go_enter Tryz.func52, Tryz.ntmps52
    go_wp2_with fail
    go_ret
    have ho : OwnS ((w.alloc (.cells #[.string key, .int .i64 num, .int .i64 time] 44)).alloc (.cells #[.string key, .int .i64 num, .int .i64 time] 44)) 44 3 (some ⟨w.heap.size + 1, 0, none⟩) 1 1 ([(⟨key, num, time⟩ : Rec)].flatMap recCells) :=
      ⟨rfl, Nat.le_refl _, by unfold maxLen; omega, .inr ⟨w.heap.size + 1, 0, _, rfl, by rw [← show (w.alloc (.cells #[.string key, .int .i64 num, .int .i64 time] 44)).heap.size = w.heap.size + 1 from by simp]; exact heap_alloc_new _ _, by simp, fun j u hj => by rw [Nat.zero_add]; simpa [recCells] using hj⟩⟩
    exact ⟨_, _, by rw [HP.out]; rfl, by rw [HP.out]; exact ho, fun k e => by simp [blk] at e; omega, ((Below.refl _ _).alloc (Nat.le_refl _) _).alloc (by simp) _⟩
end Go.Proofs.YtfndhfekbbbliaaGreatDoor

/-
  Package expr: the texts that the laws put together, as lists of bytes; how an error tells a tree. No condition: plain lemmas.
-/
namespace Go.Proofs.YtfndhfekbbbliaaGreatDoor
open Go.RowKit Go.Shelf
set_option linter.unusedVariables false

theorem i64_of_wf {n : Int} (h : (Lit.int .i64 n).wf = true) : I64_ n := by
  have := bounds_i64 h
  unfold I64_; omega
theorem ba_mk (x : Array UInt8) : (ByteArray.mk x).size = x.size := rfl
theorem join_list (op : UInt8) (a b : ByteArray) : ((⟨#[40]⟩ : ByteArray) ++ a ++ ⟨#[41, op, 40]⟩ ++ b ++ ⟨#[41]⟩).data.toList = joinB op a.data.toList b.data.toList := by simp [joinB, ByteArray.data_append]
theorem min_list (x y : UInt8) (a b : ByteArray) : ((⟨#[109, x, y, 40]⟩ : ByteArray) ++ a ++ ⟨#[44]⟩ ++ b ++ ⟨#[41]⟩).data.toList = minB x y a.data.toList b.data.toList := by simp [minB, ByteArray.data_append]
theorem sel_list (a b c : ByteArray) : ((⟨#[40]⟩ : ByteArray) ++ a ++ ⟨#[41, 63, 40]⟩ ++ b ++ ⟨#[41, 58, 40]⟩ ++ c ++ ⟨#[41]⟩).data.toList = selB a.data.toList b.data.toList c.data.toList := by simp [selB, ByteArray.data_append]
theorem err_cases (P : Parsed) : (errOf P = .nilIface ∧ ∃ t, P = .tree t) ∨ (∃ k j, P = .fault k j ∧ errOf P = errV j) := by
  cases P with
  | tree t => exact .inl ⟨rfl, t, rfl⟩
  | fault k j => exact .inr ⟨k, j, rfl, rfl⟩
/-- What Eval returns, whatever the text. -/
def valOf (n s : Int) : Parsed → Int
  | .tree t => t.val n s
  | .fault _ _ => 0
theorem eval_ok_any (x : ByteArray) (n s : Int) (w : World) (hv : ErrVars w) (hsz : x.size ≤ maxLen) (hn : I64_ n) (hs : I64_ s) :
    Calls Tryz.prog 15 #[.string x, .int .i64 n, .int .i64 s] w fun e w' => e = .returned (.tuple #[.int .i64 (valOf n s (parseT x.data.toList)), errOf (parseT x.data.toList)]) ∧ Below w.heap.size w w' := by
  cases h : parseT x.data.toList with
  | tree t => exact eval_tree x n s w hv hsz hn hs h
  | fault k j => exact eval_fault x n s w hv hsz h
end Go.Proofs.YtfndhfekbbbliaaGreatDoor

/-
  strconv.Itoa at any int. Conditions: the table of powers of ten stands.
-/
namespace Go.Proofs.YtfndhfekbbbliaaGreatDoor
open Go.RowKit Go.Shelf
set_option linter.unusedVariables false

def PowTab (w : World) : Prop := Lib.TabIs Tryz.prog w "internal/strconv.uint64pow10" .u64 Lib.pow10Tab
theorem PowTab.below {w w' : World} (h : PowTab w) (hb : Below w.heap.size w w') : PowTab w' := by
  obtain ⟨g, hg⟩ := Option.isSome_iff_exists.1 (show (Tryz.prog.globalNamed "internal/strconv.uint64pow10").isSome = true by kernel_rfl)
  exact Go.Joins.tab_stays hg h hb (Nat.le_refl _)
theorem itoa_ok (n : Int) (w : World) (hn : I64_ n) (hT : PowTab w) : Calls Tryz.prog 53 #[.int .i64 n] w fun e w' => e = .returned (.string ⟨(Lib.itoa n).toArray⟩) ∧ Below w.heap.size w w' := by
  refine (Any.strconv_Itoa Tryz.itoa n hn.1 hn.2 w hT).mono ?_
  rintro e w' ⟨he, k, os, rfl⟩
  exact ⟨he, Go.Lib.below_grow _ w (Nat.le_refl _) k os⟩
end Go.Proofs.YtfndhfekbbbliaaGreatDoor

/-
  Package den: Apply's four variables, as the arms write them. No condition: definitions and lemmas.
-/
namespace Go.Proofs.YtfndhfekbbbliaaGreatDoor
open Go.RowKit Go.Shelf
set_option linter.unusedVariables false

def hldV (h : Hld) : Value := .agg #[.int .i64 h.node, .string h.key, .int .i64 h.a, .int .i64 h.b]
/-- What Apply returns. -/
def AppPost (d : Did) (w : World) (e : Ending) (w' : World) : Prop := ∃ A c, e = .returned (.tuple #[.slice A d.out.length c, hldV d.held, .bool d.has]) ∧ OwnS w' 44 3 A c d.out.length (d.out.flatMap recCells) ∧ (∀ k, blk A = some k → w.heap.size ≤ k) ∧ Below w.heap.size w w'
theorem evalOf_val (s : ByteArray) (n st : Int) : evalOf s n st = valOf n st (parseT s.data.toList) := by
  unfold evalOf valOf
  cases parseT s.data.toList <;> rfl
def HVar (w : World) (k : Nat) (n : Int) (key : ByteArray) (a b : Int) : Prop := w.heap[k]? = some (.cells #[.int .i64 n, .string key, .int .i64 a, .int .i64 b] 42 (0, 0))
def RVar (w : World) (k : Nat) (key : ByteArray) (n t : Int) : Prop := w.heap[k]? = some (.cells #[.string key, .int .i64 n, .int .i64 t] 44 (0, 0))
theorem HVar.cells {w : World} {k : Nat} {n : Int} {key : ByteArray} {a b : Int} (h : HVar w k n key a b) : w.cell? ⟨k, 0, none⟩ = some (.int .i64 n) ∧ w.cell? ⟨k, 1, none⟩ = some (.string key) ∧ w.cell? ⟨k, 2, none⟩ = some (.int .i64 a) ∧ w.cell? ⟨k, 3, none⟩ = some (.int .i64 b) ∧ (∀ i, w.frozen? ⟨k, i, none⟩ = false) :=
  ⟨(cell_of_row w k 0 _ _ _ h).trans rfl, (cell_of_row w k 1 _ _ _ h).trans rfl, (cell_of_row w k 2 _ _ _ h).trans rfl, (cell_of_row w k 3 _ _ _ h).trans rfl, fun i => by simp [World.frozen?, HVar] at h ⊢; simp [h]⟩
theorem RVar.cells {w : World} {k : Nat} {key : ByteArray} {n t : Int} (h : RVar w k key n t) : w.cell? ⟨k, 0, none⟩ = some (.string key) ∧ w.cell? ⟨k, 1, none⟩ = some (.int .i64 n) ∧ w.cell? ⟨k, 2, none⟩ = some (.int .i64 t) ∧ (∀ i, w.frozen? ⟨k, i, none⟩ = false) :=
  ⟨(cell_of_row w k 0 _ _ _ h).trans rfl, (cell_of_row w k 1 _ _ _ h).trans rfl, (cell_of_row w k 2 _ _ _ h).trans rfl, fun i => by simp [World.frozen?, RVar] at h ⊢; simp [h]⟩

theorem HVar.keep {w w' : World} {k : Nat} {n : Int} {key : ByteArray} {a b : Int} (h : HVar w k n key a b) (e : w'.heap[k]? = w.heap[k]?) : HVar w' k n key a b := e.trans h
theorem RVar.keep {w w' : World} {k : Nat} {key : ByteArray} {n t : Int} (h : RVar w k key n t) (e : w'.heap[k]? = w.heap[k]?) : RVar w' k key n t := e.trans h
theorem RVar.num {w : World} {k : Nat} {key : ByteArray} {n t : Int} (h : RVar w k key n t) (x : Int) : RVar (w.setCell ⟨k, 1, none⟩ (.int .i64 x)) k key x t := by
  unfold RVar at h ⊢
  simp [World.setCell, Array.getElem?_modify, h]
theorem RVar.key {w : World} {k : Nat} {key : ByteArray} {n t : Int} (h : RVar w k key n t) (x : ByteArray) : RVar (w.setCell ⟨k, 0, none⟩ (.string x)) k x n t := by
  unfold RVar at h ⊢
  simp [World.setCell, Array.getElem?_modify, h]
/-- What stands when Apply's arms begin: the four variables. -/
structure Vars (w W : World) (b0 : Nat) (n0 n1 n2 n3 : Value) (b1 b2 b3 : Nat) (h : Hld) (r : Rec) : Prop where
  lt0 : b0 < W.heap.size
  h0 : W.heap[b0]? = some (.cells #[n0, n1, n2, n3] 40 (0, 0))
  lt1 : b1 < W.heap.size
  lt2 : b2 < W.heap.size
  lt3 : b3 < W.heap.size
  ge1 : w.heap.size ≤ b1
  ge2 : w.heap.size ≤ b2
  ge3 : w.heap.size ≤ b3
  h1 : HVar W b1 h.node h.key h.a h.b
  h2 : RVar W b2 r.key r.num r.time
  h3 : ∃ n k a b, HVar W b3 n k a b
  below : Below w.heap.size w W
  ne : b0 ≠ b1 ∧ b0 ≠ b2 ∧ b0 ≠ b3 ∧ b1 ≠ b2 ∧ b1 ≠ b3 ∧ b2 ≠ b3
theorem Vars.mk_ (w : World) (n0 n1 n2 n3 : Value) (h : Hld) (r : Rec) :
    Vars w (((((w.alloc (.cells #[n0, n1, n2, n3] 40)).alloc (.cells #[.int .i64 h.node, .string h.key, .int .i64 h.a, .int .i64 h.b] 42)).alloc (.cells #[.string r.key, .int .i64 r.num, .int .i64 r.time] 44)).alloc (.cells #[.int .i64 0, .string { data := #[] }, .int .i64 0, .int .i64 0] 42)).drew) w.heap.size n0 n1 n2 n3 (w.heap.size + 1) (w.heap.size + 1 + 1) (w.heap.size + 1 + 1 + 1) h r := by
  refine ⟨by simp; omega, ?_, by simp, by simp, by simp, by omega, by omega, by omega, ?_, ?_, ⟨0, ⟨#[]⟩, 0, 0, ?_⟩, ?_, by omega⟩
  · exact (heap_alloc_old _ _ (by simp; omega)).trans ((heap_alloc_old _ _ (by simp; omega)).trans ((heap_alloc_old _ _ (by simp)).trans (heap_alloc_new _ _)))
  · unfold HVar
    refine (heap_alloc_old _ _ (by simp)).trans ((heap_alloc_old _ _ (by simp)).trans ?_)
    rw [← show (w.alloc (.cells #[n0, n1, n2, n3] 40)).heap.size = w.heap.size + 1 from by simp]
    exact heap_alloc_new _ _
  · unfold RVar
    refine (heap_alloc_old _ _ (by simp)).trans ?_
    rw [← show ((w.alloc (.cells #[n0, n1, n2, n3] 40)).alloc (.cells #[.int .i64 h.node, .string h.key, .int .i64 h.a, .int .i64 h.b] 42)).heap.size = w.heap.size + 1 + 1 from by simp]
    exact heap_alloc_new _ _
  · unfold HVar
    rw [← show (((w.alloc (.cells #[n0, n1, n2, n3] 40)).alloc (.cells #[.int .i64 h.node, .string h.key, .int .i64 h.a, .int .i64 h.b] 42)).alloc (.cells #[.string r.key, .int .i64 r.num, .int .i64 r.time] 44)).heap.size = w.heap.size + 1 + 1 + 1 from by simp]
    exact heap_alloc_new _ _
  · exact ((((Below.refl _ _).alloc (Nat.le_refl _) _).alloc (by simp) _).alloc (by simp; omega) _).alloc (by simp; omega) _ |>.drew
theorem Vars.next {w W W' : World} {b0 : Nat} {n0 n1 n2 n3 : Value} {b1 b2 b3 : Nat} {h : Hld} {r : Rec} (v : Vars w W b0 n0 n1 n2 n3 b1 b2 b3 h r) (hb : Below W.heap.size W W') : Vars w W' b0 n0 n1 n2 n3 b1 b2 b3 h r :=
  ⟨by have := hb.size; have := v.lt0; omega, (hb.block _ v.lt0).trans v.h0, by have := hb.size; have := v.lt1; omega, by have := hb.size; have := v.lt2; omega, by have := hb.size; have := v.lt3; omega, v.ge1, v.ge2, v.ge3, v.h1.keep (hb.block _ v.lt1), v.h2.keep (hb.block _ v.lt2),
   by obtain ⟨n, k, a, b, h3⟩ := v.h3; exact ⟨n, k, a, b, h3.keep (hb.block _ v.lt3)⟩, v.below.trans (hb.mono v.below.size), v.ne⟩
theorem HVar.a {w : World} {k : Nat} {n : Int} {key : ByteArray} {a b : Int} (h : HVar w k n key a b) (x : Int) : HVar (w.setCell ⟨k, 2, none⟩ (.int .i64 x)) k n key x b := by
  unfold HVar at h ⊢
  simp [World.setCell, Array.getElem?_modify, h]
theorem HVar.b {w : World} {k : Nat} {n : Int} {key : ByteArray} {a b : Int} (h : HVar w k n key a b) (x : Int) : HVar (w.setCell ⟨k, 3, none⟩ (.int .i64 x)) k n key a x := by
  unfold HVar at h ⊢
  simp [World.setCell, Array.getElem?_modify, h]
theorem HVar.node {w : World} {k : Nat} {n : Int} {key : ByteArray} {a b : Int} (h : HVar w k n key a b) (x : Int) : HVar (w.setCell ⟨k, 0, none⟩ (.int .i64 x)) k x key a b := by
  unfold HVar at h ⊢
  simp [World.setCell, Array.getElem?_modify, h]
theorem HVar.hkey {w : World} {k : Nat} {n : Int} {key : ByteArray} {a b : Int} (h : HVar w k n key a b) (x : ByteArray) : HVar (w.setCell ⟨k, 1, none⟩ (.string x)) k n x a b := by
  unfold HVar at h ⊢
  simp [World.setCell, Array.getElem?_modify, h]
theorem Vars.num {w W : World} {b0 : Nat} {n0 n1 n2 n3 : Value} {b1 b2 b3 : Nat} {h : Hld} {r : Rec} (v : Vars w W b0 n0 n1 n2 n3 b1 b2 b3 h r) (x : Int) : Vars w (W.setCell ⟨b2, 1, none⟩ (.int .i64 x)) b0 n0 n1 n2 n3 b1 b2 b3 h { r with num := x } :=
  ⟨by simpa using v.lt0, (Below.heap_setCell _ _ _ _ (by simpa using v.ne.2.1)).trans v.h0, by simpa using v.lt1, by simpa using v.lt2, by simpa using v.lt3, v.ge1, v.ge2, v.ge3, v.h1.keep (Below.heap_setCell _ _ _ _ (by simpa using v.ne.2.2.2.1)), v.h2.num x,
   by obtain ⟨n, k, a, b, h3⟩ := v.h3; exact ⟨n, k, a, b, h3.keep (Below.heap_setCell _ _ _ _ (by simpa using v.ne.2.2.2.2.2.symm))⟩, v.below.setCell (p := ⟨b2, 1, none⟩) v.ge2 _, v.ne⟩
theorem Vars.key {w W : World} {b0 : Nat} {n0 n1 n2 n3 : Value} {b1 b2 b3 : Nat} {h : Hld} {r : Rec} (v : Vars w W b0 n0 n1 n2 n3 b1 b2 b3 h r) (x : ByteArray) : Vars w (W.setCell ⟨b2, 0, none⟩ (.string x)) b0 n0 n1 n2 n3 b1 b2 b3 h { r with key := x } :=
  ⟨by simpa using v.lt0, (Below.heap_setCell _ _ _ _ (by simpa using v.ne.2.1)).trans v.h0, by simpa using v.lt1, by simpa using v.lt2, by simpa using v.lt3, v.ge1, v.ge2, v.ge3, v.h1.keep (Below.heap_setCell _ _ _ _ (by simpa using v.ne.2.2.2.1)), v.h2.key x,
   by obtain ⟨n, k, a, b, h3⟩ := v.h3; exact ⟨n, k, a, b, h3.keep (Below.heap_setCell _ _ _ _ (by simpa using v.ne.2.2.2.2.2.symm))⟩, v.below.setCell (p := ⟨b2, 0, none⟩) v.ge2 _, v.ne⟩
theorem Vars.a {w W : World} {b0 : Nat} {n0 n1 n2 n3 : Value} {b1 b2 b3 : Nat} {h : Hld} {r : Rec} (v : Vars w W b0 n0 n1 n2 n3 b1 b2 b3 h r) (x : Int) : Vars w (W.setCell ⟨b1, 2, none⟩ (.int .i64 x)) b0 n0 n1 n2 n3 b1 b2 b3 { h with a := x } r :=
  ⟨by simpa using v.lt0, (Below.heap_setCell _ _ _ _ (by simpa using v.ne.1)).trans v.h0, by simpa using v.lt1, by simpa using v.lt2, by simpa using v.lt3, v.ge1, v.ge2, v.ge3, v.h1.a x, v.h2.keep (Below.heap_setCell _ _ _ _ (by simpa using v.ne.2.2.2.1.symm)),
   by obtain ⟨n, k, a, b, h3⟩ := v.h3; exact ⟨n, k, a, b, h3.keep (Below.heap_setCell _ _ _ _ (by simpa using v.ne.2.2.2.2.1.symm))⟩, v.below.setCell (p := ⟨b1, 2, none⟩) v.ge1 _, v.ne⟩
theorem Vars.b {w W : World} {b0 : Nat} {n0 n1 n2 n3 : Value} {b1 b2 b3 : Nat} {h : Hld} {r : Rec} (v : Vars w W b0 n0 n1 n2 n3 b1 b2 b3 h r) (x : Int) : Vars w (W.setCell ⟨b1, 3, none⟩ (.int .i64 x)) b0 n0 n1 n2 n3 b1 b2 b3 { h with b := x } r :=
  ⟨by simpa using v.lt0, (Below.heap_setCell _ _ _ _ (by simpa using v.ne.1)).trans v.h0, by simpa using v.lt1, by simpa using v.lt2, by simpa using v.lt3, v.ge1, v.ge2, v.ge3, v.h1.b x, v.h2.keep (Below.heap_setCell _ _ _ _ (by simpa using v.ne.2.2.2.1.symm)),
   by obtain ⟨n, k, a, b, h3⟩ := v.h3; exact ⟨n, k, a, b, h3.keep (Below.heap_setCell _ _ _ _ (by simpa using v.ne.2.2.2.2.1.symm))⟩, v.below.setCell (p := ⟨b1, 3, none⟩) v.ge1 _, v.ne⟩
theorem Vars.node {w W : World} {b0 : Nat} {n0 n1 n2 n3 : Value} {b1 b2 b3 : Nat} {h : Hld} {r : Rec} (v : Vars w W b0 n0 n1 n2 n3 b1 b2 b3 h r) (x : Int) : Vars w (W.setCell ⟨b1, 0, none⟩ (.int .i64 x)) b0 n0 n1 n2 n3 b1 b2 b3 { h with node := x } r :=
  ⟨by simpa using v.lt0, (Below.heap_setCell _ _ _ _ (by simpa using v.ne.1)).trans v.h0, by simpa using v.lt1, by simpa using v.lt2, by simpa using v.lt3, v.ge1, v.ge2, v.ge3, v.h1.node x, v.h2.keep (Below.heap_setCell _ _ _ _ (by simpa using v.ne.2.2.2.1.symm)),
   by obtain ⟨n, k, a, b, h3⟩ := v.h3; exact ⟨n, k, a, b, h3.keep (Below.heap_setCell _ _ _ _ (by simpa using v.ne.2.2.2.2.1.symm))⟩, v.below.setCell (p := ⟨b1, 0, none⟩) v.ge1 _, v.ne⟩
theorem Vars.hkey {w W : World} {b0 : Nat} {n0 n1 n2 n3 : Value} {b1 b2 b3 : Nat} {h : Hld} {r : Rec} (v : Vars w W b0 n0 n1 n2 n3 b1 b2 b3 h r) (x : ByteArray) : Vars w (W.setCell ⟨b1, 1, none⟩ (.string x)) b0 n0 n1 n2 n3 b1 b2 b3 { h with key := x } r :=
  ⟨by simpa using v.lt0, (Below.heap_setCell _ _ _ _ (by simpa using v.ne.1)).trans v.h0, by simpa using v.lt1, by simpa using v.lt2, by simpa using v.lt3, v.ge1, v.ge2, v.ge3, v.h1.hkey x, v.h2.keep (Below.heap_setCell _ _ _ _ (by simpa using v.ne.2.2.2.1.symm)),
   by obtain ⟨n, k, a, b, h3⟩ := v.h3; exact ⟨n, k, a, b, h3.keep (Below.heap_setCell _ _ _ _ (by simpa using v.ne.2.2.2.2.1.symm))⟩, v.below.setCell (p := ⟨b1, 1, none⟩) v.ge1 _, v.ne⟩
theorem Vars.cells {w W : World} {b0 : Nat} {n0 n1 n2 n3 : Value} {b1 b2 b3 : Nat} {h : Hld} {r : Rec} (v : Vars w W b0 n0 n1 n2 n3 b1 b2 b3 h r) :
    (W.cell? ⟨b0, 0, none⟩ = some n0 ∧ W.cell? ⟨b0, 2, none⟩ = some n2 ∧ W.cell? ⟨b0, 3, none⟩ = some n3) ∧
    (W.cell? ⟨b1, 0, none⟩ = some (.int .i64 h.node) ∧ W.cell? ⟨b1, 1, none⟩ = some (.string h.key) ∧ W.cell? ⟨b1, 2, none⟩ = some (.int .i64 h.a) ∧ W.cell? ⟨b1, 3, none⟩ = some (.int .i64 h.b) ∧ (∀ i, W.frozen? ⟨b1, i, none⟩ = false)) ∧
    (W.cell? ⟨b2, 0, none⟩ = some (.string r.key) ∧ W.cell? ⟨b2, 1, none⟩ = some (.int .i64 r.num) ∧ W.cell? ⟨b2, 2, none⟩ = some (.int .i64 r.time) ∧ (∀ i, W.frozen? ⟨b2, i, none⟩ = false)) ∧
    (∃ n k a b, W.cell? ⟨b3, 0, none⟩ = some (.int .i64 n) ∧ W.cell? ⟨b3, 1, none⟩ = some (.string k) ∧ W.cell? ⟨b3, 2, none⟩ = some (.int .i64 a) ∧ W.cell? ⟨b3, 3, none⟩ = some (.int .i64 b)) ∧ (∀ i, W.frozen? ⟨b3, i, none⟩ = false) := by
  obtain ⟨n, k, a, b, h3⟩ := v.h3
  exact ⟨⟨(cell_of_row W b0 0 _ _ _ v.h0).trans rfl, (cell_of_row W b0 2 _ _ _ v.h0).trans rfl, (cell_of_row W b0 3 _ _ _ v.h0).trans rfl⟩, v.h1.cells, v.h2.cells, ⟨n, k, a, b, h3.cells.1, h3.cells.2.1, h3.cells.2.2.1, h3.cells.2.2.2.1⟩, h3.cells.2.2.2.2⟩

/-- The results are written: what stands then. -/
theorem Vars.fin {w W3 W : World} {b0 : Nat} {n0 n1 n2 n3 : Value} {b1 b2 b3 : Nat} {h : Hld} {r : Rec} (v : Vars w W b0 n0 n1 n2 n3 b1 b2 b3 h r) {l : List Rec} {A : Option Addr} {c : Nat}
    (ho : OwnS W 44 3 A c l.length (l.flatMap recCells)) (hA : ∀ k, blk A = some k → W3.heap.size ≤ k) (h3 : b3 < W3.heap.size) (hw : w.heap.size ≤ W3.heap.size) (n : Int) (k : ByteArray) (a b : Int) :
    HVar (((((W.setCell ⟨b3, 0, none⟩ (.int .i64 n)).setCell ⟨b3, 1, none⟩ (.string k)).setCell ⟨b3, 2, none⟩ (.int .i64 a)).setCell ⟨b3, 3, none⟩ (.int .i64 b)).drew) b3 n k a b ∧
    OwnS (((((W.setCell ⟨b3, 0, none⟩ (.int .i64 n)).setCell ⟨b3, 1, none⟩ (.string k)).setCell ⟨b3, 2, none⟩ (.int .i64 a)).setCell ⟨b3, 3, none⟩ (.int .i64 b)).drew) 44 3 A c l.length (l.flatMap recCells) ∧
    (∀ k, blk A = some k → w.heap.size ≤ k) ∧
    Below w.heap.size w (((((W.setCell ⟨b3, 0, none⟩ (.int .i64 n)).setCell ⟨b3, 1, none⟩ (.string k)).setCell ⟨b3, 2, none⟩ (.int .i64 a)).setCell ⟨b3, 3, none⟩ (.int .i64 b)).drew) := by
  refine ⟨?_, ?_, fun k hk => Nat.le_trans hw (hA k hk), ?_⟩
  · obtain ⟨n', k', a', b', hh⟩ := v.h3
    unfold HVar at hh ⊢
    show (World.heap _)[_]? = _
    simp [World.drew, World.setCell, Array.getElem?_modify, hh]
  · have hne : ∀ i, blk A ≠ some (⟨b3, i, none⟩ : Addr).block := fun i e => by have := hA _ e; simp at this; omega
    exact ((((ho.setFar (hne 0) _).setFar (hne 1) _).setFar (hne 2) _).setFar (hne 3) _).keep fun _ _ => rfl
  · exact ((((v.below.setCell (p := ⟨b3, 0, none⟩) v.ge3 _).setCell (p := ⟨b3, 1, none⟩) v.ge3 _).setCell (p := ⟨b3, 2, none⟩) v.ge3 _).setCell (p := ⟨b3, 3, none⟩) v.ge3 _).drew

theorem Vars.zero {w W : World} {b0 : Nat} {n0 n1 n2 n3 : Value} {b1 b2 b3 : Nat} {h : Hld} {r : Rec} (v : Vars w W b0 n0 n1 n2 n3 b1 b2 b3 h r) :
    Vars w ((((W.setCell ⟨b1, 0, none⟩ (.int .i64 0)).setCell ⟨b1, 1, none⟩ (.string ⟨#[]⟩)).setCell ⟨b1, 2, none⟩ (.int .i64 0)).setCell ⟨b1, 3, none⟩ (.int .i64 0)) b0 n0 n1 n2 n3 b1 b2 b3 ⟨0, ⟨#[]⟩, 0, 0⟩ r := (((v.node 0).hkey ⟨#[]⟩).a 0).b 0
end Go.Proofs.YtfndhfekbbbliaaGreatDoor

/-
  Package den: the contract of Apply, kind by kind (printed by denapply.py). Conditions: the node's text is a string's, the numbers are ints, the two variables of Atoi's errors hold errors.
-/
namespace Go.Proofs.YtfndhfekbbbliaaGreatDoor
open Go.RowKit Go.Shelf
set_option linter.unusedVariables false

/-- A row that lies past the variables stays as a variable is zeroed. -/
theorem Vars.own_zero {w W : World} {b0 : Nat} {n0 n1 n2 n3 : Value} {b1 b2 b3 : Nat} {h : Hld} {r : Rec} (v : Vars w W b0 n0 n1 n2 n3 b1 b2 b3 h r) {l : List Rec} {A : Option Addr} {c m : Nat}
    (ho : OwnS W 44 3 A c l.length (l.flatMap recCells)) (hA : ∀ k, blk A = some k → m ≤ k) (hm : b1 < m) :
    OwnS ((((W.setCell ⟨b1, 0, none⟩ (.int .i64 0)).setCell ⟨b1, 1, none⟩ (.string ⟨#[]⟩)).setCell ⟨b1, 2, none⟩ (.int .i64 0)).setCell ⟨b1, 3, none⟩ (.int .i64 0)) 44 3 A c l.length (l.flatMap recCells) := by
  have hne : ∀ i, blk A ≠ some (⟨b1, i, none⟩ : Addr).block := fun i e => by have := hA _ e; simp at this; omega
  exact (((ho.setFar (hne 0) _).setFar (hne 1) _).setFar (hne 2) _).setFar (hne 3) _
set_option maxRecDepth 100000 in
set_option maxHeartbeats 1000000 in
theorem dapply_map_has (n : Nod) (A0 : Option Addr) (c0 : Nat) (h : Hld) (r : Rec) (input : Int) (w : World) (hv : ErrVars w) (hsz : n.text.size ≤ maxLen) (hr : RecOk r) (hi : I64 h.a ∧ I64 h.b) (hk : n.kind = 2) :
    Calls Tryz.prog 18 #[.agg #[.int .i64 n.kind, .slice A0 n.from_.length c0, .string n.text, .int .i64 n.n], hldV h, .bool true, recV r, .int .i64 input] w (AppPost (applyN n h true r input) w) := by
  obtain ⟨kind, from_, text, nn⟩ := n
  obtain ⟨hn, hkey, ha, hb⟩ := h
  obtain ⟨key, num, time⟩ := r
  simp only at hk hsz hi
  subst hk
  have HP : Hid (applyN ⟨2, from_, text, nn⟩ ⟨hn, hkey, ha, hb⟩ true ⟨key, num, time⟩ input = ⟨passR ⟨key, evalOf text num 0, time⟩, ⟨0, key, ha, hb⟩, true⟩) := rfl
  show Calls _ _ #[.agg #[.int .i64 2, .slice A0 from_.length c0, .string text, .int .i64 nn], .agg #[.int .i64 hn, .string hkey, .int .i64 ha, .int .i64 hb], .bool true, .agg #[.string key, .int .i64 num, .int .i64 time], .int .i64 input] w _
  have HR := Lib.hid hr
  have HV := Lib.hid hv
  have HI := Lib.hid hi
  clear hr hv hi
  go_enter Tryz.func18, Tryz.ntmps18
  go_upto_region 3 with (fail)
  go_region
  go_upto_region 6 with (fail)
  have hV := Vars.mk_ w (.int .i64 2) (.slice A0 from_.length c0) (.string text) (.int .i64 nn) ⟨0, key, ha, hb⟩ ⟨key, num, time⟩
  generalize ((((w.alloc _).alloc _).alloc _).alloc _).drew = W1 at hV ⊢
  generalize w.heap.size + 1 + 1 + 1 = b3 at hV ⊢
  generalize w.heap.size + 1 + 1 = b2 at hV ⊢
  generalize w.heap.size + 1 = b1 at hV ⊢
  generalize w.heap.size = b0 at hV ⊢
  obtain ⟨⟨n0, n2, n3⟩, ⟨h10, h11, h12, h13, h1f⟩, ⟨r0, r1, r2, rf⟩, ⟨_, _, _, _, s0, s1, s2, s3⟩, sf⟩ := hV.cells
  have HW := Lib.hid hV
  clear hV
  go_wp2_with fail
  have hb0 := HW.out.below
  refine (eval_ok_any text num 0 W1 (HV.out.below hb0) hsz (i64_of_wf HR.out.2.1) ⟨by omega, by omega⟩).mono ?_
  rintro e w2 ⟨rfl, hb2⟩
  have hV2 := HW.out.next hb2
  clear HW n0 n2 n3 h10 h11 h12 h13 h1f r0 r1 r2 rf s0 s1 s2 s3 sf hb0 hb2
  rw [← evalOf_val]
  obtain ⟨⟨n0, n2, n3⟩, ⟨h10, h11, h12, h13, h1f⟩, ⟨r0, r1, r2, rf⟩, ⟨_, _, _, _, s0, s1, s2, s3⟩, sf⟩ := hV2.cells
  have HW := Lib.hid hV2
  clear hV2
  generalize evalOf text num 0 = x at HP ⊢
  go_upto_region 10 with (fail)
  have hV3 := (HW.out.num (x))
  clear HW n0 n2 n3 h10 h11 h12 h13 h1f r0 r1 r2 rf s0 s1 s2 s3 sf
  generalize w2.setCell ⟨b2, 1, none⟩ (.int .i64 (x)) = W3 at hV3 ⊢
  obtain ⟨⟨n0, n2, n3⟩, ⟨h10, h11, h12, h13, h1f⟩, ⟨r0, r1, r2, rf⟩, ⟨_, _, _, _, s0, s1, s2, s3⟩, sf⟩ := hV3.cells
  have HW := Lib.hid hV3
  clear hV3
  go_wp2_with fail
  refine (dpass_ok ⟨key, x, time⟩ W3 (HR.out.1)).mono ?_
  rintro e w4 ⟨A, c, rfl, ho, hbl, hb4⟩
  have hV4 := HW.out.next hb4
  have HO := Lib.hid ho
  have HBL := Lib.hid hbl
  have HLT := Lib.hid HW.out.lt3
  have HLW := Lib.hid HW.out.below.size
  have HLB := Lib.hid HW.out.lt1
  clear HW n0 n2 n3 h10 h11 h12 h13 h1f r0 r1 r2 rf s0 s1 s2 s3 sf ho hbl hb4
  obtain ⟨⟨n0, n2, n3⟩, ⟨h10, h11, h12, h13, h1f⟩, ⟨r0, r1, r2, rf⟩, ⟨_, _, _, _, s0, s1, s2, s3⟩, sf⟩ := hV4.cells
  have HW := Lib.hid hV4
  clear hV4
  go_upto_region 46 with (fail)
  go_region
  have hF := HW.out.fin HO.out HBL.out HLT.out HLW.out 0 (key) (ha) (hb)
  clear HW n0 n2 n3 h10 h11 h12 h13 h1f r0 r1 r2 rf s0 s1 s2 s3 sf HO HBL
  generalize ((((w4.setCell ⟨b3, 0, none⟩ _).setCell _ _).setCell _ _).setCell _ _).drew = W5 at hF ⊢
  obtain ⟨hh, h1, h2, h3⟩ := hF
  obtain ⟨s0, s1, s2, s3, sf⟩ := hh.cells
  have HX := Lib.hid (And.intro h1 (And.intro h2 h3))
  clear h1 h2 h3 hh
  go_wp2_with fail
  refine bodyPost_ret (v := .tuple #[.slice A (passR ⟨key, x, time⟩).length c, .agg #[.int .i64 0, .string (key), .int .i64 (ha), .int .i64 (hb)], .bool true]) (by simp [results, Tryz.results18, go_sem, s0, s1, s2, s3]) rfl ?_
  rw [HP.out]
  exact ⟨A, c, rfl, HX.out⟩
set_option maxRecDepth 100000 in
set_option maxHeartbeats 1000000 in
theorem dapply_other_has (n : Nod) (A0 : Option Addr) (c0 : Nat) (h : Hld) (r : Rec) (input : Int) (w : World) (hv : ErrVars w) (hsz : n.text.size ≤ maxLen) (hr : RecOk r) (hi : I64 h.a ∧ I64 h.b) (hk : ∀ j, 2 ≤ j → j ≤ 9 → n.kind ≠ j) :
    Calls Tryz.prog 18 #[.agg #[.int .i64 n.kind, .slice A0 n.from_.length c0, .string n.text, .int .i64 n.n], hldV h, .bool true, recV r, .int .i64 input] w (AppPost (applyN n h true r input) w) := by
  obtain ⟨kind, from_, text, nn⟩ := n
  obtain ⟨hn, hkey, ha, hb⟩ := h
  obtain ⟨key, num, time⟩ := r
  simp only at hk hsz hi
  have q2 := beq_eq_false_iff_ne.2 (hk 2 (by omega) (by omega))
  have q3 := beq_eq_false_iff_ne.2 (hk 3 (by omega) (by omega))
  have q4 := beq_eq_false_iff_ne.2 (hk 4 (by omega) (by omega))
  have q5 := beq_eq_false_iff_ne.2 (hk 5 (by omega) (by omega))
  have q6 := beq_eq_false_iff_ne.2 (hk 6 (by omega) (by omega))
  have q7 := beq_eq_false_iff_ne.2 (hk 7 (by omega) (by omega))
  have q8 := beq_eq_false_iff_ne.2 (hk 8 (by omega) (by omega))
  have q9 := beq_eq_false_iff_ne.2 (hk 9 (by omega) (by omega))
  have HP : Hid (applyN ⟨kind, from_, text, nn⟩ ⟨hn, hkey, ha, hb⟩ true ⟨key, num, time⟩ input = ⟨passR ⟨key, num, time⟩, ⟨0, key, ha, hb⟩, true⟩) := by have k2 := hk 2 (by omega) (by omega); have k3 := hk 3 (by omega) (by omega); have k4 := hk 4 (by omega) (by omega); have k5 := hk 5 (by omega) (by omega); have k6 := hk 6 (by omega) (by omega); have k7 := hk 7 (by omega) (by omega); have k8 := hk 8 (by omega) (by omega); have k9 := hk 9 (by omega) (by omega); show _ = _; unfold applyN; simp only [if_neg k2, if_neg k3, if_neg k4, if_neg k5, if_neg k6, if_neg k7, if_neg k8, if_neg k9]; rfl
  show Calls _ _ #[.agg #[.int .i64 kind, .slice A0 from_.length c0, .string text, .int .i64 nn], .agg #[.int .i64 hn, .string hkey, .int .i64 ha, .int .i64 hb], .bool true, .agg #[.string key, .int .i64 num, .int .i64 time], .int .i64 input] w _
  have HR := Lib.hid hr
  have HV := Lib.hid hv
  have HI := Lib.hid hi
  clear hr hv hi hk
  go_enter Tryz.func18, Tryz.ntmps18
  go_upto_region 3 with (fail)
  go_region
  go_upto_region 6 with (fail)
  have hV := Vars.mk_ w (.int .i64 kind) (.slice A0 from_.length c0) (.string text) (.int .i64 nn) ⟨0, key, ha, hb⟩ ⟨key, num, time⟩
  generalize ((((w.alloc _).alloc _).alloc _).alloc _).drew = W1 at hV ⊢
  generalize w.heap.size + 1 + 1 + 1 = b3 at hV ⊢
  generalize w.heap.size + 1 + 1 = b2 at hV ⊢
  generalize w.heap.size + 1 = b1 at hV ⊢
  generalize w.heap.size = b0 at hV ⊢
  obtain ⟨⟨n0, n2, n3⟩, ⟨h10, h11, h12, h13, h1f⟩, ⟨r0, r1, r2, rf⟩, ⟨_, _, _, _, s0, s1, s2, s3⟩, sf⟩ := hV.cells
  have HW := Lib.hid hV
  clear hV
  go_wp2_with fail
  refine (dpass_ok ⟨key, num, time⟩ W1 (HR.out.1)).mono ?_
  rintro e w4 ⟨A, c, rfl, ho, hbl, hb4⟩
  have hV4 := HW.out.next hb4
  have HO := Lib.hid ho
  have HBL := Lib.hid hbl
  have HLT := Lib.hid HW.out.lt3
  have HLW := Lib.hid HW.out.below.size
  have HLB := Lib.hid HW.out.lt1
  clear HW n0 n2 n3 h10 h11 h12 h13 h1f r0 r1 r2 rf s0 s1 s2 s3 sf ho hbl hb4
  obtain ⟨⟨n0, n2, n3⟩, ⟨h10, h11, h12, h13, h1f⟩, ⟨r0, r1, r2, rf⟩, ⟨_, _, _, _, s0, s1, s2, s3⟩, sf⟩ := hV4.cells
  have HW := Lib.hid hV4
  clear hV4
  go_upto_region 46 with (fail)
  go_region
  have hF := HW.out.fin HO.out HBL.out HLT.out HLW.out 0 (key) (ha) (hb)
  clear HW n0 n2 n3 h10 h11 h12 h13 h1f r0 r1 r2 rf s0 s1 s2 s3 sf HO HBL
  generalize ((((w4.setCell ⟨b3, 0, none⟩ _).setCell _ _).setCell _ _).setCell _ _).drew = W5 at hF ⊢
  obtain ⟨hh, h1, h2, h3⟩ := hF
  obtain ⟨s0, s1, s2, s3, sf⟩ := hh.cells
  have HX := Lib.hid (And.intro h1 (And.intro h2 h3))
  clear h1 h2 h3 hh
  go_wp2_with fail
  refine bodyPost_ret (v := .tuple #[.slice A (passR ⟨key, num, time⟩).length c, .agg #[.int .i64 0, .string (key), .int .i64 (ha), .int .i64 (hb)], .bool true]) (by simp [results, Tryz.results18, go_sem, s0, s1, s2, s3]) rfl ?_
  rw [HP.out]
  exact ⟨A, c, rfl, HX.out⟩
set_option maxRecDepth 100000 in
set_option maxHeartbeats 1000000 in
theorem dapply_first_has (n : Nod) (A0 : Option Addr) (c0 : Nat) (h : Hld) (r : Rec) (input : Int) (w : World) (hv : ErrVars w) (hsz : n.text.size ≤ maxLen) (hr : RecOk r) (hi : I64 h.a ∧ I64 h.b) (hk : n.kind = 9) :
    Calls Tryz.prog 18 #[.agg #[.int .i64 n.kind, .slice A0 n.from_.length c0, .string n.text, .int .i64 n.n], hldV h, .bool true, recV r, .int .i64 input] w (AppPost (applyN n h true r input) w) := by
  obtain ⟨kind, from_, text, nn⟩ := n
  obtain ⟨hn, hkey, ha, hb⟩ := h
  obtain ⟨key, num, time⟩ := r
  simp only at hk hsz hi
  subst hk
  have HP : Hid (applyN ⟨9, from_, text, nn⟩ ⟨hn, hkey, ha, hb⟩ true ⟨key, num, time⟩ input = ⟨[], ⟨0, key, 1, hb⟩, true⟩) := rfl
  show Calls _ _ #[.agg #[.int .i64 9, .slice A0 from_.length c0, .string text, .int .i64 nn], .agg #[.int .i64 hn, .string hkey, .int .i64 ha, .int .i64 hb], .bool true, .agg #[.string key, .int .i64 num, .int .i64 time], .int .i64 input] w _
  have HR := Lib.hid hr
  have HV := Lib.hid hv
  have HI := Lib.hid hi
  clear hr hv hi
  go_enter Tryz.func18, Tryz.ntmps18
  go_upto_region 3 with (fail)
  go_region
  go_upto_region 6 with (fail)
  have hV := Vars.mk_ w (.int .i64 9) (.slice A0 from_.length c0) (.string text) (.int .i64 nn) ⟨0, key, ha, hb⟩ ⟨key, num, time⟩
  generalize ((((w.alloc _).alloc _).alloc _).alloc _).drew = W1 at hV ⊢
  generalize w.heap.size + 1 + 1 + 1 = b3 at hV ⊢
  generalize w.heap.size + 1 + 1 = b2 at hV ⊢
  generalize w.heap.size + 1 = b1 at hV ⊢
  generalize w.heap.size = b0 at hV ⊢
  obtain ⟨⟨n0, n2, n3⟩, ⟨h10, h11, h12, h13, h1f⟩, ⟨r0, r1, r2, rf⟩, ⟨_, _, _, _, s0, s1, s2, s3⟩, sf⟩ := hV.cells
  have HW := Lib.hid hV
  clear hV
  go_upto_region 44 with (fail)
  have hV3 := (HW.out.a (1))
  clear HW n0 n2 n3 h10 h11 h12 h13 h1f r0 r1 r2 rf s0 s1 s2 s3 sf
  generalize W1.setCell ⟨b1, 2, none⟩ (.int .i64 (1)) = W3 at hV3 ⊢
  obtain ⟨⟨n0, n2, n3⟩, ⟨h10, h11, h12, h13, h1f⟩, ⟨r0, r1, r2, rf⟩, ⟨_, _, _, _, s0, s1, s2, s3⟩, sf⟩ := hV3.cells
  have HW := Lib.hid hV3
  clear hV3
  have HO := Lib.hid (show OwnS W3 44 3 none 0 ([] : List Rec).length (([] : List Rec).flatMap recCells) from OwnS.nil _ _ _)
  have HBL : Hid (∀ k, blk none = some k → W3.heap.size ≤ k) := nofun
  have HLT := Lib.hid HW.out.lt3
  have HLW := Lib.hid HW.out.below.size
  have HLB := Lib.hid HW.out.lt1
  go_upto_region 46 with (fail)
  go_region
  have hF := HW.out.fin HO.out HBL.out HLT.out HLW.out 0 (key) (1) (hb)
  clear HW n0 n2 n3 h10 h11 h12 h13 h1f r0 r1 r2 rf s0 s1 s2 s3 sf HO HBL
  generalize ((((W3.setCell ⟨b3, 0, none⟩ _).setCell _ _).setCell _ _).setCell _ _).drew = W5 at hF ⊢
  obtain ⟨hh, h1, h2, h3⟩ := hF
  obtain ⟨s0, s1, s2, s3, sf⟩ := hh.cells
  have HX := Lib.hid (And.intro h1 (And.intro h2 h3))
  clear h1 h2 h3 hh
  go_wp2_with fail
  refine bodyPost_ret (v := .tuple #[.slice none 0 0, .agg #[.int .i64 0, .string (key), .int .i64 (1), .int .i64 (hb)], .bool true]) (by simp [results, Tryz.results18, go_sem, s0, s1, s2, s3]) rfl ?_
  rw [HP.out]
  exact ⟨none, 0, rfl, HX.out⟩
set_option maxRecDepth 100000 in
set_option maxHeartbeats 1000000 in
theorem dapply_fold_has (n : Nod) (A0 : Option Addr) (c0 : Nat) (h : Hld) (r : Rec) (input : Int) (w : World) (hv : ErrVars w) (hsz : n.text.size ≤ maxLen) (hr : RecOk r) (hi : I64 h.a ∧ I64 h.b) (hk : n.kind = 7) :
    Calls Tryz.prog 18 #[.agg #[.int .i64 n.kind, .slice A0 n.from_.length c0, .string n.text, .int .i64 n.n], hldV h, .bool true, recV r, .int .i64 input] w (AppPost (applyN n h true r input) w) := by
  obtain ⟨kind, from_, text, nn⟩ := n
  obtain ⟨hn, hkey, ha, hb⟩ := h
  obtain ⟨key, num, time⟩ := r
  simp only at hk hsz hi
  subst hk
  have HP : Hid (applyN ⟨7, from_, text, nn⟩ ⟨hn, hkey, ha, hb⟩ true ⟨key, num, time⟩ input = ⟨passR ⟨key, evalOf text num ha, time⟩, ⟨0, key, evalOf text num ha, hb⟩, true⟩) := rfl
  show Calls _ _ #[.agg #[.int .i64 7, .slice A0 from_.length c0, .string text, .int .i64 nn], .agg #[.int .i64 hn, .string hkey, .int .i64 ha, .int .i64 hb], .bool true, .agg #[.string key, .int .i64 num, .int .i64 time], .int .i64 input] w _
  have HR := Lib.hid hr
  have HV := Lib.hid hv
  have HI := Lib.hid hi
  clear hr hv hi
  go_enter Tryz.func18, Tryz.ntmps18
  go_upto_region 3 with (fail)
  go_region
  go_upto_region 6 with (fail)
  have hV := Vars.mk_ w (.int .i64 7) (.slice A0 from_.length c0) (.string text) (.int .i64 nn) ⟨0, key, ha, hb⟩ ⟨key, num, time⟩
  generalize ((((w.alloc _).alloc _).alloc _).alloc _).drew = W1 at hV ⊢
  generalize w.heap.size + 1 + 1 + 1 = b3 at hV ⊢
  generalize w.heap.size + 1 + 1 = b2 at hV ⊢
  generalize w.heap.size + 1 = b1 at hV ⊢
  generalize w.heap.size = b0 at hV ⊢
  obtain ⟨⟨n0, n2, n3⟩, ⟨h10, h11, h12, h13, h1f⟩, ⟨r0, r1, r2, rf⟩, ⟨_, _, _, _, s0, s1, s2, s3⟩, sf⟩ := hV.cells
  have HW := Lib.hid hV
  clear hV
  go_wp2_with fail
  have hb0 := HW.out.below
  refine (eval_ok_any text num ha W1 (HV.out.below hb0) hsz (i64_of_wf HR.out.2.1) (i64_of_wf HI.out.1)).mono ?_
  rintro e w2 ⟨rfl, hb2⟩
  have hV2 := HW.out.next hb2
  clear HW n0 n2 n3 h10 h11 h12 h13 h1f r0 r1 r2 rf s0 s1 s2 s3 sf hb0 hb2
  rw [← evalOf_val]
  obtain ⟨⟨n0, n2, n3⟩, ⟨h10, h11, h12, h13, h1f⟩, ⟨r0, r1, r2, rf⟩, ⟨_, _, _, _, s0, s1, s2, s3⟩, sf⟩ := hV2.cells
  have HW := Lib.hid hV2
  clear hV2
  generalize evalOf text num ha = x at HP ⊢
  go_upto_region 31 with (fail)
  have hV3 := ((HW.out.a (x)).num (x))
  clear HW n0 n2 n3 h10 h11 h12 h13 h1f r0 r1 r2 rf s0 s1 s2 s3 sf
  generalize (w2.setCell ⟨b1, 2, none⟩ (.int .i64 (x))).setCell ⟨b2, 1, none⟩ (.int .i64 (x)) = W3 at hV3 ⊢
  obtain ⟨⟨n0, n2, n3⟩, ⟨h10, h11, h12, h13, h1f⟩, ⟨r0, r1, r2, rf⟩, ⟨_, _, _, _, s0, s1, s2, s3⟩, sf⟩ := hV3.cells
  have HW := Lib.hid hV3
  clear hV3
  go_wp2_with fail
  refine (dpass_ok ⟨key, x, time⟩ W3 (HR.out.1)).mono ?_
  rintro e w4 ⟨A, c, rfl, ho, hbl, hb4⟩
  have hV4 := HW.out.next hb4
  have HO := Lib.hid ho
  have HBL := Lib.hid hbl
  have HLT := Lib.hid HW.out.lt3
  have HLW := Lib.hid HW.out.below.size
  have HLB := Lib.hid HW.out.lt1
  clear HW n0 n2 n3 h10 h11 h12 h13 h1f r0 r1 r2 rf s0 s1 s2 s3 sf ho hbl hb4
  obtain ⟨⟨n0, n2, n3⟩, ⟨h10, h11, h12, h13, h1f⟩, ⟨r0, r1, r2, rf⟩, ⟨_, _, _, _, s0, s1, s2, s3⟩, sf⟩ := hV4.cells
  have HW := Lib.hid hV4
  clear hV4
  go_upto_region 46 with (fail)
  go_region
  have hF := HW.out.fin HO.out HBL.out HLT.out HLW.out 0 (key) (x) (hb)
  clear HW n0 n2 n3 h10 h11 h12 h13 h1f r0 r1 r2 rf s0 s1 s2 s3 sf HO HBL
  generalize ((((w4.setCell ⟨b3, 0, none⟩ _).setCell _ _).setCell _ _).setCell _ _).drew = W5 at hF ⊢
  obtain ⟨hh, h1, h2, h3⟩ := hF
  obtain ⟨s0, s1, s2, s3, sf⟩ := hh.cells
  have HX := Lib.hid (And.intro h1 (And.intro h2 h3))
  clear h1 h2 h3 hh
  go_wp2_with fail
  refine bodyPost_ret (v := .tuple #[.slice A (passR ⟨key, x, time⟩).length c, .agg #[.int .i64 0, .string (key), .int .i64 (x), .int .i64 (hb)], .bool true]) (by simp [results, Tryz.results18, go_sem, s0, s1, s2, s3]) rfl ?_
  rw [HP.out]
  exact ⟨A, c, rfl, HX.out⟩
set_option maxRecDepth 100000 in
set_option maxHeartbeats 1000000 in
theorem dapply_map_new (n : Nod) (A0 : Option Addr) (c0 : Nat) (h : Hld) (r : Rec) (input : Int) (w : World) (hv : ErrVars w) (hsz : n.text.size ≤ maxLen) (hr : RecOk r) (hi : I64 h.a ∧ I64 h.b) (hk : n.kind = 2) :
    Calls Tryz.prog 18 #[.agg #[.int .i64 n.kind, .slice A0 n.from_.length c0, .string n.text, .int .i64 n.n], hldV h, .bool false, recV r, .int .i64 input] w (AppPost (applyN n h false r input) w) := by
  obtain ⟨kind, from_, text, nn⟩ := n
  obtain ⟨hn, hkey, ha, hb⟩ := h
  obtain ⟨key, num, time⟩ := r
  simp only at hk hsz hi
  subst hk
  have HP : Hid (applyN ⟨2, from_, text, nn⟩ ⟨hn, hkey, ha, hb⟩ false ⟨key, num, time⟩ input = ⟨passR ⟨key, evalOf text num 0, time⟩, zeroH, false⟩) := rfl
  show Calls _ _ #[.agg #[.int .i64 2, .slice A0 from_.length c0, .string text, .int .i64 nn], .agg #[.int .i64 hn, .string hkey, .int .i64 ha, .int .i64 hb], .bool false, .agg #[.string key, .int .i64 num, .int .i64 time], .int .i64 input] w _
  have HR := Lib.hid hr
  have HV := Lib.hid hv
  have HI := Lib.hid hi
  clear hr hv hi
  go_enter Tryz.func18, Tryz.ntmps18
  go_upto_region 3 with (fail)
  go_region
  go_upto_region 6 with (fail)
  have hV := Vars.mk_ w (.int .i64 2) (.slice A0 from_.length c0) (.string text) (.int .i64 nn) ⟨0, key, 0, 0⟩ ⟨key, num, time⟩
  generalize ((((w.alloc _).alloc _).alloc _).alloc _).drew = W1 at hV ⊢
  generalize w.heap.size + 1 + 1 + 1 = b3 at hV ⊢
  generalize w.heap.size + 1 + 1 = b2 at hV ⊢
  generalize w.heap.size + 1 = b1 at hV ⊢
  generalize w.heap.size = b0 at hV ⊢
  obtain ⟨⟨n0, n2, n3⟩, ⟨h10, h11, h12, h13, h1f⟩, ⟨r0, r1, r2, rf⟩, ⟨_, _, _, _, s0, s1, s2, s3⟩, sf⟩ := hV.cells
  have HW := Lib.hid hV
  clear hV
  go_wp2_with fail
  have hb0 := HW.out.below
  refine (eval_ok_any text num 0 W1 (HV.out.below hb0) hsz (i64_of_wf HR.out.2.1) ⟨by omega, by omega⟩).mono ?_
  rintro e w2 ⟨rfl, hb2⟩
  have hV2 := HW.out.next hb2
  clear HW n0 n2 n3 h10 h11 h12 h13 h1f r0 r1 r2 rf s0 s1 s2 s3 sf hb0 hb2
  rw [← evalOf_val]
  obtain ⟨⟨n0, n2, n3⟩, ⟨h10, h11, h12, h13, h1f⟩, ⟨r0, r1, r2, rf⟩, ⟨_, _, _, _, s0, s1, s2, s3⟩, sf⟩ := hV2.cells
  have HW := Lib.hid hV2
  clear hV2
  generalize evalOf text num 0 = x at HP ⊢
  go_upto_region 10 with (fail)
  have hV3 := (HW.out.num (x))
  clear HW n0 n2 n3 h10 h11 h12 h13 h1f r0 r1 r2 rf s0 s1 s2 s3 sf
  generalize w2.setCell ⟨b2, 1, none⟩ (.int .i64 (x)) = W3 at hV3 ⊢
  obtain ⟨⟨n0, n2, n3⟩, ⟨h10, h11, h12, h13, h1f⟩, ⟨r0, r1, r2, rf⟩, ⟨_, _, _, _, s0, s1, s2, s3⟩, sf⟩ := hV3.cells
  have HW := Lib.hid hV3
  clear hV3
  go_wp2_with fail
  refine (dpass_ok ⟨key, x, time⟩ W3 (HR.out.1)).mono ?_
  rintro e w4 ⟨A, c, rfl, ho, hbl, hb4⟩
  have hV4 := HW.out.next hb4
  have HO := Lib.hid ho
  have HBL := Lib.hid hbl
  have HLT := Lib.hid HW.out.lt3
  have HLW := Lib.hid HW.out.below.size
  have HLB := Lib.hid HW.out.lt1
  clear HW n0 n2 n3 h10 h11 h12 h13 h1f r0 r1 r2 rf s0 s1 s2 s3 sf ho hbl hb4
  obtain ⟨⟨n0, n2, n3⟩, ⟨h10, h11, h12, h13, h1f⟩, ⟨r0, r1, r2, rf⟩, ⟨_, _, _, _, s0, s1, s2, s3⟩, sf⟩ := hV4.cells
  have HW := Lib.hid hV4
  clear hV4
  go_upto_region 46 with (fail)
  have hV5 := HW.out.zero
  have ho5 : OwnS ((((w4.setCell ⟨b1, 0, none⟩ (.int .i64 0)).setCell ⟨b1, 1, none⟩ (.string ⟨#[]⟩)).setCell ⟨b1, 2, none⟩ (.int .i64 0)).setCell ⟨b1, 3, none⟩ (.int .i64 0)) 44 3 A c (passR ⟨key, x, time⟩).length ((passR ⟨key, x, time⟩).flatMap recCells) := HW.out.own_zero HO.out HBL.out HLB.out
  clear HW HO n0 n2 n3 h10 h11 h12 h13 h1f r0 r1 r2 rf s0 s1 s2 s3 sf
  generalize (((w4.setCell _ _).setCell _ _).setCell _ _).setCell _ _ = W6 at hV5 ho5 ⊢
  have HO := Lib.hid ho5
  clear ho5
  obtain ⟨⟨n0, n2, n3⟩, ⟨h10, h11, h12, h13, h1f⟩, ⟨r0, r1, r2, rf⟩, ⟨_, _, _, _, s0, s1, s2, s3⟩, sf⟩ := hV5.cells
  have HW := Lib.hid hV5
  clear hV5
  go_region
  have hF := HW.out.fin HO.out HBL.out HLT.out HLW.out 0 (⟨#[]⟩) (0) (0)
  clear HW n0 n2 n3 h10 h11 h12 h13 h1f r0 r1 r2 rf s0 s1 s2 s3 sf HO HBL
  generalize ((((W6.setCell ⟨b3, 0, none⟩ _).setCell _ _).setCell _ _).setCell _ _).drew = W5 at hF ⊢
  obtain ⟨hh, h1, h2, h3⟩ := hF
  obtain ⟨s0, s1, s2, s3, sf⟩ := hh.cells
  have HX := Lib.hid (And.intro h1 (And.intro h2 h3))
  clear h1 h2 h3 hh
  go_wp2_with fail
  refine bodyPost_ret (v := .tuple #[.slice A (passR ⟨key, x, time⟩).length c, .agg #[.int .i64 0, .string (⟨#[]⟩), .int .i64 (0), .int .i64 (0)], .bool false]) (by simp [results, Tryz.results18, go_sem, s0, s1, s2, s3]) rfl ?_
  rw [HP.out]
  exact ⟨A, c, rfl, HX.out⟩
set_option maxRecDepth 100000 in
set_option maxHeartbeats 1000000 in
theorem dapply_other_new (n : Nod) (A0 : Option Addr) (c0 : Nat) (h : Hld) (r : Rec) (input : Int) (w : World) (hv : ErrVars w) (hsz : n.text.size ≤ maxLen) (hr : RecOk r) (hi : I64 h.a ∧ I64 h.b) (hk : ∀ j, 2 ≤ j → j ≤ 9 → n.kind ≠ j) :
    Calls Tryz.prog 18 #[.agg #[.int .i64 n.kind, .slice A0 n.from_.length c0, .string n.text, .int .i64 n.n], hldV h, .bool false, recV r, .int .i64 input] w (AppPost (applyN n h false r input) w) := by
  obtain ⟨kind, from_, text, nn⟩ := n
  obtain ⟨hn, hkey, ha, hb⟩ := h
  obtain ⟨key, num, time⟩ := r
  simp only at hk hsz hi
  have q2 := beq_eq_false_iff_ne.2 (hk 2 (by omega) (by omega))
  have q3 := beq_eq_false_iff_ne.2 (hk 3 (by omega) (by omega))
  have q4 := beq_eq_false_iff_ne.2 (hk 4 (by omega) (by omega))
  have q5 := beq_eq_false_iff_ne.2 (hk 5 (by omega) (by omega))
  have q6 := beq_eq_false_iff_ne.2 (hk 6 (by omega) (by omega))
  have q7 := beq_eq_false_iff_ne.2 (hk 7 (by omega) (by omega))
  have q8 := beq_eq_false_iff_ne.2 (hk 8 (by omega) (by omega))
  have q9 := beq_eq_false_iff_ne.2 (hk 9 (by omega) (by omega))
  have HP : Hid (applyN ⟨kind, from_, text, nn⟩ ⟨hn, hkey, ha, hb⟩ false ⟨key, num, time⟩ input = ⟨passR ⟨key, num, time⟩, zeroH, false⟩) := by have k2 := hk 2 (by omega) (by omega); have k3 := hk 3 (by omega) (by omega); have k4 := hk 4 (by omega) (by omega); have k5 := hk 5 (by omega) (by omega); have k6 := hk 6 (by omega) (by omega); have k7 := hk 7 (by omega) (by omega); have k8 := hk 8 (by omega) (by omega); have k9 := hk 9 (by omega) (by omega); show _ = _; unfold applyN; simp only [if_neg k2, if_neg k3, if_neg k4, if_neg k5, if_neg k6, if_neg k7, if_neg k8, if_neg k9]; rfl
  show Calls _ _ #[.agg #[.int .i64 kind, .slice A0 from_.length c0, .string text, .int .i64 nn], .agg #[.int .i64 hn, .string hkey, .int .i64 ha, .int .i64 hb], .bool false, .agg #[.string key, .int .i64 num, .int .i64 time], .int .i64 input] w _
  have HR := Lib.hid hr
  have HV := Lib.hid hv
  have HI := Lib.hid hi
  clear hr hv hi hk
  go_enter Tryz.func18, Tryz.ntmps18
  go_upto_region 3 with (fail)
  go_region
  go_upto_region 6 with (fail)
  have hV := Vars.mk_ w (.int .i64 kind) (.slice A0 from_.length c0) (.string text) (.int .i64 nn) ⟨0, key, 0, 0⟩ ⟨key, num, time⟩
  generalize ((((w.alloc _).alloc _).alloc _).alloc _).drew = W1 at hV ⊢
  generalize w.heap.size + 1 + 1 + 1 = b3 at hV ⊢
  generalize w.heap.size + 1 + 1 = b2 at hV ⊢
  generalize w.heap.size + 1 = b1 at hV ⊢
  generalize w.heap.size = b0 at hV ⊢
  obtain ⟨⟨n0, n2, n3⟩, ⟨h10, h11, h12, h13, h1f⟩, ⟨r0, r1, r2, rf⟩, ⟨_, _, _, _, s0, s1, s2, s3⟩, sf⟩ := hV.cells
  have HW := Lib.hid hV
  clear hV
  go_wp2_with fail
  refine (dpass_ok ⟨key, num, time⟩ W1 (HR.out.1)).mono ?_
  rintro e w4 ⟨A, c, rfl, ho, hbl, hb4⟩
  have hV4 := HW.out.next hb4
  have HO := Lib.hid ho
  have HBL := Lib.hid hbl
  have HLT := Lib.hid HW.out.lt3
  have HLW := Lib.hid HW.out.below.size
  have HLB := Lib.hid HW.out.lt1
  clear HW n0 n2 n3 h10 h11 h12 h13 h1f r0 r1 r2 rf s0 s1 s2 s3 sf ho hbl hb4
  obtain ⟨⟨n0, n2, n3⟩, ⟨h10, h11, h12, h13, h1f⟩, ⟨r0, r1, r2, rf⟩, ⟨_, _, _, _, s0, s1, s2, s3⟩, sf⟩ := hV4.cells
  have HW := Lib.hid hV4
  clear hV4
  go_upto_region 46 with (fail)
  have hV5 := HW.out.zero
  have ho5 : OwnS ((((w4.setCell ⟨b1, 0, none⟩ (.int .i64 0)).setCell ⟨b1, 1, none⟩ (.string ⟨#[]⟩)).setCell ⟨b1, 2, none⟩ (.int .i64 0)).setCell ⟨b1, 3, none⟩ (.int .i64 0)) 44 3 A c (passR ⟨key, num, time⟩).length ((passR ⟨key, num, time⟩).flatMap recCells) := HW.out.own_zero HO.out HBL.out HLB.out
  clear HW HO n0 n2 n3 h10 h11 h12 h13 h1f r0 r1 r2 rf s0 s1 s2 s3 sf
  generalize (((w4.setCell _ _).setCell _ _).setCell _ _).setCell _ _ = W6 at hV5 ho5 ⊢
  have HO := Lib.hid ho5
  clear ho5
  obtain ⟨⟨n0, n2, n3⟩, ⟨h10, h11, h12, h13, h1f⟩, ⟨r0, r1, r2, rf⟩, ⟨_, _, _, _, s0, s1, s2, s3⟩, sf⟩ := hV5.cells
  have HW := Lib.hid hV5
  clear hV5
  go_region
  have hF := HW.out.fin HO.out HBL.out HLT.out HLW.out 0 (⟨#[]⟩) (0) (0)
  clear HW n0 n2 n3 h10 h11 h12 h13 h1f r0 r1 r2 rf s0 s1 s2 s3 sf HO HBL
  generalize ((((W6.setCell ⟨b3, 0, none⟩ _).setCell _ _).setCell _ _).setCell _ _).drew = W5 at hF ⊢
  obtain ⟨hh, h1, h2, h3⟩ := hF
  obtain ⟨s0, s1, s2, s3, sf⟩ := hh.cells
  have HX := Lib.hid (And.intro h1 (And.intro h2 h3))
  clear h1 h2 h3 hh
  go_wp2_with fail
  refine bodyPost_ret (v := .tuple #[.slice A (passR ⟨key, num, time⟩).length c, .agg #[.int .i64 0, .string (⟨#[]⟩), .int .i64 (0), .int .i64 (0)], .bool false]) (by simp [results, Tryz.results18, go_sem, s0, s1, s2, s3]) rfl ?_
  rw [HP.out]
  exact ⟨A, c, rfl, HX.out⟩
set_option maxRecDepth 100000 in
set_option maxHeartbeats 1000000 in
theorem dapply_first_new (n : Nod) (A0 : Option Addr) (c0 : Nat) (h : Hld) (r : Rec) (input : Int) (w : World) (hv : ErrVars w) (hsz : n.text.size ≤ maxLen) (hr : RecOk r) (hi : I64 h.a ∧ I64 h.b) (hk : n.kind = 9) :
    Calls Tryz.prog 18 #[.agg #[.int .i64 n.kind, .slice A0 n.from_.length c0, .string n.text, .int .i64 n.n], hldV h, .bool false, recV r, .int .i64 input] w (AppPost (applyN n h false r input) w) := by
  obtain ⟨kind, from_, text, nn⟩ := n
  obtain ⟨hn, hkey, ha, hb⟩ := h
  obtain ⟨key, num, time⟩ := r
  simp only at hk hsz hi
  subst hk
  have HP : Hid (applyN ⟨9, from_, text, nn⟩ ⟨hn, hkey, ha, hb⟩ false ⟨key, num, time⟩ input = ⟨passR ⟨key, num, time⟩, ⟨0, key, 1, 0⟩, true⟩) := rfl
  show Calls _ _ #[.agg #[.int .i64 9, .slice A0 from_.length c0, .string text, .int .i64 nn], .agg #[.int .i64 hn, .string hkey, .int .i64 ha, .int .i64 hb], .bool false, .agg #[.string key, .int .i64 num, .int .i64 time], .int .i64 input] w _
  have HR := Lib.hid hr
  have HV := Lib.hid hv
  have HI := Lib.hid hi
  clear hr hv hi
  go_enter Tryz.func18, Tryz.ntmps18
  go_upto_region 3 with (fail)
  go_region
  go_upto_region 6 with (fail)
  have hV := Vars.mk_ w (.int .i64 9) (.slice A0 from_.length c0) (.string text) (.int .i64 nn) ⟨0, key, 0, 0⟩ ⟨key, num, time⟩
  generalize ((((w.alloc _).alloc _).alloc _).alloc _).drew = W1 at hV ⊢
  generalize w.heap.size + 1 + 1 + 1 = b3 at hV ⊢
  generalize w.heap.size + 1 + 1 = b2 at hV ⊢
  generalize w.heap.size + 1 = b1 at hV ⊢
  generalize w.heap.size = b0 at hV ⊢
  obtain ⟨⟨n0, n2, n3⟩, ⟨h10, h11, h12, h13, h1f⟩, ⟨r0, r1, r2, rf⟩, ⟨_, _, _, _, s0, s1, s2, s3⟩, sf⟩ := hV.cells
  have HW := Lib.hid hV
  clear hV
  go_wp2_with fail
  refine (dpass_ok ⟨key, num, time⟩ W1 (HR.out.1)).mono ?_
  rintro e w4 ⟨A, c, rfl, ho, hbl, hb4⟩
  have hV4 := HW.out.next hb4
  have HO := Lib.hid ho
  have HBL := Lib.hid hbl
  have HLT := Lib.hid HW.out.lt3
  have HLW := Lib.hid HW.out.below.size
  have HLB := Lib.hid HW.out.lt1
  clear HW n0 n2 n3 h10 h11 h12 h13 h1f r0 r1 r2 rf s0 s1 s2 s3 sf ho hbl hb4
  obtain ⟨⟨n0, n2, n3⟩, ⟨h10, h11, h12, h13, h1f⟩, ⟨r0, r1, r2, rf⟩, ⟨_, _, _, _, s0, s1, s2, s3⟩, sf⟩ := hV4.cells
  have HW := Lib.hid hV4
  clear hV4
  go_upto_region 44 with (fail)
  have hV3 := HW.out.a 1
  have ho3 : OwnS (w4.setCell ⟨b1, 2, none⟩ (.int .i64 1)) 44 3 A c (passR ⟨key, num, time⟩).length ((passR ⟨key, num, time⟩).flatMap recCells) := HO.out.setFar (fun e => by have h1 := HBL.out _ e; have h2 := HLB.out; simp at h1; omega) _
  clear HW HO n0 n2 n3 h10 h11 h12 h13 h1f r0 r1 r2 rf s0 s1 s2 s3 sf
  generalize w4.setCell ⟨b1, 2, none⟩ (.int .i64 1) = W7 at hV3 ho3 ⊢
  have HO := Lib.hid ho3
  clear ho3
  obtain ⟨⟨n0, n2, n3⟩, ⟨h10, h11, h12, h13, h1f⟩, ⟨r0, r1, r2, rf⟩, ⟨_, _, _, _, s0, s1, s2, s3⟩, sf⟩ := hV3.cells
  have HW := Lib.hid hV3
  clear hV3
  go_upto_region 46 with (fail)
  go_region
  have hF := HW.out.fin HO.out HBL.out HLT.out HLW.out 0 (key) (1) (0)
  clear HW n0 n2 n3 h10 h11 h12 h13 h1f r0 r1 r2 rf s0 s1 s2 s3 sf HO HBL
  generalize ((((W7.setCell ⟨b3, 0, none⟩ _).setCell _ _).setCell _ _).setCell _ _).drew = W5 at hF ⊢
  obtain ⟨hh, h1, h2, h3⟩ := hF
  obtain ⟨s0, s1, s2, s3, sf⟩ := hh.cells
  have HX := Lib.hid (And.intro h1 (And.intro h2 h3))
  clear h1 h2 h3 hh
  go_wp2_with fail
  refine bodyPost_ret (v := .tuple #[.slice A (passR ⟨key, num, time⟩).length c, .agg #[.int .i64 0, .string (key), .int .i64 (1), .int .i64 (0)], .bool true]) (by simp [results, Tryz.results18, go_sem, s0, s1, s2, s3]) rfl ?_
  rw [HP.out]
  exact ⟨A, c, rfl, HX.out⟩
set_option maxRecDepth 100000 in
set_option maxHeartbeats 1000000 in
theorem dapply_fold_new (n : Nod) (A0 : Option Addr) (c0 : Nat) (h : Hld) (r : Rec) (input : Int) (w : World) (hv : ErrVars w) (hsz : n.text.size ≤ maxLen) (hr : RecOk r) (hi : I64 h.a ∧ I64 h.b) (hk : n.kind = 7) :
    Calls Tryz.prog 18 #[.agg #[.int .i64 n.kind, .slice A0 n.from_.length c0, .string n.text, .int .i64 n.n], hldV h, .bool false, recV r, .int .i64 input] w (AppPost (applyN n h false r input) w) := by
  obtain ⟨kind, from_, text, nn⟩ := n
  obtain ⟨hn, hkey, ha, hb⟩ := h
  obtain ⟨key, num, time⟩ := r
  simp only at hk hsz hi
  subst hk
  have HP : Hid (applyN ⟨7, from_, text, nn⟩ ⟨hn, hkey, ha, hb⟩ false ⟨key, num, time⟩ input = ⟨passR ⟨key, evalOf text num 0, time⟩, ⟨0, key, evalOf text num 0, 0⟩, true⟩) := rfl
  show Calls _ _ #[.agg #[.int .i64 7, .slice A0 from_.length c0, .string text, .int .i64 nn], .agg #[.int .i64 hn, .string hkey, .int .i64 ha, .int .i64 hb], .bool false, .agg #[.string key, .int .i64 num, .int .i64 time], .int .i64 input] w _
  have HR := Lib.hid hr
  have HV := Lib.hid hv
  have HI := Lib.hid hi
  clear hr hv hi
  go_enter Tryz.func18, Tryz.ntmps18
  go_upto_region 3 with (fail)
  go_region
  go_upto_region 6 with (fail)
  have hV := Vars.mk_ w (.int .i64 7) (.slice A0 from_.length c0) (.string text) (.int .i64 nn) ⟨0, key, 0, 0⟩ ⟨key, num, time⟩
  generalize ((((w.alloc _).alloc _).alloc _).alloc _).drew = W1 at hV ⊢
  generalize w.heap.size + 1 + 1 + 1 = b3 at hV ⊢
  generalize w.heap.size + 1 + 1 = b2 at hV ⊢
  generalize w.heap.size + 1 = b1 at hV ⊢
  generalize w.heap.size = b0 at hV ⊢
  obtain ⟨⟨n0, n2, n3⟩, ⟨h10, h11, h12, h13, h1f⟩, ⟨r0, r1, r2, rf⟩, ⟨_, _, _, _, s0, s1, s2, s3⟩, sf⟩ := hV.cells
  have HW := Lib.hid hV
  clear hV
  go_wp2_with fail
  have hb0 := HW.out.below
  refine (eval_ok_any text num 0 W1 (HV.out.below hb0) hsz (i64_of_wf HR.out.2.1) ⟨by omega, by omega⟩).mono ?_
  rintro e w2 ⟨rfl, hb2⟩
  have hV2 := HW.out.next hb2
  clear HW n0 n2 n3 h10 h11 h12 h13 h1f r0 r1 r2 rf s0 s1 s2 s3 sf hb0 hb2
  rw [← evalOf_val]
  obtain ⟨⟨n0, n2, n3⟩, ⟨h10, h11, h12, h13, h1f⟩, ⟨r0, r1, r2, rf⟩, ⟨_, _, _, _, s0, s1, s2, s3⟩, sf⟩ := hV2.cells
  have HW := Lib.hid hV2
  clear hV2
  generalize evalOf text num 0 = x at HP ⊢
  go_upto_region 31 with (fail)
  have hV3 := ((HW.out.a (x)).num (x))
  clear HW n0 n2 n3 h10 h11 h12 h13 h1f r0 r1 r2 rf s0 s1 s2 s3 sf
  generalize (w2.setCell ⟨b1, 2, none⟩ (.int .i64 (x))).setCell ⟨b2, 1, none⟩ (.int .i64 (x)) = W3 at hV3 ⊢
  obtain ⟨⟨n0, n2, n3⟩, ⟨h10, h11, h12, h13, h1f⟩, ⟨r0, r1, r2, rf⟩, ⟨_, _, _, _, s0, s1, s2, s3⟩, sf⟩ := hV3.cells
  have HW := Lib.hid hV3
  clear hV3
  go_wp2_with fail
  refine (dpass_ok ⟨key, x, time⟩ W3 (HR.out.1)).mono ?_
  rintro e w4 ⟨A, c, rfl, ho, hbl, hb4⟩
  have hV4 := HW.out.next hb4
  have HO := Lib.hid ho
  have HBL := Lib.hid hbl
  have HLT := Lib.hid HW.out.lt3
  have HLW := Lib.hid HW.out.below.size
  have HLB := Lib.hid HW.out.lt1
  clear HW n0 n2 n3 h10 h11 h12 h13 h1f r0 r1 r2 rf s0 s1 s2 s3 sf ho hbl hb4
  obtain ⟨⟨n0, n2, n3⟩, ⟨h10, h11, h12, h13, h1f⟩, ⟨r0, r1, r2, rf⟩, ⟨_, _, _, _, s0, s1, s2, s3⟩, sf⟩ := hV4.cells
  have HW := Lib.hid hV4
  clear hV4
  go_upto_region 46 with (fail)
  go_region
  have hF := HW.out.fin HO.out HBL.out HLT.out HLW.out 0 (key) (x) (0)
  clear HW n0 n2 n3 h10 h11 h12 h13 h1f r0 r1 r2 rf s0 s1 s2 s3 sf HO HBL
  generalize ((((w4.setCell ⟨b3, 0, none⟩ _).setCell _ _).setCell _ _).setCell _ _).drew = W5 at hF ⊢
  obtain ⟨hh, h1, h2, h3⟩ := hF
  obtain ⟨s0, s1, s2, s3, sf⟩ := hh.cells
  have HX := Lib.hid (And.intro h1 (And.intro h2 h3))
  clear h1 h2 h3 hh
  go_wp2_with fail
  refine bodyPost_ret (v := .tuple #[.slice A (passR ⟨key, x, time⟩).length c, .agg #[.int .i64 0, .string (key), .int .i64 (x), .int .i64 (0)], .bool true]) (by simp [results, Tryz.results18, go_sem, s0, s1, s2, s3]) rfl ?_
  rw [HP.out]
  exact ⟨A, c, rfl, HX.out⟩
end Go.Proofs.YtfndhfekbbbliaaGreatDoor

/-
  Package den: the contract of Apply, kind by kind (printed by denapply.py). Conditions: the node's text is a string's, the numbers are ints, the two variables of Atoi's errors hold errors.
-/
namespace Go.Proofs.YtfndhfekbbbliaaGreatDoor
open Go.RowKit Go.Shelf
set_option linter.unusedVariables false

set_option maxRecDepth 100000 in
set_option maxHeartbeats 1000000 in
theorem dapply_filtered_has (n : Nod) (A0 : Option Addr) (c0 : Nat) (h : Hld) (r : Rec) (input : Int) (w : World) (hv : ErrVars w) (hsz : n.text.size ≤ maxLen) (hr : RecOk r) (hi : I64 h.a ∧ I64 h.b) (hk : n.kind = 3) (hx : evalOf n.text r.num 0 = 0) :
    Calls Tryz.prog 18 #[.agg #[.int .i64 n.kind, .slice A0 n.from_.length c0, .string n.text, .int .i64 n.n], hldV h, .bool true, recV r, .int .i64 input] w (AppPost (applyN n h true r input) w) := by
  obtain ⟨kind, from_, text, nn⟩ := n
  obtain ⟨hn, hkey, ha, hb⟩ := h
  obtain ⟨key, num, time⟩ := r
  simp only at hk hsz hi hx
  subst hk
  have HP : Hid (applyN ⟨3, from_, text, nn⟩ ⟨hn, hkey, ha, hb⟩ true ⟨key, num, time⟩ input = ⟨[], ⟨0, key, ha, hb⟩, true⟩) := by show _ = _; show ends_ (if evalOf text num 0 = 0 then [] else passR ⟨key, num, time⟩) _ _ = _; rw [if_pos hx]; rfl
  show Calls _ _ #[.agg #[.int .i64 3, .slice A0 from_.length c0, .string text, .int .i64 nn], .agg #[.int .i64 hn, .string hkey, .int .i64 ha, .int .i64 hb], .bool true, .agg #[.string key, .int .i64 num, .int .i64 time], .int .i64 input] w _
  have HR := Lib.hid hr
  have HV := Lib.hid hv
  have HI := Lib.hid hi
  clear hr hv hi
  go_enter Tryz.func18, Tryz.ntmps18
  go_upto_region 3 with (fail)
  go_region
  go_upto_region 6 with (fail)
  have hV := Vars.mk_ w (.int .i64 3) (.slice A0 from_.length c0) (.string text) (.int .i64 nn) ⟨0, key, ha, hb⟩ ⟨key, num, time⟩
  generalize ((((w.alloc _).alloc _).alloc _).alloc _).drew = W1 at hV ⊢
  generalize w.heap.size + 1 + 1 + 1 = b3 at hV ⊢
  generalize w.heap.size + 1 + 1 = b2 at hV ⊢
  generalize w.heap.size + 1 = b1 at hV ⊢
  generalize w.heap.size = b0 at hV ⊢
  obtain ⟨⟨n0, n2, n3⟩, ⟨h10, h11, h12, h13, h1f⟩, ⟨r0, r1, r2, rf⟩, ⟨_, _, _, _, s0, s1, s2, s3⟩, sf⟩ := hV.cells
  have HW := Lib.hid hV
  clear hV
  go_wp2_with fail
  have hb0 := HW.out.below
  refine (eval_ok_any text num 0 W1 (HV.out.below hb0) hsz (i64_of_wf HR.out.2.1) ⟨by omega, by omega⟩).mono ?_
  rintro e w2 ⟨rfl, hb2⟩
  have hV2 := HW.out.next hb2
  clear HW n0 n2 n3 h10 h11 h12 h13 h1f r0 r1 r2 rf s0 s1 s2 s3 sf hb0 hb2
  rw [← evalOf_val]
  obtain ⟨⟨n0, n2, n3⟩, ⟨h10, h11, h12, h13, h1f⟩, ⟨r0, r1, r2, rf⟩, ⟨_, _, _, _, s0, s1, s2, s3⟩, sf⟩ := hV2.cells
  have HW := Lib.hid hV2
  clear hV2
  generalize evalOf text num 0 = x at HP hx ⊢
  subst hx
  have HO := Lib.hid (show OwnS w2 44 3 none 0 ([] : List Rec).length (([] : List Rec).flatMap recCells) from OwnS.nil _ _ _)
  have HBL : Hid (∀ k, blk none = some k → w2.heap.size ≤ k) := nofun
  have HLT := Lib.hid HW.out.lt3
  have HLW := Lib.hid HW.out.below.size
  have HLB := Lib.hid HW.out.lt1
  go_upto_region 46 with (fail)
  go_region
  have hF := HW.out.fin HO.out HBL.out HLT.out HLW.out 0 (key) (ha) (hb)
  clear HW n0 n2 n3 h10 h11 h12 h13 h1f r0 r1 r2 rf s0 s1 s2 s3 sf HO HBL
  generalize ((((w2.setCell ⟨b3, 0, none⟩ _).setCell _ _).setCell _ _).setCell _ _).drew = W5 at hF ⊢
  obtain ⟨hh, h1, h2, h3⟩ := hF
  obtain ⟨s0, s1, s2, s3, sf⟩ := hh.cells
  have HX := Lib.hid (And.intro h1 (And.intro h2 h3))
  clear h1 h2 h3 hh
  go_wp2_with fail
  refine bodyPost_ret (v := .tuple #[.slice none 0 0, .agg #[.int .i64 0, .string (key), .int .i64 (ha), .int .i64 (hb)], .bool true]) (by simp [results, Tryz.results18, go_sem, s0, s1, s2, s3]) rfl ?_
  rw [HP.out]
  exact ⟨none, 0, rfl, HX.out⟩
set_option maxRecDepth 100000 in
set_option maxHeartbeats 1000000 in
theorem dapply_filter_has (n : Nod) (A0 : Option Addr) (c0 : Nat) (h : Hld) (r : Rec) (input : Int) (w : World) (hv : ErrVars w) (hsz : n.text.size ≤ maxLen) (hr : RecOk r) (hi : I64 h.a ∧ I64 h.b) (hk : n.kind = 3) (hx : ¬ evalOf n.text r.num 0 = 0) :
    Calls Tryz.prog 18 #[.agg #[.int .i64 n.kind, .slice A0 n.from_.length c0, .string n.text, .int .i64 n.n], hldV h, .bool true, recV r, .int .i64 input] w (AppPost (applyN n h true r input) w) := by
  obtain ⟨kind, from_, text, nn⟩ := n
  obtain ⟨hn, hkey, ha, hb⟩ := h
  obtain ⟨key, num, time⟩ := r
  simp only at hk hsz hi hx
  subst hk
  have HP : Hid (applyN ⟨3, from_, text, nn⟩ ⟨hn, hkey, ha, hb⟩ true ⟨key, num, time⟩ input = ⟨passR ⟨key, num, time⟩, ⟨0, key, ha, hb⟩, true⟩) := by show _ = _; show ends_ (if evalOf text num 0 = 0 then [] else passR ⟨key, num, time⟩) _ _ = _; rw [if_neg hx]; rfl
  show Calls _ _ #[.agg #[.int .i64 3, .slice A0 from_.length c0, .string text, .int .i64 nn], .agg #[.int .i64 hn, .string hkey, .int .i64 ha, .int .i64 hb], .bool true, .agg #[.string key, .int .i64 num, .int .i64 time], .int .i64 input] w _
  have HR := Lib.hid hr
  have HV := Lib.hid hv
  have HI := Lib.hid hi
  clear hr hv hi
  go_enter Tryz.func18, Tryz.ntmps18
  go_upto_region 3 with (fail)
  go_region
  go_upto_region 6 with (fail)
  have hV := Vars.mk_ w (.int .i64 3) (.slice A0 from_.length c0) (.string text) (.int .i64 nn) ⟨0, key, ha, hb⟩ ⟨key, num, time⟩
  generalize ((((w.alloc _).alloc _).alloc _).alloc _).drew = W1 at hV ⊢
  generalize w.heap.size + 1 + 1 + 1 = b3 at hV ⊢
  generalize w.heap.size + 1 + 1 = b2 at hV ⊢
  generalize w.heap.size + 1 = b1 at hV ⊢
  generalize w.heap.size = b0 at hV ⊢
  obtain ⟨⟨n0, n2, n3⟩, ⟨h10, h11, h12, h13, h1f⟩, ⟨r0, r1, r2, rf⟩, ⟨_, _, _, _, s0, s1, s2, s3⟩, sf⟩ := hV.cells
  have HW := Lib.hid hV
  clear hV
  go_wp2_with fail
  have hb0 := HW.out.below
  refine (eval_ok_any text num 0 W1 (HV.out.below hb0) hsz (i64_of_wf HR.out.2.1) ⟨by omega, by omega⟩).mono ?_
  rintro e w2 ⟨rfl, hb2⟩
  have hV2 := HW.out.next hb2
  clear HW n0 n2 n3 h10 h11 h12 h13 h1f r0 r1 r2 rf s0 s1 s2 s3 sf hb0 hb2
  rw [← evalOf_val]
  obtain ⟨⟨n0, n2, n3⟩, ⟨h10, h11, h12, h13, h1f⟩, ⟨r0, r1, r2, rf⟩, ⟨_, _, _, _, s0, s1, s2, s3⟩, sf⟩ := hV2.cells
  have HW := Lib.hid hV2
  clear hV2
  generalize evalOf text num 0 = x at HP hx ⊢
  have hx2 : (x == 0) = false := beq_eq_false_iff_ne.2 hx
  go_wp2_with fail
  refine (dpass_ok ⟨key, num, time⟩ w2 (HR.out.1)).mono ?_
  rintro e w4 ⟨A, c, rfl, ho, hbl, hb4⟩
  have hV4 := HW.out.next hb4
  have HO := Lib.hid ho
  have HBL := Lib.hid hbl
  have HLT := Lib.hid HW.out.lt3
  have HLW := Lib.hid HW.out.below.size
  have HLB := Lib.hid HW.out.lt1
  clear HW n0 n2 n3 h10 h11 h12 h13 h1f r0 r1 r2 rf s0 s1 s2 s3 sf ho hbl hb4
  obtain ⟨⟨n0, n2, n3⟩, ⟨h10, h11, h12, h13, h1f⟩, ⟨r0, r1, r2, rf⟩, ⟨_, _, _, _, s0, s1, s2, s3⟩, sf⟩ := hV4.cells
  have HW := Lib.hid hV4
  clear hV4
  go_upto_region 46 with (fail)
  go_region
  have hF := HW.out.fin HO.out HBL.out HLT.out HLW.out 0 (key) (ha) (hb)
  clear HW n0 n2 n3 h10 h11 h12 h13 h1f r0 r1 r2 rf s0 s1 s2 s3 sf HO HBL
  generalize ((((w4.setCell ⟨b3, 0, none⟩ _).setCell _ _).setCell _ _).setCell _ _).drew = W5 at hF ⊢
  obtain ⟨hh, h1, h2, h3⟩ := hF
  obtain ⟨s0, s1, s2, s3, sf⟩ := hh.cells
  have HX := Lib.hid (And.intro h1 (And.intro h2 h3))
  clear h1 h2 h3 hh
  go_wp2_with fail
  refine bodyPost_ret (v := .tuple #[.slice A (passR ⟨key, num, time⟩).length c, .agg #[.int .i64 0, .string (key), .int .i64 (ha), .int .i64 (hb)], .bool true]) (by simp [results, Tryz.results18, go_sem, s0, s1, s2, s3]) rfl ?_
  rw [HP.out]
  exact ⟨A, c, rfl, HX.out⟩
set_option maxRecDepth 100000 in
set_option maxHeartbeats 1000000 in
theorem dapply_filtered_new (n : Nod) (A0 : Option Addr) (c0 : Nat) (h : Hld) (r : Rec) (input : Int) (w : World) (hv : ErrVars w) (hsz : n.text.size ≤ maxLen) (hr : RecOk r) (hi : I64 h.a ∧ I64 h.b) (hk : n.kind = 3) (hx : evalOf n.text r.num 0 = 0) :
    Calls Tryz.prog 18 #[.agg #[.int .i64 n.kind, .slice A0 n.from_.length c0, .string n.text, .int .i64 n.n], hldV h, .bool false, recV r, .int .i64 input] w (AppPost (applyN n h false r input) w) := by
  obtain ⟨kind, from_, text, nn⟩ := n
  obtain ⟨hn, hkey, ha, hb⟩ := h
  obtain ⟨key, num, time⟩ := r
  simp only at hk hsz hi hx
  subst hk
  have HP : Hid (applyN ⟨3, from_, text, nn⟩ ⟨hn, hkey, ha, hb⟩ false ⟨key, num, time⟩ input = ⟨[], zeroH, false⟩) := by show _ = _; show ends_ (if evalOf text num 0 = 0 then [] else passR ⟨key, num, time⟩) _ _ = _; rw [if_pos hx]; rfl
  show Calls _ _ #[.agg #[.int .i64 3, .slice A0 from_.length c0, .string text, .int .i64 nn], .agg #[.int .i64 hn, .string hkey, .int .i64 ha, .int .i64 hb], .bool false, .agg #[.string key, .int .i64 num, .int .i64 time], .int .i64 input] w _
  have HR := Lib.hid hr
  have HV := Lib.hid hv
  have HI := Lib.hid hi
  clear hr hv hi
  go_enter Tryz.func18, Tryz.ntmps18
  go_upto_region 3 with (fail)
  go_region
  go_upto_region 6 with (fail)
  have hV := Vars.mk_ w (.int .i64 3) (.slice A0 from_.length c0) (.string text) (.int .i64 nn) ⟨0, key, 0, 0⟩ ⟨key, num, time⟩
  generalize ((((w.alloc _).alloc _).alloc _).alloc _).drew = W1 at hV ⊢
  generalize w.heap.size + 1 + 1 + 1 = b3 at hV ⊢
  generalize w.heap.size + 1 + 1 = b2 at hV ⊢
  generalize w.heap.size + 1 = b1 at hV ⊢
  generalize w.heap.size = b0 at hV ⊢
  obtain ⟨⟨n0, n2, n3⟩, ⟨h10, h11, h12, h13, h1f⟩, ⟨r0, r1, r2, rf⟩, ⟨_, _, _, _, s0, s1, s2, s3⟩, sf⟩ := hV.cells
  have HW := Lib.hid hV
  clear hV
  go_wp2_with fail
  have hb0 := HW.out.below
  refine (eval_ok_any text num 0 W1 (HV.out.below hb0) hsz (i64_of_wf HR.out.2.1) ⟨by omega, by omega⟩).mono ?_
  rintro e w2 ⟨rfl, hb2⟩
  have hV2 := HW.out.next hb2
  clear HW n0 n2 n3 h10 h11 h12 h13 h1f r0 r1 r2 rf s0 s1 s2 s3 sf hb0 hb2
  rw [← evalOf_val]
  obtain ⟨⟨n0, n2, n3⟩, ⟨h10, h11, h12, h13, h1f⟩, ⟨r0, r1, r2, rf⟩, ⟨_, _, _, _, s0, s1, s2, s3⟩, sf⟩ := hV2.cells
  have HW := Lib.hid hV2
  clear hV2
  generalize evalOf text num 0 = x at HP hx ⊢
  subst hx
  have HO := Lib.hid (show OwnS w2 44 3 none 0 ([] : List Rec).length (([] : List Rec).flatMap recCells) from OwnS.nil _ _ _)
  have HBL : Hid (∀ k, blk none = some k → w2.heap.size ≤ k) := nofun
  have HLT := Lib.hid HW.out.lt3
  have HLW := Lib.hid HW.out.below.size
  have HLB := Lib.hid HW.out.lt1
  go_upto_region 46 with (fail)
  have hV5 := HW.out.zero
  have ho5 : OwnS ((((w2.setCell ⟨b1, 0, none⟩ (.int .i64 0)).setCell ⟨b1, 1, none⟩ (.string ⟨#[]⟩)).setCell ⟨b1, 2, none⟩ (.int .i64 0)).setCell ⟨b1, 3, none⟩ (.int .i64 0)) 44 3 none 0 ([] : List Rec).length (([] : List Rec).flatMap recCells) := HW.out.own_zero HO.out HBL.out HLB.out
  clear HW HO n0 n2 n3 h10 h11 h12 h13 h1f r0 r1 r2 rf s0 s1 s2 s3 sf
  generalize (((w2.setCell _ _).setCell _ _).setCell _ _).setCell _ _ = W6 at hV5 ho5 ⊢
  have HO := Lib.hid ho5
  clear ho5
  obtain ⟨⟨n0, n2, n3⟩, ⟨h10, h11, h12, h13, h1f⟩, ⟨r0, r1, r2, rf⟩, ⟨_, _, _, _, s0, s1, s2, s3⟩, sf⟩ := hV5.cells
  have HW := Lib.hid hV5
  clear hV5
  go_region
  have hF := HW.out.fin HO.out HBL.out HLT.out HLW.out 0 (⟨#[]⟩) (0) (0)
  clear HW n0 n2 n3 h10 h11 h12 h13 h1f r0 r1 r2 rf s0 s1 s2 s3 sf HO HBL
  generalize ((((W6.setCell ⟨b3, 0, none⟩ _).setCell _ _).setCell _ _).setCell _ _).drew = W5 at hF ⊢
  obtain ⟨hh, h1, h2, h3⟩ := hF
  obtain ⟨s0, s1, s2, s3, sf⟩ := hh.cells
  have HX := Lib.hid (And.intro h1 (And.intro h2 h3))
  clear h1 h2 h3 hh
  go_wp2_with fail
  refine bodyPost_ret (v := .tuple #[.slice none ([] : List Rec).length 0, .agg #[.int .i64 0, .string (⟨#[]⟩), .int .i64 (0), .int .i64 (0)], .bool false]) (by simp [results, Tryz.results18, go_sem, s0, s1, s2, s3]) rfl ?_
  rw [HP.out]
  exact ⟨none, 0, rfl, HX.out⟩
set_option maxRecDepth 100000 in
set_option maxHeartbeats 1000000 in
theorem dapply_filter_new (n : Nod) (A0 : Option Addr) (c0 : Nat) (h : Hld) (r : Rec) (input : Int) (w : World) (hv : ErrVars w) (hsz : n.text.size ≤ maxLen) (hr : RecOk r) (hi : I64 h.a ∧ I64 h.b) (hk : n.kind = 3) (hx : ¬ evalOf n.text r.num 0 = 0) :
    Calls Tryz.prog 18 #[.agg #[.int .i64 n.kind, .slice A0 n.from_.length c0, .string n.text, .int .i64 n.n], hldV h, .bool false, recV r, .int .i64 input] w (AppPost (applyN n h false r input) w) := by
  obtain ⟨kind, from_, text, nn⟩ := n
  obtain ⟨hn, hkey, ha, hb⟩ := h
  obtain ⟨key, num, time⟩ := r
  simp only at hk hsz hi hx
  subst hk
  have HP : Hid (applyN ⟨3, from_, text, nn⟩ ⟨hn, hkey, ha, hb⟩ false ⟨key, num, time⟩ input = ⟨passR ⟨key, num, time⟩, zeroH, false⟩) := by show _ = _; show ends_ (if evalOf text num 0 = 0 then [] else passR ⟨key, num, time⟩) _ _ = _; rw [if_neg hx]; rfl
  show Calls _ _ #[.agg #[.int .i64 3, .slice A0 from_.length c0, .string text, .int .i64 nn], .agg #[.int .i64 hn, .string hkey, .int .i64 ha, .int .i64 hb], .bool false, .agg #[.string key, .int .i64 num, .int .i64 time], .int .i64 input] w _
  have HR := Lib.hid hr
  have HV := Lib.hid hv
  have HI := Lib.hid hi
  clear hr hv hi
  go_enter Tryz.func18, Tryz.ntmps18
  go_upto_region 3 with (fail)
  go_region
  go_upto_region 6 with (fail)
  have hV := Vars.mk_ w (.int .i64 3) (.slice A0 from_.length c0) (.string text) (.int .i64 nn) ⟨0, key, 0, 0⟩ ⟨key, num, time⟩
  generalize ((((w.alloc _).alloc _).alloc _).alloc _).drew = W1 at hV ⊢
  generalize w.heap.size + 1 + 1 + 1 = b3 at hV ⊢
  generalize w.heap.size + 1 + 1 = b2 at hV ⊢
  generalize w.heap.size + 1 = b1 at hV ⊢
  generalize w.heap.size = b0 at hV ⊢
  obtain ⟨⟨n0, n2, n3⟩, ⟨h10, h11, h12, h13, h1f⟩, ⟨r0, r1, r2, rf⟩, ⟨_, _, _, _, s0, s1, s2, s3⟩, sf⟩ := hV.cells
  have HW := Lib.hid hV
  clear hV
  go_wp2_with fail
  have hb0 := HW.out.below
  refine (eval_ok_any text num 0 W1 (HV.out.below hb0) hsz (i64_of_wf HR.out.2.1) ⟨by omega, by omega⟩).mono ?_
  rintro e w2 ⟨rfl, hb2⟩
  have hV2 := HW.out.next hb2
  clear HW n0 n2 n3 h10 h11 h12 h13 h1f r0 r1 r2 rf s0 s1 s2 s3 sf hb0 hb2
  rw [← evalOf_val]
  obtain ⟨⟨n0, n2, n3⟩, ⟨h10, h11, h12, h13, h1f⟩, ⟨r0, r1, r2, rf⟩, ⟨_, _, _, _, s0, s1, s2, s3⟩, sf⟩ := hV2.cells
  have HW := Lib.hid hV2
  clear hV2
  generalize evalOf text num 0 = x at HP hx ⊢
  have hx2 : (x == 0) = false := beq_eq_false_iff_ne.2 hx
  go_wp2_with fail
  refine (dpass_ok ⟨key, num, time⟩ w2 (HR.out.1)).mono ?_
  rintro e w4 ⟨A, c, rfl, ho, hbl, hb4⟩
  have hV4 := HW.out.next hb4
  have HO := Lib.hid ho
  have HBL := Lib.hid hbl
  have HLT := Lib.hid HW.out.lt3
  have HLW := Lib.hid HW.out.below.size
  have HLB := Lib.hid HW.out.lt1
  clear HW n0 n2 n3 h10 h11 h12 h13 h1f r0 r1 r2 rf s0 s1 s2 s3 sf ho hbl hb4
  obtain ⟨⟨n0, n2, n3⟩, ⟨h10, h11, h12, h13, h1f⟩, ⟨r0, r1, r2, rf⟩, ⟨_, _, _, _, s0, s1, s2, s3⟩, sf⟩ := hV4.cells
  have HW := Lib.hid hV4
  clear hV4
  go_upto_region 46 with (fail)
  have hV5 := HW.out.zero
  have ho5 : OwnS ((((w4.setCell ⟨b1, 0, none⟩ (.int .i64 0)).setCell ⟨b1, 1, none⟩ (.string ⟨#[]⟩)).setCell ⟨b1, 2, none⟩ (.int .i64 0)).setCell ⟨b1, 3, none⟩ (.int .i64 0)) 44 3 A c (passR ⟨key, num, time⟩).length ((passR ⟨key, num, time⟩).flatMap recCells) := HW.out.own_zero HO.out HBL.out HLB.out
  clear HW HO n0 n2 n3 h10 h11 h12 h13 h1f r0 r1 r2 rf s0 s1 s2 s3 sf
  generalize (((w4.setCell _ _).setCell _ _).setCell _ _).setCell _ _ = W6 at hV5 ho5 ⊢
  have HO := Lib.hid ho5
  clear ho5
  obtain ⟨⟨n0, n2, n3⟩, ⟨h10, h11, h12, h13, h1f⟩, ⟨r0, r1, r2, rf⟩, ⟨_, _, _, _, s0, s1, s2, s3⟩, sf⟩ := hV5.cells
  have HW := Lib.hid hV5
  clear hV5
  go_region
  have hF := HW.out.fin HO.out HBL.out HLT.out HLW.out 0 (⟨#[]⟩) (0) (0)
  clear HW n0 n2 n3 h10 h11 h12 h13 h1f r0 r1 r2 rf s0 s1 s2 s3 sf HO HBL
  generalize ((((W6.setCell ⟨b3, 0, none⟩ _).setCell _ _).setCell _ _).setCell _ _).drew = W5 at hF ⊢
  obtain ⟨hh, h1, h2, h3⟩ := hF
  obtain ⟨s0, s1, s2, s3, sf⟩ := hh.cells
  have HX := Lib.hid (And.intro h1 (And.intro h2 h3))
  clear h1 h2 h3 hh
  go_wp2_with fail
  refine bodyPost_ret (v := .tuple #[.slice A (passR ⟨key, num, time⟩).length c, .agg #[.int .i64 0, .string (⟨#[]⟩), .int .i64 (0), .int .i64 (0)], .bool false]) (by simp [results, Tryz.results18, go_sem, s0, s1, s2, s3]) rfl ?_
  rw [HP.out]
  exact ⟨A, c, rfl, HX.out⟩
end Go.Proofs.YtfndhfekbbbliaaGreatDoor

/-
  Package den: the contract of Apply, kind by kind (printed by denapply.py). Conditions: the node's text is a string's, the numbers are ints, the two variables of Atoi's errors hold errors.
-/
namespace Go.Proofs.YtfndhfekbbbliaaGreatDoor
open Go.RowKit Go.Shelf
set_option linter.unusedVariables false

set_option maxRecDepth 100000 in
set_option maxHeartbeats 1000000 in
theorem dapply_wait_has (n : Nod) (A0 : Option Addr) (c0 : Nat) (h : Hld) (r : Rec) (input : Int) (w : World) (hv : ErrVars w) (hsz : n.text.size ≤ maxLen) (hr : RecOk r) (hi : I64 h.a ∧ I64 h.b) (hk : n.kind = 8) (hx : ¬ n.n ≤ wrap64 (h.a + 1)) :
    Calls Tryz.prog 18 #[.agg #[.int .i64 n.kind, .slice A0 n.from_.length c0, .string n.text, .int .i64 n.n], hldV h, .bool true, recV r, .int .i64 input] w (AppPost (applyN n h true r input) w) := by
  obtain ⟨kind, from_, text, nn⟩ := n
  obtain ⟨hn, hkey, ha, hb⟩ := h
  obtain ⟨key, num, time⟩ := r
  simp only at hk hsz hi hx
  subst hk
  have HP : Hid (applyN ⟨8, from_, text, nn⟩ ⟨hn, hkey, ha, hb⟩ true ⟨key, num, time⟩ input = ⟨[], ⟨0, key, wrap64 (ha + 1), wrap64 (hb + num)⟩, true⟩) := by show _ = _; show (if nn ≤ wrap64 (ha + 1) then ends_ (passR ⟨key, wrap64 (hb + num), time⟩) ⟨0, key, 0, 0⟩ true else ends_ [] ⟨0, key, wrap64 (ha + 1), wrap64 (hb + num)⟩ true) = _; rw [if_neg hx]; rfl
  show Calls _ _ #[.agg #[.int .i64 8, .slice A0 from_.length c0, .string text, .int .i64 nn], .agg #[.int .i64 hn, .string hkey, .int .i64 ha, .int .i64 hb], .bool true, .agg #[.string key, .int .i64 num, .int .i64 time], .int .i64 input] w _
  have HR := Lib.hid hr
  have HV := Lib.hid hv
  have HI := Lib.hid hi
  clear hr hv hi
  go_enter Tryz.func18, Tryz.ntmps18
  go_upto_region 3 with (fail)
  go_region
  go_upto_region 6 with (fail)
  have hV := Vars.mk_ w (.int .i64 8) (.slice A0 from_.length c0) (.string text) (.int .i64 nn) ⟨0, key, ha, hb⟩ ⟨key, num, time⟩
  generalize ((((w.alloc _).alloc _).alloc _).alloc _).drew = W1 at hV ⊢
  generalize w.heap.size + 1 + 1 + 1 = b3 at hV ⊢
  generalize w.heap.size + 1 + 1 = b2 at hV ⊢
  generalize w.heap.size + 1 = b1 at hV ⊢
  generalize w.heap.size = b0 at hV ⊢
  obtain ⟨⟨n0, n2, n3⟩, ⟨h10, h11, h12, h13, h1f⟩, ⟨r0, r1, r2, rf⟩, ⟨_, _, _, _, s0, s1, s2, s3⟩, sf⟩ := hV.cells
  have HW := Lib.hid hV
  clear hV
  go_upto_region 36 with (fail)
  have hV3 := ((HW.out.a (wrap64 (ha + 1))).b (wrap64 (hb + num)))
  clear HW n0 n2 n3 h10 h11 h12 h13 h1f r0 r1 r2 rf s0 s1 s2 s3 sf
  generalize (W1.setCell ⟨b1, 2, none⟩ (.int .i64 (wrap64 (ha + 1)))).setCell ⟨b1, 3, none⟩ (.int .i64 (wrap64 (hb + num))) = W3 at hV3 ⊢
  obtain ⟨⟨n0, n2, n3⟩, ⟨h10, h11, h12, h13, h1f⟩, ⟨r0, r1, r2, rf⟩, ⟨_, _, _, _, s0, s1, s2, s3⟩, sf⟩ := hV3.cells
  have HW := Lib.hid hV3
  clear hV3
  have d2 : decide (nn ≤ wrap64 (ha + 1)) = false := decide_eq_false hx
  have HO := Lib.hid (show OwnS W3 44 3 none 0 ([] : List Rec).length (([] : List Rec).flatMap recCells) from OwnS.nil _ _ _)
  have HBL : Hid (∀ k, blk none = some k → W3.heap.size ≤ k) := nofun
  have HLT := Lib.hid HW.out.lt3
  have HLW := Lib.hid HW.out.below.size
  have HLB := Lib.hid HW.out.lt1
  go_upto_region 46 with (fail)
  go_region
  have hF := HW.out.fin HO.out HBL.out HLT.out HLW.out 0 (key) (wrap64 (ha + 1)) (wrap64 (hb + num))
  clear HW n0 n2 n3 h10 h11 h12 h13 h1f r0 r1 r2 rf s0 s1 s2 s3 sf HO HBL
  generalize ((((W3.setCell ⟨b3, 0, none⟩ _).setCell _ _).setCell _ _).setCell _ _).drew = W5 at hF ⊢
  obtain ⟨hh, h1, h2, h3⟩ := hF
  obtain ⟨s0, s1, s2, s3, sf⟩ := hh.cells
  have HX := Lib.hid (And.intro h1 (And.intro h2 h3))
  clear h1 h2 h3 hh
  go_wp2_with fail
  refine bodyPost_ret (v := .tuple #[.slice none 0 0, .agg #[.int .i64 0, .string (key), .int .i64 (wrap64 (ha + 1)), .int .i64 (wrap64 (hb + num))], .bool true]) (by simp [results, Tryz.results18, go_sem, s0, s1, s2, s3]) rfl ?_
  rw [HP.out]
  exact ⟨none, 0, rfl, HX.out⟩
set_option maxRecDepth 100000 in
set_option maxHeartbeats 1000000 in
theorem dapply_every_has (n : Nod) (A0 : Option Addr) (c0 : Nat) (h : Hld) (r : Rec) (input : Int) (w : World) (hv : ErrVars w) (hsz : n.text.size ≤ maxLen) (hr : RecOk r) (hi : I64 h.a ∧ I64 h.b) (hk : n.kind = 8) (hx : n.n ≤ wrap64 (h.a + 1)) :
    Calls Tryz.prog 18 #[.agg #[.int .i64 n.kind, .slice A0 n.from_.length c0, .string n.text, .int .i64 n.n], hldV h, .bool true, recV r, .int .i64 input] w (AppPost (applyN n h true r input) w) := by
  obtain ⟨kind, from_, text, nn⟩ := n
  obtain ⟨hn, hkey, ha, hb⟩ := h
  obtain ⟨key, num, time⟩ := r
  simp only at hk hsz hi hx
  subst hk
  have HP : Hid (applyN ⟨8, from_, text, nn⟩ ⟨hn, hkey, ha, hb⟩ true ⟨key, num, time⟩ input = ⟨passR ⟨key, wrap64 (hb + num), time⟩, ⟨0, key, 0, 0⟩, true⟩) := by show _ = _; show (if nn ≤ wrap64 (ha + 1) then ends_ (passR ⟨key, wrap64 (hb + num), time⟩) ⟨0, key, 0, 0⟩ true else ends_ [] ⟨0, key, wrap64 (ha + 1), wrap64 (hb + num)⟩ true) = _; rw [if_pos hx]; rfl
  show Calls _ _ #[.agg #[.int .i64 8, .slice A0 from_.length c0, .string text, .int .i64 nn], .agg #[.int .i64 hn, .string hkey, .int .i64 ha, .int .i64 hb], .bool true, .agg #[.string key, .int .i64 num, .int .i64 time], .int .i64 input] w _
  have HR := Lib.hid hr
  have HV := Lib.hid hv
  have HI := Lib.hid hi
  clear hr hv hi
  go_enter Tryz.func18, Tryz.ntmps18
  go_upto_region 3 with (fail)
  go_region
  go_upto_region 6 with (fail)
  have hV := Vars.mk_ w (.int .i64 8) (.slice A0 from_.length c0) (.string text) (.int .i64 nn) ⟨0, key, ha, hb⟩ ⟨key, num, time⟩
  generalize ((((w.alloc _).alloc _).alloc _).alloc _).drew = W1 at hV ⊢
  generalize w.heap.size + 1 + 1 + 1 = b3 at hV ⊢
  generalize w.heap.size + 1 + 1 = b2 at hV ⊢
  generalize w.heap.size + 1 = b1 at hV ⊢
  generalize w.heap.size = b0 at hV ⊢
  obtain ⟨⟨n0, n2, n3⟩, ⟨h10, h11, h12, h13, h1f⟩, ⟨r0, r1, r2, rf⟩, ⟨_, _, _, _, s0, s1, s2, s3⟩, sf⟩ := hV.cells
  have HW := Lib.hid hV
  clear hV
  go_upto_region 36 with (fail)
  have hV3 := ((HW.out.a (wrap64 (ha + 1))).b (wrap64 (hb + num)))
  clear HW n0 n2 n3 h10 h11 h12 h13 h1f r0 r1 r2 rf s0 s1 s2 s3 sf
  generalize (W1.setCell ⟨b1, 2, none⟩ (.int .i64 (wrap64 (ha + 1)))).setCell ⟨b1, 3, none⟩ (.int .i64 (wrap64 (hb + num))) = W3 at hV3 ⊢
  obtain ⟨⟨n0, n2, n3⟩, ⟨h10, h11, h12, h13, h1f⟩, ⟨r0, r1, r2, rf⟩, ⟨_, _, _, _, s0, s1, s2, s3⟩, sf⟩ := hV3.cells
  have HW := Lib.hid hV3
  clear hV3
  have d2 : decide (nn ≤ wrap64 (ha + 1)) = true := decide_eq_true hx
  go_upto_region 39 with (fail)
  have hV3 := (((HW.out.num (wrap64 (hb + num))).a (0)).b (0))
  clear HW n0 n2 n3 h10 h11 h12 h13 h1f r0 r1 r2 rf s0 s1 s2 s3 sf
  generalize ((W3.setCell ⟨b2, 1, none⟩ (.int .i64 (wrap64 (hb + num)))).setCell ⟨b1, 2, none⟩ (.int .i64 (0))).setCell ⟨b1, 3, none⟩ (.int .i64 (0)) = W7 at hV3 ⊢
  obtain ⟨⟨n0, n2, n3⟩, ⟨h10, h11, h12, h13, h1f⟩, ⟨r0, r1, r2, rf⟩, ⟨_, _, _, _, s0, s1, s2, s3⟩, sf⟩ := hV3.cells
  have HW := Lib.hid hV3
  clear hV3
  go_wp2_with fail
  refine (dpass_ok ⟨key, wrap64 (hb + num), time⟩ W7 (HR.out.1)).mono ?_
  rintro e w4 ⟨A, c, rfl, ho, hbl, hb4⟩
  have hV4 := HW.out.next hb4
  have HO := Lib.hid ho
  have HBL := Lib.hid hbl
  have HLT := Lib.hid HW.out.lt3
  have HLW := Lib.hid HW.out.below.size
  have HLB := Lib.hid HW.out.lt1
  clear HW n0 n2 n3 h10 h11 h12 h13 h1f r0 r1 r2 rf s0 s1 s2 s3 sf ho hbl hb4
  obtain ⟨⟨n0, n2, n3⟩, ⟨h10, h11, h12, h13, h1f⟩, ⟨r0, r1, r2, rf⟩, ⟨_, _, _, _, s0, s1, s2, s3⟩, sf⟩ := hV4.cells
  have HW := Lib.hid hV4
  clear hV4
  go_upto_region 46 with (fail)
  go_region
  have hF := HW.out.fin HO.out HBL.out HLT.out HLW.out 0 (key) (0) (0)
  clear HW n0 n2 n3 h10 h11 h12 h13 h1f r0 r1 r2 rf s0 s1 s2 s3 sf HO HBL
  generalize ((((w4.setCell ⟨b3, 0, none⟩ _).setCell _ _).setCell _ _).setCell _ _).drew = W5 at hF ⊢
  obtain ⟨hh, h1, h2, h3⟩ := hF
  obtain ⟨s0, s1, s2, s3, sf⟩ := hh.cells
  have HX := Lib.hid (And.intro h1 (And.intro h2 h3))
  clear h1 h2 h3 hh
  go_wp2_with fail
  refine bodyPost_ret (v := .tuple #[.slice A (passR ⟨key, wrap64 (hb + num), time⟩).length c, .agg #[.int .i64 0, .string (key), .int .i64 (0), .int .i64 (0)], .bool true]) (by simp [results, Tryz.results18, go_sem, s0, s1, s2, s3]) rfl ?_
  rw [HP.out]
  exact ⟨A, c, rfl, HX.out⟩
set_option maxRecDepth 100000 in
set_option maxHeartbeats 1000000 in
theorem dapply_wait_new (n : Nod) (A0 : Option Addr) (c0 : Nat) (h : Hld) (r : Rec) (input : Int) (w : World) (hv : ErrVars w) (hsz : n.text.size ≤ maxLen) (hr : RecOk r) (hi : I64 h.a ∧ I64 h.b) (hk : n.kind = 8) (hx : ¬ n.n ≤ wrap64 (0 + 1)) :
    Calls Tryz.prog 18 #[.agg #[.int .i64 n.kind, .slice A0 n.from_.length c0, .string n.text, .int .i64 n.n], hldV h, .bool false, recV r, .int .i64 input] w (AppPost (applyN n h false r input) w) := by
  obtain ⟨kind, from_, text, nn⟩ := n
  obtain ⟨hn, hkey, ha, hb⟩ := h
  obtain ⟨key, num, time⟩ := r
  simp only at hk hsz hi hx
  subst hk
  have HP : Hid (applyN ⟨8, from_, text, nn⟩ ⟨hn, hkey, ha, hb⟩ false ⟨key, num, time⟩ input = ⟨[], ⟨0, key, 1, wrap64 num⟩, true⟩) := by show _ = _; show (if nn ≤ wrap64 (0 + 1) then ends_ (passR ⟨key, wrap64 (0 + num), time⟩) ⟨0, key, 0, 0⟩ true else ends_ [] ⟨0, key, wrap64 (0 + 1), wrap64 (0 + num)⟩ true) = _; rw [if_neg hx, Int.zero_add, Int.zero_add, show wrap64 1 = 1 from by unfold wrap64; omega]; rfl
  show Calls _ _ #[.agg #[.int .i64 8, .slice A0 from_.length c0, .string text, .int .i64 nn], .agg #[.int .i64 hn, .string hkey, .int .i64 ha, .int .i64 hb], .bool false, .agg #[.string key, .int .i64 num, .int .i64 time], .int .i64 input] w _
  have HR := Lib.hid hr
  have HV := Lib.hid hv
  have HI := Lib.hid hi
  clear hr hv hi
  go_enter Tryz.func18, Tryz.ntmps18
  go_upto_region 3 with (fail)
  go_region
  go_upto_region 6 with (fail)
  have hV := Vars.mk_ w (.int .i64 8) (.slice A0 from_.length c0) (.string text) (.int .i64 nn) ⟨0, key, 0, 0⟩ ⟨key, num, time⟩
  generalize ((((w.alloc _).alloc _).alloc _).alloc _).drew = W1 at hV ⊢
  generalize w.heap.size + 1 + 1 + 1 = b3 at hV ⊢
  generalize w.heap.size + 1 + 1 = b2 at hV ⊢
  generalize w.heap.size + 1 = b1 at hV ⊢
  generalize w.heap.size = b0 at hV ⊢
  obtain ⟨⟨n0, n2, n3⟩, ⟨h10, h11, h12, h13, h1f⟩, ⟨r0, r1, r2, rf⟩, ⟨_, _, _, _, s0, s1, s2, s3⟩, sf⟩ := hV.cells
  have HW := Lib.hid hV
  clear hV
  rw [show wrap64 (0 + 1) = 1 from by unfold wrap64; omega] at hx
  go_upto_region 36 with (fail)
  have hV3 := ((HW.out.a (1)).b (wrap64 num))
  clear HW n0 n2 n3 h10 h11 h12 h13 h1f r0 r1 r2 rf s0 s1 s2 s3 sf
  generalize (W1.setCell ⟨b1, 2, none⟩ (.int .i64 (1))).setCell ⟨b1, 3, none⟩ (.int .i64 (wrap64 num)) = W3 at hV3 ⊢
  obtain ⟨⟨n0, n2, n3⟩, ⟨h10, h11, h12, h13, h1f⟩, ⟨r0, r1, r2, rf⟩, ⟨_, _, _, _, s0, s1, s2, s3⟩, sf⟩ := hV3.cells
  have HW := Lib.hid hV3
  clear hV3
  have d2 : decide (nn ≤ 1) = false := decide_eq_false hx
  have HO := Lib.hid (show OwnS W3 44 3 none 0 ([] : List Rec).length (([] : List Rec).flatMap recCells) from OwnS.nil _ _ _)
  have HBL : Hid (∀ k, blk none = some k → W3.heap.size ≤ k) := nofun
  have HLT := Lib.hid HW.out.lt3
  have HLW := Lib.hid HW.out.below.size
  have HLB := Lib.hid HW.out.lt1
  go_upto_region 46 with (fail)
  go_region
  have hF := HW.out.fin HO.out HBL.out HLT.out HLW.out 0 (key) (1) (wrap64 num)
  clear HW n0 n2 n3 h10 h11 h12 h13 h1f r0 r1 r2 rf s0 s1 s2 s3 sf HO HBL
  generalize ((((W3.setCell ⟨b3, 0, none⟩ _).setCell _ _).setCell _ _).setCell _ _).drew = W5 at hF ⊢
  obtain ⟨hh, h1, h2, h3⟩ := hF
  obtain ⟨s0, s1, s2, s3, sf⟩ := hh.cells
  have HX := Lib.hid (And.intro h1 (And.intro h2 h3))
  clear h1 h2 h3 hh
  go_wp2_with fail
  refine bodyPost_ret (v := .tuple #[.slice none 0 0, .agg #[.int .i64 0, .string (key), .int .i64 (1), .int .i64 (wrap64 num)], .bool true]) (by simp [results, Tryz.results18, go_sem, s0, s1, s2, s3]) rfl ?_
  rw [HP.out]
  exact ⟨none, 0, rfl, HX.out⟩
set_option maxRecDepth 100000 in
set_option maxHeartbeats 1000000 in
theorem dapply_every_new (n : Nod) (A0 : Option Addr) (c0 : Nat) (h : Hld) (r : Rec) (input : Int) (w : World) (hv : ErrVars w) (hsz : n.text.size ≤ maxLen) (hr : RecOk r) (hi : I64 h.a ∧ I64 h.b) (hk : n.kind = 8) (hx : n.n ≤ wrap64 (0 + 1)) :
    Calls Tryz.prog 18 #[.agg #[.int .i64 n.kind, .slice A0 n.from_.length c0, .string n.text, .int .i64 n.n], hldV h, .bool false, recV r, .int .i64 input] w (AppPost (applyN n h false r input) w) := by
  obtain ⟨kind, from_, text, nn⟩ := n
  obtain ⟨hn, hkey, ha, hb⟩ := h
  obtain ⟨key, num, time⟩ := r
  simp only at hk hsz hi hx
  subst hk
  have HP : Hid (applyN ⟨8, from_, text, nn⟩ ⟨hn, hkey, ha, hb⟩ false ⟨key, num, time⟩ input = ⟨passR ⟨key, wrap64 num, time⟩, ⟨0, key, 0, 0⟩, true⟩) := by show _ = _; show (if nn ≤ wrap64 (0 + 1) then ends_ (passR ⟨key, wrap64 (0 + num), time⟩) ⟨0, key, 0, 0⟩ true else ends_ [] ⟨0, key, wrap64 (0 + 1), wrap64 (0 + num)⟩ true) = _; rw [if_pos hx, Int.zero_add]; rfl
  show Calls _ _ #[.agg #[.int .i64 8, .slice A0 from_.length c0, .string text, .int .i64 nn], .agg #[.int .i64 hn, .string hkey, .int .i64 ha, .int .i64 hb], .bool false, .agg #[.string key, .int .i64 num, .int .i64 time], .int .i64 input] w _
  have HR := Lib.hid hr
  have HV := Lib.hid hv
  have HI := Lib.hid hi
  clear hr hv hi
  go_enter Tryz.func18, Tryz.ntmps18
  go_upto_region 3 with (fail)
  go_region
  go_upto_region 6 with (fail)
  have hV := Vars.mk_ w (.int .i64 8) (.slice A0 from_.length c0) (.string text) (.int .i64 nn) ⟨0, key, 0, 0⟩ ⟨key, num, time⟩
  generalize ((((w.alloc _).alloc _).alloc _).alloc _).drew = W1 at hV ⊢
  generalize w.heap.size + 1 + 1 + 1 = b3 at hV ⊢
  generalize w.heap.size + 1 + 1 = b2 at hV ⊢
  generalize w.heap.size + 1 = b1 at hV ⊢
  generalize w.heap.size = b0 at hV ⊢
  obtain ⟨⟨n0, n2, n3⟩, ⟨h10, h11, h12, h13, h1f⟩, ⟨r0, r1, r2, rf⟩, ⟨_, _, _, _, s0, s1, s2, s3⟩, sf⟩ := hV.cells
  have HW := Lib.hid hV
  clear hV
  rw [show wrap64 (0 + 1) = 1 from by unfold wrap64; omega] at hx
  go_upto_region 36 with (fail)
  have hV3 := ((HW.out.a (1)).b (wrap64 num))
  clear HW n0 n2 n3 h10 h11 h12 h13 h1f r0 r1 r2 rf s0 s1 s2 s3 sf
  generalize (W1.setCell ⟨b1, 2, none⟩ (.int .i64 (1))).setCell ⟨b1, 3, none⟩ (.int .i64 (wrap64 num)) = W3 at hV3 ⊢
  obtain ⟨⟨n0, n2, n3⟩, ⟨h10, h11, h12, h13, h1f⟩, ⟨r0, r1, r2, rf⟩, ⟨_, _, _, _, s0, s1, s2, s3⟩, sf⟩ := hV3.cells
  have HW := Lib.hid hV3
  clear hV3
  have d2 : decide (nn ≤ 1) = true := decide_eq_true hx
  go_upto_region 39 with (fail)
  have hV3 := (((HW.out.num (wrap64 num)).a (0)).b (0))
  clear HW n0 n2 n3 h10 h11 h12 h13 h1f r0 r1 r2 rf s0 s1 s2 s3 sf
  generalize ((W3.setCell ⟨b2, 1, none⟩ (.int .i64 (wrap64 num))).setCell ⟨b1, 2, none⟩ (.int .i64 (0))).setCell ⟨b1, 3, none⟩ (.int .i64 (0)) = W7 at hV3 ⊢
  obtain ⟨⟨n0, n2, n3⟩, ⟨h10, h11, h12, h13, h1f⟩, ⟨r0, r1, r2, rf⟩, ⟨_, _, _, _, s0, s1, s2, s3⟩, sf⟩ := hV3.cells
  have HW := Lib.hid hV3
  clear hV3
  go_wp2_with fail
  refine (dpass_ok ⟨key, wrap64 num, time⟩ W7 (HR.out.1)).mono ?_
  rintro e w4 ⟨A, c, rfl, ho, hbl, hb4⟩
  have hV4 := HW.out.next hb4
  have HO := Lib.hid ho
  have HBL := Lib.hid hbl
  have HLT := Lib.hid HW.out.lt3
  have HLW := Lib.hid HW.out.below.size
  have HLB := Lib.hid HW.out.lt1
  clear HW n0 n2 n3 h10 h11 h12 h13 h1f r0 r1 r2 rf s0 s1 s2 s3 sf ho hbl hb4
  obtain ⟨⟨n0, n2, n3⟩, ⟨h10, h11, h12, h13, h1f⟩, ⟨r0, r1, r2, rf⟩, ⟨_, _, _, _, s0, s1, s2, s3⟩, sf⟩ := hV4.cells
  have HW := Lib.hid hV4
  clear hV4
  go_upto_region 46 with (fail)
  go_region
  have hF := HW.out.fin HO.out HBL.out HLT.out HLW.out 0 (key) (0) (0)
  clear HW n0 n2 n3 h10 h11 h12 h13 h1f r0 r1 r2 rf s0 s1 s2 s3 sf HO HBL
  generalize ((((w4.setCell ⟨b3, 0, none⟩ _).setCell _ _).setCell _ _).setCell _ _).drew = W5 at hF ⊢
  obtain ⟨hh, h1, h2, h3⟩ := hF
  obtain ⟨s0, s1, s2, s3, sf⟩ := hh.cells
  have HX := Lib.hid (And.intro h1 (And.intro h2 h3))
  clear h1 h2 h3 hh
  go_wp2_with fail
  refine bodyPost_ret (v := .tuple #[.slice A (passR ⟨key, wrap64 num, time⟩).length c, .agg #[.int .i64 0, .string (key), .int .i64 (0), .int .i64 (0)], .bool true]) (by simp [results, Tryz.results18, go_sem, s0, s1, s2, s3]) rfl ?_
  rw [HP.out]
  exact ⟨A, c, rfl, HX.out⟩
end Go.Proofs.YtfndhfekbbbliaaGreatDoor
