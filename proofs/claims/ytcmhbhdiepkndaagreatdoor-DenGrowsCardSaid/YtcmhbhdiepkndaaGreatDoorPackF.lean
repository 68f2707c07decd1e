/-
  Several texts of this claim in one, in build order; each begins with its own remark, which says what it proves and under which conditions.
-/
import Derived.Test.YtcmhbhdiepkndaaGreatDoorPackE
import Derived.Test.YtcmhbhdiepkndaaGreatDoorPackA
import Derived.Deep.RegionLaw
import Derived.Deep.OwnRows
import Derived.Test.YtcmhbhdiepkndaaGreatDoorPackB
import Derived.Shelf.Strconv.Itoa3
import Derived.Lib.LaidTab
import Derived.Lib.SmallJoins
import Derived.Lib.AppendIntMem
import Derived.Deep.RegionHeld3
import Derived.Outline
import Derived.Maps.RangeWalk
import Derived.Maps.OwnSet
import Derived.Sort.KeysCollected

/-
  Package job: the contract of Uses. Conditions: where the job lies; the two variables of Atoi's errors hold errors.
-/
namespace Go.Proofs.YtcmhbhdiepkndaaGreatDoor
open Go.RowKit Go.Shelf
set_option linter.unusedVariables false

def IdxPost (l : List Int) (x : Int) (w : World) (e : Ending) (w' : World) : Prop := ∃ j : Int, e = .returned (.int .i64 j) ∧ decide (0 ≤ j) = l.contains x ∧ w = w'
theorem con_take (l : List Int) (x : Int) {j : Nat} (hj : j < l.length) : (l.take (j + 1)).contains x = ((l.take j).contains x || x == l[j]) := by
  rw [Bool.eq_iff_iff, Bool.or_eq_true, beq_iff_eq, List.contains_iff_mem, List.contains_iff_mem, List.take_succ_eq_append_getElem hj, List.mem_append, List.mem_singleton]
set_option maxRecDepth 100000 in
theorem index_int (F : Nat → Prop) (A : Option Addr) (c : Nat) (l : List Int) (x : Int) (w : World) (hl : SlA (intE .i64) F w A c l) :
    Calls Tryz.prog 39 #[.slice A l.length c, .int .i64 x] w (IdxPost l x w) := by
  have HL := Lib.hid hl
  have hle := hl.le
  clear hl
  go_enter Tryz.func39, Tryz.ntmps39
  go_wp2_with fail
  go_loop [8] (fun jv => ∃ j : Nat, j ≤ l.length ∧ jv = .int .i64 j ∧ Hid ((l.take j).contains x = false)) (fun jv => l.length - (intOf jv).toNat)
  case atStart => exact ⟨0, Nat.zero_le _, rfl, rfl⟩
  case round =>
    obtain ⟨j, hj, rfl, HJ⟩ := hrel
    by_cases hlt : j < l.length
    · obtain ⟨b, off, rfl, _, hc, _⟩ := HL.out.int_ hlt
      have HT := Lib.hid (con_take l x hlt)
      have HM := Lib.hid (List.getElem_mem hlt)
      generalize l[j] = y at hc HT HM
      cases hxy : (x == y) with
      | true =>
        have HC : Hid (l.contains x = true) := by
          show _ = _
          rw [List.contains_iff_mem, beq_iff_eq.1 hxy]; exact HM.out
        go_wp2_with fail
        go_ret
        exact ⟨j, rfl, by rw [HC.out]; exact decide_eq_true (by omega), rfl⟩
      | false =>
        have HJ2 : Hid ((l.take (j + 1)).contains x = false) := by show _ = _; rw [HT.out, HJ.out, hxy]; rfl
        clear HT HM HJ
        go_wp2_with fail
        go_round
        case rel => exact ⟨j + 1, by omega, by go_num, HJ2⟩
        case measure => simp [intOf]; omega
    · have dj : decide (j < l.length) = false := decide_eq_false hlt
      have HC : Hid (l.contains x = false) := by
        have h := HJ.out
        rw [List.take_of_length_le (by omega)] at h
        exact h
      clear hj hlt HJ
      go_wp2_with fail
      go_ret
      exact ⟨-1, rfl, by rw [HC.out]; rfl, rfl⟩
set_option maxRecDepth 100000 in
theorem contains_int (F : Nat → Prop) (A : Option Addr) (c : Nat) (l : List Int) (x : Int) (w : World) (hl : SlA (intE .i64) F w A c l) :
    Calls Tryz.prog 28 #[.slice A l.length c, .int .i64 x] w fun e w' => e = .returned (.bool (l.contains x)) ∧ w = w' := by
  have HI := Lib.hid (index_int F A c l x w hl)
  clear hl
  go_enter Tryz.func28, Tryz.ntmps28
  go_wp2_with fail
  refine HI.out.mono ?_
  rintro e w2 ⟨j, rfl, hj, rfl⟩
  have HJ := Lib.hid hj
  clear hj HI
  go_wp2_with fail
  go_ret
  exact ⟨by rw [← HJ.out]; rfl, rfl⟩
theorem info_ints : (Tryz.prog.info? 26).map (fun i => (i.zero, i.size, i.bytes)) = some (some (.slice none 0 0), 1, 24) := by kernel_rfl
theorem upk_same {rows : List (List Int)} {i : Nat} {fs : List Int} {k : Nat} (hk : k < fs.length) (h : (fs.take k).contains fs[k] = true) : upk rows i fs (k + 1) = upk rows i fs k := by
  conv => lhs; unfold upk
  rw [List.getElem?_eq_getElem hk]
  simp only
  rw [if_pos h]
theorem upk_add {rows : List (List Int)} {i : Nat} {fs : List Int} {k fn : Nat} {r : List Int} (hk : k < fs.length) (h : (fs.take k).contains fs[k] = false) (hfn : fs[k] = fn) (hr : (upk rows i fs k)[fn]? = some r) : upk rows i fs (k + 1) = (upk rows i fs k).set fn (r ++ [(i : Int)]) := by
  conv => lhs; unfold upk
  rw [List.getElem?_eq_getElem hk]
  simp only
  rw [if_neg (by rw [h]; decide), hfn, Int.toNat_natCast]
  apply List.ext_getElem?
  intro j
  rw [List.getElem?_modify, List.getElem?_set]
  by_cases hj : fn = j
  · subst hj
    have hlt : fn < (upk rows i fs k).length := by
      rcases Nat.lt_or_ge fn (upk rows i fs k).length with h | h
      · exact h
      · rw [List.getElem?_eq_none h] at hr; cases hr
    rw [hr, if_pos rfl, if_pos hlt]
    simp
  · rw [if_neg hj]
    cases (upk rows i fs k)[j]? with
    | none => rfl
    | some x => show some ((fun a => if fn = j then a ++ [(i : Int)] else a) x) = _; simp [hj]
def rowsV (rows : List (List Int)) : List (List Value) := rows.map fun r => r.flatMap fun n => [Value.int .i64 n]
def UsesPost (l : List Nod) (w : World) (e : Ending) (w' : World) : Prop :=
  (jobErr l = 0 → ∃ A c, e = .returned (.tuple #[.slice A l.length c, .nilIface]) ∧ SlA (slE (intE .i64)) (· < w'.heap.size) w' A c (usesAll l)) ∧ (jobErr l ≠ 0 → e = .returned (.tuple #[.slice none 0 0, errV (jobErr l)])) ∧ Below w.heap.size w w'
set_option maxRecDepth 100000 in
set_option maxHeartbeats 2000000 in
theorem uses_ok (F : Nat → Prop) (A : Option Addr) (c : Nat) (l : List Nod) (w : World) (hl : SlA nodE F w A c l) (hF : ∀ k, F k → k < w.heap.size) (hv : ErrVars w) :
    Calls Tryz.prog 16 #[.slice A l.length c] w (UsesPost l w) := by
  have HL := Lib.hid hl
  have hle := hl.le
  have HC := Lib.hid (jcheck_ok F A c l w hl hF hv)
  clear hl hv
  by_cases h0 : jobErr l = 0
  · rw [h0] at HC
    have H0 := Lib.hid h0
    have hl12 := (job_parts h0).1
    have HPOS := Lib.hid (job_from_pos h0)
    clear h0
    have hmk : ∀ u : World, (Instr.makeSlice 52 (.int .i64 (l.length : Int)) (.int .i64 (l.length : Int))).run Tryz.prog u = .ok (.slice (some ⟨u.heap.size, 0, none⟩) l.length l.length) (u.alloc (.cells (madeCells #[.slice none 0 0] l.length) 26)) := fun u =>
      run_make_row' (P := Tryz.prog) 52 26 (.slice none 0 0) 24 Tryz.underlying52 info_ints rfl .i64 .i64 l.length (by omega) (by omega) u
    go_enter Tryz.func16, Tryz.ntmps16
    go_wp2_with fail
    refine HC.out.mono ?_
    rintro e w2 ⟨rfl, hb2⟩
    rw [show errJ 0 = .nilIface from rfl]
    have HB2 := Lib.hid hb2
    have HL2 := Lib.hid (HL.out.keep (fun i hi => hb2.block i (hF i hi)))
    have hF2 : Hid (∀ i, F i → i < w2.heap.size) := fun i hi => Nat.lt_of_lt_of_le (hF i hi) hb2.size
    clear hb2 HL HC
    go_wp2_with fail
    clear hmk
    go_loopw [20] (fun iv wr => ∃ (i : Nat) (vs : List Value), i ≤ l.length ∧ iv = .int .i64 i ∧ Hid (Nest wr w2.heap.size w2.heap.size 26 3 1 vs (rowsV (upn l i)) ((upn l i).map (·.length))) ∧ Hid (Below w2.heap.size w2 wr)) (fun iv _ => l.length - (intOf iv).toNat)
    case atStart =>
      refine ⟨0, List.replicate l.length (.slice none 0 0), Nat.zero_le _, rfl, ?_, (Below.refl _ _).alloc (Nat.le_refl _) _⟩
      have := Nest.made w2 w2.heap.size 26 3 1 l.length (Nat.le_refl _) (by decide)
      show Nest _ _ _ _ _ _ _ _ _
      simpa [upn, rowsV] using this
    case round =>
      obtain ⟨i, vs, hi, rfl, HN, HB⟩ := hrel
      by_cases hlt : i < l.length
      · obtain ⟨b, off, A', c', rfl, hFb, x0, x1, x2, x3, htm, hki, hni, hfr⟩ := (HL2.out.keep (fun j hj => HB.out.block j (hF2.out j hj))).nod_ hlt
        have HFB := Lib.hid (job_from H0.out hlt)
        have HUN : Hid (upn l (i + 1) = upk (upn l i) i l[i].from_ l[i].from_.length) := by show _ = _; conv => lhs; unfold upn; rw [List.getElem?_eq_getElem hlt]
        clear hki hni hFb htm
        generalize l[i] = nd at x0 x1 x2 x3 HFB HUN hfr
        obtain ⟨kind, from_, text, nn⟩ := nd
        simp only at x0 x1 x2 x3 HFB HUN hfr
        have HFR := Lib.hid hfr
        have hfl := hfr.le
        clear hfr
        obtain ⟨W3, hW3⟩ : ∃ W3, W3 = wr.alloc (.cells #[.int .i64 kind, .slice A' from_.length c', .string text, .int .i64 nn] 28) := ⟨_, rfl⟩
        have hv3 : W3.heap[wr.heap.size]? = some (.cells #[.int .i64 kind, .slice A' from_.length c', .string text, .int .i64 nn] 28 (0, 0)) := by rw [hW3]; exact heap_alloc_new _ _
        have HB3 : Hid (Below w2.heap.size w2 W3) := by rw [hW3]; exact HB.out.alloc HB.out.size _
        have HN3 : Hid (Nest W3 w2.heap.size w2.heap.size 26 3 1 vs (rowsV (upn l i)) ((upn l i).map (·.length))) := by rw [hW3]; exact HN.out.alloc _
        have y1 : W3.cell? ⟨wr.heap.size, 1, none⟩ = some (.slice A' from_.length c') := (cell_of_row W3 _ 1 _ _ _ hv3).trans rfl
        have HFR2 : Hid (SlA (intE .i64) F w2 A' c' from_) := HFR.out.keep (fun j hj => (HB.out.block j (hF2.out j hj)).symm)
        have HV3 := Lib.hid hv3
        have hvb : wr.heap.size < W3.heap.size := block_lt hv3
        clear hv3 HB HN HFR
        go_upto_region 8 with (fail)
        rw [← hW3]
        clear hW3 x0 x1 x2 x3
        generalize wr.heap.size = vb at HV3 y1 hvb ⊢
        go_wp2_with fail
        go_loopw [28] (fun kv wx => ∃ (k : Nat) (vs : List Value), k ≤ from_.length ∧ kv = .int .i64 k ∧ Hid (Nest wx w2.heap.size w2.heap.size 26 3 1 vs (rowsV (upk (upn l i) i from_ k)) ((upk (upn l i) i from_ k).map (·.length))) ∧ Hid (wx.heap[vb]? = some (.cells #[.int .i64 kind, .slice A' from_.length c', .string text, .int .i64 nn] 28 (0, 0))) ∧ Hid (Below w2.heap.size w2 wx)) (fun kv _ => from_.length - (intOf kv).toNat)
        case atStart => exact ⟨0, vs, Nat.zero_le _, rfl, HN3, HV3, HB3⟩
        case round =>
          clear HN3 HV3 HB3 y1 hvb
          obtain ⟨k, vs2, hk, rfl, HNk, HVk, HBk⟩ := hrel
          have hvb := block_lt HVk.out
          have y1 : wr.cell? ⟨vb, 1, none⟩ = some (.slice A' from_.length c') := (cell_of_row wr _ 1 _ _ _ HVk.out).trans rfl
          by_cases hk2 : k < from_.length
          · have hfrw := HFR2.out.keep (w' := wr) (fun j hj => HBk.out.block j (hF2.out j hj))
            obtain ⟨bf, of_, rfl, _, hcf, _⟩ := hfrw.int_ hk2
            have hcap := hfrw.1
            have hlk : (from_.take k).length = k := by rw [List.length_take]; omega
            have HCI := Lib.hid (contains_int F (some ⟨bf, of_, none⟩) c' (from_.take k) from_[k] wr (hfrw.head (k := k) (by omega)))
            rw [hlk] at HCI
            obtain ⟨hf0, hfi⟩ := HFB.out from_[k] (List.getElem_mem hk2)
            have HSA := Lib.hid (fun h => upk_same (rows := upn l i) (i := i) hk2 h)
            have HAD := Lib.hid (fun (fn : Nat) (r : List Int) h h1 h2 => upk_add (rows := upn l i) (i := i) (fn := fn) (r := r) hk2 h h1 h2)
            clear hfrw hlk
            generalize from_[k] = f at hcf HCI hf0 hfi HSA HAD
            obtain ⟨fn, rfl⟩ : ∃ fn : Nat, f = fn := ⟨f.toNat, by omega⟩
            have hfn : fn < l.length := by omega
            cases hct : (from_.take k).contains (fn : Int) with
            | true =>
              rw [hct] at HCI
              have HS2 := Lib.hid (HSA.out hct)
              clear HSA HAD hct
              go_wp2_with fail
              refine HCI.out.mono ?_
              rintro e w4 ⟨rfl, rfl⟩
              go_wp2_with fail
              go_roundw
              case rel => exact ⟨k + 1, vs2, by omega, by go_num, by show Nest _ _ _ _ _ _ _ _ _; rw [HS2.out]; exact HNk.out, HVk, HBk⟩
              case measure => simp [intOf]; omega
            | false =>
              rw [hct] at HCI
              have hlenU : (upk (upn l i) i from_ k).length = l.length := by rw [upk_length, upn_length]
              have hlenv : vs2.length = l.length := by rw [HNk.out.len]; unfold rowsV; rw [List.length_map, hlenU]
              obtain ⟨v, hv⟩ : ∃ v, vs2[fn]? = some v := ⟨vs2[fn], List.getElem?_eq_getElem (by omega)⟩
              have hcv := HNk.out.cell fn
              rw [hv] at hcv
              have hfz := HNk.out.frozen fn
              obtain ⟨r, hr⟩ : ∃ r, (upk (upn l i) i from_ k)[fn]? = some r := ⟨_, List.getElem?_eq_getElem (by omega)⟩
              have hrl : r.length ≤ i + 1 := upk_rowlen (upn_rowlen HPOS.out (by omega)) (fun x hx => (HFB.out x hx).1) k hk r (List.mem_of_getElem? hr)
              have HSU := Lib.hid (HAD.out fn r hct rfl hr)
              have hown := HNk.out.own fn v (r.flatMap fun n => [Value.int .i64 n]) r.length hv (by unfold rowsV; rw [List.getElem?_map, hr]; rfl) (by rw [List.getElem?_map, hr]; rfl)
              have hvne : ∀ g, v.ownBlock = some g → vb ≠ g := fun g hg e => by
                rcases ownBlock_cases hown with h | ⟨g2, cur, h1, _, h2⟩
                · rw [h] at hg; cases hg
                · rw [h1] at hg; injection hg with hg; subst hg; subst e
                  rw [HVk.out] at h2; injection h2 with h2; injection h2 with _ h3; exact absurd h3 (by decide)
              have hvne2 : vb ≠ w2.heap.size := fun e => by
                have h1 := HNk.out.blk
                rw [← e, HVk.out] at h1; injection h1 with h1; injection h1 with _ h3; exact absurd h3 (by decide)
              have HO := Lib.hid hown
              have HV := Lib.hid hv
              have hgl := HNk.out.lt
              have HNE := Lib.hid hvne
              have HNE2 := Lib.hid hvne2
              clear hown hv hr hlenv hlenU HSA HAD hct hvne hvne2
              go_wp2_with fail
              refine HCI.out.mono ?_
              rintro e w4 ⟨rfl, rfl⟩
              go_wp2_with (at_builtin; refine wpList_push rfl _ _ 26 rfl w2.heap.size 3 (.int .i64 0) 1 8 Tryz.underlying26 info_int rfl (by decide) v r.length _ rfl HO.out [.int .i64 i] rfl rfl ?_ ?_ ?_ HBk.out.size HBk.out (Nat.le_refl _) ?_)
              · rintro u hu; simp at hu; subst hu; rfl
              · unfold maxLen; omega
              · omega
              · intro v' w8 hown8 hg8 hb8 hat8
                obtain ⟨hc8, hf8⟩ := HNk.out.after HV.out hg8 fn
                rw [HV.out] at hc8
                have hv8 : (w8.setCell ⟨w2.heap.size, fn, none⟩ v').heap[vb]? = some (.cells #[.int .i64 kind, .slice (some ⟨bf, of_, none⟩) from_.length c', .string text, .int .i64 nn] 28 (0, 0)) :=
                  (Below.heap_setCell _ _ _ _ (fun e => HNE2.out e)).trans ((hg8.block vb hvb (fun e => HNE.out vb e.symm rfl)).trans HVk.out)
                have hn8 : Nest (w8.setCell ⟨w2.heap.size, fn, none⟩ v') w2.heap.size w2.heap.size 26 3 1 (vs2.set fn v') (rowsV (upk (upn l i) i from_ (k + 1))) ((upk (upn l i) i from_ (k + 1)).map (·.length)) := by
                  have hp := HNk.out.push (w' := w8) HV.out hown8 hg8 (hat8.imp_right .inr)
                  rw [HSU.out]
                  unfold rowsV at hp ⊢
                  rw [List.map_set, List.map_set, List.flatMap_append, List.length_append]
                  exact hp
                have HV8 := Lib.hid hv8
                have HN8 := Lib.hid hn8
                have HB8 := Lib.hid (hb8.setCell (p := ⟨w2.heap.size, fn, none⟩) (Nat.le_refl _) v')
                obtain ⟨g', cap', rfl, _, _⟩ := hown8.form (by omega)
                clear hv8 hn8 hown8 hg8 hb8 hat8 HNE HNE2 HSU HV
                go_wp2_with fail
                refine ⟨⟨k + 1, _, by omega, by go_num, HN8, HV8, HB8⟩, ?_⟩
                simp [intOf]; omega
          · have dk : decide (k < from_.length) = false := decide_eq_false hk2
            have HN9 : Hid (Nest wr w2.heap.size w2.heap.size 26 3 1 vs2 (rowsV (upn l (i + 1))) ((upn l (i + 1)).map (·.length))) := by
              have e : k = from_.length := by omega
              show Nest _ _ _ _ _ _ _ _ _
              rw [HUN.out, ← e]; exact HNk.out
            clear HNk hk hk2
            go_wp2_with fail
            refine ⟨⟨i + 1, vs2, by omega, by go_num, HN9, HBk⟩, ?_⟩
            simp [intOf]; omega
      · have di : decide (i < l.length) = false := decide_eq_false hlt
        have hie : i = l.length := by omega
        rw [hie, upn_all l HPOS.out] at HN
        have hlenU : (usesAll l).length = l.length := by unfold usesAll; simp
        have hmem : ∀ r ∈ usesAll l, ∀ x ∈ r, 0 ≤ x ∧ x < l.length := by rw [← upn_all l HPOS.out]; exact upn_mem (Nat.le_refl _)
        have hrow := HN.out.sl (E := intE .i64) (ls := usesAll l) (cap := l.length) (fun n => [Value.int .i64 n]) (fun _ => rfl) (by decide) (fun r hr x hx F u => ⟨rfl, WalkArith.wf_i64 (by have := hmem r hr x hx; omega)⟩) (by omega) (by unfold maxLen; omega)
        have HR := Lib.hid hrow
        have HB9 := Lib.hid (HB2.out.trans (HB.out.mono HB2.out.size))
        clear hrow hlenU hmem HN hie hi hlt
        go_wp2_with fail
        go_ret2
        exact ⟨fun _ => ⟨_, _, rfl, HR.out⟩, fun h => absurd H0.out h, HB9.out⟩
  · have H0 := Lib.hid h0
    rw [show errJ (jobErr l) = errV (jobErr l) from by unfold errJ; rw [if_neg h0]] at HC
    obtain ⟨je, hje⟩ : ∃ je, je = jobErr l := ⟨_, rfl⟩
    have HJE := Lib.hid hje
    rw [← hje] at HC
    clear h0 hje
    go_enter Tryz.func16, Tryz.ntmps16
    go_wp2_with fail
    refine HC.out.mono ?_
    rintro e w2 ⟨rfl, hb2⟩
    have HB2 := Lib.hid hb2
    clear hb2
    unfold errV
    go_wp2_with fail
    go_ret2
    exact ⟨fun h => absurd h H0.out, fun _ => by rw [← HJE.out]; rfl, HB2.out⟩
end Go.Proofs.YtcmhbhdiepkndaaGreatDoor

/-
  Package den: the contract of Apply's pass. Conditions: the record's numbers are ints.
-/
namespace Go.Proofs.YtcmhbhdiepkndaaGreatDoor
open Go.RowKit Go.Shelf
set_option linter.unusedVariables false

def recV (r : Rec) : Value := .agg #[.string r.key, .int .i64 r.num, .int .i64 r.time]
def recCells (r : Rec) : List Value := [.string r.key, .int .i64 r.num, .int .i64 r.time]
def RecOk (r : Rec) : Prop := r.key.size ≤ maxLen ∧ I64 r.num ∧ I64 r.time
theorem own_recs {w : World} {e : TypeId} {A : Option Addr} {cap n : Nat} {l : List Rec} (h : OwnS w e 3 A cap n (l.flatMap recCells)) (hn : n = l.length) {F : Nat → Prop} (hF : ∀ k, blk A = some k → F k) (hR : ∀ r ∈ l, RecOk r) : SlA recE F w A cap l :=
  OwnS.sl (E := recE) recCells (fun _ => rfl) h hn hF (fun x hx => ⟨rfl, hR x hx⟩)
theorem src_recs {P : Program} {F : Nat → Prop} {w : World} {A : Option Addr} {c : Nat} {l : List Rec} {tx e' : TypeId} (h : SlA recE F w A c l) (hk : P.underlying tx = some (.slice e')) : Src P 3 tx (.slice A l.length c) l.length (l.flatMap recCells) w :=
  Src.of_sl (P := P) (E := recE) h hk recCells (fun cs x hx => hx.1) (fun _ => rfl) (fun x u hu => by
    unfold recCells at hu
    simp only [List.mem_cons, List.not_mem_nil, or_false] at hu
    rcases hu with rfl | rfl | rfl <;> rfl)
def PassPost (r : Rec) (w : World) (e : Ending) (w' : World) : Prop := ∃ A c, e = .returned (.slice A (passR r).length c) ∧ OwnS w' 30 3 A c (passR r).length ((passR r).flatMap recCells) ∧ (∀ k, blk A = some k → w.heap.size ≤ k) ∧ Below w.heap.size w w'
set_option maxRecDepth 100000 in
theorem dpass_ok (r : Rec) (w : World) (hk : r.key.size ≤ maxLen) : Calls Tryz.prog 52 #[.agg #[.string r.key, .int .i64 r.num, .int .i64 r.time]] w (PassPost r w) := by
  obtain ⟨key, num, time⟩ := r
  simp only at hk ⊢
  unfold maxLen at hk
  by_cases h : 40 < key.size
  · have d1 : decide (40 < key.size) = true := decide_eq_true h
    have HP : Hid (passR ⟨key, num, time⟩ = []) := by show _ = _; unfold passR; rw [if_pos h]
    go_enter Tryz.func52, Tryz.ntmps52
    go_wp2_with fail
    go_ret
    exact ⟨none, 0, by rw [HP.out]; rfl, by rw [HP.out]; exact OwnS.nil _ _ _, nofun, (Below.refl _ _).alloc (Nat.le_refl _) _⟩
  · have d1 : decide (40 < key.size) = false := decide_eq_false h
    have HP : Hid (passR ⟨key, num, time⟩ = [⟨key, num, time⟩]) := by show _ = _; unfold passR; rw [if_neg h]
    go_enter Tryz.func52, Tryz.ntmps52
    go_wp2_with fail
    go_ret
    have ho : OwnS ((w.alloc (.cells #[.string key, .int .i64 num, .int .i64 time] 30)).alloc (.cells #[.string key, .int .i64 num, .int .i64 time] 30)) 30 3 (some ⟨w.heap.size + 1, 0, none⟩) 1 1 ([(⟨key, num, time⟩ : Rec)].flatMap recCells) :=
      ⟨rfl, Nat.le_refl _, by unfold maxLen; omega, .inr ⟨w.heap.size + 1, 0, _, rfl, by rw [← show (w.alloc (.cells #[.string key, .int .i64 num, .int .i64 time] 30)).heap.size = w.heap.size + 1 from by simp]; exact heap_alloc_new _ _, by simp, fun j u hj => by rw [Nat.zero_add]; simpa [recCells] using hj⟩⟩
    exact ⟨_, _, by rw [HP.out]; rfl, by rw [HP.out]; exact ho, fun k e => by simp [blk] at e; omega, ((Below.refl _ _).alloc (Nat.le_refl _) _).alloc (by simp) _⟩
end Go.Proofs.YtcmhbhdiepkndaaGreatDoor

/-
  Package expr: the texts that the laws put together, as lists of bytes; how an error tells a tree. No condition: plain lemmas.
-/
namespace Go.Proofs.YtcmhbhdiepkndaaGreatDoor
open Go.RowKit Go.Shelf
set_option linter.unusedVariables false

theorem i64_of_wf {n : Int} (h : (Lit.int .i64 n).wf = true) : I64_ n := by
  have := bounds_i64 h
  unfold I64_; omega
theorem ba_mk (x : Array UInt8) : (ByteArray.mk x).size = x.size := rfl
theorem join_list (op : UInt8) (a b : ByteArray) : ((⟨#[40]⟩ : ByteArray) ++ a ++ ⟨#[41, op, 40]⟩ ++ b ++ ⟨#[41]⟩).data.toList = joinB op a.data.toList b.data.toList := by simp [joinB, ByteArray.data_append]
theorem min_list (x y : UInt8) (a b : ByteArray) : ((⟨#[109, x, y, 40]⟩ : ByteArray) ++ a ++ ⟨#[44]⟩ ++ b ++ ⟨#[41]⟩).data.toList = minB x y a.data.toList b.data.toList := by simp [minB, ByteArray.data_append]
theorem sel_list (a b c : ByteArray) : ((⟨#[40]⟩ : ByteArray) ++ a ++ ⟨#[41, 63, 40]⟩ ++ b ++ ⟨#[41, 58, 40]⟩ ++ c ++ ⟨#[41]⟩).data.toList = selB a.data.toList b.data.toList c.data.toList := by simp [selB, ByteArray.data_append]
theorem err_cases (P : Parsed) : (errOf P = .nilIface ∧ ∃ t, P = .tree t) ∨ (∃ k j, P = .fault k j ∧ errOf P = errV j) := by
  cases P with
  | tree t => exact .inl ⟨rfl, t, rfl⟩
  | fault k j => exact .inr ⟨k, j, rfl, rfl⟩
/-- What Eval returns, whatever the text. -/
def valOf (n s : Int) : Parsed → Int
  | .tree t => t.val n s
  | .fault _ _ => 0
theorem eval_ok_any (x : ByteArray) (n s : Int) (w : World) (hv : ErrVars w) (hsz : x.size ≤ maxLen) (hn : I64_ n) (hs : I64_ s) :
    Calls Tryz.prog 53 #[.string x, .int .i64 n, .int .i64 s] w fun e w' => e = .returned (.tuple #[.int .i64 (valOf n s (parseT x.data.toList)), errOf (parseT x.data.toList)]) ∧ Below w.heap.size w w' := by
  cases h : parseT x.data.toList with
  | tree t => exact eval_tree x n s w hv hsz hn hs h
  | fault k j => exact eval_fault x n s w hv hsz h
end Go.Proofs.YtcmhbhdiepkndaaGreatDoor

/-
  strconv.Itoa at any int. Conditions: the table of powers of ten stands.
-/
namespace Go.Proofs.YtcmhbhdiepkndaaGreatDoor
open Go.RowKit Go.Shelf
set_option linter.unusedVariables false

def PowTab (w : World) : Prop := Lib.TabIs Tryz.prog w "internal/strconv.uint64pow10" .u64 Lib.pow10Tab
theorem PowTab.below {w w' : World} (h : PowTab w) (hb : Below w.heap.size w w') : PowTab w' := by
  obtain ⟨g, hg⟩ := Option.isSome_iff_exists.1 (show (Tryz.prog.globalNamed "internal/strconv.uint64pow10").isSome = true by kernel_rfl)
  exact Go.Joins.tab_stays hg h hb (Nat.le_refl _)
theorem itoa_ok (n : Int) (w : World) (hn : I64_ n) (hT : PowTab w) : Calls Tryz.prog 54 #[.int .i64 n] w fun e w' => e = .returned (.string ⟨(Lib.itoa n).toArray⟩) ∧ Below w.heap.size w w' := by
  refine (Any.strconv_Itoa Tryz.itoa n hn.1 hn.2 w hT).mono ?_
  rintro e w' ⟨he, k, os, rfl⟩
  exact ⟨he, Go.Lib.below_grow _ w (Nat.le_refl _) k os⟩
end Go.Proofs.YtcmhbhdiepkndaaGreatDoor

/-
  Package den: Apply's four variables, as the arms write them. No condition: definitions and lemmas.
-/
namespace Go.Proofs.YtcmhbhdiepkndaaGreatDoor
open Go.RowKit Go.Shelf
set_option linter.unusedVariables false

def hldV (h : Hld) : Value := .agg #[.int .i64 h.node, .string h.key, .int .i64 h.a, .int .i64 h.b]
/-- What Apply returns. -/
def AppPost (d : Did) (w : World) (e : Ending) (w' : World) : Prop := ∃ A c, e = .returned (.tuple #[.slice A d.out.length c, hldV d.held, .bool d.has]) ∧ OwnS w' 30 3 A c d.out.length (d.out.flatMap recCells) ∧ (∀ k, blk A = some k → w.heap.size ≤ k) ∧ Below w.heap.size w w'
theorem evalOf_val (s : ByteArray) (n st : Int) : evalOf s n st = valOf n st (parseT s.data.toList) := by
  unfold evalOf valOf
  cases parseT s.data.toList <;> rfl
def HVar (w : World) (k : Nat) (n : Int) (key : ByteArray) (a b : Int) : Prop := w.heap[k]? = some (.cells #[.int .i64 n, .string key, .int .i64 a, .int .i64 b] 92 (0, 0))
def RVar (w : World) (k : Nat) (key : ByteArray) (n t : Int) : Prop := w.heap[k]? = some (.cells #[.string key, .int .i64 n, .int .i64 t] 30 (0, 0))
theorem HVar.cells {w : World} {k : Nat} {n : Int} {key : ByteArray} {a b : Int} (h : HVar w k n key a b) : w.cell? ⟨k, 0, none⟩ = some (.int .i64 n) ∧ w.cell? ⟨k, 1, none⟩ = some (.string key) ∧ w.cell? ⟨k, 2, none⟩ = some (.int .i64 a) ∧ w.cell? ⟨k, 3, none⟩ = some (.int .i64 b) ∧ (∀ i, w.frozen? ⟨k, i, none⟩ = false) :=
  ⟨(cell_of_row w k 0 _ _ _ h).trans rfl, (cell_of_row w k 1 _ _ _ h).trans rfl, (cell_of_row w k 2 _ _ _ h).trans rfl, (cell_of_row w k 3 _ _ _ h).trans rfl, fun i => by simp [World.frozen?, HVar] at h ⊢; simp [h]⟩
theorem RVar.cells {w : World} {k : Nat} {key : ByteArray} {n t : Int} (h : RVar w k key n t) : w.cell? ⟨k, 0, none⟩ = some (.string key) ∧ w.cell? ⟨k, 1, none⟩ = some (.int .i64 n) ∧ w.cell? ⟨k, 2, none⟩ = some (.int .i64 t) ∧ (∀ i, w.frozen? ⟨k, i, none⟩ = false) :=
  ⟨(cell_of_row w k 0 _ _ _ h).trans rfl, (cell_of_row w k 1 _ _ _ h).trans rfl, (cell_of_row w k 2 _ _ _ h).trans rfl, fun i => by simp [World.frozen?, RVar] at h ⊢; simp [h]⟩

theorem HVar.keep {w w' : World} {k : Nat} {n : Int} {key : ByteArray} {a b : Int} (h : HVar w k n key a b) (e : w'.heap[k]? = w.heap[k]?) : HVar w' k n key a b := e.trans h
theorem RVar.keep {w w' : World} {k : Nat} {key : ByteArray} {n t : Int} (h : RVar w k key n t) (e : w'.heap[k]? = w.heap[k]?) : RVar w' k key n t := e.trans h
theorem RVar.num {w : World} {k : Nat} {key : ByteArray} {n t : Int} (h : RVar w k key n t) (x : Int) : RVar (w.setCell ⟨k, 1, none⟩ (.int .i64 x)) k key x t := by
  unfold RVar at h ⊢
  simp [World.setCell, Array.getElem?_modify, h]
theorem RVar.key {w : World} {k : Nat} {key : ByteArray} {n t : Int} (h : RVar w k key n t) (x : ByteArray) : RVar (w.setCell ⟨k, 0, none⟩ (.string x)) k x n t := by
  unfold RVar at h ⊢
  simp [World.setCell, Array.getElem?_modify, h]
/-- What stands when Apply's arms begin: the four variables. -/
structure Vars (w W : World) (b0 : Nat) (n0 n1 n2 n3 : Value) (b1 b2 b3 : Nat) (h : Hld) (r : Rec) : Prop where
  lt0 : b0 < W.heap.size
  h0 : W.heap[b0]? = some (.cells #[n0, n1, n2, n3] 28 (0, 0))
  lt1 : b1 < W.heap.size
  lt2 : b2 < W.heap.size
  lt3 : b3 < W.heap.size
  ge1 : w.heap.size ≤ b1
  ge2 : w.heap.size ≤ b2
  ge3 : w.heap.size ≤ b3
  h1 : HVar W b1 h.node h.key h.a h.b
  h2 : RVar W b2 r.key r.num r.time
  h3 : ∃ n k a b, HVar W b3 n k a b
  below : Below w.heap.size w W
  ne : b0 ≠ b1 ∧ b0 ≠ b2 ∧ b0 ≠ b3 ∧ b1 ≠ b2 ∧ b1 ≠ b3 ∧ b2 ≠ b3
theorem Vars.mk_ (w : World) (n0 n1 n2 n3 : Value) (h : Hld) (r : Rec) :
    Vars w (((((w.alloc (.cells #[n0, n1, n2, n3] 28)).alloc (.cells #[.int .i64 h.node, .string h.key, .int .i64 h.a, .int .i64 h.b] 92)).alloc (.cells #[.string r.key, .int .i64 r.num, .int .i64 r.time] 30)).alloc (.cells #[.int .i64 0, .string { data := #[] }, .int .i64 0, .int .i64 0] 92)).drew) w.heap.size n0 n1 n2 n3 (w.heap.size + 1) (w.heap.size + 1 + 1) (w.heap.size + 1 + 1 + 1) h r := by
  refine ⟨by simp; omega, ?_, by simp, by simp, by simp, by omega, by omega, by omega, ?_, ?_, ⟨0, ⟨#[]⟩, 0, 0, ?_⟩, ?_, by omega⟩
  · exact (heap_alloc_old _ _ (by simp; omega)).trans ((heap_alloc_old _ _ (by simp; omega)).trans ((heap_alloc_old _ _ (by simp)).trans (heap_alloc_new _ _)))
  · unfold HVar
    refine (heap_alloc_old _ _ (by simp)).trans ((heap_alloc_old _ _ (by simp)).trans ?_)
    rw [← show (w.alloc (.cells #[n0, n1, n2, n3] 28)).heap.size = w.heap.size + 1 from by simp]
    exact heap_alloc_new _ _
  · unfold RVar
    refine (heap_alloc_old _ _ (by simp)).trans ?_
    rw [← show ((w.alloc (.cells #[n0, n1, n2, n3] 28)).alloc (.cells #[.int .i64 h.node, .string h.key, .int .i64 h.a, .int .i64 h.b] 92)).heap.size = w.heap.size + 1 + 1 from by simp]
    exact heap_alloc_new _ _
  · unfold HVar
    rw [← show (((w.alloc (.cells #[n0, n1, n2, n3] 28)).alloc (.cells #[.int .i64 h.node, .string h.key, .int .i64 h.a, .int .i64 h.b] 92)).alloc (.cells #[.string r.key, .int .i64 r.num, .int .i64 r.time] 30)).heap.size = w.heap.size + 1 + 1 + 1 from by simp]
    exact heap_alloc_new _ _
  · exact ((((Below.refl _ _).alloc (Nat.le_refl _) _).alloc (by simp) _).alloc (by simp; omega) _).alloc (by simp; omega) _ |>.drew
theorem Vars.next {w W W' : World} {b0 : Nat} {n0 n1 n2 n3 : Value} {b1 b2 b3 : Nat} {h : Hld} {r : Rec} (v : Vars w W b0 n0 n1 n2 n3 b1 b2 b3 h r) (hb : Below W.heap.size W W') : Vars w W' b0 n0 n1 n2 n3 b1 b2 b3 h r :=
  ⟨by have := hb.size; have := v.lt0; omega, (hb.block _ v.lt0).trans v.h0, by have := hb.size; have := v.lt1; omega, by have := hb.size; have := v.lt2; omega, by have := hb.size; have := v.lt3; omega, v.ge1, v.ge2, v.ge3, v.h1.keep (hb.block _ v.lt1), v.h2.keep (hb.block _ v.lt2),
   by obtain ⟨n, k, a, b, h3⟩ := v.h3; exact ⟨n, k, a, b, h3.keep (hb.block _ v.lt3)⟩, v.below.trans (hb.mono v.below.size), v.ne⟩
theorem HVar.a {w : World} {k : Nat} {n : Int} {key : ByteArray} {a b : Int} (h : HVar w k n key a b) (x : Int) : HVar (w.setCell ⟨k, 2, none⟩ (.int .i64 x)) k n key x b := by
  unfold HVar at h ⊢
  simp [World.setCell, Array.getElem?_modify, h]
theorem HVar.b {w : World} {k : Nat} {n : Int} {key : ByteArray} {a b : Int} (h : HVar w k n key a b) (x : Int) : HVar (w.setCell ⟨k, 3, none⟩ (.int .i64 x)) k n key a x := by
  unfold HVar at h ⊢
  simp [World.setCell, Array.getElem?_modify, h]
theorem HVar.node {w : World} {k : Nat} {n : Int} {key : ByteArray} {a b : Int} (h : HVar w k n key a b) (x : Int) : HVar (w.setCell ⟨k, 0, none⟩ (.int .i64 x)) k x key a b := by
  unfold HVar at h ⊢
  simp [World.setCell, Array.getElem?_modify, h]
theorem HVar.hkey {w : World} {k : Nat} {n : Int} {key : ByteArray} {a b : Int} (h : HVar w k n key a b) (x : ByteArray) : HVar (w.setCell ⟨k, 1, none⟩ (.string x)) k n x a b := by
  unfold HVar at h ⊢
  simp [World.setCell, Array.getElem?_modify, h]
theorem Vars.num {w W : World} {b0 : Nat} {n0 n1 n2 n3 : Value} {b1 b2 b3 : Nat} {h : Hld} {r : Rec} (v : Vars w W b0 n0 n1 n2 n3 b1 b2 b3 h r) (x : Int) : Vars w (W.setCell ⟨b2, 1, none⟩ (.int .i64 x)) b0 n0 n1 n2 n3 b1 b2 b3 h { r with num := x } :=
  ⟨by simpa using v.lt0, (Below.heap_setCell _ _ _ _ (by simpa using v.ne.2.1)).trans v.h0, by simpa using v.lt1, by simpa using v.lt2, by simpa using v.lt3, v.ge1, v.ge2, v.ge3, v.h1.keep (Below.heap_setCell _ _ _ _ (by simpa using v.ne.2.2.2.1)), v.h2.num x,
   by obtain ⟨n, k, a, b, h3⟩ := v.h3; exact ⟨n, k, a, b, h3.keep (Below.heap_setCell _ _ _ _ (by simpa using v.ne.2.2.2.2.2.symm))⟩, v.below.setCell (p := ⟨b2, 1, none⟩) v.ge2 _, v.ne⟩
theorem Vars.key {w W : World} {b0 : Nat} {n0 n1 n2 n3 : Value} {b1 b2 b3 : Nat} {h : Hld} {r : Rec} (v : Vars w W b0 n0 n1 n2 n3 b1 b2 b3 h r) (x : ByteArray) : Vars w (W.setCell ⟨b2, 0, none⟩ (.string x)) b0 n0 n1 n2 n3 b1 b2 b3 h { r with key := x } :=
  ⟨by simpa using v.lt0, (Below.heap_setCell _ _ _ _ (by simpa using v.ne.2.1)).trans v.h0, by simpa using v.lt1, by simpa using v.lt2, by simpa using v.lt3, v.ge1, v.ge2, v.ge3, v.h1.keep (Below.heap_setCell _ _ _ _ (by simpa using v.ne.2.2.2.1)), v.h2.key x,
   by obtain ⟨n, k, a, b, h3⟩ := v.h3; exact ⟨n, k, a, b, h3.keep (Below.heap_setCell _ _ _ _ (by simpa using v.ne.2.2.2.2.2.symm))⟩, v.below.setCell (p := ⟨b2, 0, none⟩) v.ge2 _, v.ne⟩
theorem Vars.a {w W : World} {b0 : Nat} {n0 n1 n2 n3 : Value} {b1 b2 b3 : Nat} {h : Hld} {r : Rec} (v : Vars w W b0 n0 n1 n2 n3 b1 b2 b3 h r) (x : Int) : Vars w (W.setCell ⟨b1, 2, none⟩ (.int .i64 x)) b0 n0 n1 n2 n3 b1 b2 b3 { h with a := x } r :=
  ⟨by simpa using v.lt0, (Below.heap_setCell _ _ _ _ (by simpa using v.ne.1)).trans v.h0, by simpa using v.lt1, by simpa using v.lt2, by simpa using v.lt3, v.ge1, v.ge2, v.ge3, v.h1.a x, v.h2.keep (Below.heap_setCell _ _ _ _ (by simpa using v.ne.2.2.2.1.symm)),
   by obtain ⟨n, k, a, b, h3⟩ := v.h3; exact ⟨n, k, a, b, h3.keep (Below.heap_setCell _ _ _ _ (by simpa using v.ne.2.2.2.2.1.symm))⟩, v.below.setCell (p := ⟨b1, 2, none⟩) v.ge1 _, v.ne⟩
theorem Vars.b {w W : World} {b0 : Nat} {n0 n1 n2 n3 : Value} {b1 b2 b3 : Nat} {h : Hld} {r : Rec} (v : Vars w W b0 n0 n1 n2 n3 b1 b2 b3 h r) (x : Int) : Vars w (W.setCell ⟨b1, 3, none⟩ (.int .i64 x)) b0 n0 n1 n2 n3 b1 b2 b3 { h with b := x } r :=
  ⟨by simpa using v.lt0, (Below.heap_setCell _ _ _ _ (by simpa using v.ne.1)).trans v.h0, by simpa using v.lt1, by simpa using v.lt2, by simpa using v.lt3, v.ge1, v.ge2, v.ge3, v.h1.b x, v.h2.keep (Below.heap_setCell _ _ _ _ (by simpa using v.ne.2.2.2.1.symm)),
   by obtain ⟨n, k, a, b, h3⟩ := v.h3; exact ⟨n, k, a, b, h3.keep (Below.heap_setCell _ _ _ _ (by simpa using v.ne.2.2.2.2.1.symm))⟩, v.below.setCell (p := ⟨b1, 3, none⟩) v.ge1 _, v.ne⟩
theorem Vars.node {w W : World} {b0 : Nat} {n0 n1 n2 n3 : Value} {b1 b2 b3 : Nat} {h : Hld} {r : Rec} (v : Vars w W b0 n0 n1 n2 n3 b1 b2 b3 h r) (x : Int) : Vars w (W.setCell ⟨b1, 0, none⟩ (.int .i64 x)) b0 n0 n1 n2 n3 b1 b2 b3 { h with node := x } r :=
  ⟨by simpa using v.lt0, (Below.heap_setCell _ _ _ _ (by simpa using v.ne.1)).trans v.h0, by simpa using v.lt1, by simpa using v.lt2, by simpa using v.lt3, v.ge1, v.ge2, v.ge3, v.h1.node x, v.h2.keep (Below.heap_setCell _ _ _ _ (by simpa using v.ne.2.2.2.1.symm)),
   by obtain ⟨n, k, a, b, h3⟩ := v.h3; exact ⟨n, k, a, b, h3.keep (Below.heap_setCell _ _ _ _ (by simpa using v.ne.2.2.2.2.1.symm))⟩, v.below.setCell (p := ⟨b1, 0, none⟩) v.ge1 _, v.ne⟩
theorem Vars.hkey {w W : World} {b0 : Nat} {n0 n1 n2 n3 : Value} {b1 b2 b3 : Nat} {h : Hld} {r : Rec} (v : Vars w W b0 n0 n1 n2 n3 b1 b2 b3 h r) (x : ByteArray) : Vars w (W.setCell ⟨b1, 1, none⟩ (.string x)) b0 n0 n1 n2 n3 b1 b2 b3 { h with key := x } r :=
  ⟨by simpa using v.lt0, (Below.heap_setCell _ _ _ _ (by simpa using v.ne.1)).trans v.h0, by simpa using v.lt1, by simpa using v.lt2, by simpa using v.lt3, v.ge1, v.ge2, v.ge3, v.h1.hkey x, v.h2.keep (Below.heap_setCell _ _ _ _ (by simpa using v.ne.2.2.2.1.symm)),
   by obtain ⟨n, k, a, b, h3⟩ := v.h3; exact ⟨n, k, a, b, h3.keep (Below.heap_setCell _ _ _ _ (by simpa using v.ne.2.2.2.2.1.symm))⟩, v.below.setCell (p := ⟨b1, 1, none⟩) v.ge1 _, v.ne⟩
theorem Vars.cells {w W : World} {b0 : Nat} {n0 n1 n2 n3 : Value} {b1 b2 b3 : Nat} {h : Hld} {r : Rec} (v : Vars w W b0 n0 n1 n2 n3 b1 b2 b3 h r) :
    (W.cell? ⟨b0, 0, none⟩ = some n0 ∧ W.cell? ⟨b0, 2, none⟩ = some n2 ∧ W.cell? ⟨b0, 3, none⟩ = some n3) ∧
    (W.cell? ⟨b1, 0, none⟩ = some (.int .i64 h.node) ∧ W.cell? ⟨b1, 1, none⟩ = some (.string h.key) ∧ W.cell? ⟨b1, 2, none⟩ = some (.int .i64 h.a) ∧ W.cell? ⟨b1, 3, none⟩ = some (.int .i64 h.b) ∧ (∀ i, W.frozen? ⟨b1, i, none⟩ = false)) ∧
    (W.cell? ⟨b2, 0, none⟩ = some (.string r.key) ∧ W.cell? ⟨b2, 1, none⟩ = some (.int .i64 r.num) ∧ W.cell? ⟨b2, 2, none⟩ = some (.int .i64 r.time) ∧ (∀ i, W.frozen? ⟨b2, i, none⟩ = false)) ∧
    (∃ n k a b, W.cell? ⟨b3, 0, none⟩ = some (.int .i64 n) ∧ W.cell? ⟨b3, 1, none⟩ = some (.string k) ∧ W.cell? ⟨b3, 2, none⟩ = some (.int .i64 a) ∧ W.cell? ⟨b3, 3, none⟩ = some (.int .i64 b)) ∧ (∀ i, W.frozen? ⟨b3, i, none⟩ = false) := by
  obtain ⟨n, k, a, b, h3⟩ := v.h3
  exact ⟨⟨(cell_of_row W b0 0 _ _ _ v.h0).trans rfl, (cell_of_row W b0 2 _ _ _ v.h0).trans rfl, (cell_of_row W b0 3 _ _ _ v.h0).trans rfl⟩, v.h1.cells, v.h2.cells, ⟨n, k, a, b, h3.cells.1, h3.cells.2.1, h3.cells.2.2.1, h3.cells.2.2.2.1⟩, h3.cells.2.2.2.2⟩

/-- The results are written: what stands then. -/
theorem Vars.fin {w W3 W : World} {b0 : Nat} {n0 n1 n2 n3 : Value} {b1 b2 b3 : Nat} {h : Hld} {r : Rec} (v : Vars w W b0 n0 n1 n2 n3 b1 b2 b3 h r) {l : List Rec} {A : Option Addr} {c : Nat}
    (ho : OwnS W 30 3 A c l.length (l.flatMap recCells)) (hA : ∀ k, blk A = some k → W3.heap.size ≤ k) (h3 : b3 < W3.heap.size) (hw : w.heap.size ≤ W3.heap.size) (n : Int) (k : ByteArray) (a b : Int) :
    HVar (((((W.setCell ⟨b3, 0, none⟩ (.int .i64 n)).setCell ⟨b3, 1, none⟩ (.string k)).setCell ⟨b3, 2, none⟩ (.int .i64 a)).setCell ⟨b3, 3, none⟩ (.int .i64 b)).drew) b3 n k a b ∧
    OwnS (((((W.setCell ⟨b3, 0, none⟩ (.int .i64 n)).setCell ⟨b3, 1, none⟩ (.string k)).setCell ⟨b3, 2, none⟩ (.int .i64 a)).setCell ⟨b3, 3, none⟩ (.int .i64 b)).drew) 30 3 A c l.length (l.flatMap recCells) ∧
    (∀ k, blk A = some k → w.heap.size ≤ k) ∧
    Below w.heap.size w (((((W.setCell ⟨b3, 0, none⟩ (.int .i64 n)).setCell ⟨b3, 1, none⟩ (.string k)).setCell ⟨b3, 2, none⟩ (.int .i64 a)).setCell ⟨b3, 3, none⟩ (.int .i64 b)).drew) := by
  refine ⟨?_, ?_, fun k hk => Nat.le_trans hw (hA k hk), ?_⟩
  · obtain ⟨n', k', a', b', hh⟩ := v.h3
    unfold HVar at hh ⊢
    show (World.heap _)[_]? = _
    simp [World.drew, World.setCell, Array.getElem?_modify, hh]
  · have hne : ∀ i, blk A ≠ some (⟨b3, i, none⟩ : Addr).block := fun i e => by have := hA _ e; simp at this; omega
    exact ((((ho.setFar (hne 0) _).setFar (hne 1) _).setFar (hne 2) _).setFar (hne 3) _).keep fun _ _ => rfl
  · exact ((((v.below.setCell (p := ⟨b3, 0, none⟩) v.ge3 _).setCell (p := ⟨b3, 1, none⟩) v.ge3 _).setCell (p := ⟨b3, 2, none⟩) v.ge3 _).setCell (p := ⟨b3, 3, none⟩) v.ge3 _).drew

theorem Vars.zero {w W : World} {b0 : Nat} {n0 n1 n2 n3 : Value} {b1 b2 b3 : Nat} {h : Hld} {r : Rec} (v : Vars w W b0 n0 n1 n2 n3 b1 b2 b3 h r) :
    Vars w ((((W.setCell ⟨b1, 0, none⟩ (.int .i64 0)).setCell ⟨b1, 1, none⟩ (.string ⟨#[]⟩)).setCell ⟨b1, 2, none⟩ (.int .i64 0)).setCell ⟨b1, 3, none⟩ (.int .i64 0)) b0 n0 n1 n2 n3 b1 b2 b3 ⟨0, ⟨#[]⟩, 0, 0⟩ r := (((v.node 0).hkey ⟨#[]⟩).a 0).b 0
end Go.Proofs.YtcmhbhdiepkndaaGreatDoor

/-
  Words of my own for maps, over any program: what block b holds ('MapAt', a list of keys with elements, no key twice), what a range over it has still to hand out ('RangeAt'), and the laws at the operations. No condition: plain definitions and lemmas.
-/
namespace Go.Proofs.YtcmhbhdiepkndaaGreatDoor
open Go.RowKit Go.ChangeShapes Go.WideShapes Go.MapKept Go.ChangeMaps
set_option linter.unusedVariables false

/-- What is asked of a key's type: of the keys 'isK'. -/
structure KeyT (P : Program) (k : TypeId) (isK : Value → Prop) : Prop where
  check : ∀ (w : World) (em : Bool) {v : Value}, isK v → (Instr.checkKey em 10000 k v).run P w = .ok () w
  find : ∀ (w : World) {x : Value}, isK x → ∀ es : List MapEntry, (∀ e ∈ es, isK e.key) →
    ((Instr.findKey k x es).run P w = .ok none w ∧ ∀ e ∈ es, e.key ≠ x) ∨ ∃ j e, (Instr.findKey k x es).run P w = .ok (some (j, e.val)) w ∧ es[j]? = some e ∧ e.key = x
  stays : ∀ (w : World) {v : Value}, isK v → (Instr.keyThatStays v v).run P w = .ok v w
theorem KeyT.of {P : Program} {k : TypeId} (K : Maps.Keyed P k) : KeyT P k (fun v => ∃ l, keyOf P k v = some l) :=
  ⟨fun w em _ ⟨_, h⟩ => K.check w em h, fun w _ ⟨_, h⟩ es hes => K.find w h es hes, fun w _ ⟨_, h⟩ => K.stays w h⟩
theorem KeyT.less {P : Program} {k : TypeId} {isK isK' : Value → Prop} (K : KeyT P k isK) (h : ∀ v, isK' v → isK v) : KeyT P k isK' :=
  ⟨fun w em _ h' => K.check w em (h _ h'), fun w _ h' es hes => K.find w (h _ h') es fun e he => h _ (hes e he), fun w _ h' => K.stays w (h _ h')⟩

def kv (e : MapEntry) : Value × Value := (e.key, e.val)
def MapAt (isK : Value → Prop) (w : World) (b : Nat) (m : List (Value × Value)) : Prop :=
  ∃ es clock, w.heap[b]? = some (.map es clock) ∧ Stamped es clock ∧ es.toList.map kv = m ∧ ∀ p ∈ m, isK p.1

theorem MapAt.lt {isK : Value → Prop} {w : World} {b : Nat} {m : List (Value × Value)} (h : MapAt isK w b m) : b < w.heap.size := by
  obtain ⟨es, clock, hb, _⟩ := h; exact block_lt hb
theorem MapAt.keep {isK : Value → Prop} {w w' : World} {b : Nat} {m : List (Value × Value)} (h : MapAt isK w b m) (hs : w'.heap[b]? = w.heap[b]?) : MapAt isK w' b m := by
  obtain ⟨es, clock, hb, r⟩ := h; exact ⟨es, clock, hs.trans hb, r⟩
theorem MapAt.made (isK : Value → Prop) (w : World) : MapAt isK (w.alloc (.map #[] 0)) w.heap.size [] := ⟨#[], 0, heap_alloc_new w _, stamped_empty 0, rfl, nofun⟩
theorem MapAt.nodup {isK : Value → Prop} {w : World} {b : Nat} {m : List (Value × Value)} (h : MapAt isK w b m) : (m.map (·.1)).Nodup := by
  obtain ⟨es, clock, hb, ⟨_, _, h3⟩, rfl, _⟩ := h
  rw [List.map_map]; exact h3
theorem MapAt.isK {isK : Value → Prop} {w : World} {b : Nat} {m : List (Value × Value)} (h : MapAt isK w b m) : ∀ p ∈ m, isK p.1 := by
  obtain ⟨es, clock, hb, _, _, h⟩ := h; exact h

section
variable {P : Program} {k t e : TypeId} {isK : Value → Prop} {w : World} {b : Nat} {m : List (Value × Value)}

theorem MapAt.entries {es : Array MapEntry} (hm : es.toList.map kv = m) (h : ∀ p ∈ m, isK p.1) : ∀ x ∈ es.toList, isK x.key := fun x hx => h (kv x) (hm ▸ List.mem_map.2 ⟨x, hx, rfl⟩)

theorem MapAt.look_hit (K : KeyT P k isK) (h : MapAt isK w b m) (ht : P.underlying t = some (.map k e)) {key v : Value} (hkv : (key, v) ∈ m) (c : Bool) :
    (Instr.lookup t (.map (some b)) key c).run P w = .ok (if c then .tuple #[v, .bool true] else v) w := by
  obtain ⟨es, clock, hb, hst, rfl, hk⟩ := h
  have hik : isK key := hk _ hkv
  rcases K.find w hik es.toList (MapAt.entries rfl hk) with ⟨h1, h2⟩ | ⟨j, e0, h1, h2, h3⟩
  · obtain ⟨x, hx, e1⟩ := List.mem_map.1 hkv
    exact absurd (congrArg Prod.fst e1) (h2 x hx)
  · obtain ⟨x, hx, e1⟩ := List.mem_map.1 hkv
    have h4 : x = e0 := entry_eq_of_key ((stamped_iff es clock).1 hst).2.2 hx (List.mem_of_getElem? h2) (by rw [h3]; exact congrArg Prod.fst e1)
    subst h4
    have h5 : x.val = v := congrArg Prod.snd e1
    simp [Instr.lookup, run_underlying ht, MapKept.run_getObj_map hb, K.check w _ hik, h1, h5, Result.andThen]
theorem MapAt.look_miss (K : KeyT P k isK) (h : MapAt isK w b m) (ht : P.underlying t = some (.map k e)) {z : Value} (hz : (zeroValue e).run P w = .ok z w) {key : Value} (hik : isK key) (hno : ∀ p ∈ m, p.1 ≠ key) (c : Bool) :
    (Instr.lookup t (.map (some b)) key c).run P w = .ok (if c then .tuple #[z, .bool false] else z) w := by
  obtain ⟨es, clock, hb, hst, rfl, hk⟩ := h
  rcases K.find w hik es.toList (MapAt.entries rfl hk) with ⟨h1, h2⟩ | ⟨j, e0, h1, h2, h3⟩
  · simp [Instr.lookup, run_underlying ht, MapKept.run_getObj_map hb, K.check w _ hik, h1, hz, Result.andThen]
  · exact absurd h3 (hno (kv e0) (List.mem_map.2 ⟨e0, List.mem_of_getElem? h2, rfl⟩))

theorem grown_setBlock {o o' : Obj} (hb : w.heap[b]? = some o) : w.grownBy (setBlock w b o') (some b) :=
  ⟨rfl, rfl, rfl, by simp [setBlock], fun i _ hi => (heap_set hb).2 i (fun e => hi (by rw [e]))⟩

theorem MapAt.store_new (K : KeyT P k isK) (h : MapAt isK w b m) (ht : P.underlying t = some (.map k e)) {key : Value} (val : Value) (hik : isK key) (hno : ∀ p ∈ m, p.1 ≠ key) :
    ∃ w', (Instr.mapUpdate t (.map (some b)) key val).run P w = .ok () w' ∧ MapAt isK w' b (m ++ [(key, val)]) ∧ w.grownBy w' (some b) ∧ w'.heap.size = w.heap.size := by
  obtain ⟨es, clock, hb, hst, rfl, hk⟩ := h
  rcases K.find w hik es.toList (MapAt.entries rfl hk) with ⟨h1, h2⟩ | ⟨j, e0, h1, h2, h3⟩
  · refine ⟨setBlock w b (.map (es.push ⟨key, val, clock⟩) (clock + 1)), ?_, ⟨_, _, heap_setBlock_same hb _, stamped_push hst h2, by simp [kv], ?_⟩, grown_setBlock hb, by simp [setBlock]⟩
    · simp [Instr.mapUpdate, run_underlying ht, MapKept.run_getObj_map hb, K.check w false hik, h1, MapKept.run_setObj_map _ hb, Result.andThen, setBlock]
    · intro p hp
      rcases List.mem_append.1 hp with hp | hp
      · exact hk p hp
      · simp at hp; subst hp; exact hik
  · exact absurd h3 (hno (kv e0) (List.mem_map.2 ⟨e0, List.mem_of_getElem? h2, rfl⟩))

theorem mapmodify_list {es : Array MapEntry} {j : Nat} {e0 : MapEntry} (h2 : es.toList[j]? = some e0) (f : MapEntry → MapEntry) : (es.modify j f).toList = es.toList.set j (f e0) := by
  rw [Array.toList_modify, ChangeMaps.modify_eq_set _ _ _ _ h2]

theorem set_mid {α : Type} (l1 l2 : List α) (x y : α) : (l1 ++ x :: l2).set l1.length y = l1 ++ y :: l2 := by simp

theorem MapAt.store_hit (K : KeyT P k isK) {m1 m2 : List (Value × Value)} {key old : Value} (h : MapAt isK w b (m1 ++ (key, old) :: m2)) (ht : P.underlying t = some (.map k e)) (val : Value) :
    ∃ w', (Instr.mapUpdate t (.map (some b)) key val).run P w = .ok () w' ∧ MapAt isK w' b (m1 ++ (key, val) :: m2) ∧ w.grownBy w' (some b) ∧ w'.heap.size = w.heap.size := by
  have hnd := h.nodup
  obtain ⟨es, clock, hb, hst, hm, hk⟩ := h
  have hik : isK key := hk (key, old) (by simp)
  rcases K.find w hik es.toList (MapAt.entries hm hk) with ⟨h1, h2⟩ | ⟨j, e0, h1, h2, h3⟩
  · have h4 : (key, old) ∈ es.toList.map kv := by rw [hm]; simp
    obtain ⟨x, hx, e1⟩ := List.mem_map.1 h4
    exact absurd (congrArg Prod.fst e1) (h2 x hx)
  · have hj : es[j]? = some e0 := by simpa using h2
    have hjl : j < es.toList.length := (List.getElem?_eq_some_iff.1 h2).1
    have hjm : j = m1.length := by
      have e1 : (es.toList.map kv)[j]? = some (kv e0) := by rw [List.getElem?_map, h2]; rfl
      rw [hm] at e1
      have e2 : ((m1 ++ (key, old) :: m2).map (·.1))[j]? = some key := by rw [List.getElem?_map, e1]; show some e0.key = _; rw [h3]
      have e3 : ((m1 ++ (key, old) :: m2).map (·.1))[m1.length]? = some key := by simp
      have l1 : j < ((m1 ++ (key, old) :: m2).map (·.1)).length := (List.getElem?_eq_some_iff.1 e2).1
      have l2 : m1.length < ((m1 ++ (key, old) :: m2).map (·.1)).length := (List.getElem?_eq_some_iff.1 e3).1
      rw [List.getElem?_eq_getElem l1] at e2
      rw [List.getElem?_eq_getElem l2] at e3
      exact (List.getElem_inj hnd).1 ((Option.some.inj e2).trans (Option.some.inj e3).symm)
    refine ⟨setBlock w b (.map (es.modify j fun e' => { e' with key := key, val := val }) clock), ?_, ⟨_, _, heap_setBlock_same hb _, stamped_modify hst _ _ (fun _ _ => rfl) (fun e' _ he' => by rw [hj] at he'; cases he'; exact h3.symm), ?_, ?_⟩, grown_setBlock hb, by simp [setBlock]⟩
    · simp [Instr.mapUpdate, run_underlying ht, MapKept.run_getObj_map hb, K.check w false hik, h1, hj, h3, K.stays w hik, MapKept.run_setObj_map _ hb, Result.andThen, setBlock]
    · rw [mapmodify_list h2, List.map_set, hm, hjm, set_mid]; rfl
    · intro p hp
      rcases List.mem_append.1 hp with hp | hp
      · exact hk p (List.mem_append.2 (.inl hp))
      · rcases List.mem_cons.1 hp with rfl | hp
        · exact hik
        · exact hk p (List.mem_append.2 (.inr (List.mem_cons_of_mem _ hp)))

theorem erase_mid {α : Type} (l1 l2 : List α) (x : α) : (l1 ++ x :: l2).eraseIdx l1.length = l1 ++ l2 := by
  induction l1 with
  | nil => rfl
  | cons y l ih => simp only [List.cons_append, List.length_cons, List.eraseIdx_cons_succ, ih]

theorem MapAt.del_hit {ty : TypeId} (K : KeyT P k isK) {m1 m2 : List (Value × Value)} {key old : Value} (h : MapAt isK w b (m1 ++ (key, old) :: m2)) (ht : P.underlying t = some (.map k e)) :
    ∃ w', (Builtin.delete_ #[t, k] ty #[.map (some b), key]).run P w = .ok (.tuple #[]) w' ∧ MapAt isK w' b (m1 ++ m2) ∧ w.grownBy w' (some b) ∧ w'.heap.size = w.heap.size := by
  have hnd := h.nodup
  obtain ⟨es, clock, hb, hst, hm, hk⟩ := h
  have hik : isK key := hk (key, old) (by simp)
  rcases K.find w hik es.toList (MapAt.entries hm hk) with ⟨h1, h2⟩ | ⟨j, e0, h1, h2, h3⟩
  · have h4 : (key, old) ∈ es.toList.map kv := by rw [hm]; simp
    obtain ⟨x, hx, e1⟩ := List.mem_map.1 h4
    exact absurd (congrArg Prod.fst e1) (h2 x hx)
  · have hjl : j < es.toList.length := (List.getElem?_eq_some_iff.1 h2).1
    have hjs : j < es.size := by simpa using hjl
    have hjm : j = m1.length := by
      have e1 : (es.toList.map kv)[j]? = some (kv e0) := by rw [List.getElem?_map, h2]; rfl
      rw [hm] at e1
      have e2 : ((m1 ++ (key, old) :: m2).map (·.1))[j]? = some key := by rw [List.getElem?_map, e1]; show some e0.key = _; rw [h3]
      have e3 : ((m1 ++ (key, old) :: m2).map (·.1))[m1.length]? = some key := by simp
      have l1 : j < ((m1 ++ (key, old) :: m2).map (·.1)).length := (List.getElem?_eq_some_iff.1 e2).1
      have l2 : m1.length < ((m1 ++ (key, old) :: m2).map (·.1)).length := (List.getElem?_eq_some_iff.1 e3).1
      rw [List.getElem?_eq_getElem l1] at e2
      rw [List.getElem?_eq_getElem l2] at e3
      exact (List.getElem_inj hnd).1 ((Option.some.inj e2).trans (Option.some.inj e3).symm)
    have hsub : (es.eraseIdxIfInBounds j).toList = es.toList.eraseIdx j := by
      unfold Array.eraseIdxIfInBounds
      rw [dif_pos hjs]
      simp
    have hl : (es.eraseIdxIfInBounds j).toList.map kv = m1 ++ m2 := by
      rw [hsub, ChangeMaps.map_eraseIdx, hm, hjm, erase_mid]
    refine ⟨setBlock w b (.map (es.eraseIdxIfInBounds j) clock), ?_, ⟨_, _, heap_setBlock_same hb _, stamped_erase hst j, hl, ?_⟩, grown_setBlock hb, by simp [setBlock]⟩
    · simp [Builtin.delete_, run_underlying ht, MapKept.run_getObj_map hb, K.check w _ hik, h1, MapKept.run_setObj_map _ hb, Result.andThen, setBlock]
    · intro p hp
      rcases List.mem_append.1 hp with hp | hp
      · exact hk p (List.mem_append.2 (.inl hp))
      · exact hk p (List.mem_append.2 (.inr (List.mem_cons_of_mem _ hp)))
theorem MapAt.del_miss {ty : TypeId} (K : KeyT P k isK) (h : MapAt isK w b m) (ht : P.underlying t = some (.map k e)) {key : Value} (hik : isK key) (hno : ∀ p ∈ m, p.1 ≠ key) :
    ∃ w', (Builtin.delete_ #[t, k] ty #[.map (some b), key]).run P w = .ok (.tuple #[]) w' ∧ MapAt isK w' b m ∧ w.grownBy w' (some b) ∧ w'.heap.size = w.heap.size := by
  obtain ⟨es, clock, hb, hst, rfl, hk⟩ := h
  rcases K.find w hik es.toList (MapAt.entries rfl hk) with ⟨h1, h2⟩ | ⟨j, e0, h1, h2, h3⟩
  · refine ⟨setBlock w b (.map es clock), ?_, ⟨_, _, heap_setBlock_same hb _, hst, rfl, hk⟩, grown_setBlock hb, by simp [setBlock]⟩
    simp [Builtin.delete_, run_underlying ht, MapKept.run_getObj_map hb, K.check w _ hik, h1, MapKept.run_setObj_map _ hb, Result.andThen, setBlock]
  · exact absurd h3 (hno (kv e0) (List.mem_map.2 ⟨e0, List.mem_of_getElem? h2, rfl⟩))
theorem MapAt.len {ty : TypeId} (h : MapAt isK w b m) (ht : P.underlying t = some (.map k e)) : (Builtin.len_ #[t] ty #[.map (some b)]).run P w = .ok (.int .i64 (m.length : Int)) w := by
  obtain ⟨es, clock, hb, hst, rfl, hk⟩ := h
  have e1 : ((es.toList.map kv).length : Int) = (es.size : Int) := by rw [List.length_map, Array.length_toList]
  rw [e1]
  simp [Builtin.len_, goInt, run_underlying ht, MapKept.run_getObj_map hb, Result.andThen]

/-! ### A range -/
/-- Block r is a range over the map in block b, in which nothing has been laid since; 'todo' is still to come. -/
def RangeAt (isK : Value → Prop) (w : World) (b r : Nat) (m todo : List (Value × Value)) : Prop :=
  ∃ es clock since seen c0, w.heap[b]? = some (.map es clock) ∧ Stamped es clock ∧ es.toList.map kv = m ∧ (∀ p ∈ m, isK p.1) ∧ w.heap[r]? = some (.mapIter (some b) since seen c0) ∧ (∀ x ∈ es.toList, x.born < since) ∧ since ≤ c0 ∧ since ≤ clock ∧
    (Go.leftOf es seen).toList.map kv = todo
theorem RangeAt.map {r : Nat} {todo : List (Value × Value)} (h : RangeAt isK w b r m todo) : MapAt isK w b m := by
  obtain ⟨es, clock, since, seen, c0, hb, hst, hm, hk, _⟩ := h; exact ⟨es, clock, hb, hst, hm, hk⟩
theorem RangeAt.ne {r : Nat} {todo : List (Value × Value)} (h : RangeAt isK w b r m todo) : r ≠ b := by
  obtain ⟨es, clock, since, seen, c0, hb, _, _, _, hr, _⟩ := h
  intro e
  rw [e, hb] at hr
  cases hr
theorem RangeAt.lt {r : Nat} {todo : List (Value × Value)} (h : RangeAt isK w b r m todo) : r < w.heap.size := by
  obtain ⟨es, clock, since, seen, c0, hb, _, _, _, hr, _⟩ := h; exact block_lt hr
theorem RangeAt.keep {w' : World} {r : Nat} {todo : List (Value × Value)} (h : RangeAt isK w b r m todo) (h1 : w'.heap[b]? = w.heap[b]?) (h2 : w'.heap[r]? = w.heap[r]?) : RangeAt isK w' b r m todo := by
  obtain ⟨es, clock, since, seen, c0, hb, hst, hm, hk, hr, rest⟩ := h
  exact ⟨es, clock, since, seen, c0, h1.trans hb, hst, hm, hk, h2.trans hr, rest⟩
theorem MapAt.range (h : MapAt isK w b m) (ht : P.underlying t = some (.map k e)) :
    ∃ w', (Instr.range t (.map (some b))).run P w = .ok (.pointer (some ⟨w.heap.size, 0, none⟩)) w' ∧ RangeAt isK w' b w.heap.size m m ∧ w.grownBy w' none ∧ w'.heap.size = w.heap.size + 1 := by
  have hlt := h.lt
  obtain ⟨es, clock, hb, hst, hm, hk⟩ := h
  refine ⟨_, run_range_map w t k e b es clock ht hb, ⟨es, clock, clock, #[], clock, (heap_alloc_old w _ hlt).trans hb, hst, hm, hk, heap_alloc_new w _, hst.1, Nat.le_refl _, Nat.le_refl _, ?_⟩, World.grownBy_alloc w _ none, by simp⟩
  have h0 : (Go.leftOf es #[]).toList = es.toList := by
    unfold Go.leftOf; rw [Array.toList_filter]; exact List.filter_eq_self.2 (fun x _ => by simp)
  rw [h0, hm]
/-- One of the rest comes; it stands in it no more. -/
theorem RangeAt.next {r : Nat} {todo : List (Value × Value)} (h : RangeAt isK w b r m todo) (ty : TypeId) :
    (todo = [] ∧ (Instr.next (.pointer (some ⟨r, 0, none⟩)) false ty).run P w = .ok (.tuple #[.bool false]) w) ∨
    ∃ t1 t2 key v w', todo = t1 ++ (key, v) :: t2 ∧ (Instr.next (.pointer (some ⟨r, 0, none⟩)) false ty).run P w = .ok (.tuple #[.bool true, key, v]) w' ∧ RangeAt isK w' b r m (t1 ++ t2) ∧ w.grownBy w' (some r) ∧ w'.heap.size = w.heap.size ∧
      (Instr.entry (.pointer (some ⟨r, 0, none⟩))).run P w' = .ok (.tuple #[key, v]) w' := by
  have hne := h.ne
  obtain ⟨es, clock, since, seen, c0, hb, hst, hm, hk, hr, hold, hsc, hsk, htodo⟩ := h
  rcases run_next_at (P := P) w ty r b since c0 seen es clock hr hb hold hsc with ⟨h0, hrun⟩ | ⟨e0, he, w1, hal, hrun⟩
  · refine .inl ⟨?_, hrun⟩
    rw [← htodo, Array.eq_empty_of_size_eq_zero h0]; rfl
  · have hmem : e0 ∈ es.toList ∧ seen.contains e0.born = false := by
      simp [Go.leftOf] at he ⊢; exact he
    have hbn : (es.toList.map (·.born)).Nodup := hst.2.1
    have hh1 : ∀ i : Nat, w1.heap[i]? = w.heap[i]? := by rcases hal with rfl | rfl <;> exact fun _ => rfl
    have hs1 : w1.heap.size = w.heap.size := by rcases hal with rfl | rfl <;> rfl
    have ho1 : w1.os = w.os ∧ w1.tape = w.tape ∧ w1.output = w.output := by rcases hal with rfl | rfl <;> exact ⟨rfl, rfl, rfl⟩
    have hr1 : w1.heap[r]? = some (.mapIter (some b) since seen c0) := (hh1 r).trans hr
    have hb2 : (setBlock w1 r (.mapIter (some b) since (seen.push e0.born) clock)).heap[b]? = some (.map es clock) := ((heap_set hr1).2 b hne.symm).trans ((hh1 b).trans hb)
    have hr2 : (setBlock w1 r (.mapIter (some b) since (seen.push e0.born) clock)).heap[r]? = some (.mapIter (some b) since (seen.push e0.born) clock) := (heap_set hr1).1
    obtain ⟨s1, s2, hs⟩ := List.append_of_mem he
    have hnew : (Go.leftOf es (seen.push e0.born)).toList = s1 ++ s2 := by
      have e1 : (Go.leftOf es (seen.push e0.born)).toList = (Go.leftOf es seen).toList.filter fun x => !(x.born == e0.born) := by
        simp only [Go.leftOf, Array.toList_filter, List.filter_filter]
        apply List.filter_congr
        intro x hx
        simp only [Array.contains_push, Bool.not_or, Bool.and_comm]
      rw [e1, hs, List.filter_append, List.filter_cons]
      have hsub : ((Go.leftOf es seen).toList.map (·.born)).Nodup := by
        simp only [Go.leftOf, Array.toList_filter]
        exact hbn.sublist (List.filter_sublist.map _)
      rw [hs, List.map_append, List.map_cons] at hsub
      have hd := List.nodup_append.1 hsub
      have h1 : s1.filter (fun x => !(x.born == e0.born)) = s1 := List.filter_eq_self.2 fun x hx => by
        have := hd.2.2 x.born (List.mem_map.2 ⟨x, hx, rfl⟩) e0.born (List.mem_cons_self)
        simp [this]
      have h2 : s2.filter (fun x => !(x.born == e0.born)) = s2 := List.filter_eq_self.2 fun x hx => by
        have := (List.nodup_cons.1 hd.2.1).1
        have h3 : x.born ≠ e0.born := fun e => this (e ▸ List.mem_map.2 ⟨x, hx, rfl⟩)
        simp [h3]
      simp [h1, h2]
    refine .inr ⟨s1.map kv, s2.map kv, e0.key, e0.val, _, ?_, hrun, ⟨es, clock, since, seen.push e0.born, clock, hb2, hst, hm, hk, hr2, hold, hsk, hsk, ?_⟩, ?_, ?_, ?_⟩
    · rw [← htodo, hs, List.map_append]; rfl
    · rw [hnew, List.map_append]
    · exact ⟨ho1.1, ho1.2.1, ho1.2.2, by simp [setBlock, hs1], fun i _ hi => ((heap_set hr1).2 i (fun e => hi (by rw [e]))).trans (hh1 i)⟩
    · simp [setBlock, hs1]
    · exact run_entry_at _ r b since seen es clock e0 hr2 hb2 hmem.1 hbn
end

section
variable {P : Program} (w : World) {ops : Array Oper} {rest : List Oper} {o : Oper} {a : Act} {Q : Exit → Act → World → Prop}
theorem wpList_range_M (hg : o.guard = none) (m : Operand) (t : TypeId) (hop : o.op = Op.range t m) (k e : TypeId) (isK : Value → Prop) (ht : P.underlying t = some (.map k e)) (b : Nat) (l : List (Value × Value))
    (hm : a.eval m = .map (some b)) (h : MapAt isK w b l)
    (hK : ∀ w', RangeAt isK w' b w.heap.size l l → w.grownBy w' none → w'.heap.size = w.heap.size + 1 → wpList P ops Q rest (a.put o.dst (.pointer (some ⟨w.heap.size, 0, none⟩))) w') :
    wpList P ops Q (o :: rest) a w := by
  refine wpList_plain hg fun K' hK' => ?_
  obtain ⟨w', hrun, r1, r2, r3⟩ := h.range (P := P) ht
  unfold Oper.wp
  simp [execOp, hop, hm, hrun, Result.andThen]
  exact hK' _ _ (hK w' r1 r2 r3)
theorem wpList_next_M (hg : o.guard = none) (it : Operand) (hop : o.op = Op.next it false) (isK : Value → Prop) (b r : Nat) (l todo : List (Value × Value))
    (hit : a.eval it = .pointer (some ⟨r, 0, none⟩)) (h : RangeAt isK w b r l todo)
    (hDone : todo = [] → wpList P ops Q rest (a.put o.dst (.tuple #[.bool false])) w)
    (hMore : ∀ (t1 t2 : List (Value × Value)) (key v : Value) (w' : World), todo = t1 ++ (key, v) :: t2 → RangeAt isK w' b r l (t1 ++ t2) → w.grownBy w' (some r) → w'.heap.size = w.heap.size →
      (Instr.entry (.pointer (some ⟨r, 0, none⟩))).run P w' = .ok (.tuple #[key, v]) w' → wpList P ops Q rest (a.put o.dst (.tuple #[.bool true, key, v])) w') :
    wpList P ops Q (o :: rest) a w := by
  refine wpList_plain hg fun K' hK' => ?_
  unfold Oper.wp
  rcases h.next (P := P) o.type with ⟨h0, hrun⟩ | ⟨t1, t2, key, v, w', he, hrun, hrg, hgr, hsz, hen⟩
  · simp [execOp, hop, hit, hrun, Result.andThen]
    exact hK' _ _ (hDone h0)
  · simp [execOp, hop, hit, hrun, Result.andThen]
    exact hK' _ _ (hMore t1 t2 key v w' he hrg hgr hsz hen)
theorem wpList_store_M (hg : o.guard = none) (m x v : Operand) (t : TypeId) (hop : o.op = Op.mapUpdate t m x v) (k e : TypeId) (isK : Value → Prop) (b : Nat) (key val : Value) (hm : a.eval m = .map (some b)) (hx : a.eval x = key) (hv : a.eval v = val) (l' : List (Value × Value))
    (h : ∃ w', (Instr.mapUpdate t (.map (some b)) key val).run P w = .ok () w' ∧ MapAt isK w' b l' ∧ w.grownBy w' (some b) ∧ w'.heap.size = w.heap.size)
    (hK : ∀ w', MapAt isK w' b l' → w.grownBy w' (some b) → w'.heap.size = w.heap.size → wpList P ops Q rest (a.put o.dst undef) w') :
    wpList P ops Q (o :: rest) a w := by
  refine wpList_plain hg fun K' hK' => ?_
  obtain ⟨w', hrun, r1, r2, r3⟩ := h
  unfold Oper.wp
  simp [execOp, hop, hm, hx, hv, hrun, Result.andThen]
  exact hK' _ _ (hK w' r1 r2 r3)
theorem wpList_del_M (hg : o.guard = none) (m x : Operand) (t k : TypeId) (hop : o.op = Op.call { callee := Callee.builtin Builtin.delete, args := #[m, x], argTypes := #[t, k] }) (isK : Value → Prop) (b : Nat) (key : Value) (hm : a.eval m = .map (some b)) (hx : a.eval x = key) (l' : List (Value × Value))
    (h : ∃ w', (Builtin.delete_ #[t, k] o.type #[.map (some b), key]).run P w = .ok (.tuple #[]) w' ∧ MapAt isK w' b l' ∧ w.grownBy w' (some b) ∧ w'.heap.size = w.heap.size)
    (hK : ∀ w', MapAt isK w' b l' → w.grownBy w' (some b) → w'.heap.size = w.heap.size → wpList P ops Q rest (a.put o.dst (.tuple #[])) w') :
    wpList P ops Q (o :: rest) a w := by
  refine wpList_plain hg fun K' hK' => ?_
  obtain ⟨w', hrun, r1, r2, r3⟩ := h
  unfold Oper.wp
  simp [execOp, hop, resolve, invoke, builtin, hm, hx, hrun, Result.andThen]
  exact hK' _ _ (hK w' r1 r2 r3)
end
section
variable {P : Program} {w : World} {ops : Array Oper} {rest : List Oper} {o : Oper} {a : Act} {Q : Exit → Act → World → Prop}
theorem wpList_lookup_M (hg : o.guard = none) (m x : Operand) (t : TypeId) (c : Bool) (hop : o.op = Op.lookup t m x c) (mv key v : Value) (hm : a.eval m = mv) (hx : a.eval x = key) (h : (Instr.lookup t mv key c).run P w = .ok v w)
    (hK : wpList P ops Q rest (a.put o.dst v) w) : wpList P ops Q (o :: rest) a w := by
  refine wpList_plain hg fun K' hK' => ?_
  unfold Oper.wp
  simp [execOp, hop, hm, hx, h, Result.andThen]
  exact hK' _ _ hK
end
end Go.Proofs.YtcmhbhdiepkndaaGreatDoor

/-
  Maps keyed by strings as lists of pairs, over any program: what is read, stored, taken away; and the keys, sorted. No condition: plain definitions and lemmas.
-/
namespace Go.Proofs.YtcmhbhdiepkndaaGreatDoor
open Go.RowKit Go.ChangeShapes Go.WideShapes Go.MapKept Go.ChangeMaps
set_option linter.unusedVariables false

/-- A map from strings, in the order in which its keys came. -/
abbrev SMap := List (ByteArray × Value)
def fv (p : ByteArray × Value) : Value × Value := (.string p.1, p.2)
def skeys (fs : SMap) : List ByteArray := fs.map (·.1)
def fgetD (z : Value) : SMap → ByteArray → Value
  | [], _ => z
  | p :: r, k => if p.1 = k then p.2 else fgetD z r k
def fset : SMap → ByteArray → Value → SMap
  | [], k, v => [(k, v)]
  | p :: r, k, v => if p.1 = k then (k, v) :: r else p :: fset r k v
def fdel (fs : SMap) (k : ByteArray) : SMap := fs.filter (fun p => decide (p.1 ≠ k))

def fhas (fs : SMap) (k : ByteArray) : Bool := fs.any (fun p => decide (p.1 = k))
theorem fhas_iff {fs : SMap} {k : ByteArray} : fhas fs k = true ↔ k ∈ skeys fs := by
  unfold fhas skeys
  rw [List.any_eq_true, List.mem_map]
  constructor
  · rintro ⟨p, hp, h⟩; exact ⟨p, hp, of_decide_eq_true h⟩
  · rintro ⟨p, hp, h⟩; exact ⟨p, hp, decide_eq_true h⟩
theorem fhas_yes {fs : SMap} {k : ByteArray} (h : k ∈ skeys fs) : fhas fs k = true := fhas_iff.2 h
theorem fhas_no {fs : SMap} {k : ByteArray} (h : k ∉ skeys fs) : fhas fs k = false := by
  cases e : fhas fs k with
  | false => rfl
  | true => exact absurd (fhas_iff.1 e) h
theorem split_key : ∀ {fs : SMap} {k : ByteArray}, k ∈ skeys fs → ∃ a v b, fs = a ++ (k, v) :: b ∧ k ∉ skeys a
  | [], k, h => by simp [skeys] at h
  | p :: r, k, h => by
    by_cases e : p.1 = k
    · exact ⟨[], p.2, r, by rw [← e]; rfl, by simp [skeys]⟩
    · have h2 : k ∈ skeys r := by
        simp only [skeys, List.map_cons, List.mem_cons] at h
        rcases h with h | h
        · exact absurd h.symm e
        · exact h
      obtain ⟨a, v, b, h3, h4⟩ := split_key h2
      refine ⟨p :: a, v, b, by rw [h3]; rfl, ?_⟩
      simp only [skeys, List.map_cons, List.mem_cons, not_or]
      exact ⟨fun e' => e e'.symm, h4⟩
theorem fgetD_split (z : Value) : ∀ {a : SMap} {k : ByteArray} {v : Value} {b : SMap}, k ∉ skeys a → fgetD z (a ++ (k, v) :: b) k = v
  | [], k, v, b, _ => by simp [fgetD]
  | p :: a, k, v, b, h => by
    simp only [skeys, List.map_cons, List.mem_cons, not_or] at h
    simp only [List.cons_append, fgetD]
    rw [if_neg (fun e => h.1 e.symm)]
    exact fgetD_split z h.2
theorem fgetD_none (z : Value) : ∀ {a : SMap} {k : ByteArray}, k ∉ skeys a → fgetD z a k = z
  | [], k, _ => rfl
  | p :: a, k, h => by
    simp only [skeys, List.map_cons, List.mem_cons, not_or] at h
    simp only [fgetD]
    rw [if_neg (fun e => h.1 e.symm)]
    exact fgetD_none z h.2
theorem fset_split : ∀ {a : SMap} {k : ByteArray} {v u : Value} {b : SMap}, k ∉ skeys a → fset (a ++ (k, v) :: b) k u = a ++ (k, u) :: b
  | [], k, v, u, b, _ => by simp [fset]
  | p :: a, k, v, u, b, h => by
    simp only [skeys, List.map_cons, List.mem_cons, not_or] at h
    simp only [List.cons_append, fset]
    rw [if_neg (fun e => h.1 e.symm), fset_split h.2]
theorem fset_none : ∀ {a : SMap} {k : ByteArray} {u : Value}, k ∉ skeys a → fset a k u = a ++ [(k, u)]
  | [], k, u, _ => rfl
  | p :: a, k, u, h => by
    simp only [skeys, List.map_cons, List.mem_cons, not_or] at h
    simp only [List.cons_append, fset]
    rw [if_neg (fun e => h.1 e.symm), fset_none h.2]
theorem fdel_none {a : SMap} {k : ByteArray} (h : k ∉ skeys a) : fdel a k = a := by
  unfold fdel
  rw [List.filter_eq_self]
  intro p hp
  exact decide_eq_true (fun e => h (List.mem_map.2 ⟨p, hp, e⟩))
theorem fdel_split {a b : SMap} {k : ByteArray} {v : Value} (h : k ∉ skeys a) (h2 : k ∉ skeys b) : fdel (a ++ (k, v) :: b) k = a ++ b := by
  have e1 := fdel_none h
  have e2 := fdel_none h2
  unfold fdel at *
  rw [List.filter_append, e1, List.filter_cons, e2]
  simp
theorem mem_fset {fs : SMap} {k : ByteArray} {v : Value} {p : ByteArray × Value} (h : p ∈ fset fs k v) : p = (k, v) ∨ p ∈ fs := by
  by_cases hk : k ∈ skeys fs
  · obtain ⟨a, v0, b, rfl, ha⟩ := split_key hk
    rw [fset_split ha] at h
    rcases List.mem_append.1 h with h | h
    · exact .inr (List.mem_append.2 (.inl h))
    · rcases List.mem_cons.1 h with h | h
      · exact .inl h
      · exact .inr (List.mem_append.2 (.inr (List.mem_cons_of_mem _ h)))
  · rw [fset_none hk] at h
    rcases List.mem_append.1 h with h | h
    · exact .inr h
    · exact .inl (List.mem_singleton.1 h)
theorem mem_fdel {fs : SMap} {k : ByteArray} {p : ByteArray × Value} (h : p ∈ fdel fs k) : p ∈ fs := (List.mem_filter.1 h).1
theorem mem_fgetD {z : Value} {fs : SMap} {k : ByteArray} : fgetD z fs k = z ∨ (k, fgetD z fs k) ∈ fs := by
  by_cases hk : k ∈ skeys fs
  · obtain ⟨a, v0, b, rfl, ha⟩ := split_key hk
    right
    rw [fgetD_split z ha]; simp
  · exact .inl (fgetD_none z hk)

def IsStrK (v : Value) : Prop := ∃ s : ByteArray, v = .string s ∧ s.size ≤ maxLen
theorem strK_of {P : Program} {k : TypeId} (hk : P.underlying k = some .string) (v : Value) (h : IsStrK v) : ∃ l, keyOf P k v = some l := by
  obtain ⟨s, rfl, hs⟩ := h
  simp [keyOf, hk, mapKey, hs]
theorem strT {P : Program} {k : TypeId} (hk : P.underlying k = some .string) : KeyT P k IsStrK := (KeyT.of (Maps.string_keyed hk)).less (strK_of hk)

/-- Block b is a map from strings that holds fs. -/
def SMapAt (w : World) (b : Nat) (fs : SMap) : Prop := MapAt IsStrK w b (fs.map fv)
theorem SMapAt.lt {w : World} {b : Nat} {fs : SMap} (h : SMapAt w b fs) : b < w.heap.size := MapAt.lt h
theorem SMapAt.keep {w w' : World} {b : Nat} {fs : SMap} (h : SMapAt w b fs) (hs : w'.heap[b]? = w.heap[b]?) : SMapAt w' b fs := MapAt.keep h hs
theorem SMapAt.made (w : World) : SMapAt (w.alloc (.map #[] 0)) w.heap.size [] := MapAt.made _ w
theorem fv_inj {p q : ByteArray × Value} (h : (fv p).1 = (fv q).1) : p.1 = q.1 := by simpa [fv] using h
theorem SMapAt.nodup {w : World} {b : Nat} {fs : SMap} (h : SMapAt w b fs) : (skeys fs).Nodup := by
  have h1 := MapAt.nodup h
  rw [List.map_map] at h1
  unfold skeys
  rw [List.Nodup, List.pairwise_map] at h1 ⊢
  exact h1.imp fun {p q} hpq e => hpq (by simp [fv, e])
theorem SMapAt.key_le {w : World} {b : Nat} {fs : SMap} (h : SMapAt w b fs) {k : ByteArray} (hk : k ∈ skeys fs) : k.size ≤ maxLen := by
  obtain ⟨p, hp, rfl⟩ := List.mem_map.1 hk
  obtain ⟨s, e, hs⟩ := MapAt.isK h (fv p) (List.mem_map.2 ⟨p, hp, rfl⟩)
  simp [fv] at e
  rw [e]; exact hs
theorem SMapAt.not_cells {w : World} {b : Nat} {fs : SMap} (h : SMapAt w b fs) {cs : Array Value} {t : TypeId} {fr : Nat × Nat} : w.heap[b]? ≠ some (.cells cs t fr) := by
  obtain ⟨es, clock, hb, _⟩ := h
  rw [hb]; simp
theorem SMapAt.clone {w : World} {b : Nat} {fs : SMap} (h : SMapAt w b fs) : ∃ es clock, w.heap[b]? = some (.map es clock) ∧ SMapAt (w.alloc (.map es clock)) w.heap.size fs := by
  obtain ⟨es, clock, hb, h1, h2, h3⟩ := h
  exact ⟨es, clock, hb, es, clock, heap_alloc_new w _, h1, h2, h3⟩
theorem ne_keys {fs : SMap} {k : ByteArray} (h : k ∉ skeys fs) : ∀ p ∈ fs.map fv, p.1 ≠ .string k := fun p hp e => by
  obtain ⟨q, hq, rfl⟩ := List.mem_map.1 hp
  simp only [fv] at e
  injection e with e
  exact h (List.mem_map.2 ⟨q, hq, e⟩)
theorem fv_split (a b : SMap) (k : ByteArray) (v : Value) : (a ++ (k, v) :: b).map fv = a.map fv ++ (.string k, v) :: b.map fv := by simp [fv]

section
variable {P : Program} {k t e : TypeId} {w : World} {b : Nat} {fs : SMap}
theorem SMapAt.get (h : SMapAt w b fs) (hk : P.underlying k = some .string) (ht : P.underlying t = some (.map k e)) {z : Value} (hz : (zeroValue e).run P w = .ok z w) {s : ByteArray} (hs : s.size ≤ maxLen) (c : Bool) :
    (Instr.lookup t (.map (some b)) (.string s) c).run P w = .ok (if c then .tuple #[fgetD z fs s, .bool (fhas fs s)] else fgetD z fs s) w := by
  by_cases hm : s ∈ skeys fs
  · obtain ⟨x, v, y, rfl, hx⟩ := split_key hm
    rw [fgetD_split z hx, fhas_yes hm]
    exact MapAt.look_hit (strT hk) h ht (by rw [fv_split]; simp) c
  · rw [fgetD_none z hm, fhas_no hm]
    exact MapAt.look_miss (strT hk) h ht hz ⟨s, rfl, hs⟩ (ne_keys hm) c
theorem SMapAt.set (h : SMapAt w b fs) (hk : P.underlying k = some .string) (ht : P.underlying t = some (.map k e)) {s : ByteArray} (hs : s.size ≤ maxLen) (v : Value) :
    ∃ w', (Instr.mapUpdate t (.map (some b)) (.string s) v).run P w = .ok () w' ∧ SMapAt w' b (fset fs s v) ∧ w.grownBy w' (some b) ∧ w'.heap.size = w.heap.size := by
  by_cases hm : s ∈ skeys fs
  · obtain ⟨x, v0, y, rfl, hx⟩ := split_key hm
    unfold SMapAt at h
    rw [fv_split] at h
    obtain ⟨w', h1, h2, h3⟩ := MapAt.store_hit (strT hk) h ht v
    refine ⟨w', h1, ?_, h3⟩
    rw [fset_split hx]; unfold SMapAt; rw [fv_split]; exact h2
  · obtain ⟨w', h1, h2, h3⟩ := MapAt.store_new (strT hk) h ht v ⟨s, rfl, hs⟩ (ne_keys hm)
    refine ⟨w', h1, ?_, h3⟩
    rw [fset_none hm]; unfold SMapAt; rw [List.map_append]; exact h2
theorem SMapAt.del {ty : TypeId} (h : SMapAt w b fs) (hk : P.underlying k = some .string) (ht : P.underlying t = some (.map k e)) {s : ByteArray} (hs : s.size ≤ maxLen) :
    ∃ w', (Builtin.delete_ #[t, k] ty #[.map (some b), .string s]).run P w = .ok (.tuple #[]) w' ∧ SMapAt w' b (fdel fs s) ∧ w.grownBy w' (some b) ∧ w'.heap.size = w.heap.size := by
  by_cases hm : s ∈ skeys fs
  · have hn := h.nodup
    obtain ⟨x, v0, y, rfl, hx⟩ := split_key hm
    have hy : s ∉ skeys y := by
      unfold skeys at hn
      rw [List.map_append, List.map_cons, List.nodup_append] at hn
      exact (List.nodup_cons.1 hn.2.1).1
    unfold SMapAt at h
    rw [fv_split] at h
    obtain ⟨w', h1, h2, h3⟩ := MapAt.del_hit (ty := ty) (strT hk) h ht
    refine ⟨w', h1, ?_, h3⟩
    rw [fdel_split hx hy]; unfold SMapAt; rw [List.map_append]; exact h2
  · obtain ⟨w', h1, h2, h3⟩ := MapAt.del_miss (ty := ty) (strT hk) h ht ⟨s, rfl, hs⟩ (ne_keys hm)
    exact ⟨w', h1, by rw [fdel_none hm]; exact h2, h3⟩
theorem SMapAt.len {ty : TypeId} (h : SMapAt w b fs) (ht : P.underlying t = some (.map k e)) : (Builtin.len_ #[t] ty #[.map (some b)]).run P w = .ok (.int .i64 (fs.length : Int)) w := by
  have := MapAt.len (ty := ty) h ht
  rw [List.length_map] at this
  exact this
end

/-! ### For the kit's own word on maps: the keys -/
def anyElem {H : Type} (_ : Value) : Option (DataW H × List MemPlace) := some (.lit (.bool true), [])
theorem SMapAt.owns {H : Type} {P : Program} {k : TypeId} {w : World} {b : Nat} {fs : SMap} (h : SMapAt w b fs) (hk : P.underlying k = some .string) (hl : fs.length ≤ maxLen) :
    ∃ D0 : DataW H, w.ownsMap P k anyElem b fs.length D0 ∧ (strKeys D0).Perm ((skeys fs).map fun s => s.data.toList) := by
  obtain ⟨es, clock, hb, hst, hm, hik⟩ := h
  have hsz : es.size = fs.length := by rw [← Array.length_toList, ← List.length_map (f := kv), hm, List.length_map]
  have hrd : ∀ x ∈ es.toList, ∃ s : ByteArray, x.key = .string s ∧ WideElems.rd P k (anyElem (H := H)) x = some (.string s.data.toList, .lit (.bool true)) := fun x hx => by
    have h1 : kv x ∈ fs.map fv := by rw [← hm]; exact List.mem_map.2 ⟨x, hx, rfl⟩
    obtain ⟨s, e, hs⟩ := hik _ h1
    have e : x.key = .string s := e
    refine ⟨s, e, ?_⟩
    have hko : keyOf P k x.key = some (.string s.data.toList) := by rw [e]; simp [keyOf, hk, mapKey, hs]
    simp [WideElems.rd, hko, anyElem]
  have F : WideElems.Fit P k (anyElem (H := H)) es clock := ⟨by rw [hsz]; exact hl, hst, fun x hx => by obtain ⟨s, _, h⟩ := hrd x hx; exact ⟨_, h⟩⟩
  refine ⟨_, ⟨es, clock, hb, F, by rw [hsz]; exact Nat.le_refl _, rfl⟩, ?_⟩
  have e1 : (es.toList.map (WideElems.rg P k (anyElem (H := H)))).map (fun p => strOf p.1) = (skeys fs).map fun s => s.data.toList := by
    have e2 : (skeys fs).map (fun s => s.data.toList) = (fs.map fv).map (fun p => match p.1 with | .string s => s.data.toList | _ => []) := by
      unfold skeys; rw [List.map_map, List.map_map]; rfl
    rw [e2, ← hm, List.map_map, List.map_map]
    refine List.map_congr_left fun x hx => ?_
    obtain ⟨s, e, h⟩ := hrd x hx
    simp only [Function.comp, WideElems.rg, h, Option.getD_some, strOf, kv, e]
  rw [← e1]
  exact (sorted_perm _).map _
end Go.Proofs.YtcmhbhdiepkndaaGreatDoor

/-
  Package den: a flow as it lies in memory ('FlowAt'), and what becomes of it where a count, a state, a line is written. No condition: definitions and lemmas.
-/
namespace Go.Proofs.YtcmhbhdiepkndaaGreatDoor
open Go.RowKit Go.ChangeShapes Go.WideShapes
set_option linter.unusedVariables false

/-- A row of numbers. -/
structure RowI where
  A : Option Addr
  cap : Nat
  xs : List Int
def intC (n : Int) : List Value := [.int .i64 n]
def rowV (r : RowI) : Value := .slice r.A r.xs.length r.cap
def RowI.At (r : RowI) (w : World) : Prop := OwnS w 3 1 r.A r.cap r.xs.length (r.xs.flatMap intC)
def noRow : RowI := ⟨none, 0, []⟩
def hp (p : ByteArray × Hld) : ByteArray × Value := (p.1, hldV p.2)
def lp (p : ByteArray × RowI) : ByteArray × Value := (p.1, rowV p.2)
def lxs (p : ByteArray × RowI) : ByteArray × List Int := (p.1, p.2.xs)
/-- What never turns of a flow: where its parts lie. -/
structure FlowC where
  B : Nat
  g : Nat
  J : List Nod
  U : List (List Int)
  Aj : Option Addr
  cj : Nat
  Au : Option Addr
  cu : Nat
  bs : Nat
  cs : Nat
  bg : Nat
  bl : Nat
  cl : Nat
  sb : Nat → Nat
  lb : Nat → Nat
structure FlowC.Ok (C : FlowC) : Prop where
  bg : C.B ≤ C.bg
  sb : ∀ i, i < C.J.length → C.B ≤ C.sb i
  lb : ∀ i, i < C.J.length → C.B ≤ C.lb i
  sinj : ∀ i j, i < C.J.length → j < C.J.length → C.sb i = C.sb j → i = j
  linj : ∀ i j, i < C.J.length → j < C.J.length → C.lb i = C.lb j → i = j
  two : ∀ i j, i < C.J.length → j < C.J.length → C.sb i ≠ C.lb j
structure FlowAt (C : FlowC) (L : List (List (ByteArray × RowI))) (w : World) (f : Flw) : Prop where
  obj : w.heap[C.g]? = some (.cells #[.slice C.Aj C.J.length C.cj, .slice C.Au C.U.length C.cu, .slice (some ⟨C.bs, 0, none⟩) C.J.length C.cs, .slice (some ⟨C.bg, 0, none⟩) C.J.length C.J.length, .slice (some ⟨C.bl, 0, none⟩) C.J.length C.cl] 61 (0, 0))
  job : SlA nodE (· < C.B) w C.Aj C.cj C.J
  uses : SlA (slE (intE .i64)) (· < C.B) w C.Au C.cu C.U
  sts : ∃ cs, w.heap[C.bs]? = some (.cells cs 63 (0, 0)) ∧ ∀ i, i < C.J.length → cs[i]? = some (.map (some (C.sb i)))
  lns : ∃ cs, w.heap[C.bl]? = some (.cells cs 64 (0, 0)) ∧ ∀ i, i < C.J.length → cs[i]? = some (.map (some (C.lb i)))
  gv : w.heap[C.bg]? = some (.cells (f.gv.flatMap intC).toArray 3 (0, 0))
  gvn : f.gv.length = C.J.length
  stn : f.st.length = C.J.length
  st : ∀ (i : Nat) (m : List (ByteArray × Hld)), f.st[i]? = some m → SMapAt w (C.sb i) (m.map hp)
  Ln : L.length = C.J.length
  ln : f.ln = L.map (·.map lxs)
  lmap : ∀ (i : Nat) (m : List (ByteArray × RowI)), L[i]? = some m → SMapAt w (C.lb i) (m.map lp)
  rows : ∀ (i : Nat) (m : List (ByteArray × RowI)) (p : ByteArray × RowI), L[i]? = some m → p ∈ m → p.2.At w ∧ ∀ k, blk p.2.A = some k → C.B ≤ k ∧ k ≠ C.bg
  apart : ∀ (i j : Nat) (m m' : List (ByteArray × RowI)) (p q : ByteArray × RowI) (k : Nat), L[i]? = some m → L[j]? = some m' → p ∈ m → q ∈ m' → blk p.2.A = some k → blk q.2.A = some k → i = j ∧ p.1 = q.1
  stOk : ∀ m ∈ f.st, ∀ p ∈ m, I64 p.2.a ∧ I64 p.2.b
  lnOk : ∀ m ∈ f.ln, ∀ p ∈ m, ∀ x ∈ p.2, I64 x

theorem get?_lt {α : Type} {l : List α} {i : Nat} {a : α} (h : l[i]? = some a) : i < l.length := (List.getElem?_eq_some_iff.1 h).1
theorem OwnS.introw {w : World} {A : Option Addr} {cap n : Nat} {xs : List Value} {k : Nat} (h : OwnS w 3 1 A cap n xs) (hk : blk A = some k) : ∃ cs, w.heap[k]? = some (.cells cs 3 (0, 0)) := by
  obtain ⟨_, _, _, h4⟩ := h
  rcases h4 with ⟨rfl, _⟩ | ⟨g, off, cur, rfl, hh, _⟩
  · cases hk
  · injection hk with hk; subst hk; exact ⟨cur, hh⟩
/-- All that a flow reads, in one: kept where those blocks are. -/
theorem FlowAt.keep {C : FlowC} {L : List (List (ByteArray × RowI))} {w w' : World} {f : Flw} (h : FlowAt C L w f) (hs : ∀ k, k < w.heap.size → w'.heap[k]? = w.heap[k]?) (hB : C.B ≤ w.heap.size) : FlowAt C L w' f := by
  have hlt : Same (· < C.B) w w' := fun k hk => hs k (Nat.lt_of_lt_of_le hk hB)
  obtain ⟨cs, hcs, hcs2⟩ := h.sts
  obtain ⟨cl, hcl, hcl2⟩ := h.lns
  exact { h with
    obj := (hs _ (block_lt h.obj)).trans h.obj
    job := h.job.keep hlt
    uses := h.uses.keep hlt
    sts := ⟨cs, (hs _ (block_lt hcs)).trans hcs, hcs2⟩
    lns := ⟨cl, (hs _ (block_lt hcl)).trans hcl, hcl2⟩
    gv := (hs _ (block_lt h.gv)).trans h.gv
    st := fun i m hm => (h.st i m hm).keep (hs _ (h.st i m hm).lt)
    lmap := fun i m hm => (h.lmap i m hm).keep (hs _ (h.lmap i m hm).lt)
    rows := fun i m p hm hp => ⟨OwnS.keep (h.rows i m p hm hp).1 fun k hk => hs k (OwnS.lt (h.rows i m p hm hp).1 k hk), (h.rows i m p hm hp).2⟩ }
theorem FlowAt.below {C : FlowC} {L : List (List (ByteArray × RowI))} {w w' : World} {f : Flw} (h : FlowAt C L w f) (hb : Below w.heap.size w w') (hB : C.B ≤ w.heap.size) : FlowAt C L w' f := h.keep (fun k hk => hb.block k hk) hB

/-! ### What may turn -/
def DynKind (w : World) (k : Nat) : Prop := (∃ es c, w.heap[k]? = some (.map es c)) ∨ ∃ cs, w.heap[k]? = some (.cells cs 3 (0, 0))
def Flows (B : Nat) (w w' : World) : Prop := Frm (fun k => B ≤ k ∧ DynKind w k) w w'
theorem Flows.refl (B : Nat) (w : World) : Flows B w w := Frm.refl _ _
theorem Flows.ofBelow {B : Nat} {w w' : World} (h : Below w.heap.size w w') : Flows B w w' := Frm.ofBelow h
theorem Flows.trans {B : Nat} {a b c : World} (h : Flows B a b) (h' : Flows B b c) : Flows B a c :=
  Frm.trans h h' (fun _ h => h) fun k hk => by
    rcases Nat.lt_or_ge k a.heap.size with hlt | hge
    · left
      refine ⟨hk.1, ?_⟩
      by_cases hd : DynKind a k
      · exact hd
      · exfalso
        have e := h.block k hlt (fun hh => hd hh.2)
        rcases hk.2 with ⟨es, cc, hh⟩ | ⟨cs, hh⟩
        · exact hd (.inl ⟨es, cc, e ▸ hh⟩)
        · exact hd (.inr ⟨cs, e ▸ hh⟩)
    · exact .inr hge
theorem Flows.below {B : Nat} {w w' : World} (h : Flows B w w') (hB : B ≤ w.heap.size) : Below B w w' := Frm.below h hB fun k hk => hk.1
/-- A block of records, of nodes, of whatever is no map and no row of ints. -/
theorem Flows.cells {B : Nat} {w w' : World} (h : Flows B w w') {k : Nat} {cs : Array Value} {t : TypeId} {fr : Nat × Nat} (hk : w.heap[k]? = some (.cells cs t fr)) (ht : t ≠ 3) : w'.heap[k]? = some (.cells cs t fr) := by
  refine (h.block k (block_lt hk) ?_).trans hk
  rintro ⟨_, ⟨es, c, e⟩ | ⟨cs', e⟩⟩
  · rw [hk] at e; cases e
  · rw [hk] at e; injection e with e; injection e with _ e; exact ht e
theorem Flows.size {B : Nat} {w w' : World} (h : Flows B w w') : w.heap.size ≤ w'.heap.size := Frm.size h
theorem Flows.grown {B : Nat} {w w' : World} {row : Option Nat} (hg : w.grownBy w' row) (hr : ∀ k, row = some k → B ≤ k ∧ DynKind w k) : Flows B w w' := Frm.ofGrown hg hr
theorem Flows.setCell {B : Nat} {a w : World} (h : Flows B a w) {p : Addr} (hp : (B ≤ p.block ∧ DynKind a p.block) ∨ a.heap.size ≤ p.block) (u : Value) : Flows B a (w.setCell p u) := Frm.setCell h hp u
/-- What a row of nodes, of records holds, whose rows of ints lie below. -/
theorem Flows.sl {α : Type} {E : Elt α} {B : Nat} {w w' : World} (h : Flows B w w') (hB : B ≤ w.heap.size) {A : Option Addr} {c : Nat} {l : List α} (hl : SlA E (· < B) w A c l) : SlA E (· < B) w' A c l := hl.keep fun k hk => (h.below hB).block k hk

/-! ### A count -/
theorem gv_cell {C : FlowC} {L : List (List (ByteArray × RowI))} {w : World} {f : Flw} (h : FlowAt C L w f) {i : Nat} {c : Int} (hc : f.gv[i]? = some c) : w.cell? ⟨C.bg, i, none⟩ = some (.int .i64 c) := by
  rw [cell_of_row w C.bg i _ _ _ h.gv]
  have := flat_get intC 1 (fun _ => rfl) f.gv hc (j := 0) (by decide)
  simpa [intC] using this
theorem flat_ints_set (l : List Int) (i : Nat) (c : Int) (hi : i < l.length) : ((l.flatMap intC).toArray).setIfInBounds i (.int .i64 c) = ((l.set i c).flatMap intC).toArray := by
  have e : ∀ l : List Int, l.flatMap intC = l.map (Value.int .i64 ·) := fun l => by
    induction l with
    | nil => rfl
    | cons x l ih => rw [List.flatMap_cons, ih]; rfl
  rw [e, e, List.setIfInBounds_toArray, List.map_set]
theorem FlowAt.bump {C : FlowC} (hC : C.Ok) {L : List (List (ByteArray × RowI))} {w : World} {f : Flw} (h : FlowAt C L w f) {i : Nat} {c : Int} (hc : f.gv[i]? = some c) : FlowAt C L (w.setCell ⟨C.bg, i, none⟩ (.int .i64 (c + 1))) (bump i f) := by
  have hi := get?_lt hc
  have hs : ∀ k, k ≠ C.bg → (w.setCell ⟨C.bg, i, none⟩ (.int .i64 (c + 1))).heap[k]? = w.heap[k]? := fun k hk => Below.heap_setCell _ _ _ _ (by simpa using hk)
  have hne : ∀ (k : Nat) (cs : Array Value) (t : TypeId) (fr : Nat × Nat), w.heap[k]? = some (.cells cs t fr) → t ≠ 3 → k ≠ C.bg := fun k cs t fr hk ht e => by
    subst e; rw [h.gv] at hk; injection hk with hk; injection hk with _ hk; exact ht hk.symm
  have hmap : ∀ b m, SMapAt w b m → SMapAt (w.setCell ⟨C.bg, i, none⟩ (.int .i64 (c + 1))) b m := fun b m hb => hb.keep (hs b fun e => by subst e; exact hb.not_cells h.gv)
  have hlt : Same (· < C.B) w (w.setCell ⟨C.bg, i, none⟩ (.int .i64 (c + 1))) := fun k hk => hs k (fun e => by have := hC.bg; omega)
  obtain ⟨cs, hcs, hcs2⟩ := h.sts
  obtain ⟨cl, hcl, hcl2⟩ := h.lns
  exact { h with
    obj := (hs _ (hne _ _ _ _ h.obj (by decide))).trans h.obj
    job := h.job.keep hlt
    uses := h.uses.keep hlt
    sts := ⟨cs, (hs _ (hne _ _ _ _ hcs (by decide))).trans hcs, hcs2⟩
    lns := ⟨cl, (hs _ (hne _ _ _ _ hcl (by decide))).trans hcl, hcl2⟩
    gv := by
      show _ = some (Obj.cells (((f.gv.set i ((f.gv[i]?.getD 0) + 1)).flatMap intC).toArray) _ _)
      rw [hc, Option.getD_some, ← flat_ints_set _ _ _ hi]
      simp [World.setCell, Array.getElem?_modify, h.gv]
    gvn := by show (f.gv.set i _).length = _; rw [List.length_set]; exact h.gvn
    st := fun i m hm => hmap _ _ (h.st i m hm)
    lmap := fun i m hm => hmap _ _ (h.lmap i m hm)
    rows := fun j m p hm hp => ⟨OwnS.keep (h.rows j m p hm hp).1 fun k hk => hs k ((h.rows j m p hm hp).2 k hk).2, (h.rows j m p hm hp).2⟩ }

/-! ### A state -/
theorem fset_hp (m : List (ByteArray × Hld)) (k : ByteArray) (h : Hld) : fset (m.map hp) k (hldV h) = (pset m k h).map hp := by
  induction m with
  | nil => rfl
  | cons p m ih =>
    simp only [List.map_cons, fset, pset]
    by_cases e : p.1 = k
    · rw [if_pos (show (hp p).1 = k from e), if_pos e]; rfl
    · rw [if_neg (show ¬ (hp p).1 = k from e), if_neg e, ih]; rfl
theorem fgetD_hp (z : Hld) (m : List (ByteArray × Hld)) (k : ByteArray) : fgetD (hldV z) (m.map hp) k = hldV ((pget m k).getD z) := by
  induction m with
  | nil => rfl
  | cons p m ih =>
    simp only [List.map_cons, fgetD]
    unfold pget
    rw [List.find?_cons]
    by_cases e : p.1 = k
    · rw [if_pos (show (hp p).1 = k from e), decide_eq_true e]; rfl
    · rw [if_neg (show ¬ (hp p).1 = k from e), decide_eq_false e, ih]; rfl
theorem fhas_hp (m : List (ByteArray × Hld)) (k : ByteArray) : fhas (m.map hp) k = (pget m k).isSome := by
  induction m with
  | nil => rfl
  | cons p m ih =>
    unfold fhas at ih ⊢
    unfold pget at ih ⊢
    rw [List.map_cons, List.any_cons, ih, List.find?_cons]
    by_cases e : p.1 = k
    · rw [show decide ((hp p).1 = k) = true from decide_eq_true e, decide_eq_true e]; rfl
    · rw [show decide ((hp p).1 = k) = false from decide_eq_false e, decide_eq_false e]; rfl
theorem fset_lp (m : List (ByteArray × RowI)) (k : ByteArray) (r : RowI) : fset (m.map lp) k (rowV r) = (pset m k r).map lp := by
  induction m with
  | nil => rfl
  | cons p m ih =>
    simp only [List.map_cons, fset, pset]
    by_cases e : p.1 = k
    · rw [if_pos (show (lp p).1 = k from e), if_pos e]; rfl
    · rw [if_neg (show ¬ (lp p).1 = k from e), if_neg e, ih]; rfl
theorem fgetD_lp (m : List (ByteArray × RowI)) (k : ByteArray) : fgetD (rowV noRow) (m.map lp) k = rowV ((pget m k).getD noRow) := by
  induction m with
  | nil => rfl
  | cons p m ih =>
    simp only [List.map_cons, fgetD]
    unfold pget
    rw [List.find?_cons]
    by_cases e : p.1 = k
    · rw [if_pos (show (lp p).1 = k from e), decide_eq_true e]; rfl
    · rw [if_neg (show ¬ (lp p).1 = k from e), decide_eq_false e, ih]; rfl
theorem pset_lxs (m : List (ByteArray × RowI)) (k : ByteArray) (r : RowI) : (pset m k r).map lxs = pset (m.map lxs) k r.xs := by
  induction m with
  | nil => rfl
  | cons p m ih =>
    simp only [List.map_cons, pset]
    by_cases e : p.1 = k
    · rw [if_pos e, if_pos (show (lxs p).1 = k from e)]; rfl
    · rw [if_neg e, if_neg (show ¬ (lxs p).1 = k from e), List.map_cons, ih]
theorem pget_lxs (m : List (ByteArray × RowI)) (k : ByteArray) : pget (m.map lxs) k = (pget m k).map (·.xs) := by
  induction m with
  | nil => rfl
  | cons p m ih =>
    unfold pget at ih ⊢
    rw [List.map_cons, List.find?_cons, List.find?_cons]
    by_cases e : p.1 = k
    · rw [show decide ((lxs p).1 = k) = true from decide_eq_true e, decide_eq_true e]; rfl
    · rw [show decide ((lxs p).1 = k) = false from decide_eq_false e, decide_eq_false e]; exact ih
theorem mem_pset {α : Type} {m : List (ByteArray × α)} {k : ByteArray} {v : α} {p : ByteArray × α} (h : p ∈ pset m k v) : p = (k, v) ∨ (p ∈ m ∧ p.1 ≠ k) ∨ (p ∈ m ∧ ∃ q ∈ m, q.1 = k) := by
  induction m with
  | nil => left; simpa [pset] using h
  | cons q m ih =>
    simp only [pset] at h
    by_cases e : q.1 = k
    · rw [if_pos e] at h
      rcases List.mem_cons.1 h with h | h
      · exact .inl h
      · exact .inr (.inr ⟨List.mem_cons_of_mem _ h, q, List.mem_cons_self, e⟩)
    · rw [if_neg e] at h
      rcases List.mem_cons.1 h with h | h
      · exact .inr (.inl ⟨h ▸ List.mem_cons_self, h ▸ e⟩)
      · rcases ih h with h1 | ⟨h1, h2⟩ | ⟨h1, q', h2, h3⟩
        · exact .inl h1
        · exact .inr (.inl ⟨List.mem_cons_of_mem _ h1, h2⟩)
        · exact .inr (.inr ⟨List.mem_cons_of_mem _ h1, q', List.mem_cons_of_mem _ h2, h3⟩)
theorem mem_pset_nd {α : Type} {m : List (ByteArray × α)} {k : ByteArray} {v : α} {p : ByteArray × α} (hn : (pkeys m).Nodup) (h : p ∈ pset m k v) : p = (k, v) ∨ (p ∈ m ∧ p.1 ≠ k) := by
  induction m with
  | nil => left; simpa [pset] using h
  | cons q m ih =>
    obtain ⟨hn1, hn2⟩ := List.nodup_cons.1 (show (q.1 :: pkeys m).Nodup from hn)
    simp only [pset] at h
    by_cases e : q.1 = k
    · rw [if_pos e] at h
      rcases List.mem_cons.1 h with h | h
      · exact .inl h
      · exact .inr ⟨List.mem_cons_of_mem _ h, fun e2 => hn1 (e ▸ e2 ▸ List.mem_map.2 ⟨p, h, rfl⟩)⟩
    · rw [if_neg e] at h
      rcases List.mem_cons.1 h with h | h
      · exact .inr ⟨h ▸ List.mem_cons_self, h ▸ e⟩
      · rcases ih hn2 h with h1 | ⟨h1, h2⟩
        · exact .inl h1
        · exact .inr ⟨List.mem_cons_of_mem _ h1, h2⟩
theorem FlowAt.state {C : FlowC} (hC : C.Ok) {L : List (List (ByteArray × RowI))} {w w' : World} {f : Flw} (h : FlowAt C L w f) {i : Nat} {m : List (ByteArray × Hld)} (hm : f.st[i]? = some m) {k : ByteArray} {v : Hld} (hv : I64 v.a ∧ I64 v.b)
    (h1 : SMapAt w' (C.sb i) (fset (m.map hp) k (hldV v))) (hg : w.grownBy w' (some (C.sb i))) : FlowAt C L w' { f with st := f.st.modify i fun m => pset m k v } := by
  have hi : i < C.J.length := by rw [← h.stn]; exact get?_lt hm
  have hmi := h.st i m hm
  have hs : ∀ k, k < w.heap.size → k ≠ C.sb i → w'.heap[k]? = w.heap[k]? := fun k hk hne => hg.block k hk (fun e => hne (Option.some.inj e))
  have hcl : ∀ (k : Nat) (cs : Array Value) (t : TypeId) (fr : Nat × Nat), w.heap[k]? = some (.cells cs t fr) → w'.heap[k]? = some (.cells cs t fr) := fun k cs t fr hk => (hs k (block_lt hk) (fun e => by subst e; exact hmi.not_cells hk)).trans hk
  have hlt : Same (· < C.B) w w' := fun k hk => by
    have h1 := hC.sb i hi
    exact hs k (by have := hmi.lt; omega) (by omega)
  obtain ⟨cs, hcs, hcs2⟩ := h.sts
  obtain ⟨cl, hcl0, hcl2⟩ := h.lns
  exact { h with
    obj := hcl _ _ _ _ h.obj
    job := h.job.keep hlt
    uses := h.uses.keep hlt
    sts := ⟨cs, hcl _ _ _ _ hcs, hcs2⟩
    lns := ⟨cl, hcl _ _ _ _ hcl0, hcl2⟩
    gv := hcl _ _ _ _ h.gv
    stn := by show (f.st.modify i _).length = _; rw [List.length_modify]; exact h.stn
    st := fun j m' hm' => by
      have hm' : (f.st.modify i fun m => pset m k v)[j]? = some m' := hm'
      by_cases e : j = i
      · subst e
        rw [getElem?_modify_same hm] at hm'
        injection hm' with hm'
        rw [← hm', ← fset_hp]; exact h1
      · rw [getElem?_modify_ne e] at hm'
        have hj : j < C.J.length := by rw [← h.stn]; exact get?_lt hm'
        exact (h.st j m' hm').keep (hs _ (h.st j m' hm').lt (fun e2 => e (hC.sinj j i hj hi e2)))
    lmap := fun j m' hm' => (h.lmap j m' hm').keep (hs _ (h.lmap j m' hm').lt (fun e => hC.two i j hi (by rw [← h.Ln]; exact get?_lt hm') e.symm))
    rows := fun j m' p hm' hp' => ⟨OwnS.keep (h.rows j m' p hm' hp').1 fun k hk => by
      obtain ⟨cs, hk2⟩ := OwnS.introw (h.rows j m' p hm' hp').1 hk
      exact (hcl _ _ _ _ hk2).trans hk2.symm, (h.rows j m' p hm' hp').2⟩
    stOk := fun m' hm' p hp' => by
      obtain ⟨j, hj⟩ := List.getElem?_of_mem (show m' ∈ f.st.modify i (fun m => pset m k v) from hm')
      by_cases e : j = i
      · subst e
        rw [getElem?_modify_same hm] at hj
        injection hj with hj
        subst hj
        rcases mem_pset hp' with rfl | ⟨h2, _⟩ | ⟨h2, _⟩
        · exact hv
        · exact h.stOk m (List.mem_of_getElem? hm) p h2
        · exact h.stOk m (List.mem_of_getElem? hm) p h2
      · rw [getElem?_modify_ne e] at hj
        exact h.stOk m' (List.mem_of_getElem? hj) p hp' }

/-! ### A line -/
theorem OwnS.none_keep {w w' : World} {r : RowI} (h : blk r.A = none) (ho : r.At w) : r.At w' := OwnS.keep ho fun k hk => by rw [h] at hk; cases hk
theorem FlowAt.line {C : FlowC} (hC : C.Ok) {L : List (List (ByteArray × RowI))} {w w1 w2 : World} {f : Flw} (h : FlowAt C L w f) (hB : C.B ≤ w.heap.size) {i : Nat} {m : List (ByteArray × RowI)} (hm : L[i]? = some m) {k : ByteArray} {x t : Int} (hx : I64 x) {old : RowI} (hold : old = (pget m k).getD noRow) {A' : Option Addr} {cap' : Nat}
    (ho : OwnS w1 3 1 A' cap' (old.xs.length + 1) (old.xs.flatMap intC ++ [.int .i64 x])) (hg1 : w.grownBy w1 (blk old.A)) (hat : blk A' = blk old.A ∨ ∃ j, blk A' = some j ∧ w.heap.size ≤ j)
    (h1 : SMapAt w2 (C.lb i) (fset (m.map lp) k (.slice A' (old.xs.length + 1) cap'))) (hg2 : w1.grownBy w2 (some (C.lb i))) :
    FlowAt C (L.modify i fun m => pset m k ⟨A', cap', old.xs ++ [x]⟩) w2 { f with ln := f.ln.modify i fun m => addLine m ⟨k, x, t⟩ } ∧ Flows C.B w w2 := by
  have hi : i < C.J.length := by rw [← h.Ln]; exact get?_lt hm
  have hmi := h.lmap i m hm
  have hndm : (pkeys m).Nodup := by
    have := hmi.nodup
    unfold skeys at this
    rw [List.map_map] at this
    exact this
  have holdm : blk old.A = none ∨ (k, old) ∈ m := by
    by_cases hk : k ∈ pkeys m
    · obtain ⟨a, v, b, rfl, ha⟩ := split_pkey hk
      rw [pget_split ha] at hold
      right; rw [hold]; simp
    · rw [pget_none hk] at hold
      left; rw [hold]; rfl
  have hblk : ∀ j, blk old.A = some j → (∃ cs, w.heap[j]? = some (.cells cs 3 (0, 0))) ∧ C.B ≤ j ∧ j ≠ C.bg := fun j hj => by
    rcases holdm with h2 | h2
    · rw [h2] at hj; cases hj
    · exact ⟨OwnS.introw (h.rows i m _ hm h2).1 hj, (h.rows i m _ hm h2).2 j hj⟩
  have hlb1 : w1.heap[C.lb i]? = w.heap[C.lb i]? := hg1.block _ hmi.lt (fun e => by
    obtain ⟨cs, hc⟩ := (hblk _ e.symm).1
    exact hmi.not_cells hc)
  have hs : ∀ j, j < w.heap.size → blk old.A ≠ some j → j ≠ C.lb i → w2.heap[j]? = w.heap[j]? := fun j hj h2 h3 => (hg2.block j (Nat.lt_of_lt_of_le hj hg1.size) (fun e => h3 (Option.some.inj e))).trans (hg1.block j hj (fun e => h2 e.symm))
  have hcl : ∀ (j : Nat) (cs : Array Value) (ty : TypeId) (fr : Nat × Nat), w.heap[j]? = some (.cells cs ty fr) → blk old.A ≠ some j → w2.heap[j]? = some (.cells cs ty fr) := fun j cs ty fr hk h2 => (hs j (block_lt hk) h2 (fun e => by subst e; exact hmi.not_cells hk)).trans hk
  have hcl' : ∀ (j : Nat) (cs : Array Value) (ty : TypeId) (fr : Nat × Nat), w.heap[j]? = some (.cells cs ty fr) → ty ≠ 3 → w2.heap[j]? = some (.cells cs ty fr) := fun j cs ty fr hk h2 => hcl j cs ty fr hk (fun e => by
    obtain ⟨cs', hc⟩ := (hblk _ e).1
    rw [hk] at hc; injection hc with hc; injection hc with _ hc; exact h2 hc)
  have hmp : ∀ b fs, SMapAt w b fs → b ≠ C.lb i → SMapAt w2 b fs := fun b fs hb hne => hb.keep (hs b hb.lt (fun e => by
    obtain ⟨cs, hc⟩ := (hblk _ e).1
    exact hb.not_cells hc) hne)
  have hlt : Same (· < C.B) w w2 := fun j hj => hs j (by omega) (fun e => by have := (hblk _ e).2.1; omega) (fun e => by have := hC.lb i hi; omega)
  have hA' : ∀ j, blk A' = some j → C.B ≤ j ∧ j ≠ C.bg ∧ j < w1.heap.size ∧ j ≠ C.lb i := fun j hj => by
    have hl1 := OwnS.lt ho j hj
    have hne : j ≠ C.lb i := fun e => by
      obtain ⟨cs, hc⟩ := OwnS.introw ho hj
      rw [e, hlb1] at hc
      exact hmi.not_cells hc
    rcases hat with e | ⟨j', e, hj'⟩
    · rw [e] at hj
      exact ⟨(hblk j hj).2.1, (hblk j hj).2.2, hl1, hne⟩
    · rw [e] at hj; injection hj with hj; subst hj
      exact ⟨by omega, fun e => by have := block_lt h.gv; omega, hl1, hne⟩
  obtain ⟨cs, hcs, hcs2⟩ := h.sts
  obtain ⟨cl, hcl0, hcl2⟩ := h.lns
  have hmem : ∀ (j : Nat) (m' : List (ByteArray × RowI)), (L.modify i fun m => pset m k ⟨A', cap', old.xs ++ [x]⟩)[j]? = some m' → ∀ p ∈ m', (j = i ∧ p = (k, ⟨A', cap', old.xs ++ [x]⟩)) ∨ (∃ m0, L[j]? = some m0 ∧ p ∈ m0 ∧ ¬ (j = i ∧ p.1 = k)) := fun j m' hm' p hp' => by
    by_cases e : j = i
    · subst e
      rw [getElem?_modify_same hm] at hm'
      injection hm' with hm'
      subst hm'
      rcases mem_pset_nd hndm hp' with h2 | ⟨h2, h3⟩
      · exact .inl ⟨rfl, h2⟩
      · exact .inr ⟨m, hm, h2, fun h4 => h3 h4.2⟩
    · rw [getElem?_modify_ne e] at hm'
      exact .inr ⟨m', hm', hp', fun h4 => e h4.1⟩
  have holdne : ∀ (j : Nat) (m0 : List (ByteArray × RowI)) (p : ByteArray × RowI) (q : Nat), L[j]? = some m0 → p ∈ m0 → ¬ (j = i ∧ p.1 = k) → blk p.2.A = some q → blk old.A ≠ some q := fun j m0 p q hj hp' hn hq e => by
    rcases holdm with h2 | h2
    · rw [h2] at e; cases e
    · exact hn (h.apart j i m0 m p (k, old) q hj hm hp' h2 hq e)
  refine ⟨{ h with
    obj := hcl' _ _ _ _ h.obj (by decide)
    job := h.job.keep hlt
    uses := h.uses.keep hlt
    sts := ⟨cs, hcl' _ _ _ _ hcs (by decide), hcs2⟩
    lns := ⟨cl, hcl' _ _ _ _ hcl0 (by decide), hcl2⟩
    gv := hcl _ _ _ _ h.gv (fun e => (hblk _ e).2.2 rfl)
    st := fun j m' hm' => hmp _ _ (h.st j m' hm') (hC.two j i (by rw [← h.stn]; exact get?_lt hm') hi)
    Ln := by rw [List.length_modify]; exact h.Ln
    ln := ?_
    lmap := fun j m' hm' => ?_
    rows := fun j m' p hm' hp' => ?_
    apart := fun j j' m1 m2 p q z h1 h2 h3 h4 h5 h6 => ?_
    lnOk := fun m' hm' p hp' y hy => ?_ }, ?_⟩
  · show f.ln.modify i _ = _
    rw [h.ln]
    apply List.ext_getElem?
    intro j
    by_cases e : j = i
    · subst e
      have h2 : (L.map (·.map lxs))[j]? = some (m.map lxs) := by rw [List.getElem?_map, hm]; rfl
      rw [getElem?_modify_same h2, List.getElem?_map, getElem?_modify_same hm]
      show some (addLine (m.map lxs) ⟨k, x, t⟩) = some ((pset m k ⟨A', cap', old.xs ++ [x]⟩).map lxs)
      rw [pset_lxs]
      unfold addLine
      rw [pget_lxs, hold]
      simp only
      cases pget m k <;> rfl
    · rw [getElem?_modify_ne e, List.getElem?_map, List.getElem?_map, getElem?_modify_ne e]
  · by_cases e : j = i
    · subst e
      rw [getElem?_modify_same hm] at hm'
      injection hm' with hm'
      subst hm'
      rw [← fset_lp]
      unfold rowV
      rw [List.length_append]
      exact h1
    · rw [getElem?_modify_ne e] at hm'
      exact hmp _ _ (h.lmap j m' hm') (fun e2 => e (hC.linj j i (by rw [← h.Ln]; exact get?_lt hm') hi e2))
  · rcases hmem j m' hm' p hp' with ⟨rfl, rfl⟩ | ⟨m0, hj, hp0, hn⟩
    · refine ⟨?_, fun q hq => ⟨(hA' q hq).1, (hA' q hq).2.1⟩⟩
      have h2 : RowI.At ⟨A', cap', old.xs ++ [x]⟩ w1 := by
        unfold RowI.At
        rw [List.length_append, List.flatMap_append]
        exact ho
      exact OwnS.keep h2 fun q hq => hg2.block q (hA' q hq).2.2.1 (fun e => (hA' q hq).2.2.2 (Option.some.inj e))
    · refine ⟨OwnS.keep (h.rows j m0 p hj hp0).1 fun q hq => ?_, (h.rows j m0 p hj hp0).2⟩
      obtain ⟨cs', hc⟩ := OwnS.introw (h.rows j m0 p hj hp0).1 hq
      exact (hcl _ _ _ _ hc (holdne j m0 p q hj hp0 hn hq)).trans hc.symm
  · have hfar : ∀ (j : Nat) (m0 : List (ByteArray × RowI)) (p : ByteArray × RowI), L[j]? = some m0 → p ∈ m0 → ¬ (j = i ∧ p.1 = k) → blk p.2.A = some z → blk A' ≠ some z := fun j m0 p hj hp0 hn hq e => by
      rcases hat with e2 | ⟨j', e2, hj'⟩
      · rw [e2] at e; exact holdne j m0 p z hj hp0 hn hq e
      · rw [e2] at e; injection e with e; subst e
        have := OwnS.lt (h.rows j m0 p hj hp0).1 _ hq
        omega
    rcases hmem j m1 h1 p h3 with ⟨rfl, rfl⟩ | ⟨m0, hj, hp0, hn⟩
    · rcases hmem j' m2 h2 q h4 with ⟨rfl, rfl⟩ | ⟨m0', hj', hp0', hn'⟩
      · exact ⟨rfl, rfl⟩
      · exact absurd h5 (hfar j' m0' q hj' hp0' hn' h6)
    · rcases hmem j' m2 h2 q h4 with ⟨rfl, rfl⟩ | ⟨m0', hj', hp0', hn'⟩
      · exact absurd h6 (hfar j m0 p hj hp0 hn h5)
      · exact h.apart j j' m0 m0' p q z hj hj' hp0 hp0' h5 h6
  · obtain ⟨j, hj⟩ := List.getElem?_of_mem (show m' ∈ f.ln.modify i (fun m => addLine m ⟨k, x, t⟩) from hm')
    have hfl : f.ln[i]? = some (m.map lxs) := by rw [h.ln, List.getElem?_map, hm]; rfl
    by_cases e : j = i
    · subst e
      rw [getElem?_modify_same hfl] at hj
      injection hj with hj
      subst hj
      have hall := h.lnOk _ (List.mem_of_getElem? hfl)
      rcases mem_pset hp' with rfl | ⟨h2, _⟩ | ⟨h2, _⟩
      · rcases List.mem_append.1 hy with hy | hy
        · rw [pget_lxs] at hy
          by_cases hk : k ∈ pkeys m
          · obtain ⟨a, v, b, e3, ha⟩ := split_pkey hk
            rw [e3, pget_split ha] at hy
            exact hall (k, v.xs) (by rw [e3]; simp [lxs]) y hy
          · rw [pget_none hk] at hy; cases hy
        · rw [List.mem_singleton.1 hy]; exact hx
      · exact hall p h2 y hy
      · exact hall p h2 y hy
    · rw [getElem?_modify_ne e] at hj
      exact h.lnOk m' (List.mem_of_getElem? hj) p hp' y hy
  · refine Flows.trans (Flows.grown hg1 fun q hq => ⟨(hblk q hq).2.1, .inr (hblk q hq).1⟩) (Flows.grown hg2 fun q hq => ?_)
    injection hq with hq
    subst hq
    refine ⟨hC.lb i hi, .inl ?_⟩
    obtain ⟨es, c, hb, _⟩ := hmi
    exact ⟨es, c, hlb1.trans hb⟩
end Go.Proofs.YtcmhbhdiepkndaaGreatDoor
