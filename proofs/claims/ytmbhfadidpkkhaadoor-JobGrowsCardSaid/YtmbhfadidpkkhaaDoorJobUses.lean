/-
  Package job: the contract of Uses. Conditions: where the job lies; the two variables of Atoi's errors hold errors.
-/
import Derived.Test.YtmbhfadidpkkhaaDoorJobOf
import Derived.Test.YtmbhfadidpkkhaaDoorJobUsesP
import Derived.Deep.RegionLaw
import Derived.Deep.OwnRows
namespace Go.Proofs.YtmbhfadidpkkhaaDoor
open Go.RowKit Go.Shelf
set_option linter.unusedVariables false

def IdxPost (l : List Int) (x : Int) (w : World) (e : Ending) (w' : World) : Prop := ∃ j : Int, e = .returned (.int .i64 j) ∧ decide (0 ≤ j) = l.contains x ∧ w = w'
theorem con_take (l : List Int) (x : Int) {j : Nat} (hj : j < l.length) : (l.take (j + 1)).contains x = ((l.take j).contains x || x == l[j]) := by
  rw [Bool.eq_iff_iff, Bool.or_eq_true, beq_iff_eq, List.contains_iff_mem, List.contains_iff_mem, List.take_succ_eq_append_getElem hj, List.mem_append, List.mem_singleton]
set_option maxRecDepth 100000 in
theorem index_int (F : Nat → Prop) (A : Option Addr) (c : Nat) (l : List Int) (x : Int) (w : World) (hl : SlA (intE .i64) F w A c l) :
    Calls Tryd.prog 20 #[.slice A l.length c, .int .i64 x] w (IdxPost l x w) := by
  have HL := Lib.hid hl
  have hle := hl.le
  clear hl
  go_enter Tryd.func20, Tryd.ntmps20
  go_wp2_with fail
  go_loop [8] (fun jv => ∃ j : Nat, j ≤ l.length ∧ jv = .int .i64 j ∧ Hid ((l.take j).contains x = false)) (fun jv => l.length - (intOf jv).toNat)
  case atStart => exact ⟨0, Nat.zero_le _, rfl, rfl⟩
  case round =>
    obtain ⟨j, hj, rfl, HJ⟩ := hrel
    by_cases hlt : j < l.length
    · obtain ⟨b, off, rfl, _, hc, _⟩ := HL.out.int_ hlt
      have HT := Lib.hid (con_take l x hlt)
      have HM := Lib.hid (List.getElem_mem hlt)
      generalize l[j] = y at hc HT HM
      cases hxy : (x == y) with
      | true =>
        have HC : Hid (l.contains x = true) := by
          show _ = _
          rw [List.contains_iff_mem, beq_iff_eq.1 hxy]; exact HM.out
        go_wp2_with fail
        go_ret
        exact ⟨j, rfl, by rw [HC.out]; exact decide_eq_true (by omega), rfl⟩
      | false =>
        have HJ2 : Hid ((l.take (j + 1)).contains x = false) := by show _ = _; rw [HT.out, HJ.out, hxy]; rfl
        clear HT HM HJ
        go_wp2_with fail
        go_round
        case rel => exact ⟨j + 1, by omega, by go_num, HJ2⟩
        case measure => simp [intOf]; omega
    · have dj : decide (j < l.length) = false := decide_eq_false hlt
      have HC : Hid (l.contains x = false) := by
        have h := HJ.out
        rw [List.take_of_length_le (by omega)] at h
        exact h
      clear hj hlt HJ
      go_wp2_with fail
      go_ret
      exact ⟨-1, rfl, by rw [HC.out]; rfl, rfl⟩
set_option maxRecDepth 100000 in
theorem contains_int (F : Nat → Prop) (A : Option Addr) (c : Nat) (l : List Int) (x : Int) (w : World) (hl : SlA (intE .i64) F w A c l) :
    Calls Tryd.prog 11 #[.slice A l.length c, .int .i64 x] w fun e w' => e = .returned (.bool (l.contains x)) ∧ w = w' := by
  have HI := Lib.hid (index_int F A c l x w hl)
  clear hl
  go_enter Tryd.func11, Tryd.ntmps11
  go_wp2_with fail
  refine HI.out.mono ?_
  rintro e w2 ⟨j, rfl, hj, rfl⟩
  have HJ := Lib.hid hj
  clear hj HI
  go_wp2_with fail
  go_ret
  exact ⟨by rw [← HJ.out]; rfl, rfl⟩
theorem info_ints : (Tryd.prog.info? 26).map (fun i => (i.zero, i.size, i.bytes)) = some (some (.slice none 0 0), 1, 24) := by kernel_rfl
theorem upk_same {rows : List (List Int)} {i : Nat} {fs : List Int} {k : Nat} (hk : k < fs.length) (h : (fs.take k).contains fs[k] = true) : upk rows i fs (k + 1) = upk rows i fs k := by
  conv => lhs; unfold upk
  rw [List.getElem?_eq_getElem hk]
  simp only
  rw [if_pos h]
theorem upk_add {rows : List (List Int)} {i : Nat} {fs : List Int} {k fn : Nat} {r : List Int} (hk : k < fs.length) (h : (fs.take k).contains fs[k] = false) (hfn : fs[k] = fn) (hr : (upk rows i fs k)[fn]? = some r) : upk rows i fs (k + 1) = (upk rows i fs k).set fn (r ++ [(i : Int)]) := by
  conv => lhs; unfold upk
  rw [List.getElem?_eq_getElem hk]
  simp only
  rw [if_neg (by rw [h]; decide), hfn, Int.toNat_natCast]
  apply List.ext_getElem?
  intro j
  rw [List.getElem?_modify, List.getElem?_set]
  by_cases hj : fn = j
  · subst hj
    have hlt : fn < (upk rows i fs k).length := by
      rcases Nat.lt_or_ge fn (upk rows i fs k).length with h | h
      · exact h
      · rw [List.getElem?_eq_none h] at hr; cases hr
    rw [hr, if_pos rfl, if_pos hlt]
    simp
  · rw [if_neg hj]
    cases (upk rows i fs k)[j]? with
    | none => rfl
    | some x => show some ((fun a => if fn = j then a ++ [(i : Int)] else a) x) = _; simp [hj]
def rowsV (rows : List (List Int)) : List (List Value) := rows.map fun r => r.flatMap fun n => [Value.int .i64 n]
def UsesPost (l : List Nod) (w : World) (e : Ending) (w' : World) : Prop :=
  (jobErr l = 0 → ∃ A c, e = .returned (.tuple #[.slice A l.length c, .nilIface]) ∧ SlA (slE (intE .i64)) (· < w'.heap.size) w' A c (usesAll l)) ∧ (jobErr l ≠ 0 → e = .returned (.tuple #[.slice none 0 0, errV (jobErr l)])) ∧ Below w.heap.size w w'
set_option maxRecDepth 100000 in
set_option maxHeartbeats 2000000 in
theorem uses_ok (F : Nat → Prop) (A : Option Addr) (c : Nat) (l : List Nod) (w : World) (hl : SlA nodE F w A c l) (hF : ∀ k, F k → k < w.heap.size) (hv : ErrVars w) :
    Calls Tryd.prog 6 #[.slice A l.length c] w (UsesPost l w) := by
  have HL := Lib.hid hl
  have hle := hl.le
  have HC := Lib.hid (jcheck_ok F A c l w hl hF hv)
  clear hl hv
  by_cases h0 : jobErr l = 0
  · rw [h0] at HC
    have H0 := Lib.hid h0
    have hl12 := (job_parts h0).1
    have HPOS := Lib.hid (job_from_pos h0)
    clear h0
    have hmk : ∀ u : World, (Instr.makeSlice 31 (.int .i64 (l.length : Int)) (.int .i64 (l.length : Int))).run Tryd.prog u = .ok (.slice (some ⟨u.heap.size, 0, none⟩) l.length l.length) (u.alloc (.cells (madeCells #[.slice none 0 0] l.length) 26)) := fun u =>
      run_make_row' (P := Tryd.prog) 31 26 (.slice none 0 0) 24 Tryd.underlying31 info_ints rfl .i64 .i64 l.length (by omega) (by omega) u
    go_enter Tryd.func6, Tryd.ntmps6
    go_wp2_with fail
    refine HC.out.mono ?_
    rintro e w2 ⟨rfl, hb2⟩
    rw [show errJ 0 = .nilIface from rfl]
    have HB2 := Lib.hid hb2
    have HL2 := Lib.hid (HL.out.keep (fun i hi => hb2.block i (hF i hi)))
    have hF2 : Hid (∀ i, F i → i < w2.heap.size) := fun i hi => Nat.lt_of_lt_of_le (hF i hi) hb2.size
    clear hb2 HL HC
    go_wp2_with fail
    clear hmk
    go_loopw [20] (fun iv wr => ∃ (i : Nat) (vs : List Value), i ≤ l.length ∧ iv = .int .i64 i ∧ Hid (Nest wr w2.heap.size w2.heap.size 26 3 1 vs (rowsV (upn l i)) ((upn l i).map (·.length))) ∧ Hid (Below w2.heap.size w2 wr)) (fun iv _ => l.length - (intOf iv).toNat)
    case atStart =>
      refine ⟨0, List.replicate l.length (.slice none 0 0), Nat.zero_le _, rfl, ?_, (Below.refl _ _).alloc (Nat.le_refl _) _⟩
      have := Nest.made w2 w2.heap.size 26 3 1 l.length (Nat.le_refl _) (by decide)
      show Nest _ _ _ _ _ _ _ _ _
      simpa [upn, rowsV] using this
    case round =>
      obtain ⟨i, vs, hi, rfl, HN, HB⟩ := hrel
      by_cases hlt : i < l.length
      · obtain ⟨b, off, A', c', rfl, hFb, x0, x1, x2, x3, htm, hki, hni, hfr⟩ := (HL2.out.keep (fun j hj => HB.out.block j (hF2.out j hj))).nod_ hlt
        have HFB := Lib.hid (job_from H0.out hlt)
        have HUN : Hid (upn l (i + 1) = upk (upn l i) i l[i].from_ l[i].from_.length) := by show _ = _; conv => lhs; unfold upn; rw [List.getElem?_eq_getElem hlt]
        clear hki hni hFb htm
        generalize l[i] = nd at x0 x1 x2 x3 HFB HUN hfr
        obtain ⟨kind, from_, text, nn⟩ := nd
        simp only at x0 x1 x2 x3 HFB HUN hfr
        have HFR := Lib.hid hfr
        have hfl := hfr.le
        clear hfr
        obtain ⟨W3, hW3⟩ : ∃ W3, W3 = wr.alloc (.cells #[.int .i64 kind, .slice A' from_.length c', .string text, .int .i64 nn] 28) := ⟨_, rfl⟩
        have hv3 : W3.heap[wr.heap.size]? = some (.cells #[.int .i64 kind, .slice A' from_.length c', .string text, .int .i64 nn] 28 (0, 0)) := by rw [hW3]; exact heap_alloc_new _ _
        have HB3 : Hid (Below w2.heap.size w2 W3) := by rw [hW3]; exact HB.out.alloc HB.out.size _
        have HN3 : Hid (Nest W3 w2.heap.size w2.heap.size 26 3 1 vs (rowsV (upn l i)) ((upn l i).map (·.length))) := by rw [hW3]; exact HN.out.alloc _
        have y1 : W3.cell? ⟨wr.heap.size, 1, none⟩ = some (.slice A' from_.length c') := (cell_of_row W3 _ 1 _ _ _ hv3).trans rfl
        have HFR2 : Hid (SlA (intE .i64) F w2 A' c' from_) := HFR.out.keep (fun j hj => (HB.out.block j (hF2.out j hj)).symm)
        have HV3 := Lib.hid hv3
        have hvb : wr.heap.size < W3.heap.size := block_lt hv3
        clear hv3 HB HN HFR
        go_upto_region 8 with (fail)
        rw [← hW3]
        clear hW3 x0 x1 x2 x3
        generalize wr.heap.size = vb at HV3 y1 hvb ⊢
        go_wp2_with fail
        go_loopw [28] (fun kv wx => ∃ (k : Nat) (vs : List Value), k ≤ from_.length ∧ kv = .int .i64 k ∧ Hid (Nest wx w2.heap.size w2.heap.size 26 3 1 vs (rowsV (upk (upn l i) i from_ k)) ((upk (upn l i) i from_ k).map (·.length))) ∧ Hid (wx.heap[vb]? = some (.cells #[.int .i64 kind, .slice A' from_.length c', .string text, .int .i64 nn] 28 (0, 0))) ∧ Hid (Below w2.heap.size w2 wx)) (fun kv _ => from_.length - (intOf kv).toNat)
        case atStart => exact ⟨0, vs, Nat.zero_le _, rfl, HN3, HV3, HB3⟩
        case round =>
          clear HN3 HV3 HB3 y1 hvb
          obtain ⟨k, vs2, hk, rfl, HNk, HVk, HBk⟩ := hrel
          have hvb := block_lt HVk.out
          have y1 : wr.cell? ⟨vb, 1, none⟩ = some (.slice A' from_.length c') := (cell_of_row wr _ 1 _ _ _ HVk.out).trans rfl
          by_cases hk2 : k < from_.length
          · have hfrw := HFR2.out.keep (w' := wr) (fun j hj => HBk.out.block j (hF2.out j hj))
            obtain ⟨bf, of_, rfl, _, hcf, _⟩ := hfrw.int_ hk2
            have hcap := hfrw.1
            have hlk : (from_.take k).length = k := by rw [List.length_take]; omega
            have HCI := Lib.hid (contains_int F (some ⟨bf, of_, none⟩) c' (from_.take k) from_[k] wr (hfrw.head (k := k) (by omega)))
            rw [hlk] at HCI
            obtain ⟨hf0, hfi⟩ := HFB.out from_[k] (List.getElem_mem hk2)
            have HSA := Lib.hid (fun h => upk_same (rows := upn l i) (i := i) hk2 h)
            have HAD := Lib.hid (fun (fn : Nat) (r : List Int) h h1 h2 => upk_add (rows := upn l i) (i := i) (fn := fn) (r := r) hk2 h h1 h2)
            clear hfrw hlk
            generalize from_[k] = f at hcf HCI hf0 hfi HSA HAD
            obtain ⟨fn, rfl⟩ : ∃ fn : Nat, f = fn := ⟨f.toNat, by omega⟩
            have hfn : fn < l.length := by omega
            cases hct : (from_.take k).contains (fn : Int) with
            | true =>
              rw [hct] at HCI
              have HS2 := Lib.hid (HSA.out hct)
              clear HSA HAD hct
              go_wp2_with fail
              refine HCI.out.mono ?_
              rintro e w4 ⟨rfl, rfl⟩
              go_wp2_with fail
              go_roundw
              case rel => exact ⟨k + 1, vs2, by omega, by go_num, by show Nest _ _ _ _ _ _ _ _ _; rw [HS2.out]; exact HNk.out, HVk, HBk⟩
              case measure => simp [intOf]; omega
            | false =>
              rw [hct] at HCI
              have hlenU : (upk (upn l i) i from_ k).length = l.length := by rw [upk_length, upn_length]
              have hlenv : vs2.length = l.length := by rw [HNk.out.len]; unfold rowsV; rw [List.length_map, hlenU]
              obtain ⟨v, hv⟩ : ∃ v, vs2[fn]? = some v := ⟨vs2[fn], List.getElem?_eq_getElem (by omega)⟩
              have hcv := HNk.out.cell fn
              rw [hv] at hcv
              have hfz := HNk.out.frozen fn
              obtain ⟨r, hr⟩ : ∃ r, (upk (upn l i) i from_ k)[fn]? = some r := ⟨_, List.getElem?_eq_getElem (by omega)⟩
              have hrl : r.length ≤ i + 1 := upk_rowlen (upn_rowlen HPOS.out (by omega)) (fun x hx => (HFB.out x hx).1) k hk r (List.mem_of_getElem? hr)
              have HSU := Lib.hid (HAD.out fn r hct rfl hr)
              have hown := HNk.out.own fn v (r.flatMap fun n => [Value.int .i64 n]) r.length hv (by unfold rowsV; rw [List.getElem?_map, hr]; rfl) (by rw [List.getElem?_map, hr]; rfl)
              have hvne : ∀ g, v.ownBlock = some g → vb ≠ g := fun g hg e => by
                rcases ownBlock_cases hown with h | ⟨g2, cur, h1, _, h2⟩
                · rw [h] at hg; cases hg
                · rw [h1] at hg; injection hg with hg; subst hg; subst e
                  rw [HVk.out] at h2; injection h2 with h2; injection h2 with _ h3; exact absurd h3 (by decide)
              have hvne2 : vb ≠ w2.heap.size := fun e => by
                have h1 := HNk.out.blk
                rw [← e, HVk.out] at h1; injection h1 with h1; injection h1 with _ h3; exact absurd h3 (by decide)
              have HO := Lib.hid hown
              have HV := Lib.hid hv
              have hgl := HNk.out.lt
              have HNE := Lib.hid hvne
              have HNE2 := Lib.hid hvne2
              clear hown hv hr hlenv hlenU HSA HAD hct hvne hvne2
              go_wp2_with fail
              refine HCI.out.mono ?_
              rintro e w4 ⟨rfl, rfl⟩
              go_wp2_with (at_builtin; refine wpList_push rfl _ _ 26 rfl w2.heap.size 3 (.int .i64 0) 1 8 Tryd.underlying26 info_int rfl (by decide) v r.length _ rfl HO.out [.int .i64 i] rfl rfl ?_ ?_ ?_ HBk.out.size HBk.out (Nat.le_refl _) ?_)
              · rintro u hu; simp at hu; subst hu; rfl
              · unfold maxLen; omega
              · omega
              · intro v' w8 hown8 hg8 hb8 hat8
                obtain ⟨hc8, hf8⟩ := HNk.out.after HV.out hg8 fn
                rw [HV.out] at hc8
                have hv8 : (w8.setCell ⟨w2.heap.size, fn, none⟩ v').heap[vb]? = some (.cells #[.int .i64 kind, .slice (some ⟨bf, of_, none⟩) from_.length c', .string text, .int .i64 nn] 28 (0, 0)) :=
                  (Below.heap_setCell _ _ _ _ (fun e => HNE2.out e)).trans ((hg8.block vb hvb (fun e => HNE.out vb e.symm rfl)).trans HVk.out)
                have hn8 : Nest (w8.setCell ⟨w2.heap.size, fn, none⟩ v') w2.heap.size w2.heap.size 26 3 1 (vs2.set fn v') (rowsV (upk (upn l i) i from_ (k + 1))) ((upk (upn l i) i from_ (k + 1)).map (·.length)) := by
                  have hp := HNk.out.push (w' := w8) HV.out hown8 hg8 (hat8.imp_right .inr)
                  rw [HSU.out]
                  unfold rowsV at hp ⊢
                  rw [List.map_set, List.map_set, List.flatMap_append, List.length_append]
                  exact hp
                have HV8 := Lib.hid hv8
                have HN8 := Lib.hid hn8
                have HB8 := Lib.hid (hb8.setCell (p := ⟨w2.heap.size, fn, none⟩) (Nat.le_refl _) v')
                obtain ⟨g', cap', rfl, _, _⟩ := hown8.form (by omega)
                clear hv8 hn8 hown8 hg8 hb8 hat8 HNE HNE2 HSU HV
                go_wp2_with fail
                refine ⟨⟨k + 1, _, by omega, by go_num, HN8, HV8, HB8⟩, ?_⟩
                simp [intOf]; omega
          · have dk : decide (k < from_.length) = false := decide_eq_false hk2
            have HN9 : Hid (Nest wr w2.heap.size w2.heap.size 26 3 1 vs2 (rowsV (upn l (i + 1))) ((upn l (i + 1)).map (·.length))) := by
              have e : k = from_.length := by omega
              show Nest _ _ _ _ _ _ _ _ _
              rw [HUN.out, ← e]; exact HNk.out
            clear HNk hk hk2
            go_wp2_with fail
            refine ⟨⟨i + 1, vs2, by omega, by go_num, HN9, HBk⟩, ?_⟩
            simp [intOf]; omega
      · have di : decide (i < l.length) = false := decide_eq_false hlt
        have hie : i = l.length := by omega
        rw [hie, upn_all l HPOS.out] at HN
        have hlenU : (usesAll l).length = l.length := by unfold usesAll; simp
        have hmem : ∀ r ∈ usesAll l, ∀ x ∈ r, 0 ≤ x ∧ x < l.length := by rw [← upn_all l HPOS.out]; exact upn_mem (Nat.le_refl _)
        have hrow := HN.out.sl (E := intE .i64) (ls := usesAll l) (cap := l.length) (fun n => [Value.int .i64 n]) (fun _ => rfl) (by decide) (fun r hr x hx F u => ⟨rfl, WalkArith.wf_i64 (by have := hmem r hr x hx; omega)⟩) (by omega) (by unfold maxLen; omega)
        have HR := Lib.hid hrow
        have HB9 := Lib.hid (HB2.out.trans (HB.out.mono HB2.out.size))
        clear hrow hlenU hmem HN hie hi hlt
        go_wp2_with fail
        go_ret2
        exact ⟨fun _ => ⟨_, _, rfl, HR.out⟩, fun h => absurd H0.out h, HB9.out⟩
  · have H0 := Lib.hid h0
    rw [show errJ (jobErr l) = errV (jobErr l) from by unfold errJ; rw [if_neg h0]] at HC
    obtain ⟨je, hje⟩ : ∃ je, je = jobErr l := ⟨_, rfl⟩
    have HJE := Lib.hid hje
    rw [← hje] at HC
    clear h0 hje
    go_enter Tryd.func6, Tryd.ntmps6
    go_wp2_with fail
    refine HC.out.mono ?_
    rintro e w2 ⟨rfl, hb2⟩
    have HB2 := Lib.hid hb2
    clear hb2
    unfold errV
    go_wp2_with fail
    go_ret2
    exact ⟨fun h => absurd h H0.out, fun _ => by rw [← HJE.out]; rfl, HB2.out⟩
end Go.Proofs.YtmbhfadidpkkhaaDoor
