/-
  The walk of SinkPlays: it returns true, whatever the steps. Condition: the variable errors.errorType reads as the program's text lays it.
-/
import Derived.Test.YtmcmejmfaihclaaDoorSinkLaw
import Derived.Deep.CutBlock
import Derived.Outline
namespace Go.Proofs.YtmcmejmfaihclaaDoor
open Go.RowKit
set_option linter.unusedVariables false

theorem info_recs : (Tryd.prog.info? 42).map (fun i => (i.zero, i.size, i.bytes)) = some (some (.slice none 0 0), 1, 24) := by kernel_rfl
theorem bundrewN' {q : Nat} {a w : World} (h : Below (a.drewN q).heap.size (a.drewN q) w) : Below a.heap.size a w := ⟨h.os, h.tape, h.output, h.size, h.block⟩
def law0 : LawSt := ⟨[], none, 0, [], none, 0, [], none, 0, [], none, 0⟩
/-- Behind i rounds. -/
def Played (w wr : World) (gs : Nat) (i : Nat) (S : SinkSt) (L : LawSt) : Prop :=
  Side w.heap.size wr gs S L ∧ Match L S ∧ S.opened.length + (S.sealed.flatMap (·.2)).length + S.written.length ≤ i ∧ S.sealed.length ≤ i ∧ Below w.heap.size w wr

theorem block_lt2 {w wr : World} {b : Nat} (h : b < w.heap.size) (hb : Below w.heap.size w wr) : b < wr.heap.size := Nat.lt_of_lt_of_le h hb.size
set_option maxHeartbeats 4000000 in
set_option maxRecDepth 100000 in
theorem sinkPlays_walk (A : Option Addr) (c : Nat) (l : List (List Int)) (w : World) (hl : SlA (slE (intE .i64)) (· < w.heap.size) w A c l) (hv : ErrVar w) :
    Calls Tryd.prog 5 #[.slice A l.length c] w fun e w' => e = .returned (.bool true) ∧ Below w.heap.size w w' := by
  have hle := hl.le
  have H := Lib.hid hl
  have HV := Lib.hid hv
  have hpos := hv.pos
  clear hl hv
  go_enter Tryd.func5, Tryd.ntmps5
  go_wp2_with fail
  refine (sinkNew_any _).mono ?_
  rintro e w1 ⟨rfl, hs1, hb1⟩
  have hp : Played w w1 w.heap.size 0 sinkNew law0 := by
    refine ⟨⟨_, fun _ => False, hs1, ⟨⟨?_, ?_⟩, nofun, nofun, nofun, nofun, nofun, nofun⟩, fun k e => e, ?_, ?_⟩, ⟨rfl, rfl, rfl, rfl⟩, by decide, by decide, hb1⟩
    · intro r hr
      simp only [LawSt.rows, List.mem_cons, List.not_mem_nil, or_false] at hr
      rcases hr with rfl | rfl | rfl | rfl <;> exact OwnS.nil _ _ _
    · simp [LawSt.rows, Sep, rowO, rowS, rowI, blk, law0]
    · rintro k e (⟨r, hr, e2⟩ | e2)
      · simp only [LawSt.rows, List.mem_cons, List.not_mem_nil, or_false] at hr
        rcases hr with rfl | rfl | rfl | rfl <;> cases e2
      · exact e2
    · rintro k (⟨r, hr, e2⟩ | e2)
      · simp only [LawSt.rows, List.mem_cons, List.not_mem_nil, or_false] at hr
        rcases hr with rfl | rfl | rfl | rfl <;> cases e2
      · exact e2.elim
  obtain ⟨gs, hgs⟩ : ∃ g, g = w.heap.size := ⟨_, rfl⟩
  rw [← hgs]
  have hp' : Played w w1 gs 0 sinkNew law0 := by rw [hgs]; exact hp
  have HP := Lib.hid hp'
  clear hs1 hb1 hp hp' hgs
  go_wp2_with fail
  go_loopg [4, 5, 6, 7, 8, 9] (100) (fun gk ov wv sv iv lv xv wr => ∃ (i : Nat) (S : SinkSt) (L : LawSt) (last : Int), i ≤ l.length ∧ i ≤ 100 ∧ gk = 100 - i ∧ Hid (S.last = last) ∧ Hid (Played w wr gs i S L) ∧
    ov = .slice L.Ao L.op.length L.co ∧ wv = .slice L.Aw L.wr.length L.cw ∧ sv = .slice L.As L.bs.length L.cs ∧ iv = .slice L.Ai L.ids.length L.ci ∧ lv = .int .i64 last ∧ xv = .int .i64 i)
  case atStart => exact ⟨0, sinkNew, law0, 0, by omega, by omega, rfl, rfl, HP, rfl, rfl, rfl, rfl, rfl, rfl⟩
  case round =>
    clear HP
    obtain ⟨i, S, L, last, hi, hi100, hgk, HLA, HP, rfl, rfl, rfl, rfl, rfl, rfl⟩ := hrel
    have HGK := Lib.hid hgk
    clear hgk
    by_cases hlt : i < l.length ∧ i < 100
    · obtain ⟨hlt, hlt20⟩ := hlt
      have hd1 : decide (i < l.length) = true := decide_eq_true hlt
      have hd2 : decide ((i : Int) < 100) = true := by rw [decide_eq_true_iff]; omega
      go_upto_block 2 with (fail)
      go_cut [10] from 24 to 189 (fun p wx => ∃ (a b : Int) (pb : Nat), I64 a ∧ I64 b ∧ p = .pointer (some ⟨pb, 0, none⟩) ∧ Below w.heap.size w wx ∧ SideV w.heap.size wx gs S L pb (.cells #[.int .i64 a, .int .i64 b] 45))
      case first => as_aux_lemma =>
        obtain ⟨bo, off, Ai, ci, rfl, hbo, hc, hin⟩ := H.out.sl_ hlt
        have hcr := ((HP.out.2.2.2.2).cell (p := ⟨bo, off + i, none⟩) hbo).trans hc
        obtain ⟨st, hst⟩ : ∃ st, st = l[i] := ⟨_, rfl⟩
        rw [← hst] at hcr hin
        have hbz := block_lt2 hbo HP.out.2.2.2.2
        have hin' := hin.keep (Same.below HP.out.2.2.2.2)
        have hst2 := hin.le
        have HIN := Lib.hid hin'
        have hsv : ∀ a b : Int, Below w.heap.size w (wr.alloc (.cells #[.int .i64 a, .int .i64 b] 45)) ∧ SideV w.heap.size (wr.alloc (.cells #[.int .i64 a, .int .i64 b] 45)) gs S L wr.heap.size (.cells #[.int .i64 a, .int .i64 b] 45) := fun a b => by
          obtain ⟨⟨F, Fb, hb⟩, _, _, _, hbel⟩ := HP.out
          refine ⟨hbel.alloc hbel.size _, F, Fb, hb.below ((Below.refl _ _).alloc (Nat.le_refl _) _), fun e => ?_, fun e => ?_, heap_alloc_new wr _⟩
          · have := (hb.ltF _ e).2; omega
          · have := hb.law.lt _ e; omega
        have HSV := Lib.hid hsv
        clear hsv
        clear hst hc hbo hin hin'
        have hcx : ∀ a b : Int, (wr.alloc (.cells #[.int .i64 a, .int .i64 b] 45)).cell? ⟨bo, off + i, none⟩ = some (.slice Ai st.length ci) := fun a b => by
          rw [World.cell?_alloc_lt _ _ ⟨bo, off + i, none⟩ hbz]; exact hcr
        go_wp2_with fail
        go_loopg [11] (2) (fun g2 jv wx => ∃ (j : Nat) (a b : Int), j ≤ st.length ∧ j ≤ 2 ∧ g2 = 2 - j ∧ I64 a ∧ I64 b ∧ jv = .int .i64 j ∧ wx = wr.alloc (.cells #[.int .i64 a, .int .i64 b] 45))
        case atStart => exact ⟨0, 0, 0, by omega, by omega, rfl, by show (Lit.int .i64 0).wf = true; decide, by show (Lit.int .i64 0).wf = true; decide, rfl, rfl⟩
        case round =>
          obtain ⟨j, a, b, hj, hj2, hg2, ha, hb, rfl, rfl⟩ := hrel
          have HA := Lib.hid ha
          have HB := Lib.hid hb
          have HG2 := Lib.hid hg2
          clear ha hb hg2
          have hc1 := hcx a b
          rcases (show (j = 0 ∧ 0 < st.length) ∨ (j = 1 ∧ 1 < st.length) ∨ (j < st.length ∧ j = 2) ∨ ¬ j < st.length by omega) with ⟨h, h2⟩ | ⟨h, h2⟩ | ⟨h2, h⟩ | h
          · subst h
            obtain ⟨b1, o1, rfl, hb1, hc2, hw2⟩ := HIN.out.int_ h2
            obtain ⟨x, hx⟩ : ∃ x, x = st[0] := ⟨_, rfl⟩
            rw [← hx] at hc2 hw2
            have hc3 : (wr.alloc (.cells #[.int .i64 a, .int .i64 b] 45)).cell? ⟨b1, o1 + 0, none⟩ = some (.int .i64 x) := by
              rw [World.cell?_alloc_lt _ _ ⟨b1, o1 + 0, none⟩ (cell_lt hc2)]; exact hc2
            have HX := Lib.hid hw2
            clear hx hw2 hc2 hb1
            simp only [Nat.add_zero] at hc3
            have hd3 : decide (0 < st.length) = true := decide_eq_true h2
            go_wp2_with fail
            go_roundg (1)
            case measure => have := HG2.out; omega
            case rel => exact ⟨1, x, b, by omega, by omega, rfl, HX.out, HB.out, rfl, rfl⟩
          · subst h
            obtain ⟨b1, o1, rfl, hb1, hc2, hw2⟩ := HIN.out.int_ h2
            obtain ⟨x, hx⟩ : ∃ x, x = st[1] := ⟨_, rfl⟩
            rw [← hx] at hc2 hw2
            have hc3 : (wr.alloc (.cells #[.int .i64 a, .int .i64 b] 45)).cell? ⟨b1, o1 + 1, none⟩ = some (.int .i64 x) := by
              rw [World.cell?_alloc_lt _ _ ⟨b1, o1 + 1, none⟩ (cell_lt hc2)]; exact hc2
            have HX := Lib.hid hw2
            clear hx hw2 hc2 hb1
            have hd3 : decide (1 < st.length) = true := decide_eq_true h2
            go_wp2_with fail
            go_roundg (0)
            case measure => have := HG2.out; omega
            case rel => exact ⟨2, a, x, by omega, by omega, rfl, HA.out, HX.out, rfl, rfl⟩
          · subst h
            have hd3 : decide (2 < st.length) = true := decide_eq_true h2
            go_wp2_with fail
            go_meet
            case rel => exact ⟨a, b, _, HA.out, HB.out, rfl, HSV.out a b⟩
          · have hd3 : decide (j < st.length) = false := decide_eq_false h
            go_wp2_with fail
            go_meet
            case rel => exact ⟨a, b, _, HA.out, HB.out, rfl, HSV.out a b⟩
      case rest =>
        obtain ⟨a, b, pb, ha, hb, rfl, hbel, hsv⟩ := hcut
        have HA := Lib.hid ha
        have HB := Lib.hid hb
        have HBEL := Lib.hid hbel
        have HSV := Lib.hid hsv
        have HM := Lib.hid HP.out.2.1
        have HN1 := Lib.hid HP.out.2.2.1
        have HN2 := Lib.hid HP.out.2.2.2.1
        have hcs := hsv.blk
        have v0 := cell_of_row wc pb 0 _ _ _ hcs
        have v1 := cell_of_row wc pb 1 _ _ _ hcs
        simp at v0 v1
        clear ha hb hd1 hd2 hbel hsv hcs
        go_upto_block 4 with (fail)
        go_cut [4, 5, 6, 7, 8, 12] from 24 to 189 (fun ov wv sv iv lv tv wx => ∃ (S' : SinkSt) (L' : LawSt) (last' : Int), S'.last = last' ∧ Played w wx gs (i + 1) S' L' ∧
          ov = .slice L'.Ao L'.op.length L'.co ∧ wv = .slice L'.Aw L'.wr.length L'.cw ∧ sv = .slice L'.As L'.bs.length L'.cs ∧ iv = .slice L'.Ai L'.ids.length L'.ci ∧ lv = .int .i64 last' ∧ tv = .bool true)
        case first =>
          have hzb := HBEL.out.size
          by_cases h012 : a = 0 ∨ a = 1 ∨ a = 2
          · as_aux_lemma =>
            obtain ⟨X, hX⟩ : ∃ X : Obj, X = .cells #[.string ⟨#[107]⟩, .int .i64 b, .int .i64 0] 47 := ⟨_, rfl⟩
            have hfr := HSV.out.fresh X
            have hbX : Below w.heap.size w (wc.alloc X) := HBEL.out.alloc hzb X
            obtain ⟨F, hsk, hFl, hnx⟩ := hfr.sink hbX.size
            subst hX
            have hop : S.opened.length < 400 := by have := HN1.out; omega
            have hrl : L.op.length ≤ 400 := by rw [HM.out.1]; omega
            have HSK := Lib.hid hsk
            have HNX := Lib.hid hnx
            have HBX := Lib.hid hbX
            clear hsk hFl hnx hfr hbX
            rcases h012 with rfl | rfl | rfl
            all_goals
              go_wp2_with fail
              refine (add_ok gs S ⟨⟨#[107]⟩, b, 0⟩ F _ HSK.out ⟨by show (1 : Nat) ≤ maxLen; unfold maxLen; omega, HB.out, by show (Lit.int .i64 0).wf = true; decide⟩ hop).mono ?_
              rintro e w3 ⟨rfl, hs, hf⟩
              obtain ⟨hsv3, hb3⟩ := HNX.out _ _ hs hf
              have hb3' := HBX.out.trans hb3
              have hblk := hsv3.blk
              have r0 := cell_of_row w3 wc.heap.size 0 _ _ _ hblk
              have r1 := cell_of_row w3 wc.heap.size 1 _ _ _ hblk
              have r2 := cell_of_row w3 wc.heap.size 2 _ _ _ hblk
              simp at r0 r1 r2
              obtain ⟨Fb, hlr, htn, -⟩ := hsv3.law hb3'.size
              have HLR := Lib.hid hlr
              have HTN := Lib.hid htn
              have HB3 := Lib.hid hb3'
              clear hs hf hsv3 hb3 hb3' hblk hlr htn HNX HSK HSV v0 v1 HBEL
              go_wp2_with (at_builtin; refine wpList_push_S (w0 := w3) rfl _ _ 42 rfl 47 _ 3 32 Tryd.underlying42 info_rec rfl (by decide) L.Ao L.co L.op.length _ rfl HLR.out.own_o (recCells ⟨⟨#[107]⟩, b, 0⟩) rfl rfl (by simp [recCells, Value.oneCell']) (by unfold maxLen; omega) (by omega) ?_)
              intro A' cap' w4 hown hg hat
              have hop2 : ∀ r ∈ L.op ++ [⟨⟨#[107]⟩, b, 0⟩], RecOk r := fun r hr => by
                rcases List.mem_append.1 hr with hr | hr
                · exact HLR.out.okO r hr
                · simp at hr; subst hr; exact ⟨by show (1 : Nat) ≤ maxLen; unfold maxLen; omega, HB.out, by show (Lit.int .i64 0).wf = true; decide⟩
              obtain ⟨hr4, hf4, hn4⟩ := HLR.out.turnO (op' := L.op ++ [⟨⟨#[107]⟩, b, 0⟩]) (A' := A') (c' := cap') (by show OwnS w4 47 3 A' cap' (L.op ++ [_]).length ((L.op ++ [_]).flatMap recCells); simpa [List.flatMap_append] using hown) hg hat hop2
              obtain ⟨hsv4, hb4⟩ := HTN.out _ _ _ hr4 hf4 hn4
              have HSV4 := Lib.hid hsv4
              have HB4 := Lib.hid (HB3.out.trans (hb4.mono (Nat.le_refl _)))
              clear hown hg hat hop2 hr4 hf4 hn4 hsv4 hb4 HLR HTN HB3 r0 r1 r2
              go_wp2_with fail
              go_meet
              case rel =>
                refine ⟨addS S ⟨⟨#[107]⟩, b, 0⟩, { L with op := L.op ++ [⟨⟨#[107]⟩, b, 0⟩], Ao := A', co := cap' }, last, HLA.out, ⟨HSV4.out.side, ⟨by simp [addS, HM.out.1], HM.out.2.1, HM.out.2.2.1, HM.out.2.2.2⟩, ?_, ?_, HB4.out⟩, by simp, rfl, rfl, rfl, rfl, rfl⟩
                · have := HN1.out; simp only [addS, List.length_append, List.length_cons, List.length_nil]; omega
                · have := HN2.out; simp only [addS]; omega
          · have hna0 : (a == 0) = false := beq_eq_false_iff_ne.2 (fun e => h012 (.inl e))
            have hna1 : (a == 1) = false := beq_eq_false_iff_ne.2 (fun e => h012 (.inr (.inl e)))
            have hna2 : (a == 2) = false := beq_eq_false_iff_ne.2 (fun e => h012 (.inr (.inr e)))
            have HVC := Lib.hid (HV.out.below HBEL.out hpos)
            clear h012
            by_cases h3 : a = 3
            · subst h3
              clear hna0 hna1 hna2
              as_aux_lemma =>
              by_cases hb1 : b < 1
              · go_wp2_with fail
                refine (seal_range gs b _ hb1).mono ?_
                rintro e w3 ⟨rfl, rfl⟩
                go_wp2_with fail
                refine (error_errno 1 1 _ HVC.out).mono ?_
                rintro e w4 ⟨rfl, hb4⟩
                have HSV4 := Lib.hid (HSV.out.below hb4)
                have HB4 := Lib.hid (HBEL.out.trans (hb4.mono hzb))
                clear hb4
                go_wp2_with fail
                go_meet
                case rel => exact ⟨S, L, last, HLA.out, ⟨HSV4.out.side, HM.out, by have := HN1.out; omega, by have := HN2.out; omega, HB4.out⟩, rfl, rfl, rfl, rfl, rfl, rfl⟩
              · by_cases hbl : b ≤ last
                · obtain ⟨F, hsk, -, -⟩ := HSV.out.sink hzb
                  have HSK := Lib.hid hsk
                  clear hsk
                  go_wp2_with fail
                  refine (seal_order gs S b F _ HSK.out (by omega) (by rw [HLA.out]; exact hbl)).mono ?_
                  rintro e w3 ⟨rfl, rfl⟩
                  go_wp2_with fail
                  refine (error_errno 5 5 _ HVC.out).mono ?_
                  rintro e w4 ⟨rfl, hb4⟩
                  have HSV4 := Lib.hid (HSV.out.below hb4)
                  have HB4 := Lib.hid (HBEL.out.trans (hb4.mono hzb))
                  clear hb4
                  go_wp2_with fail
                  go_meet
                  case rel => exact ⟨S, L, last, HLA.out, ⟨HSV4.out.side, HM.out, by have := HN1.out; omega, by have := HN2.out; omega, HB4.out⟩, rfl, rfl, rfl, rfl, rfl, rfl⟩
                · obtain ⟨F, hsk, hFl, hnx⟩ := HSV.out.sink hzb
                  have HSK := Lib.hid hsk
                  have HNX := Lib.hid hnx
                  have hbsl : L.bs.length ≤ 100 := by have := congrArg List.length HM.out.2.1; simp at this; have := HN2.out; omega
                  have hidl : L.ids.length ≤ 100 := by have := congrArg List.length HM.out.2.2.1; simp at this; have := HN2.out; omega
                  clear hsk hFl hnx
                  go_wp2_with fail
                  refine (seal_ok gs S b F _ HSK.out (by omega) (by rw [HLA.out]; omega) (by have := HN2.out; omega)).mono ?_
                  rintro e w3 ⟨rfl, hs, hf⟩
                  obtain ⟨hsv3, hb3⟩ := HNX.out _ _ hs hf
                  have hb3' := HBEL.out.trans hb3
                  have v1' := cell_of_row w3 pb 1 _ _ _ hsv3.blk
                  simp at v1'
                  obtain ⟨Fb, hlr, htn, -⟩ := hsv3.law hb3'.size
                  have HLR := Lib.hid hlr
                  have HTN := Lib.hid htn
                  have HB3 := Lib.hid hb3'
                  clear hs hf hsv3 hb3 hb3' hlr htn HNX HSK HSV v0 v1 HBEL
                  go_wp2_with fail
                  refine (error_nil 0 _).mono ?_
                  rintro e w4 ⟨rfl, rfl⟩
                  go_wp2_with (at_builtin; refine wpList_push_S (w0 := w3) rfl (.tmp 92) _ 44 rfl 3 _ 1 8 Tryd.underlying44 info_int rfl (by decide) L.Ai L.ci L.ids.length _ rfl HLR.out.own_i [.int .i64 b] rfl rfl (by simp [Value.oneCell']) (by unfold maxLen; omega) (by omega) ?_)
                  intro A' cap' w4 hown hg hat
                  have hok : ∀ x ∈ L.ids ++ [b], I64 x := fun x hx => by
                    rcases List.mem_append.1 hx with hx | hx
                    · exact HLR.out.okI x hx
                    · simp at hx; subst hx; exact HB.out
                  obtain ⟨hr4, hf4, hn4⟩ := HLR.out.turnI (ids' := L.ids ++ [b]) (A' := A') (c' := cap') (by show OwnS w4 3 1 A' cap' (L.ids ++ [_]).length ((L.ids ++ [_]).map _); simpa using hown) hg hat hok
                  obtain ⟨hsv4, hb4⟩ := HTN.out _ _ _ hr4 hf4 hn4
                  have hb4' := HB3.out.trans (hb4.mono (Nat.le_refl _))
                  obtain ⟨Fb4, hlr4, htn4, -⟩ := hsv4.law hb4'.size
                  have HLR4 := Lib.hid hlr4
                  have HTN4 := Lib.hid htn4
                  have HB4 := Lib.hid hb4'
                  clear hown hg hat hok hr4 hf4 hn4 hsv4 hb4 hb4' hlr4 htn4 HLR HTN HB3 v1'
                  go_wp2_with (at_builtin; refine wpList_push_S (w0 := w4) rfl (.tmp 97) _ 43 rfl 42 _ 1 24 Tryd.underlying43 info_recs rfl (by decide) L.As L.cs L.bs.length _ rfl HLR4.out.own_s [.slice L.Ao L.op.length L.co] rfl rfl (by simp [Value.oneCell']) (by unfold maxLen; omega) (by omega) ?_)
                  intro A5 cap5 w5 hown hg hat
                  obtain ⟨hr5, hf5, hn5⟩ := HLR4.out.turnS (A' := A5) (c' := cap5) (by show OwnS w5 42 1 A5 cap5 (L.bs ++ [_]).length ((L.bs ++ [_]).map _); simpa [lbCell] using hown) hg hat
                  obtain ⟨hsv5, hb5⟩ := HTN4.out _ _ _ hr5 hf5 hn5
                  have HSV5 := Lib.hid hsv5
                  have HB5 := Lib.hid (HB4.out.trans (hb5.mono (Nat.le_refl _)))
                  clear hown hg hat hr5 hf5 hn5 hsv5 hb5 HLR4 HTN4 HB4
                  go_wp2_with fail
                  go_meet
                  case rel =>
                    refine ⟨sealS S b, _, b, rfl, ⟨HSV5.out.side, ⟨rfl, by simp [sealS, HM.out.2.1, HM.out.1], by simp [sealS, HM.out.2.2.1], HM.out.2.2.2⟩, ?_, ?_, HB5.out⟩, rfl, rfl, by simp, by simp, rfl, rfl⟩
                    · have := HN1.out; simp only [sealS, List.length_append, List.length_cons, List.length_nil, List.flatMap_append, List.flatMap_cons, List.flatMap_nil, List.append_nil]; omega
                    · have := HN2.out; simp only [sealS, List.length_append, List.length_cons, List.length_nil]; omega
            · have hna3 : (a == 3) = false := beq_eq_false_iff_ne.2 h3
              clear h3
              by_cases h4 : a = 4
              · subst h4
                clear hna0 hna1 hna2 hna3
                by_cases hb1 : b < 1
                · as_aux_lemma =>
                  go_wp2_with fail
                  refine (commit_range gs b _ hb1).mono ?_
                  rintro e w3 ⟨rfl, rfl⟩
                  go_wp2_with fail
                  go_loopg [5, 6, 7, 18] (0) (fun g2 wv sv iv kv wx => g2 = 0 ∧ wv = .slice L.Aw L.wr.length L.cw ∧ sv = .slice L.As L.bs.length L.cs ∧ iv = .slice L.Ai L.ids.length L.ci ∧ kv = .int .i64 0 ∧ Hid (SideV w.heap.size wx gs S L pb (.cells #[.int .i64 4, .int .i64 b] 45)) ∧ Hid (Below w.heap.size w wx))
                  case atStart => exact ⟨rfl, rfl, rfl, rfl, rfl, HSV, HBEL⟩
                  case round =>
                    clear HSV HBEL HVC v0 v1
                    obtain ⟨-, rfl, rfl, rfl, rfl, HSV, HBEL⟩ := hrel
                    have HVC := Lib.hid (HV.out.below HBEL.out hpos)
                    go_wp2_with fail
                    go_quiet (fail)
                    go_wp2_with fail
                    refine (error_errno 1 1 _ (HVC.out.drewN _)).mono ?_
                    rintro e w4 ⟨rfl, hb4⟩
                    have hb5 := bundrewN' hb4
                    have HSV4 := Lib.hid (HSV.out.below hb5)
                    have HB4 := Lib.hid (HBEL.out.trans (hb5.mono HBEL.out.size))
                    clear hb4 hb5
                    go_wp2_with fail
                    go_meet
                    case rel => exact ⟨S, L, last, HLA.out, ⟨HSV4.out.side, HM.out, by have := HN1.out; omega, by have := HN2.out; omega, HB4.out⟩, rfl, rfl, rfl, rfl, rfl, rfl⟩
                · as_aux_lemma =>
                  obtain ⟨F, hsk, hFl, hnx⟩ := HSV.out.sink hzb
                  have HSK := Lib.hid hsk
                  have HFL := Lib.hid hFl
                  have HNX := Lib.hid hnx
                  clear hsk hFl hnx
                  go_wp2_with fail
                  refine (commit_ok gs S b F _ HSK.out (by omega) HFL.out (by have := HN1.out; omega) (by have := HN2.out; omega)).mono ?_
                  rintro e w3 ⟨j, hj1, hj2, hj3, rfl, hs, hf⟩
                  obtain ⟨hsv3, hb3⟩ := HNX.out _ _ hs hf
                  have v1' := cell_of_row w3 pb 1 _ _ _ hsv3.blk
                  simp at v1'
                  have HSV3 := Lib.hid hsv3
                  have HB3 := Lib.hid (HBEL.out.trans hb3)
                  have HJ1 := Lib.hid hj1
                  have HJ2 := Lib.hid hj2
                  have HJ3 := Lib.hid hj3
                  have hj100 : j ≤ 100 := by have := HN2.out; omega
                  obtain ⟨nn, hnn⟩ : ∃ nn, nn = commN S j := ⟨_, rfl⟩
                  rw [← hnn]
                  have HNN := Lib.hid hnn
                  clear hs hf hsv3 hb3 hj1 hj2 hj3 HNX HSK HFL HSV HBEL v0 v1 hnn HVC
                  go_wp2_with fail
                  go_loopg [5, 6, 7, 18] (j) (fun g2 wv sv iv kv wx => ∃ (x q : Nat) (L2 : LawSt), x ≤ j ∧ q ≤ 1000 ∧ g2 = j - x ∧ wv = .slice L2.Aw L2.wr.length L2.cw ∧ sv = .slice L2.As L2.bs.length L2.cs ∧ iv = .slice L2.Ai L2.ids.length L2.ci ∧ kv = .int .i64 q ∧ Hid (q = commN S x) ∧
                    Hid (L2.Ao = L.Ao ∧ L2.co = L.co ∧ L2.op = L.op) ∧ Hid (Match L2 (commJ S x)) ∧ Hid (SideV w.heap.size wx gs (commJ S j) L2 pb (.cells #[.int .i64 4, .int .i64 b] 45)) ∧ Hid (Below w.heap.size w wx))
                  case atStart => exact ⟨0, 0, L, by omega, by omega, by omega, rfl, rfl, rfl, rfl, rfl, ⟨rfl, rfl, rfl⟩, by rw [commJ_zero]; exact HM.out, HSV3, HB3⟩
                  case round =>
                    clear HSV3 HB3
                    obtain ⟨x, q, L2, hx, hq, hg2, rfl, rfl, rfl, rfl, HQ, HLO, HM2, HSV, HBEL⟩ := hrel
                    have HG2 := Lib.hid hg2
                    have HVC := Lib.hid (HV.out.below HBEL.out hpos)
                    have v1 := cell_of_row wr pb 1 _ _ _ HSV.out.blk
                    simp at v1
                    clear v1' hg2
                    by_cases hxj : x < j
                    · have hxl : x < S.sealed.length := by have := HJ1.out; omega
                      obtain ⟨b0, bs', i0, ids', hbs, hids, hsx, hbs', hids'⟩ := match_head HM2.out hxl
                      obtain ⟨Fb, hlr, htn, -⟩ := HSV.out.law HBEL.out.size
                      have hoi := hlr.own_i
                      have hos := hlr.own_s
                      have how := hlr.own_w
                      have hbat := hlr.bat b0 (by rw [hbs]; exact List.mem_cons_self)
                      have hib : i0 ≤ b := by have := HJ2.out x hxj hxl; rw [hsx] at this; exact this
                      have hqn := commN_succ S x hxl
                      have hql := commN_le S (x + 1)
                      rw [hsx] at hqn
                      have hqb : q + b0.recs.length ≤ 1000 := by have := HN1.out; have := HQ.out; simp only at hqn; omega
                      have hwb : L2.wr.length + b0.recs.length ≤ 1000 := by
                        have h5 := HM2.out.2.2.2
                        have h6 : (commJ S x).written.length = S.written.length + commN S x := by simp [commJ, commN]
                        have := HN1.out; have := HQ.out; rw [h5, h6]; simp only at hqn; omega
                      rw [hids] at hoi
                      rw [hbs] at hos
                      obtain ⟨gi, oi, hgi, hgil, hci⟩ := hoi.head (by simp) (by decide)
                      obtain ⟨gz, oz, hgz, hgzl, hcz⟩ := hos.head (by simp) (by decide)
                      have ci0 := hci 0 (.int .i64 i0) rfl
                      have cz0 := hcz 0 (lbCell b0) rfl
                      simp only [Nat.add_zero, lbCell] at ci0 cz0
                      obtain ⟨Ai', hri, hbi, hki⟩ := run_tail Tryd.prog 44 3 1 L2.Ai ids'.length L2.ci Tryd.underlying44 (by kernel_rfl) hoi.2.1 hoi.2.2.1 (own_spot hoi)
                      obtain ⟨As', hrs, hbz, hks⟩ := run_tail Tryd.prog 43 42 1 L2.As bs'.length L2.cs Tryd.underlying43 (by kernel_rfl) hos.2.1 hos.2.2.1 (own_spot hos)
                      have hAi := Lib.hid hgi
                      have hAs := Lib.hid hgz
                      have hdi : decide (i0 ≤ b) = true := decide_eq_true hib
                      have hl1 : L2.ids.length = ids'.length + 1 := by rw [hids]; rfl
                      have hl2 : L2.bs.length = bs'.length + 1 := by rw [hbs]; rfl
                      rw [hl1, hl2]
                      rw [hgi] at hri ⊢
                      rw [hgz] at hrs ⊢
                      have HLR := Lib.hid hlr
                      have HTN := Lib.hid htn
                      have HOI := Lib.hid hoi
                      have HOS := Lib.hid hos
                      have HBAT := Lib.hid hbat
                      have HQN := Lib.hid hqn
                      have HBS := Lib.hid hbs
                      have HIDS := Lib.hid hids
                      have HBS' := Lib.hid hbs'
                      have HIDS' := Lib.hid hids'
                      have HSX := Lib.hid hsx
                      have HKI := Lib.hid hki
                      have HKS := Lib.hid hks
                      have HBI := Lib.hid hbi
                      have HBZ := Lib.hid hbz
                      have HOW := Lib.hid how
                      have hni : blk L2.Aw ≠ some gi := fun e => by
                        have h7 := hlr.rows.sep
                        simp only [LawSt.rows, List.pairwise_cons, List.mem_cons, List.not_mem_nil, or_false] at h7
                        have h8 := h7.2.2.1 (rowO L2.wr L2.Aw L2.cw) rfl gi
                        exact h8 (by show blk L2.Ai = _; rw [hAi.out]; rfl) e
                      have hnz : blk L2.Aw ≠ some gz := fun e => by
                        have h7 := hlr.rows.sep
                        simp only [LawSt.rows, List.pairwise_cons, List.mem_cons, List.not_mem_nil, or_false] at h7
                        have h8 := h7.2.1 (rowO L2.wr L2.Aw L2.cw) (.inr rfl) gz
                        exact h8 (by show blk L2.As = _; rw [hAs.out]; rfl) e
                      clear hlr htn hoi hos how hbat hqn hbs hids hsx hbs' hids' hki hks hbi hbz hgi hgz hci hcz hl1 hl2 hql hib
                      go_wp2_with fail
                      go_quiet (fail)
                      go_wp2_with (at_builtin; refine wpList_append_S rfl (.tmp 134) _ 42 42 rfl 47 _ 3 32 Tryd.underlying42 info_rec rfl (by decide) L2.Aw L2.cw L2.wr.length _ rfl (HOW.out.keep fun _ _ => rfl) _ rfl b0.recs.length (b0.recs.flatMap recCells) (Src.of_sl (P := Tryd.prog) (tx := 42) (HBAT.out.drewN _) Tryd.underlying42 recCells (fun cs x hx => hx.1) (fun _ => rfl) (fun x u hu => by simp [recCells] at hu; rcases hu with rfl | rfl | rfl <;> rfl)) (by unfold maxLen; omega) (by omega) ?_)
                      intro A' cap' w4 hown hg hat
                      have hg' : wr.grownBy w4 (blk L2.Aw) := ⟨hg.os, hg.tape, hg.output, hg.size, hg.block⟩
                      obtain ⟨hr4, hf4, hn4⟩ := HLR.out.turnW (wr' := L2.wr ++ b0.recs) (A' := A') (c' := cap') (by show OwnS w4 47 3 A' cap' (L2.wr ++ b0.recs).length ((L2.wr ++ b0.recs).flatMap recCells); rw [List.length_append, List.flatMap_append]; exact hown) hg' (hat.imp_right fun e => ⟨_, e, Nat.le_refl _⟩) (fun r hr => by
                        rcases List.mem_append.1 hr with hr | hr
                        · exact HLR.out.okW r hr
                        · exact recs_ok HBAT.out r hr)
                      obtain ⟨hsv4, hb4⟩ := HTN.out _ _ _ hr4 hf4 hn4
                      have hb4' := HBEL.out.trans (hb4.mono (Nat.le_refl _))
                      obtain ⟨Fb4, hlr4, -, hsm⟩ := hsv4.law hb4'.size
                      have hgi4 := hg'.block gi hgil hni.symm
                      have hgz4 := hg'.block gz hgzl hnz.symm
                      have hcut := hlr4.cut (b := b0) (bs' := bs') (i := i0) (ids' := ids') HBS.out HIDS.out (As' := As') (Ai' := Ai') (cs' := L2.cs - 1) (ci' := L2.ci - 1)
                        (by show OwnS w4 42 1 As' _ bs'.length _; exact (HKS.out wr _ HOS.out).keep fun k e => by
                              rw [HBZ.out, hAs.out] at e; injection e with e; subst e; exact hgz4) (HBZ.out)
                        (by show OwnS w4 3 1 Ai' _ ids'.length _; exact (HKI.out wr _ HOI.out).keep fun k e => by
                              rw [HBI.out, hAi.out] at e; injection e with e; subst e; exact hgi4) (HBI.out)
                      have hsv5 := hsm _ _ hcut.1 hcut.2
                      have HSV5 := Lib.hid hsv5
                      have HB5 := Lib.hid hb4'
                      clear hown hg hat hg' hr4 hf4 hn4 hsv4 hb4 hb4' hlr4 hsm hgi4 hgz4 hcut hsv5 HLR HTN HBAT HOW HOI HOS HKI HKS ci0 cz0
                      go_wp2_with fail
                      go_roundg (j - (x + 1))
                      case measure => have := HG2.out; omega
                      case rel =>
                        refine ⟨x + 1, q + b0.recs.length, _, by omega, by omega, rfl, ?_, ?_, ?_, by go_num, ?_, ?_, ?_, HSV5, HB5⟩
                        · show Value.slice A' _ cap' = Value.slice A' (L2.wr ++ b0.recs).length cap'
                          rw [List.length_append]
                        · rfl
                        · rfl
                        · show q + b0.recs.length = commN S (x + 1)
                          rw [HQN.out, ← HQ.out]
                        · exact HLO.out
                        · exact ⟨HM2.out.1, HBS'.out, HIDS'.out, match_wr HM2.out.2.2.2 hxl HSX.out⟩
                    · obtain rfl : x = j := by omega
                      have hqq : q = nn := by rw [HQ.out, HNN.out]
                      subst hqq
                      have hfin : Played w wr gs (i + 1) (commJ S x) L2 := by
                        refine ⟨HSV.out.side, HM2.out, ?_, ?_, HBEL.out⟩
                        · rw [commJ_sum]; have := HN1.out; omega
                        · have := HN2.out; simp only [commJ, List.length_drop]; omega
                      have HFIN := Lib.hid hfin
                      clear hfin hxj
                      by_cases hjl : x < S.sealed.length
                      · obtain ⟨b0, bs', i0, ids', hbs, hids, hsx, -, -⟩ := match_head HM2.out hjl
                        obtain ⟨Fb, hlr, -, -⟩ := HSV.out.law HBEL.out.size
                        have hoi := hlr.own_i
                        have hib : ¬ i0 ≤ b := by have := HJ3.out hjl; rw [hsx] at this; simp only at this; omega
                        rw [hids] at hoi
                        obtain ⟨gi, oi, hgi, hgil, hci⟩ := hoi.head (by simp) (by decide)
                        have ci0 := hci 0 (.int .i64 i0) rfl
                        simp only [Nat.add_zero] at ci0
                        have hdi : decide (i0 ≤ b) = false := decide_eq_false hib
                        have hl1 : L2.ids.length = ids'.length + 1 := by rw [hids]; rfl
                        have HIV := Lib.hid (show Value.slice (some ⟨gi, oi, none⟩) (ids'.length + 1) L2.ci = .slice L2.Ai L2.ids.length L2.ci by rw [hgi, hl1])
                        rw [hl1, hgi]
                        clear hlr hoi hib hgi hgil hci hl1 hbs hids hsx HSV
                        go_wp2_with fail
                        go_quiet (fail)
                        go_wp2_with fail
                        refine (error_nil 0 _).mono ?_
                        rintro e w4 ⟨rfl, rfl⟩
                        go_wp2_with fail
                        go_meet
                        case rel => exact ⟨commJ S x, L2, last, HLA.out, ⟨HFIN.out.1.drewN _, HFIN.out.2.1, HFIN.out.2.2.1, HFIN.out.2.2.2.1, bdrewN HBEL.out _⟩, by rw [HLO.out.1, HLO.out.2.1, HLO.out.2.2], rfl, rfl, HIV.out, rfl, rfl⟩
                      · have hl1 : L2.ids.length = 0 := by rw [HM2.out.2.2.1]; simp only [commJ, List.length_map, List.length_drop]; omega
                        have HIV := Lib.hid (show Value.slice L2.Ai 0 L2.ci = .slice L2.Ai L2.ids.length L2.ci by rw [hl1])
                        rw [hl1]
                        clear hl1 HSV
                        go_wp2_with fail
                        go_quiet (fail)
                        go_wp2_with fail
                        refine (error_nil 0 _).mono ?_
                        rintro e w4 ⟨rfl, rfl⟩
                        go_wp2_with fail
                        go_meet
                        case rel => exact ⟨commJ S x, L2, last, HLA.out, ⟨HFIN.out.1.drewN _, HFIN.out.2.1, HFIN.out.2.2.1, HFIN.out.2.2.2.1, bdrewN HBEL.out _⟩, by rw [HLO.out.1, HLO.out.2.1, HLO.out.2.2], rfl, rfl, HIV.out, rfl, rfl⟩
              · have hna4 : (a == 4) = false := beq_eq_false_iff_ne.2 h4
                clear h4
                by_cases h5 : a = 5
                · subst h5
                  clear hna0 hna1 hna2 hna3 hna4
                  as_aux_lemma =>
                  obtain ⟨Fb, hlr, -, -⟩ := HSV.out.law hzb
                  have hos0 := hlr.own_s
                  obtain ⟨As0, hAs0⟩ : ∃ As0, As0 = L.As := ⟨_, rfl⟩
                  rw [← hAs0] at hos0 ⊢
                  have hos := Lib.hid hos0
                  have htot : L.op.length + bsN L.bs L.bs.length = S.opened.length + (S.sealed.flatMap (·.2)).length := by rw [bsN_all L.bs S HM.out.2.1, HM.out.1]
                  have htb : L.op.length + bsN L.bs L.bs.length ≤ 100 := by rw [htot]; have := HN1.out; omega
                  have hbsl : L.bs.length ≤ 100 := by have := congrArg List.length HM.out.2.1; simp at this; have := HN2.out; omega
                  have HTOT := Lib.hid htot
                  have HTB := Lib.hid htb
                  have hopl : L.op.length ≤ 100 := by omega
                  clear hlr htot htb hos0 hAs0
                  cases As0 with
                  | none =>
                      have hz0 : L.bs.length ≤ 0 := by have h8 := hos.out.2.1; rcases hos.out.2.2.2 with ⟨_, h7⟩ | ⟨_, _, _, e, _⟩; omega; cases e
                      go_wp2_with fail
                      go_loopg [19, 20] (L.bs.length) (fun g2 kv jv wx => ∃ (x q : Nat), x ≤ L.bs.length ∧ q ≤ 1000 ∧ g2 = L.bs.length - x ∧ kv = .int .i64 q ∧ jv = .int .i64 x ∧ Hid (q = L.op.length + bsN L.bs x) ∧ wx = wc)
                      case atStart => exact ⟨0, L.op.length, by omega, by omega, by omega, rfl, rfl, rfl, rfl⟩
                      case round =>
                        obtain ⟨x, q, hx, hq, hg2, rfl, rfl, HQ, rfl⟩ := hrel
                        have HG2 := Lib.hid hg2
                        clear hg2
                        by_cases hxl : x < L.bs.length
                        · exfalso; omega
                        · obtain rfl : x = L.bs.length := by omega
                          have hds : decide (L.bs.length < L.bs.length) = false := by simp
                          obtain ⟨F, hsk, hFl, hnx⟩ := HSV.out.sink hzb
                          have HSK := Lib.hid hsk
                          have HNX := Lib.hid hnx
                          clear hsk hFl hnx hxl hx
                          go_wp2_with fail
                          refine (abort_any gs S F _ HSK.out (by have := HN1.out; omega) (by have := HN2.out; omega)).mono ?_
                          rintro e w3 ⟨rfl, hs, hf⟩
                          have hqt : S.opened.length + (S.sealed.flatMap (·.2)).length = q := by rw [HQ.out, ← HTOT.out]
                          rw [hqt]
                          obtain ⟨hsv3, hb3⟩ := HNX.out _ _ (hs.more fun k e => .inl e) hf
                          have hb3' := HBEL.out.trans hb3
                          obtain ⟨Fb, hlr, -, hsm⟩ := hsv3.law hb3'.size
                          have hgo := hlr.gone
                          have HSV5 := Lib.hid (hsm _ _ hgo.1 hgo.2)
                          have HB5 := Lib.hid hb3'
                          clear hs hf hqt hsv3 hb3 hb3' hlr hsm hgo HSK HNX v0 v1
                          go_wp2_with fail
                          go_meet
                          case rel =>
                            refine ⟨abortS S, _, last, HLA.out, ⟨HSV5.out.side, ⟨rfl, rfl, rfl, HM.out.2.2.2⟩, ?_, by simp [abortS], HB5.out⟩, rfl, rfl, rfl, rfl, rfl, rfl⟩
                            have := HN1.out; simp only [abortS, List.length_nil, List.flatMap_nil]; omega
                  | some ad =>
                      go_wp2_with fail
                      go_loopg [19, 20] (L.bs.length) (fun g2 kv jv wx => ∃ (x q : Nat), x ≤ L.bs.length ∧ q ≤ 1000 ∧ g2 = L.bs.length - x ∧ kv = .int .i64 q ∧ jv = .int .i64 x ∧ Hid (q = L.op.length + bsN L.bs x) ∧ wx = wc)
                      case atStart => exact ⟨0, L.op.length, by omega, by omega, by omega, rfl, rfl, rfl, rfl⟩
                      case round =>
                        obtain ⟨x, q, hx, hq, hg2, rfl, rfl, HQ, rfl⟩ := hrel
                        have HG2 := Lib.hid hg2
                        clear hg2
                        by_cases hxl : x < L.bs.length
                        · obtain ⟨gz, oz, hgz, hgzl, hcz⟩ := hos.out.head (by omega) (by decide)
                          cases hgz
                          have cz := hcz x (lbCell L.bs[x]) (by rw [List.getElem?_map, List.getElem?_eq_getElem hxl]; rfl)
                          have hsu := bsN_succ L.bs x hxl
                          have hle2 := bsN_le L.bs (x + 1)
                          obtain ⟨b0, hb0⟩ : ∃ b0, b0 = L.bs[x] := ⟨_, rfl⟩
                          rw [← hb0] at cz hsu
                          simp only [lbCell] at cz
                          have hqb : q + b0.recs.length ≤ 1000 := by have := HQ.out; have := HTB.out; omega
                          have HSU := Lib.hid hsu
                          have hds : decide (x < L.bs.length) = true := decide_eq_true hxl
                          clear hcz hsu hle2 hb0
                          go_wp2_with fail
                          go_roundg (L.bs.length - (x + 1))
                          case measure => have := HG2.out; omega
                          case rel => exact ⟨x + 1, q + b0.recs.length, by omega, by omega, rfl, by go_num, by go_num, by show _ = _; rw [HSU.out, HQ.out, Nat.add_assoc], rfl⟩
                        · obtain rfl : x = L.bs.length := by omega
                          have hds : decide (L.bs.length < L.bs.length) = false := by simp
                          obtain ⟨F, hsk, hFl, hnx⟩ := HSV.out.sink hzb
                          have HSK := Lib.hid hsk
                          have HNX := Lib.hid hnx
                          clear hsk hFl hnx hxl hx
                          go_wp2_with fail
                          refine (abort_any gs S F _ HSK.out (by have := HN1.out; omega) (by have := HN2.out; omega)).mono ?_
                          rintro e w3 ⟨rfl, hs, hf⟩
                          have hqt : S.opened.length + (S.sealed.flatMap (·.2)).length = q := by rw [HQ.out, ← HTOT.out]
                          rw [hqt]
                          obtain ⟨hsv3, hb3⟩ := HNX.out _ _ (hs.more fun k e => .inl e) hf
                          have hb3' := HBEL.out.trans hb3
                          obtain ⟨Fb, hlr, -, hsm⟩ := hsv3.law hb3'.size
                          have hgo := hlr.gone
                          have HSV5 := Lib.hid (hsm _ _ hgo.1 hgo.2)
                          have HB5 := Lib.hid hb3'
                          clear hs hf hqt hsv3 hb3 hb3' hlr hsm hgo HSK HNX v0 v1
                          go_wp2_with fail
                          go_meet
                          case rel =>
                            refine ⟨abortS S, _, last, HLA.out, ⟨HSV5.out.side, ⟨rfl, rfl, rfl, HM.out.2.2.2⟩, ?_, by simp [abortS], HB5.out⟩, rfl, rfl, rfl, rfl, rfl, rfl⟩
                            have := HN1.out; simp only [abortS, List.length_nil, List.flatMap_nil]; omega
                · have hna5 : (a == 5) = false := beq_eq_false_iff_ne.2 h5
                  clear h5
                  as_aux_lemma =>
                  go_wp2_with fail
                  go_meet
                  case rel => exact ⟨S, L, last, HLA.out, ⟨HSV.out.side, HM.out, by have := HN1.out; omega, by have := HN2.out; omega, HBEL.out⟩, rfl, rfl, rfl, rfl, rfl, rfl⟩
        case rest => as_aux_lemma =>
          clear HA HB HP HLA H
          obtain ⟨S', L', last', hla, hp, rfl, rfl, rfl, rfl, rfl, rfl⟩ := hcut
          obtain ⟨⟨F, Fb, hbo⟩, hm, hn1, hn2, hbel⟩ := hp
          have HLA := Lib.hid hla
          have HBO := Lib.hid hbo
          have HM := Lib.hid hm
          have HN1 := Lib.hid hn1
          have HN2 := Lib.hid hn2
          have HBEL := Lib.hid hbel
          clear hla hbo hm hn1 hn2 hbel
          go_wp2_with fail
          refine (written_any gs S' F _ HBO.out.sink (by have := HN1.out; omega)).mono ?_
          rintro e w2 ⟨A2, c2, rfl, hs2, hb2⟩
          have HB1 := Lib.hid (HBO.out.below hb2)
          have HBEL1 := Lib.hid (HBEL.out.trans (hb2.mono HBEL.out.size))
          have HS2 := Lib.hid hs2
          clear hs2 hb2 HBO HBEL
          go_wp2_with fail
          refine (records_like A2 L'.Aw c2 L'.cw S'.written L'.wr _ _ _ HS2.out HB1.out.law.sl_w HM.out.2.2.2).mono ?_
          rintro e w3 ⟨rfl, q1, rfl⟩
          have hb1 : Below w2.heap.size w2 (w2.drewN q1) := bdrewN (Below.refl _ _) q1
          have HB2 := Lib.hid (HB1.out.below hb1)
          have HBEL2 := Lib.hid (HBEL1.out.trans (hb1.mono HBEL1.out.size))
          clear hb1 HB1 HBEL1 HS2
          go_wp2_with fail
          refine (sealed_any gs S' F _ HB2.out.sink (fun b hb => HB2.out.law.okI b.1 (by rw [HM.out.2.2.1]; exact List.mem_map.2 ⟨b, hb, rfl⟩)) (by have := HN2.out; omega)).mono ?_
          rintro e w4 ⟨A4, c4, rfl, hs4, hb4⟩
          have HB3 := Lib.hid (HB2.out.below hb4)
          have HBEL3 := Lib.hid (HBEL2.out.trans (hb4.mono HBEL2.out.size))
          have HS4 := Lib.hid hs4
          clear hs4 hb4 HB2 HBEL2
          go_wp2_with fail
          refine (ints_like A4 L'.Ai c4 L'.ci (S'.sealed.map (·.1)) L'.ids _ _ _ _ _ HS4.out HB3.out.law.sl_i (by simp) rfl HM.out.2.2.1).mono ?_
          rintro e w5 ⟨rfl, q2, rfl⟩
          have hb1 : Below w4.heap.size w4 (w4.drewN q2) := bdrewN (Below.refl _ _) q2
          have HB4 := Lib.hid (HB3.out.below hb1)
          have HBEL4 := Lib.hid (HBEL3.out.trans (hb1.mono HBEL3.out.size))
          clear hb1 HB3 HBEL3 HS4
          go_wp2_with fail
          go_roundg (100 - (i + 1))
          case measure => have := HGK.out; omega
          case rel => exact ⟨i + 1, S', L', last', by omega, by omega, rfl, HLA, ⟨⟨F, Fb, HB4.out⟩, HM.out, HN1.out, HN2.out, HBEL4.out⟩, rfl, rfl, rfl, rfl, rfl, by go_num⟩
    · have HLT := Lib.hid hlt
      clear hlt H
      by_cases h1 : i < l.length
      · have hd1 : decide (i < l.length) = true := decide_eq_true h1
        have hd2 : decide ((i : Int) < 100) = false := by rw [decide_eq_false_iff_not]; have := HLT.out; omega
        go_wp2_with fail
        go_ret
        exact ⟨rfl, HP.out.2.2.2.2⟩
      · have hd1 : decide (i < l.length) = false := decide_eq_false h1
        go_wp2_with fail
        go_ret
        exact ⟨rfl, HP.out.2.2.2.2⟩
end Go.Proofs.YtmcmejmfaihclaaDoor
