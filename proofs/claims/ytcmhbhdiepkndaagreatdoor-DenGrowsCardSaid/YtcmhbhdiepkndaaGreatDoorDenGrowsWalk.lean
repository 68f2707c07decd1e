/-
  The walk of DenGrows: it returns true. Conditions: the two variables of Atoi's errors hold errors, the table of powers of ten stands.
-/
import Derived.Test.YtcmhbhdiepkndaaGreatDoorPackJ
import Derived.Deep.RegionHeld3
import Derived.Deep.CutRange
namespace Go.Proofs.YtcmhbhdiepkndaaGreatDoor
open Go.RowKit Go.ChangeShapes Go.WideShapes Go.Shelf
set_option linter.unusedVariables false

def cutK (cut : Int) (d : List Rec) : Nat := if 0 ≤ cut ∧ cut < d.length then cut.toNat else d.length
theorem cutK_le (cut : Int) (d : List Rec) : cutK cut d ≤ d.length := by unfold cutK; split <;> omega
theorem own_base {w : World} {b b' : Nat} {e : TypeId} {size n : Nat} {v : Value} {xs : List Value} (h : w.ownsRow b e size v n xs) (hb : b' ≤ b) : w.ownsRow b' e size v n xs := by
  obtain ⟨h1, h2⟩ := h
  refine ⟨h1, h2.imp_right ?_⟩
  rintro ⟨g, cap, cur, e1, e2, e3⟩
  exact ⟨g, cap, cur, e1, Nat.le_trans hb e2, e3⟩
theorem src_recsG {F : Nat → Prop} {w : World} {A : Option Addr} {c : Nat} {l : List Rec} (h : SlA recE F w A c l) : Src Tryz.prog 3 22 (.slice A l.length c) l.length (l.flatMap recCells) w :=
  Src.of_sl (P := Tryz.prog) (tx := 22) h Tryz.underlying22 recCells (fun cs x hx => hx.1) (fun _ => rfl) (fun x u hu => by simp [recCells] at hu; rcases hu with rfl | rfl | rfl <;> rfl)
set_option maxRecDepth 100000 in
set_option maxHeartbeats 4000000 in
theorem denGrows_walk (AJ : Option Addr) (cJ : Nat) (J : List Nod) (AD : Option Addr) (cD : Nat) (data : List (List Rec)) (cut : Int) (w : World) (hJ : SlA nodE (· < w.heap.size) w AJ cJ J) (hD : SlA (slE recE) (· < w.heap.size) w AD cD data) (wcut : (Lit.int .i64 cut).wf = true) (hv : ErrVars w) (hT : PowTab w) :
    Calls Tryz.prog 4 #[.slice AJ J.length cJ, .slice AD data.length cD, .int .i64 cut] w fun e w' => e = .returned (.bool true) ∧ Below w.heap.size w w' := by
  have hJl := hJ.le
  have hDl := hD.le
  have hDc := hD.1
  have HCUT := Lib.hid (i64_of_wf wcut)
  have HAN : Hid (∀ (B cd : Nat) (A : Option Addr) (dt : List (List Rec)) (W : World), Below w.heap.size w W → SlA (slE recE) (· < W.heap.size) W A cd dt → Calls Tryz.prog 9 #[.slice AJ J.length cJ, .slice A dt.length cd] W (AllPost J dt W)) := fun B cd A dt W hb hd =>
    dall_ok (· < W.heap.size) AJ cJ J (· < W.heap.size) A cd dt W ((hJ.keep fun k hk => hb.block k hk).more fun k hk => Nat.lt_of_lt_of_le hk hb.size) (fun _ h => h) hd (fun _ h => h) (hv.below hb) (hT.below hb)
  obtain ⟨hg1, hg2, hg3⟩ := grow_mem w
  have HFACT := Lib.hid (dall_ok (· < (growW2 w).heap.size) (some ⟨w.heap.size + 1, 0, none⟩) 2 growJ (· < (growW2 w).heap.size) (some ⟨w.heap.size + 1 + 1 + 1, 0, none⟩) 1 [litG] (growW2 w) hg1 (fun _ h => h) hg2 (fun _ h => h) (hv.below hg3) (hT.below hg3))
  have HB2 := Lib.hid hg3
  have HD := Lib.hid hD
  clear hg1 hg2 hg3 hJ hD hv hT wcut
  go_enter Tryz.func4, Tryz.ntmps4
  go_wp2_with fail
  change Calls _ _ _ (growW2 w) _
  refine HFACT.out.mono ?_
  rintro e W3 hpost
  obtain ⟨A3, c3, y3, rfl, hs3, hy3, hb3⟩ := fact_grow hpost
  obtain ⟨b3, o3, B3, d3, rfl, _, p3, hx3⟩ := hs3.sl_ (k := 0) (by simp)
  obtain ⟨b4, o4, B4, d4, rfl, _, q3, q4, _, hx4⟩ := hx3.lin_ (k := 0) (by simp)
  simp only [List.getElem_cons_zero, Nat.add_zero, Nat.zero_mul] at p3 q3 q4 hx4
  rw [show List.length [y3] = 1 from rfl] at p3
  rw [hy3] at q4 hx4
  obtain ⟨b5, o5, rfl, _, r4, _⟩ := hx4.int_ (k := 0) (by simp)
  simp only [List.getElem_cons_zero, Nat.add_zero] at r4
  rw [show List.length [(5 : Int)] = 1 from rfl] at q4
  have hc3 : 1 ≤ c3 := hs3.1
  have hd3 : 1 ≤ d3 := hx3.1
  have hd4 : 1 ≤ d4 := hx4.1
  have HB3 := Lib.hid (HB2.out.trans (hb3.mono HB2.out.size))
  clear hpost hs3 hx3 hx4 hy3 hb3 HFACT HB2
  go_wp2_with fail
  clear p3 q3 q4 r4 hc3 hd3 hd4
  refine (HAN.out 0 cD AD data W3 HB3.out ((HD.out.keep fun k hk => HB3.out.block k hk).more fun k hk => Nat.lt_of_lt_of_le hk HB3.out.size)).mono ?_
  rintro e W4 ⟨hbad, hmid, hgood, hb4⟩
  have HB4 := Lib.hid (HB3.out.trans (hb4.mono HB3.out.size))
  by_cases h0 : denErr J data = 0
  · cases hf : flowAll J data with
    | none =>
      have he := hmid h0 hf
      subst he
      clear hbad hmid hgood hb4 h0 hf HAN
      unfold errV
      go_wp2_with fail
      go_ret
      exact ⟨rfl, HB4.out⟩
    | some f' =>
      obtain ⟨A5, c5, out', rfl, hall, hs5⟩ := hgood h0 f' hf
      have HS5 := Lib.hid (hs5.more (F' := (· < W4.heap.size)) fun k hk => hk.2)
      have H0 := Lib.hid h0
      have HF := Lib.hid hf
      have HALL := Lib.hid hall
      have h5l := hs5.le
      have h5c := hs5.1
      clear hbad hmid hgood hb4 h0 hf hs5 hall HB3
      go_wp2_with fail
      go_loopw [12, 13, 14] (fun sv tv iv wx => ∃ (i : Nat) (rs rt : List RowR), i ≤ data.length ∧ rs.length = i ∧ rt.length = i ∧ iv = .int .i64 i ∧ Hid (RowsAt W4.heap.size wx sv tv.ownBlock rs ∧ RowsAt W4.heap.size wx tv sv.ownBlock rt ∧ ∀ k, sv.ownBlock = some k → tv.ownBlock ≠ some k) ∧
        Hid ((∀ (i : Nat) (o : RowR) (d : List Rec), rs[i]? = some o → data[i]? = some d → o.1 = d.take (cutK cut d)) ∧ ∀ (i : Nat) (o : RowR) (d : List Rec), rt[i]? = some o → data[i]? = some d → SortedOf o.1 d) ∧ Hid (Below w.heap.size w wx ∧ Below W4.heap.size W4 wx)) (fun _ _ iv _ => data.length - (intOf iv).toNat)
      case atStart => exact ⟨0, [], [], Nat.zero_le _, rfl, rfl, rfl, ⟨RowsAt.nil _ _ _, RowsAt.nil _ _ _, nofun⟩, ⟨nofun, nofun⟩, HB4.out, Below.refl _ _⟩
      case round =>
        obtain ⟨i, rs, rt, hi, hrs, hrt, rfl, HR, HQ, HB⟩ := hrel
        by_cases hlt : i < data.length
        · have hlen300 : data.length ≤ 1000 := by
            have h1 := (den_split H0.out).2.1
            have h2 := (job_parts (den_split H0.out).1).1
            have h3 : (ofKind J 1).length ≤ J.length := by
              unfold ofKind
              rw [List.length_map]
              exact Nat.le_trans (List.length_filter_le _ _) (by rw [List.length_zipIdx]; exact Nat.le_refl _)
            omega
          obtain ⟨bD, oD, Ad, cd, rfl, _, zD, hd⟩ := HD.out.sl_ hlt
          have hdm := data_ok (den_split H0.out).2.2 _ (List.getElem_mem hlt)
          have hdg : data[i]? = some data[i] := List.getElem?_eq_getElem hlt
          generalize data[i] = d at zD hd hdm hdg
          have hd300 : d.length ≤ 300 := hdm.1
          have hcd := hd.1
          have zW : wr.cell? ⟨bD, oD + i, none⟩ = some (.slice Ad d.length cd) := (HB.out.1.cell (p := ⟨bD, oD + i, none⟩) (by assumption)).trans zD
          have HDI := Lib.hid hd
          have ZD := Lib.hid zD
          have HDG := Lib.hid hdg
          have hkl := cutK_le cut d
          have hkc : cutK cut d ≤ cd := by omega
          clear zD hd hdm hdg
          go_upto_region 13 with (fail)
          go_cut [89] from 72 to 155 (fun bv wx => bv = .bool (decide (0 ≤ cut ∧ cut < d.length)) ∧ wx = wr)
          case first =>
            by_cases h1 : 0 ≤ cut
            · have d1 : decide (0 ≤ cut) = true := decide_eq_true h1
              by_cases h2 : cut < d.length
              · have d2 : decide (cut < (d.length : Int)) = true := decide_eq_true h2
                go_wp2_with fail
                go_meet
                case rel => exact ⟨by rw [decide_eq_true (show 0 ≤ cut ∧ cut < (d.length : Int) from ⟨h1, h2⟩)], rfl⟩
              · have d2 : decide (cut < (d.length : Int)) = false := decide_eq_false h2
                go_wp2_with fail
                go_meet
                case rel => exact ⟨by rw [decide_eq_false (show ¬ (0 ≤ cut ∧ cut < (d.length : Int)) by omega)], rfl⟩
            · have d1 : decide (0 ≤ cut) = false := decide_eq_false h1
              go_wp2_with fail
              go_meet
              case rel => exact ⟨by rw [decide_eq_false (show ¬ (0 ≤ cut ∧ cut < (d.length : Int)) by omega)], rfl⟩
          case rest =>
          obtain ⟨hbv, hw⟩ := hcut
          obtain rfl := hw.symm
          obtain ⟨bt, hbt⟩ : ∃ bt, bt = decide (0 ≤ cut ∧ cut < (d.length : Int)) := ⟨_, rfl⟩
          rw [← hbt] at hbv
          obtain rfl := hbv
          have HBT := Lib.hid hbt
          clear hbt
          go_upto_if 89 with (fail)
          go_cut [15] from 72 to 155 (fun kv wx => kv = .int .i64 (cutK cut d) ∧ wx = wr)
          case first =>
            by_cases h1 : 0 ≤ cut ∧ cut < d.length
            · obtain rfl : bt = true := HBT.out.trans (decide_eq_true h1)
              have hk2 : cutK cut d = cut.toNat := by unfold cutK; rw [if_pos h1]
              go_wp2_with fail
              go_meet
              case rel => exact ⟨by rw [hk2, Int.toNat_of_nonneg h1.1], rfl⟩
            · obtain rfl : bt = false := HBT.out.trans (decide_eq_false h1)
              have hk2 : cutK cut d = d.length := by unfold cutK; rw [if_neg h1]
              go_wp2_with fail
              go_meet
              case rel => exact ⟨by rw [hk2], rfl⟩
          case rest =>
            obtain ⟨rfl, hw⟩ := hcut
            obtain rfl := hw.symm
            have hB4 := HB4.out.size
            have hBr := HB.out.2.size
            have hk63 : (cutK cut d : Nat) ≤ 300 := by omega
            have HO : Hid (wr.ownsRow W4.heap.size 22 1 u12 i (rs.flatMap rowRC)) := by rw [← hrs]; exact HR.out.1.own
            go_wp2_with (at_builtin; refine wpList_push (w0 := wr) rfl _ _ 38 rfl W4.heap.size 22 (.slice none 0 0) 1 24 Tryz.underlying38 info_rows rfl (by decide) u12 i _ rfl HO.out [.slice Ad (cutK cut d) cd] (by simp [Act.eval]) rfl ?_ ?_ ?_ HB.out.2.size HB.out.2 (Nat.le_refl _) ?_)
            · rfl
            · unfold maxLen; omega
            · omega
            · intro v8 w8 hown8 hg8 hb8 hat8
              have hkt : (d.take (cutK cut d)).length = cutK cut d := by rw [List.length_take]; omega
              have hRo : RowsAt W4.heap.size w8 v8 u13.ownBlock (rs ++ [(d.take (cutK cut d), (Ad, cd))]) := by
                refine HR.out.1.push hg8 (by rw [hrs]; unfold rowRC; rw [hkt]; exact hown8) hat8 (((HDI.out.head hkl).keep fun q hq => HB.out.1.block q hq).more fun q hq => ⟨Nat.lt_of_lt_of_le hq HB.out.1.size, fun e => ?_, fun e => ?_⟩)
                · have := (HR.out.1.own.lt q e).1; omega
                · have := (HR.out.2.1.own.lt q e).1; omega
              have hRt : RowsAt W4.heap.size w8 u13 v8.ownBlock rt := HR.out.2.1.other hg8 (fun k e e2 => HR.out.2.2 k e2 e) hat8
              have hne : ∀ k, v8.ownBlock = some k → u13.ownBlock ≠ some k := fun k e e2 => by
                rcases hat8 with h | ⟨g, h, hg⟩
                · exact HR.out.2.2 k (h ▸ e) e2
                · rw [h] at e; injection e with e
                  have := (HR.out.2.1.own.lt k e2).2; omega
              have hQ8 : ∀ (j : Nat) (o : RowR) (d' : List Rec), (rs ++ [(d.take (cutK cut d), (Ad, cd))])[j]? = some o → data[j]? = some d' → o.1 = d'.take (cutK cut d') := fun j o d' ho hd' => by
                rcases Nat.lt_or_ge j rs.length with hj | hj
                · rw [List.getElem?_append_left hj] at ho; exact HQ.out.1 j o d' ho hd'
                · have hjl : j < (rs ++ [(d.take (cutK cut d), (Ad, cd))]).length := (List.getElem?_eq_some_iff.1 ho).1
                  have hje : j = rs.length := by rw [List.length_append, List.length_singleton] at hjl; omega
                  subst hje
                  rw [List.getElem?_append_right (Nat.le_refl _), Nat.sub_self] at ho
                  injection ho with ho
                  subst ho
                  rw [hrs, HDG.out] at hd'; injection hd' with hd'; rw [hd']
              have hBw8 : Below w.heap.size w w8 := HB4.out.trans (hb8.mono hB4)
              have zW : w8.cell? ⟨bD, oD + i, none⟩ = some (.slice Ad d.length cd) := (hBw8.cell (p := ⟨bD, oD + i, none⟩) (by assumption)).trans ZD.out
              have HR8 := Lib.hid (And.intro hRo (And.intro hRt hne))
              have HQ8 := Lib.hid hQ8
              have HB8 := Lib.hid (And.intro hBw8 hb8)
              have HDR := Lib.hid (recs_fine HDI.out)
              have hw8 := hBw8.size
              clear hown8 hg8 hb8 hat8 hRo hRt hne hQ8 hBw8 HO HR HB hkt
              go_wp2_with fail
              go_loopw [16, 17] (fun ssv jv wx => ∃ (j : Nat) (ss : List Rec), j ≤ d.length ∧ jv = .int .i64 j ∧ ss.length = j ∧ Hid (SortedOf ss (d.take j)) ∧ Hid (wx.ownsRow w8.heap.size 30 3 ssv ss.length (ss.flatMap recCells)) ∧ Hid (j = 0 → ssv = .slice none 0 0) ∧ Hid (Below w8.heap.size w8 wx)) (fun _ jv _ => d.length - (intOf jv).toNat)
              case atStart => exact ⟨0, [], Nat.zero_le _, rfl, rfl, fun _ => rfl, World.ownsRow_nil _ _ _ _, fun _ => rfl, Below.refl _ _⟩
              case round =>
                obtain ⟨j, ss, hj, rfl, hsl, HS, HO, HZ, HBx⟩ := hrel
                have zX : wr.cell? ⟨bD, oD + i, none⟩ = some (.slice Ad d.length cd) := (HBx.out.cell (p := ⟨bD, oD + i, none⟩) (by show bD < _; omega)).trans zW
                by_cases hjl : j < d.length
                · have hAR := HDI.out.rec_ hjl
                  obtain ⟨bR, oR, hAd, hbR, a0, a1, a2, -, -, -⟩ := hAR
                  subst hAd
                  have HTK := Lib.hid (List.take_succ_eq_append_getElem hjl)
                  generalize d[j] = r at a0 a1 a2 HTK
                  obtain ⟨rk, rn, rt0⟩ := r
                  simp only at a0 a1 a2
                  have hBwx : Below w.heap.size w wr := HB8.out.1.trans (HBx.out.mono HB8.out.1.size)
                  have hHX := HBx.out.size
                  have y0 := (hBwx.cell (p := ⟨bR, oR + j * 3, none⟩) hbR).trans a0
                  have y1 := (hBwx.cell (p := ⟨bR, oR + j * 3 + 1, none⟩) hbR).trans a1
                  have y2 := (hBwx.cell (p := ⟨bR, oR + j * 3 + 2, none⟩) hbR).trans a2
                  have hwr := hBwx.size
                  have hmemD : ∀ x ∈ ss, RecOk x := fun x hx => HDR.out x (List.mem_of_mem_take (HS.out.mem hx))
                  obtain ⟨As, cs, hss, hsm⟩ := own_recs_ HO.out hmemD
                  rw [hsl] at hss
                  clear a0 a1 a2 hBwx hmemD
                  by_cases hj0 : j = 0
                  · have hn0 : ss = [] := List.length_eq_zero_iff.1 (hsl.trans hj0)
                    have hv0 := HZ.out hj0
                    have HJ0 := Lib.hid hj0
                    clear hss hsm
                    subst hn0
                    clear hsl hj0 HZ
                    obtain rfl := hv0
                    have HS1 : Hid (∀ q, Src Tryz.prog 3 22 (.slice none 0 0) 0 (([] : List Rec).flatMap recCells) (wr.drewN q)) := fun q => src_recsG (SlA.nil recE (fun _ => True) _ none 0 (Nat.zero_le _))
                    have HS2 : Hid (∀ W, Below wr.heap.size wr W → Src Tryz.prog 3 22 (.slice none 0 0) 0 (([] : List Rec).flatMap recCells) W) := fun W _ => src_recsG (SlA.nil recE (fun _ => True) _ none 0 (Nat.zero_le _))
                    go_wp2_with fail
                    go_loopw [18] (fun mv wx => mv = .int .i64 0 ∧ ∃ q, wx = wr.drewN q) (fun mv _ => (intOf mv).toNat)
                    case atStart => exact ⟨rfl, 0, rfl⟩
                    case round =>
                      obtain ⟨rfl, q, rfl⟩ := hrel
                      go_upto_region 21 with (fail)
                      go_cut [129] from 111 to 131 (fun bv wx => bv = .bool false ∧ ∃ q2, wx = wr.drewN q2)
                      case first =>
                        go_quiet (fail)
                        go_wp2_with fail
                        go_meet
                        case rel => exact ⟨rfl, _, by first | rfl | exact World.drewN_drewN _ _ _⟩
                      case rest =>
                        obtain ⟨rfl, q2, rfl⟩ := hcut
                        clear q
                        generalize q2 = q
                        have HM : Hid (∀ x ∈ ([] : List Rec).drop 0, x.key ≠ rk) := fun x hx => by cases hx
                        have HSa := Lib.hid (HS1.out q)
                        go_wp2_with (at_builtin; refine wpList_append_src (w := wr.drewN q) rfl _ _ 22 22 rfl wr.heap.size 30 _ 3 32 Tryz.underlying22 info_recA rfl (by decide) (.slice none 0 0) 0 [] rfl (World.ownsRow_nil _ _ _ _) (.slice none 0 0) rfl 0 ((([] : List Rec)).flatMap recCells) HSa.out ?_ ?_ (Nat.le_refl _) (bdrewN (Below.refl _ _) q) (Nat.le_refl _) ?_)
                        · unfold maxLen; omega
                        · omega
                        · intro v1 w1 hown1 hg1 hb1 hat1
                          try simp only [Nat.zero_add, List.nil_append] at hown1
                          have x0 := (hb1.cell (p := ⟨bR, oR + j * 3, none⟩) (by show bR < _; omega)).trans y0
                          have x1 := (hb1.cell (p := ⟨bR, oR + j * 3 + 1, none⟩) (by show bR < _; omega)).trans y1
                          have x2 := (hb1.cell (p := ⟨bR, oR + j * 3 + 2, none⟩) (by show bR < _; omega)).trans y2
                          have xz := (hb1.cell (p := ⟨bD, oD + i, none⟩) (by show bD < _; omega)).trans zX
                          have HO1 := Lib.hid hown1
                          have HB1 := Lib.hid hb1
                          have hz1 := hb1.size
                          clear hown1 hg1 hb1 hat1
                          go_wp2_with (at_builtin; refine wpList_push (w0 := w1) rfl _ _ 22 rfl wr.heap.size 30 _ 3 32 Tryz.underlying22 info_recA rfl (by decide) v1 0 _ rfl HO1.out [.string rk, .int .i64 rn, .int .i64 rt0] (by simp [Act.eval]) rfl ?_ ?_ ?_ HB1.out.size HB1.out (Nat.le_refl _) ?_)
                          · rintro u hu; simp only [List.mem_cons, List.not_mem_nil, or_false] at hu; rcases hu with rfl | rfl | rfl <;> rfl
                          · unfold maxLen; omega
                          · omega
                          · intro v2 w2 hown2 hg2 hb2 hat2
                            have HO2 := Lib.hid hown2
                            have HB2 := Lib.hid hb2
                            have hz2 := hb2.size
                            have HSR := Lib.hid (HS2.out w2 hb2)
                            clear hown2 hg2 hb2 hat2 HO1 HB1 x0 x1 x2 xz
                            go_wp2_with (at_builtin; refine wpList_append_src (w := w2) rfl _ _ 22 22 rfl wr.heap.size 30 _ 3 32 Tryz.underlying22 info_recA rfl (by decide) v2 (0 + 1) _ rfl HO2.out (.slice none 0 0) rfl 0 ((([] : List Rec)).flatMap recCells) HSR.out ?_ ?_ HB2.out.size HB2.out (Nat.le_refl _) ?_)
                            · unfold maxLen; omega
                            · omega
                            · intro v3 w3 hown3 hg3 hb3 hat3
                              have HO3 : Hid (w3.ownsRow w8.heap.size 30 3 v3 (([] : List Rec) ++ [(⟨rk, rn, rt0⟩ : Rec)] ++ ([] : List Rec)).length ((([] : List Rec) ++ [(⟨rk, rn, rt0⟩ : Rec)] ++ ([] : List Rec)).flatMap recCells)) := by
                                have e1 : (([] : List Rec) ++ [(⟨rk, rn, rt0⟩ : Rec)] ++ ([] : List Rec)).length = 0 + 1 + 0 := by first | rfl | (rw [HJ0.out]; rfl)
                                rw [e1, List.flatMap_append, List.flatMap_append]
                                first | exact own_base hown3 hHX | (rw [List.append_assoc]; exact own_base hown3 hHX)
                              have HLN : Hid ((([] : List Rec) ++ [(⟨rk, rn, rt0⟩ : Rec)] ++ ([] : List Rec)).length = j + 1) := by show _ = _; first | rfl | (rw [HJ0.out]; rfl)
                              have HB3 := Lib.hid (HBx.out.trans (hb3.mono HBx.out.size))
                              have HS3 := Lib.hid (HS.out.put (r := ⟨rk, rn, rt0⟩) (m := 0) HM.out)
                              clear hown3 hg3 hb3 hat3 HO2 HB2 HSR HBx HS HO HM
                              go_wp2_with fail
                              refine ⟨⟨j + 1, ([] : List Rec) ++ [(⟨rk, rn, rt0⟩ : Rec)] ++ ([] : List Rec), by omega, by go_num, HLN.out, ?_, HO3, fun h => by omega, HB3⟩, ?_⟩
                              · show SortedOf _ _; rw [HTK.out]; exact HS3.out
                              · simp [intOf]; omega
                  · obtain ⟨bs, os_, hAs, hbs, -⟩ := hsm.rec_ (k := 0) (by omega)
                    subst hAs
                    obtain rfl := hss
                    have hcs := hsm.1
                    rw [hsl] at hcs
                    have HSM := Lib.hid hsm
                    clear hsm
                    go_wp2_with fail
                    go_loopw [18] (fun mv wx => ∃ m : Nat, m ≤ j ∧ mv = .int .i64 m ∧ Hid (∀ x ∈ ss.drop m, x.key ≠ rk) ∧ ∃ q, wx = wr.drewN q) (fun mv _ => (intOf mv).toNat)
                    case atStart => exact ⟨j, Nat.le_refl _, rfl, (fun x hx => by rw [List.drop_eq_nil_of_le (by omega)] at hx; cases hx), 0, rfl⟩
                    case round =>
                      obtain ⟨m, hm, rfl, HM, q, rfl⟩ := hrel
                      go_upto_region 21 with (fail)
                      go_cut [129] from 111 to 131 (fun bv wx => (∃ bt : Bool, bv = .bool bt ∧ Hid (bt = true → 0 < m ∧ ∀ x, ss[m - 1]? = some x → x.key ≠ rk)) ∧ ∃ q2, wx = wr.drewN q2)
                      case first =>
                        by_cases hm0 : m = 0
                        · subst hm0
                          have d0 : decide (0 < 0) = false := rfl
                          go_quiet (fail)
                          go_wp2_with fail
                          go_meet
                          case rel => exact ⟨⟨false, rfl, fun h => by cases h⟩, _, by first | rfl | exact World.drewN_drewN _ _ _⟩
                        · obtain ⟨m', rfl⟩ : ∃ m', m = m' + 1 := ⟨m - 1, by omega⟩
                          obtain ⟨b9, o9, hb9, -, z0, -, -, -, -, -⟩ := HSM.out.rec_ (k := m') (by omega)
                          injection hb9 with hb9
                          injection hb9 with e1 e2
                          subst e1; subst e2
                          have hg9 := List.getElem?_eq_getElem (l := ss) (i := m') (by omega)
                          generalize ss[m'] = zz at z0 hg9
                          obtain ⟨zk, zn, zt⟩ := zz
                          simp only at z0
                          have HG9 := Lib.hid hg9
                          have e1 : ((m' + 1 : Nat) : Int) - 1 = (m' : Int) := by omega
                          have d0 : decide (0 < m' + 1) = true := decide_eq_true (by omega)
                          clear hg9
                          by_cases hg : (Op.bytesLess zk.toList rk.toList || zk.toList == rk.toList) = true
                          · go_quiet (fail)
                            go_wp2_with fail
                            go_meet
                            case rel => exact ⟨⟨false, rfl, fun h => by cases h⟩, _, by first | rfl | exact World.drewN_drewN _ _ _⟩
                          · have hg' : (Op.bytesLess zk.toList rk.toList || zk.toList == rk.toList) = false := by simpa using hg
                            have hne9 : zk ≠ rk := fun e => by rw [e] at hg; exact hg (by simp)
                            have HNE := Lib.hid hne9
                            clear hg hne9
                            go_quiet (fail)
                            go_wp2_with fail
                            go_meet
                            case rel => exact ⟨⟨true, rfl, fun _ => ⟨by omega, fun x hx => by rw [show m' + 1 - 1 = m' from rfl, HG9.out] at hx; injection hx with hx; rw [← hx]; exact HNE.out⟩⟩, _, by first | rfl | exact World.drewN_drewN _ _ _⟩
                      case rest =>
                        obtain ⟨⟨bt, rfl, HBT⟩, q2, rfl⟩ := hcut
                        clear q
                        generalize q2 = q
                        cases bt with
                        | true =>
                          obtain ⟨hm0, hx⟩ := HBT.out rfl
                          obtain ⟨m', rfl⟩ : ∃ m', m = m' + 1 := ⟨m - 1, by omega⟩
                          have HM2 : Hid (∀ x ∈ ss.drop m', x.key ≠ rk) := fun x hxm => by
                            rw [List.drop_eq_getElem_cons (by omega)] at hxm
                            rcases List.mem_cons.1 hxm with rfl | hxm
                            · exact hx _ (List.getElem?_eq_getElem (by omega))
                            · exact HM.out x hxm
                          clear hx HM HBT hm0
                          go_wp2_with fail
                          go_roundw
                          case rel => exact ⟨m', by omega, by go_num, HM2, q, rfl⟩
                          case measure => simp [intOf]
                        | false =>
                          have hlt2 : (ss.take m).length = m := by rw [List.length_take]; omega
                          have hld : (ss.drop m).length = j - m := by rw [List.length_drop]; omega
                          have HS1 : Hid (Src Tryz.prog 3 22 (.slice (some ⟨bs, os_, none⟩) m cs) m ((ss.take m).flatMap recCells) (wr.drewN q)) := by
                            have h := src_recsG ((HSM.out.head (k := m) (by omega)).drewN q)
                            rw [hlt2] at h; exact h
                          have HS2 : Hid (∀ W, Below wr.heap.size wr W → Src Tryz.prog 3 22 (.slice (some ⟨bs, os_ + m * 3, none⟩) (j - m) (cs - m)) (j - m) ((ss.drop m).flatMap recCells) W) := fun W hb => by
                            have h := src_recsG ((HSM.out.keep fun k hk => hb.block k hk.2).cut (k := m) (by omega))
                            rw [hld] at h; exact h
                          have HLT := Lib.hid hlt2
                          have HLD := Lib.hid hld
                          clear hlt2 hld HBT HSM
                          by_cases hmc : cs = m
                          · have hjm : j - m = 0 := by omega
                            have hje0 : m = j := by omega
                            have HDN : Hid (ss.drop m = []) := List.drop_eq_nil_of_le (by omega)
                            have HJ0 : Hid (j - m = 0) := hjm
                            obtain rfl : m = cs := hmc.symm
                            have HS2n : Hid (∀ W, Below wr.heap.size wr W → Src Tryz.prog 3 22 (.slice (some ⟨bs, os_, none⟩) 0 0) 0 ((ss.drop m).flatMap recCells) W) := fun W hb => by
                              have h := src_recsG (SlA.nil recE (fun _ => True) W (some ⟨bs, os_, none⟩) 0 (by unfold maxLen; omega))
                              rw [HDN.out]; exact h
                            clear HS2
                            subst hje0
                            clear hjm
                            go_wp2_with (at_builtin; refine wpList_append_src (w := wr.drewN q) rfl _ _ 22 22 rfl wr.heap.size 30 _ 3 32 Tryz.underlying22 info_recA rfl (by decide) (.slice none 0 0) 0 [] rfl (World.ownsRow_nil _ _ _ _) (.slice (some ⟨bs, os_, none⟩) m m) rfl m ((ss.take m).flatMap recCells) HS1.out ?_ ?_ (Nat.le_refl _) (bdrewN (Below.refl _ _) q) (Nat.le_refl _) ?_)
                            · unfold maxLen; omega
                            · omega
                            · intro v1 w1 hown1 hg1 hb1 hat1
                              try simp only [Nat.zero_add, List.nil_append] at hown1
                              have x0 := (hb1.cell (p := ⟨bR, oR + m * 3, none⟩) (by show bR < _; omega)).trans y0
                              have x1 := (hb1.cell (p := ⟨bR, oR + m * 3 + 1, none⟩) (by show bR < _; omega)).trans y1
                              have x2 := (hb1.cell (p := ⟨bR, oR + m * 3 + 2, none⟩) (by show bR < _; omega)).trans y2
                              have xz := (hb1.cell (p := ⟨bD, oD + i, none⟩) (by show bD < _; omega)).trans zX
                              have HO1 := Lib.hid hown1
                              have HB1 := Lib.hid hb1
                              have hz1 := hb1.size
                              clear hown1 hg1 hb1 hat1
                              go_wp2_with (at_builtin; refine wpList_push (w0 := w1) rfl _ _ 22 rfl wr.heap.size 30 _ 3 32 Tryz.underlying22 info_recA rfl (by decide) v1 m _ rfl HO1.out [.string rk, .int .i64 rn, .int .i64 rt0] (by simp [Act.eval]) rfl ?_ ?_ ?_ HB1.out.size HB1.out (Nat.le_refl _) ?_)
                              · rintro u hu; simp only [List.mem_cons, List.not_mem_nil, or_false] at hu; rcases hu with rfl | rfl | rfl <;> rfl
                              · unfold maxLen; omega
                              · omega
                              · intro v2 w2 hown2 hg2 hb2 hat2
                                have HO2 := Lib.hid hown2
                                have HB2 := Lib.hid hb2
                                have hz2 := hb2.size
                                have HSR := Lib.hid (HS2n.out w2 hb2)
                                clear hown2 hg2 hb2 hat2 HO1 HB1 x0 x1 x2 xz
                                go_wp2_with (at_builtin; refine wpList_append_src (w := w2) rfl _ _ 22 22 rfl wr.heap.size 30 _ 3 32 Tryz.underlying22 info_recA rfl (by decide) v2 (m + 1) _ rfl HO2.out (.slice (some ⟨bs, os_, none⟩) 0 0) rfl 0 ((ss.drop m).flatMap recCells) HSR.out ?_ ?_ HB2.out.size HB2.out (Nat.le_refl _) ?_)
                                · unfold maxLen; omega
                                · omega
                                · intro v3 w3 hown3 hg3 hb3 hat3
                                  have HO3 : Hid (w3.ownsRow w8.heap.size 30 3 v3 (ss.take m ++ [(⟨rk, rn, rt0⟩ : Rec)] ++ ss.drop m).length ((ss.take m ++ [(⟨rk, rn, rt0⟩ : Rec)] ++ ss.drop m).flatMap recCells)) := by
                                    have e1 : (ss.take m ++ [(⟨rk, rn, rt0⟩ : Rec)] ++ ss.drop m).length = m + 1 + 0 := by rw [List.length_append, List.length_append, HLT.out, HLD.out, List.length_singleton]; try omega
                                    rw [e1, List.flatMap_append, List.flatMap_append]
                                    first | exact own_base hown3 hHX | (rw [List.append_assoc]; exact own_base hown3 hHX)
                                  have HLN : Hid ((ss.take m ++ [(⟨rk, rn, rt0⟩ : Rec)] ++ ss.drop m).length = m + 1) := by show _ = _; rw [List.length_append, List.length_append, HLT.out, HLD.out, List.length_singleton]; try omega
                                  have HB3 := Lib.hid (HBx.out.trans (hb3.mono HBx.out.size))
                                  have HS3 := Lib.hid (HS.out.put (r := ⟨rk, rn, rt0⟩) (m := m) HM.out)
                                  clear hown3 hg3 hb3 hat3 HO2 HB2 HSR HBx HS HO HM
                                  go_wp2_with fail
                                  refine ⟨⟨m + 1, ss.take m ++ [(⟨rk, rn, rt0⟩ : Rec)] ++ ss.drop m, by omega, by go_num, HLN.out, ?_, HO3, fun h => by omega, HB3⟩, ?_⟩
                                  · show SortedOf _ _; rw [HTK.out]; exact HS3.out
                                  · simp [intOf]; omega
                          · have dm : (cs == m) = false := by rw [beq_eq_false_iff_ne]; exact hmc
                            go_wp2_with (at_builtin; refine wpList_append_src (w := wr.drewN q) rfl _ _ 22 22 rfl wr.heap.size 30 _ 3 32 Tryz.underlying22 info_recA rfl (by decide) (.slice none 0 0) 0 [] rfl (World.ownsRow_nil _ _ _ _) (.slice (some ⟨bs, os_, none⟩) m cs) rfl m ((ss.take m).flatMap recCells) HS1.out ?_ ?_ (Nat.le_refl _) (bdrewN (Below.refl _ _) q) (Nat.le_refl _) ?_)
                            · unfold maxLen; omega
                            · omega
                            · intro v1 w1 hown1 hg1 hb1 hat1
                              try simp only [Nat.zero_add, List.nil_append] at hown1
                              have x0 := (hb1.cell (p := ⟨bR, oR + j * 3, none⟩) (by show bR < _; omega)).trans y0
                              have x1 := (hb1.cell (p := ⟨bR, oR + j * 3 + 1, none⟩) (by show bR < _; omega)).trans y1
                              have x2 := (hb1.cell (p := ⟨bR, oR + j * 3 + 2, none⟩) (by show bR < _; omega)).trans y2
                              have xz := (hb1.cell (p := ⟨bD, oD + i, none⟩) (by show bD < _; omega)).trans zX
                              have HO1 := Lib.hid hown1
                              have HB1 := Lib.hid hb1
                              have hz1 := hb1.size
                              clear hown1 hg1 hb1 hat1
                              go_wp2_with (at_builtin; refine wpList_push (w0 := w1) rfl _ _ 22 rfl wr.heap.size 30 _ 3 32 Tryz.underlying22 info_recA rfl (by decide) v1 m _ rfl HO1.out [.string rk, .int .i64 rn, .int .i64 rt0] (by simp [Act.eval]) rfl ?_ ?_ ?_ HB1.out.size HB1.out (Nat.le_refl _) ?_)
                              · rintro u hu; simp only [List.mem_cons, List.not_mem_nil, or_false] at hu; rcases hu with rfl | rfl | rfl <;> rfl
                              · unfold maxLen; omega
                              · omega
                              · intro v2 w2 hown2 hg2 hb2 hat2
                                have HO2 := Lib.hid hown2
                                have HB2 := Lib.hid hb2
                                have hz2 := hb2.size
                                have HSR := Lib.hid (HS2.out w2 hb2)
                                clear hown2 hg2 hb2 hat2 HO1 HB1 x0 x1 x2 xz
                                go_wp2_with (at_builtin; refine wpList_append_src (w := w2) rfl _ _ 22 22 rfl wr.heap.size 30 _ 3 32 Tryz.underlying22 info_recA rfl (by decide) v2 (m + 1) _ rfl HO2.out (.slice (some ⟨bs, os_ + m * 3, none⟩) (j - m) (cs - m)) rfl (j - m) ((ss.drop m).flatMap recCells) HSR.out ?_ ?_ HB2.out.size HB2.out (Nat.le_refl _) ?_)
                                · unfold maxLen; omega
                                · omega
                                · intro v3 w3 hown3 hg3 hb3 hat3
                                  have HO3 : Hid (w3.ownsRow w8.heap.size 30 3 v3 (ss.take m ++ [(⟨rk, rn, rt0⟩ : Rec)] ++ ss.drop m).length ((ss.take m ++ [(⟨rk, rn, rt0⟩ : Rec)] ++ ss.drop m).flatMap recCells)) := by
                                    have e1 : (ss.take m ++ [(⟨rk, rn, rt0⟩ : Rec)] ++ ss.drop m).length = m + 1 + (j - m) := by rw [List.length_append, List.length_append, HLT.out, HLD.out, List.length_singleton]; try omega
                                    rw [e1, List.flatMap_append, List.flatMap_append]
                                    first | exact own_base hown3 hHX | (rw [List.append_assoc]; exact own_base hown3 hHX)
                                  have HLN : Hid ((ss.take m ++ [(⟨rk, rn, rt0⟩ : Rec)] ++ ss.drop m).length = j + 1) := by show _ = _; rw [List.length_append, List.length_append, HLT.out, HLD.out, List.length_singleton]; try omega
                                  have HB3 := Lib.hid (HBx.out.trans (hb3.mono HBx.out.size))
                                  have HS3 := Lib.hid (HS.out.put (r := ⟨rk, rn, rt0⟩) (m := m) HM.out)
                                  clear hown3 hg3 hb3 hat3 HO2 HB2 HSR HBx HS HO HM
                                  go_wp2_with fail
                                  refine ⟨⟨j + 1, ss.take m ++ [(⟨rk, rn, rt0⟩ : Rec)] ++ ss.drop m, by omega, by go_num, HLN.out, ?_, HO3, fun h => by omega, HB3⟩, ?_⟩
                                  · show SortedOf _ _; rw [HTK.out]; exact HS3.out
                                  · simp [intOf]; omega
                · have hje : j = d.length := by omega
                  have dj : decide (j < d.length) = false := decide_eq_false hjl
                  have hSd : SortedOf ss d := by
                    have := HS.out
                    rw [hje, List.take_length] at this
                    exact this
                  obtain ⟨As, cs, hss, hsm⟩ := own_recs_ HO.out (fun r hr => HDR.out r (hSd.mem hr))
                  obtain ⟨ssl, hssl⟩ : ∃ n, n = ss.length := ⟨_, rfl⟩
                  rw [← hssl] at hss
                  obtain rfl := hss
                  have hHX := HBx.out.size
                  have hRo : RowsAt W4.heap.size wr v8 u13.ownBlock _ := HR8.out.1.below HBx.out
                  have hRt : RowsAt W4.heap.size wr u13 v8.ownBlock rt := HR8.out.2.1.below HBx.out
                  have HBW : Hid (Below W4.heap.size W4 wr) := HB8.out.2.trans (HBx.out.mono HB8.out.2.size)
                  have HBWw : Hid (Below w.heap.size w wr) := HB8.out.1.trans (HBx.out.mono HB8.out.1.size)
                  have hwr := HBW.out.size
                  have HO2 : Hid (wr.ownsRow W4.heap.size 22 1 u13 i (rt.flatMap rowRC)) := by rw [← hrt]; exact hRt.own
                  have HRO := Lib.hid hRo
                  have HRT := Lib.hid hRt
                  have HSM := Lib.hid hsm
                  have HSD := Lib.hid hSd
                  have HSL := Lib.hid hssl
                  have HJE := Lib.hid hje
                  clear hRo hRt hsm hSd hssl hje HS HO HZ hsl hj hjl
                  go_wp2_with (at_builtin; refine wpList_push (w0 := wr) rfl _ _ 38 rfl W4.heap.size 22 (.slice none 0 0) 1 24 Tryz.underlying38 info_rows rfl (by decide) u13 i _ rfl HO2.out [.slice As ssl cs] (by simp [Act.eval]) rfl ?_ ?_ ?_ HBW.out.size HBW.out (Nat.le_refl _) ?_)
                  · rintro u hu; rw [List.mem_singleton.1 hu]; rfl
                  · unfold maxLen; omega
                  · omega
                  · intro v9 w9 hown9 hg9 hb9 hat9
                    have h1 : RowsAt W4.heap.size w9 v9 v8.ownBlock (rt ++ [(ss, (As, cs))]) := by
                      refine HRT.out.push hg9 (by rw [hrt]; unfold rowRC; rw [← HSL.out]; exact hown9) hat9 (HSM.out.more fun q hq => ⟨hq.2, fun e => ?_, fun e => ?_⟩)
                      · have := (HR8.out.2.1.own.lt q e).2; omega
                      · have := (HR8.out.1.own.lt q e).2; omega
                    have h2 : RowsAt W4.heap.size w9 v8 v9.ownBlock _ := HRO.out.other hg9 (fun k e e2 => HR8.out.2.2 k e e2) hat9
                    have h3 : ∀ k, v8.ownBlock = some k → v9.ownBlock ≠ some k := fun k e e2 => by
                      rcases hat9 with h | ⟨g, h, hg⟩
                      · exact HR8.out.2.2 k e (h ▸ e2)
                      · rw [h] at e2; injection e2 with e2
                        have := (HRO.out.own.lt k e).2; omega
                    have h4 : ∀ (j : Nat) (o : RowR) (d' : List Rec), (rt ++ [(ss, (As, cs))])[j]? = some o → data[j]? = some d' → SortedOf o.1 d' := fun j o d' ho hd' => by
                      rcases Nat.lt_or_ge j rt.length with hj | hj
                      · rw [List.getElem?_append_left hj] at ho; exact HQ.out.2 j o d' ho hd'
                      · have hjl : j < (rt ++ [(ss, (As, cs))]).length := (List.getElem?_eq_some_iff.1 ho).1
                        have hje : j = rt.length := by rw [List.length_append, List.length_singleton] at hjl; omega
                        subst hje
                        rw [List.getElem?_append_right (Nat.le_refl _), Nat.sub_self] at ho
                        injection ho with ho
                        subst ho
                        rw [hrt, HDG.out] at hd'; injection hd' with hd'; rw [← hd']; exact HSD.out
                    have HE1 := Lib.hid (And.intro h2 (And.intro h1 h3))
                    have HE2 := Lib.hid (And.intro HQ8.out h4)
                    have HE3 := Lib.hid (And.intro (HB4.out.trans (hb9.mono HB4.out.size)) hb9)
                    clear hown9 hg9 hb9 hat9 h1 h2 h3 h4 HO2 HRO HRT HBW HBWw HR8 HQ8 HB8 HQ HBx
                    go_wp2_with fail
                    refine ⟨⟨i + 1, rs ++ [(d.take (cutK cut d), (Ad, cd))], rt ++ [(ss, (As, cs))], by omega, by simp [hrs], by simp [hrt], by go_num, HE1, HE2, HE3⟩, ?_⟩
                    simp [intOf]; omega
        · have hii : i = data.length := by omega
          have dlt : decide (i < data.length) = false := decide_eq_false hlt
          obtain ⟨A12, c12, hu12, hs12⟩ := HR.out.1.sl
          obtain ⟨A13, c13, hu13, hs13⟩ := HR.out.2.1.sl
          rw [hrs] at hu12
          rw [hrt] at hu13
          obtain rfl := hu12
          obtain rfl := hu13
          have hgS : ∀ (k : Nat) (x y : List Rec), (rs.map (·.1))[k]? = some x → data[k]? = some y → x = y.take (cutK cut y) := fun k x y hx hy => by
            rw [List.getElem?_map] at hx
            cases ho : rs[k]? with
            | none => rw [ho] at hx; cases hx
            | some o => rw [ho] at hx; injection hx with hx; rw [← hx]; exact HQ.out.1 k o y ho hy
          have hgT : ∀ (k : Nat) (x y : List Rec), (rt.map (·.1))[k]? = some x → data[k]? = some y → SortedOf x y := fun k x y hx hy => by
            rw [List.getElem?_map] at hx
            cases ho : rt[k]? with
            | none => rw [ho] at hx; cases hx
            | some o => rw [ho] at hx; injection hx with hx; rw [← hx]; exact HQ.out.2 k o y ho hy
          have hlS : (rs.map (·.1)).length = data.length := by rw [List.length_map]; omega
          have hlT : (rt.map (·.1)).length = data.length := by rw [List.length_map]; omega
          have HPS := Lib.hid (show PreD (rs.map (·.1)) data ∧ (∀ (i : Nat) (x y : List Rec), (rs.map (·.1))[i]? = some x → data[i]? = some y → ∀ r ∈ x, r ∈ y) from ⟨⟨hlS, fun k x y hx hy => by rw [hgS k x y hx hy]; exact Pre.of (List.take_prefix _ _)⟩, fun k x y hx hy r hr => show r ∈ y from List.mem_of_mem_take (i := cutK cut y) (by rw [← hgS k x y hx hy]; exact hr)⟩)
          have HPT := Lib.hid (show PreD (rt.map (·.1)) data ∧ PreD data (rt.map (·.1)) ∧ (∀ (i : Nat) (x y : List Rec), (rt.map (·.1))[i]? = some x → data[i]? = some y → ∀ r ∈ x, r ∈ y) from ⟨⟨hlT, fun k x y hx hy q => by rw [hgT k x y hx hy q]; exact List.prefix_refl _⟩, ⟨hlT.symm, fun k x y hx hy q => by rw [hgT k y x hy hx q]; exact List.prefix_refl _⟩, fun k x y hx hy r hr => show r ∈ y from (hgT k x y hx hy).mem hr⟩)
          have HALLS := Lib.hid (HAN.out 0 c12 A12 (rs.map (·.1)) wr HB.out.1 hs12)
          have HS13 := Lib.hid hs13
          rw [show (rs.map (·.1)).length = i from (List.length_map _).trans hrs] at HALLS
          have HB8 := Lib.hid HB.out.1
          have HB48 := Lib.hid HB.out.2
          have HLT : Hid ((rt.map (·.1)).length = i) := (List.length_map _).trans hrt
          clear hs12 hs13 hgS hgT hlS hlT HR HQ HB hi hlt hii hrs hrt
          go_wp2_with fail
          refine HALLS.out.mono ?_
          rintro e w9 hp
          obtain ⟨A9, c9, outS, rfl, hs9, hlen9, hpf, _, hb9⟩ := grow_post HPS.out.1 HPS.out.2 H0.out HF.out HALL.out hp
          have HS9 := Lib.hid hs9
          have HPF := Lib.hid hpf
          have HB9 := Lib.hid (HB8.out.trans (hb9.mono HB8.out.size))
          have HB49 := Lib.hid (HB48.out.trans (hb9.mono HB48.out.size))
          have HALLT := Lib.hid (HAN.out 0 c13 A13 (rt.map (·.1)) w9 HB9.out (HS13.out.below hb9))
          rw [HLT.out] at HALLT
          clear hp hs9 hpf hb9 HALLS HPS HS13 HB8 HB48
          go_wp2_with fail
          refine HALLT.out.mono ?_
          rintro e w10 hp
          obtain ⟨A10, c10, outT, rfl, hs10, hlen10, _, heq, hb10⟩ := grow_post HPT.out.1 HPT.out.2.2 H0.out HF.out HALL.out hp
          obtain rfl := heq HPT.out.2.1
          have HS9' := Lib.hid (HS9.out.below hb10)
          have HB10 := Lib.hid (HB9.out.trans (hb10.mono HB9.out.size))
          have HS5' := Lib.hid (HS5.out.below (HB49.out.trans (hb10.mono HB49.out.size)))
          have HSAME := Lib.hid (sinks_same A10 A5 c10 c5 outT w10 _ _ hs10 HS5'.out)
          have h9c := HS9.out.1
          clear hp hs10 hb10 HALLT HPT HS9 HB9 HB49 HS5 heq hlen10 HAN HF HALL H0 HD
          go_wp2_with fail
          refine HSAME.out.mono ?_
          rintro e w11 ⟨rfl, q, rfl⟩
          clear HSAME
          have hln : ((outS.length : Int) == (outT.length : Int)) = true := by rw [hlen9]; exact beq_self_eq_true _
          go_wp2_with fail
          go_loopw [25] (fun iv wx => ∃ k : Nat, k ≤ outS.length ∧ iv = .int .i64 k ∧ Hid (Below w.heap.size w wx ∧ Below w10.heap.size w10 wx)) (fun iv _ => outS.length - (intOf iv).toNat)
          case atStart => exact ⟨0, Nat.zero_le _, rfl, bdrewN HB10.out q, bdrewN (Below.refl _ _) q⟩
          case round =>
            obtain ⟨k, hk, rfl, HBx⟩ := hrel
            by_cases hkl : k < outS.length
            · obtain ⟨b1, o1, B1, d1, rfl, hq1, p1, hx1⟩ := HS9'.out.sl_ hkl
              obtain ⟨b2, o2, B2, d2, rfl, hq2, p2, hx2⟩ := HS5'.out.sl_ (k := k) (by omega)
              have hpk := HPF.out k _ _ (List.getElem?_eq_getElem hkl) (List.getElem?_eq_getElem (by omega))
              generalize outS[k] = la at p1 hx1 hpk
              generalize outT[k] = lb at p2 hx2 hpk
              have c1 : wr.cell? ⟨b1, o1 + k, none⟩ = _ := (HBx.out.2.cell (p := ⟨b1, o1 + k, none⟩) (by assumption)).trans p1
              have c2 : wr.cell? ⟨b2, o2 + k, none⟩ = _ := (HBx.out.2.cell (p := ⟨b2, o2 + k, none⟩) (by assumption)).trans p2
              have HW1 : Hid (b1 < wr.heap.size) := Nat.lt_of_lt_of_le hq1 HBx.out.2.size
              have HW2 : Hid (b2 < wr.heap.size) := Nat.lt_of_lt_of_le hq2 HBx.out.2.size
              have hal := hx1.le
              have hbl := hx2.le
              have HX1 := Lib.hid (hx1.below HBx.out.2)
              have HX2 := Lib.hid (hx2.below HBx.out.2)
              have HPC : Hid (∀ W : World, W.heap = wr.heap → Calls Tryz.prog 11 #[.slice B1 la.length d1, .slice B2 lb.length d2] W fun e w' => e = .returned (.bool true) ∧ Below wr.heap.size W w') := fun W hW =>
                (denPrefix_any B1 B2 d1 d2 la lb W ((HX1.out.keep fun q _ => by rw [hW]).more fun q hq => by rw [hW]; exact hq) ((HX2.out.keep fun q _ => by rw [hW]).more fun q hq => by rw [hW]; exact hq)).mono fun e w' ⟨h1, h2⟩ => ⟨by rw [h1, hpk], by rw [← hW]; exact h2⟩
              clear p1 p2 hx1 hx2 hpk
              go_upto_region 36 with (fail)
              go_cut [26] from 188 to 204 (fun bv wx => bv = .bool true ∧ Hid (Below wr.heap.size wr wx))
              case first =>
                go_region_held3 (fun W => W.cell? ⟨b1, o1 + k, none⟩ = some (.slice B1 la.length d1) ∧ W.cell? ⟨b2, o2 + k, none⟩ = some (.slice B2 lb.length d2)) (first | exact ⟨c1, c2⟩ | exact ⟨k1, k2⟩ | go_keep)
                  ((go_at_call 11; refine (HPC.out _ (by exact rfl)).mono ?_; rintro e w' ⟨rfl, hbp⟩; have k1 : w'.cell? ⟨b1, o1 + k, none⟩ = _ := (hbp.cell (p := ⟨b1, o1 + k, none⟩) HW1.out).trans c1; have k2 : w'.cell? ⟨b2, o2 + k, none⟩ = _ := (hbp.cell (p := ⟨b2, o2 + k, none⟩) HW2.out).trans c2; have HBP := Lib.hid hbp; clear hbp))
                all_goals
                  go_wp2_with fail
                  go_meet
                  case rel => exact ⟨rfl, HBP.out.os, HBP.out.tape, HBP.out.output, HBP.out.size, HBP.out.block⟩
              case rest =>
                obtain ⟨rfl, HBP⟩ := hcut
                clear c1 c2 HX1 HX2 HPC
                go_wp2_with fail
                go_roundw
                case rel => exact ⟨k + 1, by omega, by go_num, HBx.out.1.trans (HBP.out.mono HBx.out.1.size), HBx.out.2.trans (HBP.out.mono HBx.out.2.size)⟩
                case measure => simp [intOf]; omega
            · have dk : decide (k < outT.length) = false := decide_eq_false (by omega)
              have dk2 : decide (k < outS.length) = false := decide_eq_false hkl
              clear hk hkl hlen9
              go_wp2_with fail
              go_ret
              exact ⟨rfl, HBx.out.1⟩
  · have he := hbad h0
    subst he
    clear hbad hmid hgood hb4 h0 HAN
    unfold errV
    go_wp2_with fail
    go_ret
    exact ⟨rfl, HB4.out⟩
end Go.Proofs.YtcmhbhdiepkndaaGreatDoor
