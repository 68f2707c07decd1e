/-
  The walk of WindowShifts: it returns true. No condition.
-/
import Derived.Test.YtdnmdekmgbgioaaTumble
namespace Go.Proofs.Ytdnmdekmgbgioaa
open Go.RowKit
open Go.Sort hiding Below
set_option linter.unusedVariables false

theorem SlA.pane_ {F : Nat → Prop} {w : World} {A : Option Addr} {c : Nat} {l : List Pane} (h : SlA panE F w A c l) {k : Nat} (hk : k < l.length) :
    ∃ b off, A = some ⟨b, off, none⟩ ∧ F b ∧ w.cell? ⟨b, off + k * 6, none⟩ = some (.string l[k].key) ∧ w.cell? ⟨b, off + k * 6 + 1, none⟩ = some (.int .i64 l[k].from_) ∧ w.cell? ⟨b, off + k * 6 + 2, none⟩ = some (.int .i64 l[k].to) ∧
      w.cell? ⟨b, off + k * 6 + 3, none⟩ = some (.int .i64 l[k].many) ∧ w.cell? ⟨b, off + k * 6 + 4, none⟩ = some (.int .i64 l[k].sum) ∧ w.cell? ⟨b, off + k * 6 + 5, none⟩ = some (.int .i64 l[k].late) := by
  obtain ⟨b, off, cs, rfl, hb, hc, he⟩ := h.at_ hk
  have he : cs = paneCells l[k] := he
  subst he
  have c0 := hc 0 _ rfl
  have c1 := hc 1 _ rfl
  have c2 := hc 2 _ rfl
  have c3 := hc 3 _ rfl
  have c4 := hc 4 _ rfl
  have c5 := hc 5 _ rfl
  simp only [panE, Nat.add_zero, ← Nat.add_assoc] at c0 c1 c2 c3 c4 c5
  exact ⟨b, off, rfl, hb, c0, c1, c2, c3, c4, c5⟩
def recCells (r : Rec) : List Value := [.string r.key, .int .i64 r.num, .int .i64 r.time]
theorem info_rec : (Try.prog.info? 29).map (fun i => (i.zero, i.size, i.bytes)) = some (some (.agg #[.string ByteArray.empty, .int .i64 0, .int .i64 0]), 3, 32) := by kernel_rfl
theorem shift_rec {w : World} {A A' : Option Addr} {c c' : Nat} {l : List Rec} {d : Int} {F : Nat → Prop} {w0 : World} (hl : SlA recE F w0 A c l) (hok : AllOk l) (hd : 0 ≤ d) (ht : ∀ r ∈ l, r.time + d ≤ 1000000)
    (ho : OwnS w 29 3 A' c' l.length ((l.map (shiftR d)).flatMap recCells)) : SlA recE (· < w.heap.size) w A' c' (l.map (shiftR d)) ∧ AllOk (l.map (shiftR d)) := by
  have hrec : ∀ r ∈ l, r.key.size ≤ 40 ∧ 0 ≤ r.time ∧ I64 r.num := fun r hr => by
    obtain ⟨k, hk, rfl⟩ := List.mem_iff_getElem.1 hr
    obtain ⟨_, _, _, _, _, _, _, _, hn, _⟩ := hl.rec_ hk
    obtain ⟨h1, h2, _⟩ := recOk_iff.1 (hok.2 _ hr)
    exact ⟨h1, h2, hn⟩
  refine ⟨OwnS.sl (E := recE) recCells (fun _ => rfl) ho (by simp) (fun k e => ho.lt k e) (fun x hx => ?_), by rw [List.length_map]; exact hok.1, fun x hx => ?_⟩
  · obtain ⟨r, hr, rfl⟩ := List.mem_map.1 hx
    have h1 := hrec r hr
    have h2 := ht r hr
    exact ⟨rfl, by show r.key.size ≤ maxLen; unfold maxLen; omega, h1.2.2, by show (Lit.int .i64 (r.time + d)).wf = true; exact WalkArith.wf_i64 (by omega)⟩
  · obtain ⟨r, hr, rfl⟩ := List.mem_map.1 hx
    have h1 := hrec r hr
    have h2 := ht r hr
    exact recOk_iff.2 ⟨h1.1, by show 0 ≤ r.time + d; omega, by show r.time + d ≤ 1000000; exact h2⟩

set_option maxHeartbeats 4000000 in
set_option maxRecDepth 100000 in
theorem windowShifts_walk (A : Option Addr) (c : Nat) (l : List Rec) (size by_ : Int) (w : World) (hl : SlA recE (· < w.heap.size) w A c l) (ws : (Lit.int .i64 size).wf = true) (wb : (Lit.int .i64 by_).wf = true) :
    Calls Try.prog 5 #[.slice A l.length c, .int .i64 size, .int .i64 by_] w fun e w' => e = .returned (.bool true) ∧ Below w.heap.size w w' := by
  have H := Lib.hid hl
  have hle := hl.le
  clear hl
  have hA1 : AllOk [⟨⟨#[97]⟩, 2, 3⟩] := ⟨by decide, fun r hr => by rw [List.mem_singleton.1 hr]; decide⟩
  have HA1 := Lib.hid hA1
  clear hA1
  go_enter Try.func5, Try.ntmps5
  go_wp2_with fail
  refine (tumble_ok (some ⟨w.heap.size, 0, none⟩) 1 [⟨⟨#[97]⟩, 2, 3⟩] 2 0 _ (lit_one (heap_alloc_new w _) ⟨rfl, by show (1 : Nat) ≤ maxLen; unfold maxLen; omega, by show (Lit.int .i64 2).wf = true; decide, by show (Lit.int .i64 3).wf = true; decide⟩ (by omega) (by unfold maxLen; omega)) HA1.out (by omega) (by omega) (by omega) (by omega)).mono ?_
  rintro e w1 ⟨A1, c1, q1, rfl, hp1, -, hs1, hb1'⟩
  have hql : q1.length = 1 := hp1.length_eq.trans fact_tum.1
  obtain ⟨bq, oq, rfl, -, -, z1, -, -, -, -⟩ := hs1.pane_ (k := 0) (by omega)
  have hf0 := fact_tum.2 q1[0] (hp1.mem_iff.1 (List.getElem_mem (by omega)))
  rw [hf0] at z1
  simp at z1
  rw [hql]
  have HB1 := Lib.hid (((Below.refl w.heap.size w).alloc (Nat.le_refl _) _).trans (hb1'.mono (by simp)))
  clear hp1 hb1' hql HA1 hs1 hf0
  go_wp2_with fail
  have hHl := H.out.below HB1.out
  by_cases hok : AllOk l ∧ 1 ≤ size ∧ size ≤ 1000000
  · obtain ⟨hok, hs1, hs2⟩ := hok
    refine (tumble_ok A c l size 1000000 _ hHl hok hs1 hs2 (by omega) (by omega)).mono ?_
    have hti : ∀ r ∈ l, 0 ≤ r.time ∧ r.time ≤ 1000000 := fun r hr => (recOk_iff.1 (hok.2 r hr)).2
    rw [slide_tum hs1 hti]
    rintro e w2 ⟨A2, c2, p, rfl, hp2, ho2, hsl2, hb2'⟩
    have hb2 := HB1.out.trans (hb2'.mono HB1.out.size)
    have HB2 := Lib.hid hb2
    have HL2 := Lib.hid (hHl.below hb2')
    have HOK := Lib.hid hok
    have HTI := Lib.hid hti
    have HP := Lib.hid hp2
    have HO := Lib.hid ho2
    have HS := Lib.hid hsl2
    have hple := hsl2.le
    have hll := hok.1
    have hz2 := hb2.size
    clear hok hti hp2 ho2 hsl2 hb2 hb2' hHl z1 HB1
    by_cases hg : (0 ≤ by_ ∧ by_ ≤ 9) ∧ size ≤ 1000
    · obtain ⟨⟨hb1, hb2⟩, hs3⟩ := hg
      have d1 : decide (by_ < 0) = false := decide_eq_false (by omega)
      have d2 : decide (9 < by_) = false := decide_eq_false (by omega)
      have d3 : decide (1000 < size) = false := decide_eq_false (by omega)
      have hm1 : 0 ≤ by_ * size := Int.mul_nonneg hb1 (by omega)
      have hm2 : by_ * size ≤ 9000 := by have := Int.mul_le_mul hb2 hs3 (by omega) (by omega); omega
      obtain ⟨d, hd⟩ : ∃ d, d = by_ * size := ⟨_, rfl⟩
      have HD := Lib.hid hd
      rw [← hd] at hm1 hm2
      have hmu : by_ * size = d := hd.symm
      clear hd
      go_wp2_with fail
      go_loopw [11, 12] (fun mv iv wr => ∃ (k c' : Nat) (A' : Option Addr), k ≤ l.length ∧ iv = .int .i64 k ∧ mv = .slice A' k c' ∧ Hid (∀ r ∈ l.take k, r.time + d ≤ 1000000) ∧ Hid (OwnS wr 29 3 A' c' k (((l.take k).map (shiftR d)).flatMap recCells)) ∧ Hid (∀ b, blk A' = some b → w2.heap.size ≤ b) ∧ Hid (Below w2.heap.size w2 wr)) (fun _ iv _ => l.length - (intOf iv).toNat)
      case atStart => exact ⟨0, 0, none, by omega, rfl, rfl, nofun, OwnS.nil _ _ _, (by intro k e; cases e), Below.refl _ _⟩
      case round =>
        obtain ⟨k, c', A', hk, rfl, rfl, HT, HW, HA, HBR⟩ := hrel
        have hzr := HBR.out.size
        by_cases hlt : k < l.length
        · have dk1 : decide (k < l.length) = true := decide_eq_true hlt
          obtain ⟨b0, off, rfl, hb0, c0, c1', c2', hks, hwn, hwt⟩ := HL2.out.rec_ hlt
          have e0 := (HBR.out.cell (p := ⟨b0, off + k * 3, none⟩) hb0).trans c0
          have e1 := (HBR.out.cell (p := ⟨b0, off + k * 3 + 1, none⟩) hb0).trans c1'
          have e2 := (HBR.out.cell (p := ⟨b0, off + k * 3 + 2, none⟩) hb0).trans c2'
          have ht := HTI.out l[k] (List.getElem_mem hlt)
          have htk : ∀ r ∈ l.take (k + 1), r ∈ l.take k ∨ r = l[k] := fun r hr => by
            rw [List.take_succ_eq_append_getElem hlt] at hr
            rcases List.mem_append.1 hr with hr | hr
            · exact .inl hr
            · exact .inr (List.mem_singleton.1 hr)
          have hrow : ((l.take (k + 1)).map (shiftR d)).flatMap recCells = ((l.take k).map (shiftR d)).flatMap recCells ++ [.string l[k].key, .int .i64 l[k].num, .int .i64 (l[k].time + d)] := by
            rw [List.take_succ_eq_append_getElem hlt, List.map_append, List.flatMap_append]; simp [recCells, shiftR]
          have hex : 1000000 < l[k].time + d → True := fun _ => trivial
          obtain ⟨r, hr⟩ : ∃ r, r = l[k] := ⟨_, rfl⟩
          rw [← hr] at e0 e1 e2 ht htk hrow
          have HTK := Lib.hid htk
          have HROW := Lib.hid hrow
          obtain ⟨rk, rn, rt⟩ := r
          simp only at e0 e1 e2 ht
          clear hr c0 c1' c2' hks hwn hwt htk hrow hex
          have hk400 : k ≤ 400 := by omega
          by_cases hgt : 1000000 < rt + d
          · have dk2 : decide (1000000 < rt + d) = true := decide_eq_true hgt
            go_wp2_with fail
            go_ret
            exact ⟨rfl, HB2.out.trans ((HBR.out.alloc hzr _).mono hz2)⟩
          · have dk2 : decide (1000000 < rt + d) = false := decide_eq_false hgt
            have hown := HW.out
            go_wp2_with (at_builtin; refine wpList_push_S (w0 := wr.alloc (.cells #[.string rk, .int .i64 rn, .int .i64 (rt + d)] 29)) rfl (.tmp 83) (.tmp 85) 22 rfl 29 _ 3 32 Try.underlying22 info_rec rfl (by decide) A' c' k _ rfl (hown.grown (World.grownBy_alloc wr _ none) (fun _ _ => by simp)) [.string rk, .int .i64 rn, .int .i64 (rt + d)] (by simp [Act.eval]) rfl (by simp [Value.oneCell']) (by unfold maxLen; omega) (by omega) ?_)
            intro A3 c3 w3 ho3 hg3 hat3
            have hBx : Below w2.heap.size w2 (wr.alloc (.cells #[.string rk, .int .i64 rn, .int .i64 (rt + d)] 29)) := HBR.out.alloc hzr _
            have HB3 : Hid (Below w2.heap.size w2 w3) := hBx.grown hg3 hBx.size HA.out
            have HO3 : Hid (OwnS w3 29 3 A3 c3 (k + 1) (((l.take (k + 1)).map (shiftR d)).flatMap recCells)) := by
              show OwnS _ _ _ _ _ _ _
              rw [HROW.out, List.map_take]; exact ho3
            have HA3 : Hid (∀ b, blk A3 = some b → w2.heap.size ≤ b) := fun b e => by
              rcases hat3 with h1 | ⟨j, h1, h2⟩
              · exact HA.out b (h1 ▸ e)
              · rw [h1] at e; injection e with e; subst e
                (try simp at h2)
                omega
            clear ho3 hg3 hat3 hBx hown HW HA HBR
            go_wp2_with fail
            go_roundw
            case rel =>
              refine ⟨k + 1, c3, A3, by omega, by go_num, rfl, fun r' hr' => ?_, HO3, HA3, HB3⟩
              rcases HTK.out r' hr' with h1 | rfl
              · exact HT.out r' h1
              · show rt + d ≤ 1000000; omega
            case measure => simp [intOf]; omega
        · obtain rfl : k = l.length := by omega
          have dk1 : decide (l.length < l.length) = false := by simp
          have hT := HT.out
          rw [List.take_length] at hT
          have hW := HW.out
          rw [List.take_length] at hW
          obtain ⟨hsl3, hok3⟩ := shift_rec HL2.out HOK.out hm1 hT hW
          have HSL3 := Lib.hid hsl3
          have HOK3 := Lib.hid hok3
          clear hT hW hsl3 hok3 HT HW HA
          go_wp2_with fail
          have hcon := tumble_ok A' c' (l.map (shiftR d)) size 1000000 _ HSL3.out HOK3.out hs1 hs2 (by omega) (by omega)
          rw [List.length_map] at hcon
          refine hcon.mono ?_
          rw [slide_tum hs1 (fun r hr => (recOk_iff.1 (HOK3.out.2 r hr)).2)]
          rintro e w4 ⟨A4, c4, q, rfl, hq1, hq2, hq3, hq4⟩
          have hqp : q = p.map (shiftP d) := by
            rw [HD.out]
            refine shifts_eq hs1 hb1 (fun r hr => (HTI.out r hr).1) HP.out HO.out ?_ hq2
            rw [← HD.out]; exact hq1
          subst hqp
          have HQ := Lib.hid hq3
          have HB4 : Hid (Below w2.heap.size w2 w4) := HBR.out.trans (hq4.mono hzr)
          have hz4 := HB4.out.size
          rw [List.length_map]
          clear hcon hq1 hq2 hq3 hq4 HSL3 HOK3 HBR
          go_wp2_with fail
          go_loopw [16] (fun iv wx => ∃ k : Nat, k ≤ p.length ∧ iv = .int .i64 k ∧ Hid (Below w4.heap.size w4 wx)) (fun iv _ => p.length - (intOf iv).toNat)
          case atStart => exact ⟨0, by omega, rfl, Below.refl _ _⟩
          case round =>
            obtain ⟨k, hk, rfl, HBX⟩ := hrel
            by_cases hlt : k < p.length
            · have dk1 : decide (k < p.length) = true := decide_eq_true hlt
              have hlt' : k < (p.map (shiftP d)).length := by rw [List.length_map]; exact hlt
              obtain ⟨b1, o1, rfl, hbb1, c0, c1', c2', c3', c4', c5'⟩ := HS.out.pane_ hlt
              obtain ⟨b2, o2, rfl, hbb2, f0, f1, f2, f3, f4, f5⟩ := HQ.out.pane_ hlt'
              have hb14 : b1 < w4.heap.size := by omega
              have e0 := (HBX.out.cell (p := ⟨b1, o1 + k * 6, none⟩) hb14).trans ((HB4.out.cell (p := ⟨b1, o1 + k * 6, none⟩) hbb1).trans c0)
              have e1 := (HBX.out.cell (p := ⟨b1, o1 + k * 6 + 1, none⟩) hb14).trans ((HB4.out.cell (p := ⟨b1, o1 + k * 6 + 1, none⟩) hbb1).trans c1')
              have e2 := (HBX.out.cell (p := ⟨b1, o1 + k * 6 + 2, none⟩) hb14).trans ((HB4.out.cell (p := ⟨b1, o1 + k * 6 + 2, none⟩) hbb1).trans c2')
              have e3 := (HBX.out.cell (p := ⟨b1, o1 + k * 6 + 3, none⟩) hb14).trans ((HB4.out.cell (p := ⟨b1, o1 + k * 6 + 3, none⟩) hbb1).trans c3')
              have e4 := (HBX.out.cell (p := ⟨b1, o1 + k * 6 + 4, none⟩) hb14).trans ((HB4.out.cell (p := ⟨b1, o1 + k * 6 + 4, none⟩) hbb1).trans c4')
              have e5 := (HBX.out.cell (p := ⟨b1, o1 + k * 6 + 5, none⟩) hb14).trans ((HB4.out.cell (p := ⟨b1, o1 + k * 6 + 5, none⟩) hbb1).trans c5')
              have f0 := (HBX.out.cell (p := ⟨b2, o2 + k * 6, none⟩) hbb2).trans f0
              have f1 := (HBX.out.cell (p := ⟨b2, o2 + k * 6 + 1, none⟩) hbb2).trans f1
              have f2 := (HBX.out.cell (p := ⟨b2, o2 + k * 6 + 2, none⟩) hbb2).trans f2
              have f3 := (HBX.out.cell (p := ⟨b2, o2 + k * 6 + 3, none⟩) hbb2).trans f3
              have f4 := (HBX.out.cell (p := ⟨b2, o2 + k * 6 + 4, none⟩) hbb2).trans f4
              have f5 := (HBX.out.cell (p := ⟨b2, o2 + k * 6 + 5, none⟩) hbb2).trans f5
              have hbd := tum_bounds hs1 HTI.out p[k] (HP.out.mem_iff.1 (List.getElem_mem hlt))
              rw [List.getElem_map] at f0 f1 f2 f3 f4 f5
              obtain ⟨x, hx⟩ : ∃ x, x = p[k] := ⟨_, rfl⟩
              rw [← hx] at e0 e1 e2 e3 e4 e5 f0 f1 f2 f3 f4 f5 hbd
              obtain ⟨xk, xf, xt, xm, xs, xl⟩ := x
              simp only [shiftP] at e0 e1 e2 e3 e4 e5 f0 f1 f2 f3 f4 f5 hbd
              have hzx := HBX.out.size
              have hb1x : b1 < wr.heap.size := by omega
              have hb2x : b2 < wr.heap.size := by omega
              clear hx c0 c1' c2' c3' c4' c5'
              go_wp2_with fail
              go_quiet (fail)
              go_wp2_with fail
              go_roundw
              case rel => exact ⟨k + 1, by omega, by go_num, bdrewN (HBX.out.alloc hzx _) _⟩
              case measure => simp [intOf]; omega
            · obtain rfl : k = p.length := by omega
              have dk1 : decide (p.length < p.length) = false := by simp
              have HB5 : Hid (Below w2.heap.size w2 wr) := HB4.out.trans (HBX.out.mono hz4)
              have HL5 := Lib.hid (HL2.out.below HB5.out)
              have hz5 := HB5.out.size
              clear HQ HB4 HBX
              go_wp2_with fail
              refine (tumble_ok A c l (2 * size) 1000000 _ HL5.out HOK.out (by omega) (by omega) (by omega) (by omega)).mono ?_
              rw [slide_tum (by omega) HTI.out]
              rintro e w6 ⟨A6, c6, v, rfl, hv1, hv2, hv3, hv4⟩
              have hnn : ∀ r ∈ l, 0 ≤ r.time := fun r hr => (HTI.out r hr).1
              have hvl : v.length ≤ p.length := by rw [hv1.length_eq, HP.out.length_eq]; exact tum_fewer hs1 hnn
              have hvle := hv3.le
              have hvm : manyN v = l.length := by rw [manyN_perm hv1]; exact tum_many (by omega) hnn
              have hpm : manyN p = l.length := by rw [manyN_perm HP.out]; exact tum_many hs1 hnn
              have hvp : Pos v := fun x hx => tum_pos (size := 2 * size) (l := l) x (hv1.mem_iff.1 hx)
              have hpp : Pos p := fun x hx => tum_pos (size := size) (l := l) x (HP.out.mem_iff.1 hx)
              have hzero : IntKind.i64.wrap (sumN v - sumN p) = 0 := by
                obtain ⟨a, ha⟩ := tum_sum (size := 2 * size) (l := l) (by omega) hnn
                obtain ⟨b, hb⟩ := tum_sum (size := size) (l := l) hs1 hnn
                rw [sumN_perm hv1, sumN_perm HP.out]
                exact wrap_zero ha hb
              have HVM := Lib.hid hvm
              have HPM := Lib.hid hpm
              have HVP := Lib.hid hvp
              have HPP := Lib.hid hpp
              have HZ := Lib.hid hzero
              have HV := Lib.hid hv3
              have HB6 : Hid (Below w2.heap.size w2 w6) := HB5.out.trans (hv4.mono hz5)
              have HBW : Hid (Below w.heap.size w w6) := HB2.out.trans (HB6.out.mono hz2)
              have dlen : decide (v.length ≤ p.length) = true := decide_eq_true hvl
              clear hnn hvm hpm hvp hpp hzero hv1 hv2 hv3 hv4 HB5 HL5
              go_wp2_with fail
              go_loop [19, 20, 21] (fun nv sv iv => ∃ (i : Nat) (n s : Int), i ≤ v.length ∧ iv = .int .i64 i ∧ nv = .int .i64 n ∧ sv = .int .i64 s ∧ 0 ≤ n ∧ n ≤ 400 ∧ Hid (n = manyN (v.take i)) ∧ Hid (s = IntKind.i64.wrap (sumN (v.take i)))) (fun _ _ iv => v.length - (intOf iv).toNat)
              case atStart => exact ⟨0, 0, 0, by omega, rfl, rfl, rfl, by omega, by omega, rfl, by show (0 : Int) = _; simp [sumN, IntKind.wrap]; decide⟩
              case round =>
                obtain ⟨i, n, s, hi, rfl, rfl, rfl, hn0, hn1, HN, HSM⟩ := hrel
                by_cases hlt : i < v.length
                · have dk2 : decide (i < v.length) = true := decide_eq_true hlt
                  obtain ⟨b1, o1, rfl, hbb1, -, -, -, c3', c4', -⟩ := HV.out.pane_ hlt
                  have m1 := manyN_take_succ v i hlt
                  have m2 := sumN_take_succ v i hlt
                  have m3 := manyN_take_le HVP.out (i + 1)
                  have m4 := (HVP.out v[i] (List.getElem_mem hlt)).1
                  have m5 := HVM.out
                  obtain ⟨x, hx⟩ : ∃ x, x = v[i] := ⟨_, rfl⟩
                  rw [← hx] at c3' c4' m1 m2 m4
                  rw [← HN.out] at m1
                  obtain ⟨xk, xf, xt, xm, xs, xl⟩ := x
                  simp only at c3' c4' m1 m2 m4
                  have q1 : n + xm ≤ 400 := by omega
                  have s1 : IntKind.i64.wrap (n + xm) = n + xm := IntWalk.i64_in _ (by omega)
                  obtain ⟨s', hs'⟩ : ∃ s', IntKind.i64.wrap (s + xs) = s' := ⟨_, rfl⟩
                  have HN' : Hid (n + xm = manyN (v.take (i + 1))) := m1.symm
                  have HS' : Hid (s' = IntKind.i64.wrap (sumN (v.take (i + 1)))) := by
                    show _ = _
                    rw [← hs', HSM.out, wrap_add, m2]
                  clear hx m1 m2 m3 m5
                  go_wp2_with fail
                  go_round
                  case rel => exact ⟨i + 1, n + xm, s', by omega, by go_num, rfl, rfl, by omega, by omega, HN', HS'⟩
                  case measure => simp [intOf]; omega
                · obtain rfl : i = v.length := by omega
                  have dk2 : decide (v.length < v.length) = false := by simp
                  have HN0 : Hid (n = l.length) := by show _ = _; rw [HN.out, List.take_length]; exact HVM.out
                  have HSV : Hid (s = IntKind.i64.wrap (sumN v)) := by
                    show _ = _
                    rw [HSM.out, List.take_length]
                  clear HN HSM HV HVM HVP
                  go_wp2_with fail
                  go_loop [19, 20, 22] (fun nv sv iv => ∃ (i : Nat) (n s : Int), i ≤ p.length ∧ iv = .int .i64 i ∧ nv = .int .i64 n ∧ sv = .int .i64 s ∧ 0 ≤ n ∧ n ≤ 400 ∧ Hid (n = l.length - manyN (p.take i)) ∧ Hid (s = IntKind.i64.wrap (sumN v - sumN (p.take i)))) (fun _ _ iv => p.length - (intOf iv).toNat)
                  case atStart => exact ⟨0, n, s, by omega, rfl, rfl, rfl, by omega, by omega, by show _ = _; rw [HN0.out]; simp [manyN], by show _ = _; rw [HSV.out]; simp [sumN]⟩
                  case round =>
                    clear HN0 HSV
                    obtain ⟨i, n, s, hi, rfl, rfl, rfl, hn0, hn1, HN, HSM⟩ := hrel
                    by_cases hlt : i < p.length
                    · have dk2 : decide (i < p.length) = true := decide_eq_true hlt
                      obtain ⟨b1, o1, rfl, hbb1, -, -, -, c3', c4', -⟩ := HS.out.pane_ hlt
                      have c3' := (HB6.out.cell (p := ⟨b1, o1 + i * 6 + 3, none⟩) hbb1).trans c3'
                      have c4' := (HB6.out.cell (p := ⟨b1, o1 + i * 6 + 4, none⟩) hbb1).trans c4'
                      have m1 := manyN_take_succ p i hlt
                      have m2 := sumN_take_succ p i hlt
                      have m3 := manyN_take_le HPP.out (i + 1)
                      have m4 := (HPP.out p[i] (List.getElem_mem hlt)).1
                      have m5 := HPM.out
                      have m6 := HN.out
                      obtain ⟨x, hx⟩ : ∃ x, x = p[i] := ⟨_, rfl⟩
                      rw [← hx] at c3' c4' m1 m2 m4
                      obtain ⟨xk, xf, xt, xm, xs, xl⟩ := x
                      simp only at c3' c4' m1 m2 m4
                      have q1 : 0 ≤ n - xm := by omega
                      have s1 : IntKind.i64.wrap (n - xm) = n - xm := IntWalk.i64_in _ (by omega)
                      obtain ⟨s', hs'⟩ : ∃ s', IntKind.i64.wrap (s - xs) = s' := ⟨_, rfl⟩
                      have HN' : Hid (n - xm = l.length - manyN (p.take (i + 1))) := by show _ = _; omega
                      have HS' : Hid (s' = IntKind.i64.wrap (sumN v - sumN (p.take (i + 1)))) := by
                        show _ = _
                        rw [← hs', HSM.out, wrap_sub, m2]; congr 1; omega
                      clear hx m1 m2 m3 m5 m6
                      go_wp2_with fail
                      go_round
                      case rel => exact ⟨i + 1, n - xm, s', by omega, by go_num, rfl, rfl, by omega, by omega, HN', HS'⟩
                      case measure => simp [intOf]; omega
                    · obtain rfl : i = p.length := by omega
                      have dk2 : decide (p.length < p.length) = false := by simp
                      have hn : n = 0 := by rw [HN.out, List.take_length, HPM.out]; omega
                      have hs0 : s = 0 := by rw [HSM.out, List.take_length]; exact HZ.out
                      subst hn; subst hs0
                      clear HN HSM HS HPP HPM HZ
                      go_wp2_with fail
                      go_ret
                      exact ⟨rfl, HBW.out⟩
    · rcases (show by_ < 0 ∨ (0 ≤ by_ ∧ 9 < by_) ∨ ((0 ≤ by_ ∧ by_ ≤ 9) ∧ 1000 < size) by omega) with h | ⟨h, h2⟩ | ⟨⟨h, h2⟩, h3⟩
      · have d1 : decide (by_ < 0) = true := decide_eq_true h
        clear hg
        go_wp2_with fail
        go_ret
        exact ⟨rfl, HB2.out⟩
      · have d1 : decide (by_ < 0) = false := decide_eq_false (by omega)
        have d2 : decide (9 < by_) = true := decide_eq_true h2
        clear hg
        go_wp2_with fail
        go_ret
        exact ⟨rfl, HB2.out⟩
      · have d1 : decide (by_ < 0) = false := decide_eq_false (by omega)
        have d2 : decide (9 < by_) = false := decide_eq_false (by omega)
        have d3 : decide (1000 < size) = true := decide_eq_true h3
        clear hg
        go_wp2_with fail
        go_ret
        exact ⟨rfl, HB2.out⟩
  · refine (tumble_bad A c l size _ hHl hok).mono ?_
    rintro e w2 ⟨⟨kk, -, rfl⟩, hb2'⟩
    have HB2 := Lib.hid (HB1.out.trans (hb2'.mono HB1.out.size))
    clear hb2' hHl
    go_wp2_with fail
    go_ret
    exact ⟨rfl, HB2.out⟩
end Go.Proofs.Ytdnmdekmgbgioaa
