/-
  The walk of KeyedLast: it returns true. No condition.
-/
import Derived.Test.YtdnmdekmgbgioaaKeyedAll
import Derived.Test.YtdnmdekmgbgioaaWalk
import Derived.StillTailTactics
namespace Go.Proofs.Ytdnmdekmgbgioaa
open Go.RowKit
open Go.Sort hiding Below
set_option linter.unusedVariables false

theorem ahead_yes (xn : Int) (xk : ByteArray) (xa xb yn : Int) (yk : ByteArray) (ya yb : Int) (w : World) (h : ahead ⟨xn, xk, xa, xb⟩ ⟨yn, yk, ya, yb⟩) :
    Calls Try.prog 13 #[.agg #[.int .i64 xn, .string xk, .int .i64 xa, .int .i64 xb], .agg #[.int .i64 yn, .string yk, .int .i64 ya, .int .i64 yb]] w fun e w' => e = .returned (.bool true) ∧ Below w.heap.size w w' := by
  rcases h with h | ⟨h1, h2⟩
  · simp only at h
    have hne : (xn != yn) = true := by simp; omega
    have h1 : decide (xn < yn) = true := decide_eq_true h
    clear h
    go_enter Try.func13, Try.ntmps13
    go_wp2
    go_ret
    exact ⟨rfl, ((Below.refl _ _).alloc (Nat.le_refl _) _).alloc (by simp) _⟩
  · simp only at h1 h2
    subst h1
    have h3 : Op.bytesLess xk.toList yk.toList = true := by rw [ltStr_of]; exact h2
    clear h2
    go_enter Try.func13, Try.ntmps13
    go_wp2
    go_ret
    exact ⟨by simp [h3], ((Below.refl _ _).alloc (Nat.le_refl _) _).alloc (by simp) _⟩

/-- A state is put: it is there; or nothing is turned. -/
theorem put_any (g b : Nat) (ps : List Hld) (n : Int) (s : ByteArray) (x y : Int) (w : World) (K : KeyedAt w g b ps) (hx : I64 x) (hy : I64 y) :
    Calls Try.prog 10 #[.pointer (some ⟨g, 0, none⟩), .agg #[.int .i64 n, .string s, .int .i64 x, .int .i64 y]] w fun e w' =>
      (e = .returned .nilIface ∧ (∃ p1 p2, KeyedAt w' g b (p1 ++ ⟨n, s, x, y⟩ :: p2) ∧ (p1 ++ ⟨n, s, x, y⟩ :: p2).length ≤ ps.length + 1) ∧ Frm (· = b) w w') ∨ (∃ c : Int, c ≠ 0 ∧ e = .returned (.iface 73 (.int .i64 c)) ∧ Below w.heap.size w w') := by
  by_cases hok : hldOk ⟨n, s, x, y⟩
  · rcases at_parts ps n s with ⟨p1, ⟨n', s', x0, y0⟩, p2, rfl, h1, h2⟩ | hno
    · simp only at h1 h2
      subst h1; subst h2
      exact (put_hit g b p1 p2 n' s' x0 y0 x y w K hok hx hy).mono fun e w' ⟨h1, h2, h3⟩ => .inl ⟨h1, ⟨p1, p2, h2, by simp⟩, h3⟩
    · refine (put_miss g b ps n s x y w K hno hok hx hy).mono fun e w' h => ?_
      rcases h with ⟨_, h1, h2, h3⟩ | ⟨_, h1, h2⟩
      · exact .inl ⟨h1, ⟨ps, [], h2, by simp⟩, h3⟩
      · exact .inr ⟨4, by decide, h1, h2⟩
  · exact (put_range g b n s x y w hok).mono fun e w' ⟨h1, h2⟩ => .inr ⟨1, by decide, h1, h2⟩

theorem SlA.hldV_ {F : Nat → Prop} {w : World} {A : Option Addr} {c : Nat} {l : List Hld} (h : SlA hldE F w A c l) {k : Nat} (hk : k < l.length) :
    ∃ b off, A = some ⟨b, off, none⟩ ∧ F b ∧ w.cell? ⟨b, off + k * 4, none⟩ = some (.int .i64 l[k].node) ∧ w.cell? ⟨b, off + k * 4 + 1, none⟩ = some (.string l[k].key) ∧ w.cell? ⟨b, off + k * 4 + 2, none⟩ = some (.int .i64 l[k].a) ∧ w.cell? ⟨b, off + k * 4 + 3, none⟩ = some (.int .i64 l[k].b) :=
  let ⟨b, off, h1, h2, c0, c1, c2, c3, _⟩ := h.hld_ hk
  ⟨b, off, h1, h2, c0, c1, c2, c3⟩

theorem KeyedAt.noCell {w : World} {g b : Nat} {ps : List Hld} (h : KeyedAt w g b ps) {k i : Nat} {v : Value} (hc : w.cell? ⟨k, i, none⟩ = some v) : k ≠ b := fun e => by
  subst e
  obtain ⟨es, clock, hb, _⟩ := h.map
  simp [World.cell?, hb] at hc
theorem drop_perm {q ps : List Hld} {k : Nat} (hk : k < q.length) (hp : ps.Perm (q.drop k)) : ∃ p1 p2, ps = p1 ++ q[k] :: p2 ∧ (p1 ++ p2).Perm (q.drop (k + 1)) := by
  have e : q.drop k = q[k] :: q.drop (k + 1) := List.drop_eq_getElem_cons hk
  have hm : q[k] ∈ ps := hp.mem_iff.2 (by rw [e]; exact List.mem_cons_self)
  obtain ⟨p1, p2, rfl⟩ := List.append_of_mem hm
  refine ⟨p1, p2, rfl, ?_⟩
  have h2 := (List.perm_middle (l₁ := p1) (a := q[k]) (l₂ := p2)).symm.trans hp
  rw [e] at h2
  exact h2.cons_inv

set_option maxHeartbeats 4000000 in
set_option maxRecDepth 100000 in
theorem keyedLast_walk (A : Option Addr) (c : Nat) (l : List Hld) (w : World) (hl : SlA hldE (· < w.heap.size) w A c l) :
    Calls Try.prog 4 #[.slice A l.length c] w fun e w' => e = .returned (.bool true) ∧ Below w.heap.size w w' := by
  have H := Lib.hid hl
  have hle := hl.le
  have i1 : I64 1 := by show (Lit.int .i64 1).wf = true; decide
  have i2 : I64 2 := by show (Lit.int .i64 2).wf = true; decide
  have i0 : I64 0 := by show (Lit.int .i64 0).wf = true; decide
  have hok1 : ∀ x y, hldOk ⟨2, ⟨#[97]⟩, x, y⟩ := fun x y => ⟨by simp, by simp, by show (1 : Nat) ≤ 40; omega⟩
  have I0 := Lib.hid i0
  have I1 := Lib.hid i1
  have I2 := Lib.hid i2
  have HOK1 := Lib.hid hok1
  clear hl i0 i1 i2 hok1
  go_enter Try.func4, Try.ntmps4
  go_wp2_with fail
  refine (keyedNew_any _).mono ?_
  rintro e w1 ⟨g1, b1, rfl, hk1, hg1, hb1, hB1⟩
  have HK1 := Lib.hid hk1
  have HB1 := Lib.hid hB1
  clear hk1 hB1
  go_wp2_with fail
  refine (put_miss g1 b1 [] 2 ⟨#[97]⟩ 1 0 _ HK1.out nofun (HOK1.out _ _) I1.out I0.out).mono ?_
  rintro e w2 (⟨-, rfl, hk2, hf2⟩ | ⟨hh, -⟩)
  · have HK2 := Lib.hid hk2
    have HB2 : Hid (Below w.heap.size w w2) := HB1.out.trans (hf2.below HB1.out.size (fun k e => by omega))
    clear hk2 hf2 HK1 HB1
    go_wp2_with fail
    refine (put_hit g1 b1 [] [] 2 ⟨#[97]⟩ 1 0 2 0 _ HK2.out (HOK1.out _ _) I2.out I0.out).mono ?_
    rintro e w3 ⟨rfl, hk3, hf3⟩
    have HK3 := Lib.hid hk3
    have HB3 : Hid (Below w.heap.size w w3) := HB2.out.trans (hf3.below HB2.out.size (fun k e => by omega))
    clear hk3 hf3 HK2 HB2
    go_wp2_with fail
    refine (all_any g1 b1 _ _ HK3.out (by simp)).mono ?_
    rintro e w4 ⟨A4, c4, q4, rfl, hp4, -, hs4, hb4⟩
    have hq4 : q4 = [⟨2, ⟨#[97]⟩, 2, 0⟩] := by simpa using hp4
    subst hq4
    obtain ⟨bq, oq, rfl, hlq, -, -, z2, -⟩ := hs4.hldV_ (k := 0) (by simp)
    simp at z2
    have HB4 : Hid (Below w.heap.size w w4) := HB3.out.trans (hb4.mono HB3.out.size)
    have hl4 : ([⟨2, ⟨#[97]⟩, 2, 0⟩] : List Hld).length = 1 := rfl
    rw [hl4]
    clear hp4 hs4 hb4 HB3 HK3 hl4
    go_wp2_with fail
    refine (keyedNew_any _).mono ?_
    rintro e w5 ⟨g, b, rfl, hk5, hg5, hb5, hB5⟩
    have hwg : w.heap.size ≤ g := Nat.le_trans HB4.out.size hg5
    have hwb : w.heap.size ≤ b := Nat.le_trans HB4.out.size hb5
    have HK5 := Lib.hid hk5
    have HB5 : Hid (Below w.heap.size w w5) := HB4.out.trans (hB5.mono HB4.out.size)
    clear hk5 hB5 HB4 hg5 hb5 z2
    go_upto_block 0 with (fail)
    go_cut [2, 8, 9, 10, 11] from 44 to 86 (fun v2 v8 v9 v10 v11 wx => ∃ ps : List Hld, ps.length ≤ 100 ∧ Hid (KeyedAt wx g b ps) ∧ Hid (Below w.heap.size w wx))
    case first =>
      go_wp2_with fail
      go_loopw [8] (fun iv wr => ∃ (k : Nat) (ps : List Hld), k ≤ l.length ∧ k ≤ 100 ∧ iv = .int .i64 k ∧ ps.length ≤ k ∧ Hid (KeyedAt wr g b ps) ∧ Hid (Below w.heap.size w wr)) (fun iv _ => l.length - (intOf iv).toNat)
      case atStart => exact ⟨0, [], by omega, by omega, rfl, by simp, HK5, HB5⟩
      case round =>
        clear HK5 HB5
        obtain ⟨k, ps, hk, hk2, rfl, hps, HK, HB⟩ := hrel
        by_cases hlt : k < l.length ∧ k < 100
        · obtain ⟨hlt, hlt2⟩ := hlt
          have dk1 : decide (k < l.length) = true := decide_eq_true hlt
          have dk2 : decide (k < 100) = true := decide_eq_true hlt2
          have hz := HB.out.size
          obtain ⟨b0, off, rfl, hbb, c0, c1, c2, c3, hks, hwn, hwa, hwb'⟩ := H.out.hld_ hlt
          have e0 := (HB.out.cell (p := ⟨b0, off + k * 4, none⟩) hbb).trans c0
          have e1 := (HB.out.cell (p := ⟨b0, off + k * 4 + 1, none⟩) hbb).trans c1
          have e2 := (HB.out.cell (p := ⟨b0, off + k * 4 + 2, none⟩) hbb).trans c2
          have e3 := (HB.out.cell (p := ⟨b0, off + k * 4 + 3, none⟩) hbb).trans c3
          obtain ⟨h, hh⟩ : ∃ h, h = l[k] := ⟨_, rfl⟩
          rw [← hh] at e0 e1 e2 e3 hwa hwb'
          obtain ⟨hn, hkey, ha, hb⟩ := h
          simp only at e0 e1 e2 e3 hwa hwb'
          have HWA := Lib.hid hwa
          have HWB := Lib.hid hwb'
          clear hh c0 c1 c2 c3 hks hwn hwa hwb'
          go_wp2_with fail
          refine (put_any g b ps hn hkey ha hb _ HK.out HWA.out HWB.out).mono ?_
          rintro e w6 (⟨rfl, ⟨p1, p2, hk6, hl6⟩, hf6⟩ | ⟨cc, hcc, rfl, hb6⟩)
          · have HF6 : Hid (Below w.heap.size w w6) := HB.out.trans (hf6.below hz (fun k e => by omega))
            have e0 := (HF6.out.cell (p := ⟨b0, off + k * 4, none⟩) hbb).trans ((HB.out.cell (p := ⟨b0, off + k * 4, none⟩) hbb).symm.trans e0)
            have e1 := (HF6.out.cell (p := ⟨b0, off + k * 4 + 1, none⟩) hbb).trans ((HB.out.cell (p := ⟨b0, off + k * 4 + 1, none⟩) hbb).symm.trans e1)
            have e2 := (HF6.out.cell (p := ⟨b0, off + k * 4 + 2, none⟩) hbb).trans ((HB.out.cell (p := ⟨b0, off + k * 4 + 2, none⟩) hbb).symm.trans e2)
            have e3 := (HF6.out.cell (p := ⟨b0, off + k * 4 + 3, none⟩) hbb).trans ((HB.out.cell (p := ⟨b0, off + k * 4 + 3, none⟩) hbb).symm.trans e3)
            have HK6 := Lib.hid hk6
            have hz6 := HF6.out.size
            have hb06 : b0 < w6.heap.size := by omega
            clear hk6 hf6 HK HB
            go_wp2_with fail
            go_cut [10, 11] from 44 to 86 (fun pv ev wx => ∃ Bx : Nat, pv = .pointer (some ⟨Bx, 0, none⟩) ∧ ev = .nilIface ∧ wx.cell? ⟨Bx, 0, none⟩ = some (.int .i64 hn) ∧ wx.cell? ⟨Bx, 1, none⟩ = some (.string hkey) ∧ wx.cell? ⟨Bx, 2, none⟩ = some (.int .i64 ha) ∧ wx.cell? ⟨Bx, 3, none⟩ = some (.int .i64 hb) ∧ Hid (KeyedAt wx g b (p1 ++ ⟨hn, hkey, ha, hb⟩ :: p2)) ∧ Hid (Below w.heap.size w wx))
            case first =>
              go_region_with (go_at_call 12; refine (get_hit g b p1 p2 hn hkey ha hb _ (HK6.out.below (by first | exact (Below.refl _ _).drew | exact ((Below.refl _ _).alloc (Nat.le_refl _) _).drew))).mono ?_; rintro e w7 ⟨rfl, hb7⟩; have hs7 := hb7.size; simp at hs7; have hB67 : Below w6.heap.size w6 w7 := (Below.trans (b := _) (by first | exact (Below.refl _ _).drew | exact ((Below.refl _ _).alloc (Nat.le_refl _) _).drew) (hb7.mono (by first | exact Nat.le_refl _ | simp))); have e70 := (hB67.cell (p := ⟨b0, off + k * 4, none⟩) hb06).trans e0; have e71 := (hB67.cell (p := ⟨b0, off + k * 4 + 1, none⟩) hb06).trans e1; have e72 := (hB67.cell (p := ⟨b0, off + k * 4 + 2, none⟩) hb06).trans e2; have e73 := (hB67.cell (p := ⟨b0, off + k * 4 + 3, none⟩) hb06).trans e3; have HFIN : Hid (∀ W, Below w6.heap.size w7 W → KeyedAt W g b (p1 ++ ⟨hn, hkey, ha, hb⟩ :: p2) ∧ Below w.heap.size w W) := (fun W hW => ⟨HK6.out.below (hB67.trans hW), HF6.out.trans ((hB67.trans hW).mono hz6)⟩); try (have hz7 := (hb7.block w6.heap.size (by simp)).trans (heap_alloc_new w6 _); have q0 := cell_of_row w7 w6.heap.size 0 _ _ _ hz7; have q1 := cell_of_row w7 w6.heap.size 1 _ _ _ hz7; have q2 := cell_of_row w7 w6.heap.size 2 _ _ _ hz7; have q3 := cell_of_row w7 w6.heap.size 3 _ _ _ hz7; have qz : ∀ i, w7.frozen? ⟨w6.heap.size, i, none⟩ = false := (fun i => by simp [World.frozen?, hz7]); have z0 := qz 0; have z1 := qz 1; have z2 := qz 2; have z3 := qz 3; simp at q0 q1 q2 q3; clear hz7 qz); clear hb7 hB67)
              all_goals
                clear HK6 HF6
                go_wp2_with fail
                go_meet
                case rel =>
                  first
                    | (refine ⟨w7.heap.size, rfl, rfl, ?_⟩
                       have hn7 := heap_alloc_new w7 (.cells #[.int .i64 hn, .string hkey, .int .i64 ha, .int .i64 hb] 38)
                       exact ⟨(cell_of_row _ _ 0 _ _ _ hn7).trans rfl, (cell_of_row _ _ 1 _ _ _ hn7).trans rfl, (cell_of_row _ _ 2 _ _ _ hn7).trans rfl, (cell_of_row _ _ 3 _ _ _ hn7).trans rfl, HFIN.out _ ((Below.refl _ _).alloc (by omega) _)⟩)
                    | (refine ⟨w6.heap.size, rfl, rfl, ?_⟩
                       clear e0 e1 e2 e3 e70 e71 e72 e73
                       exact ⟨by go_simp, by go_simp, by go_simp, by go_simp, HFIN.out _ (((((Below.refl w6.heap.size w7).setCell (Nat.le_refl _) _).setCell (Nat.le_refl _) _).setCell (Nat.le_refl _) _).setCell (Nat.le_refl _) _)⟩)
            case rest =>
              obtain ⟨Bx, rfl, rfl, q0, q1, q2, q3, HK7, HB7⟩ := hcut
              have e70 := (HB7.out.cell (p := ⟨b0, off + k * 4, none⟩) hbb).trans ((HF6.out.cell (p := ⟨b0, off + k * 4, none⟩) hbb).symm.trans e0)
              have e71 := (HB7.out.cell (p := ⟨b0, off + k * 4 + 1, none⟩) hbb).trans ((HF6.out.cell (p := ⟨b0, off + k * 4 + 1, none⟩) hbb).symm.trans e1)
              have e72 := (HB7.out.cell (p := ⟨b0, off + k * 4 + 2, none⟩) hbb).trans ((HF6.out.cell (p := ⟨b0, off + k * 4 + 2, none⟩) hbb).symm.trans e2)
              have e73 := (HB7.out.cell (p := ⟨b0, off + k * 4 + 3, none⟩) hbb).trans ((HF6.out.cell (p := ⟨b0, off + k * 4 + 3, none⟩) hbb).symm.trans e3)
              clear e0 e1 e2 e3 HK6 HF6
              go_wp2_with fail
              go_quiet (fail)
              go_wp2_with fail
              go_roundw
              case rel => exact ⟨k + 1, p1 ++ ⟨hn, hkey, ha, hb⟩ :: p2, by omega, by omega, by go_num, Nat.le_trans hl6 (by omega), HK7.out.keep rfl rfl, bdrewN HB7.out _⟩
              case measure => simp [intOf]; omega
          · have HB6 : Hid (Below w.heap.size w w6) := HB.out.trans (hb6.mono hz)
            have HK6 := Lib.hid (HK.out.below hb6)
            have hcc' : (cc == 0) = false := by simpa using hcc
            clear hb6 HK HB
            go_wp2_with fail
            go_roundw
            case rel => exact ⟨k + 1, ps, by omega, by omega, by go_num, by omega, HK6, HB6⟩
            case measure => simp [intOf]; omega
        · have hexit : (k < l.length ∧ ¬ k < 100) ∨ k = l.length := by omega
          rcases hexit with ⟨h1, h2⟩ | h1
          · have dk1 : decide (k < l.length) = true := decide_eq_true h1
            have dk2 : decide (k < 100) = false := decide_eq_false h2
            clear hlt
            go_wp2_with fail
            go_meet
            case rel => exact ⟨ps, by omega, HK, HB⟩
          · subst h1
            clear hlt
            go_wp2_with fail
            go_meet
            case rel => exact ⟨ps, by omega, HK, HB⟩
    case rest =>
      clear HK5 HB5
      obtain ⟨ps, hps, HK, HB⟩ := hcut
      go_wp2_with fail
      refine (all_any g b ps _ HK.out (by omega)).mono ?_
      rintro e w8 ⟨A8, c8, q, rfl, hp8, hs8, hq8, hb8⟩
      have HK8 := Lib.hid (HK.out.below hb8)
      have hz := HB.out.size
      have HB8 : Hid (Below w.heap.size w w8) := HB.out.trans (hb8.mono hz)
      have hz8 := HB8.out.size
      have haq := aheads hs8 (apart2_perm HK.out.apart hp8.symm)
      have HAQ := Lib.hid haq
      have HP8 := Lib.hid hp8
      have HQ := Lib.hid hq8
      have hql : q.length ≤ 100 := by rw [hp8.length_eq]; exact hps
      clear hp8 hs8 hq8 hb8 haq HK HB
      go_wp2_with fail
      go_loopw [13] (fun iv wr => ∃ k : Nat, k ≤ q.length ∧ iv = .int .i64 k ∧ Hid (Below w8.heap.size w8 wr)) (fun iv _ => q.length - (intOf iv).toNat)
      case atStart => exact ⟨0, by omega, rfl, Below.refl _ _⟩
      case round =>
        obtain ⟨k, hk, rfl, HBR⟩ := hrel
        by_cases hlt : k < q.length
        · have dk1 : decide (k < q.length) = true := decide_eq_true hlt
          rcases Nat.eq_zero_or_pos k with rfl | hpos
          · go_wp2_with fail
            go_quiet (fail)
            go_wp2_with fail
            go_roundw
            case rel => exact ⟨1, by omega, by go_num, bdrewN HBR.out _⟩
            case measure => simp [intOf]; omega
          · obtain ⟨j, rfl⟩ : ∃ j, k = j + 1 := ⟨k - 1, by omega⟩
            have hj : j < q.length := by omega
            obtain ⟨b1, o1, rfl, hb1, c0, c1, c2, c3⟩ := HQ.out.hldV_ hj
            obtain ⟨b1', o1', hA1, hb1', d0, d1, d2, d3⟩ := HQ.out.hldV_ hlt
            injection hA1 with hA1
            injection hA1 with hA1 hA2
            subst hA1; subst hA2
            have hah := List.pairwise_iff_getElem.1 HAQ.out j (j + 1) hj hlt (by omega)
            have c0 := (HBR.out.cell (p := ⟨b1, o1 + j * 4, none⟩) hb1).trans c0
            have c1 := (HBR.out.cell (p := ⟨b1, o1 + j * 4 + 1, none⟩) hb1).trans c1
            have c2 := (HBR.out.cell (p := ⟨b1, o1 + j * 4 + 2, none⟩) hb1).trans c2
            have c3 := (HBR.out.cell (p := ⟨b1, o1 + j * 4 + 3, none⟩) hb1).trans c3
            have d0 := (HBR.out.cell (p := ⟨b1, o1 + (j + 1) * 4, none⟩) hb1).trans d0
            have d1 := (HBR.out.cell (p := ⟨b1, o1 + (j + 1) * 4 + 1, none⟩) hb1).trans d1
            have d2 := (HBR.out.cell (p := ⟨b1, o1 + (j + 1) * 4 + 2, none⟩) hb1).trans d2
            have d3 := (HBR.out.cell (p := ⟨b1, o1 + (j + 1) * 4 + 3, none⟩) hb1).trans d3
            obtain ⟨x, hx⟩ : ∃ x, x = q[j] := ⟨_, rfl⟩
            obtain ⟨y, hy⟩ : ∃ y, y = q[j + 1] := ⟨_, rfl⟩
            rw [← hx] at c0 c1 c2 c3 hah
            rw [← hy] at d0 d1 d2 d3 hah
            obtain ⟨xn, xk, xa, xb⟩ := x
            obtain ⟨yn, yk, ya, yb⟩ := y
            have HAH := Lib.hid hah
            have hzr := HBR.out.size
            have dk2 : decide ((0 : Int) < ((j + 1 : Nat) : Int)) = true := decide_eq_true (by omega)
            have dk3 : IntKind.i64.wrap ((j : Int) + 1 - 1) = (j : Int) := by rw [IntWalk.i64_in _ (by omega)]; omega
            have dk4 : IntKind.i64.wrap (j : Int) = (j : Int) := IntWalk.i64_in _ (by omega)
            have dk5 : (j : Int) < (q.length : Int) := by omega
            have dk6 : (j : Int) + 1 < (q.length : Int) := by omega
            have dk7 : (0 : Int) ≤ (j : Int) + 1 := by omega
            clear hx hy hah
            go_upto_region 20 with (fail)
            go_cut [109] from 95 to 108 (fun bv wx => bv = .bool false ∧ Hid (Below w8.heap.size w8 wx))
            case first =>
              refine wp_region_still_tail 12 (by kernel_rfl) (by kernel_rfl) ?_
              simp only [List.take_succ_cons, List.take_zero, List.drop_succ_cons, List.drop_zero]
              change wpStill _ _ wr.drew _ _ _
              repeat still_step
              refine wpStill_nil ?_
              change wpList _ _ _ _ _ wr.drew
              go_wp2_with fail
              refine (ahead_yes xn xk xa xb yn yk ya yb _ HAH.out).mono ?_
              rintro e w9 ⟨rfl, hb9⟩
              have HB9 : Hid (Below w8.heap.size w8 w9) := HBR.out.trans ((Below.refl _ _).drew.trans (hb9.mono hzr))
              clear hb9
              go_wp2_with fail
              go_meet
              case rel => exact ⟨rfl, HB9⟩
            case rest =>
              obtain ⟨rfl, HB9⟩ := hcut
              clear c0 c1 c2 c3 d0 d1 d2 d3 HBR
              go_wp2_with fail
              go_roundw
              case rel => exact ⟨j + 1 + 1, by omega, by go_num, HB9⟩
              case measure => simp [intOf]; omega
        · obtain rfl : k = q.length := by omega
          have dk1 : decide (q.length < q.length) = false := by simp
          have HK9 := Lib.hid (HK8.out.below HBR.out)
          have HP9 := Lib.hid (HP8.out.symm)
          clear HP8
          have hzr := HBR.out.size
          go_wp2_with fail
          go_loopw [14] (fun iv wx => ∃ (k : Nat) (ps' : List Hld), k ≤ q.length ∧ iv = .int .i64 k ∧ Hid (KeyedAt wx g b ps') ∧ Hid (ps'.Perm (q.drop k)) ∧ Hid (Frm (· = b) w8 wx)) (fun iv _ => q.length - (intOf iv).toNat)
          case atStart => exact ⟨0, ps, by omega, rfl, HK9, HP9, Frm.ofBelow HBR.out⟩
          case round =>
            clear HK9 HP9
            obtain ⟨k, ps', hk, rfl, HK, HP, HF⟩ := hrel
            by_cases hlt : k < q.length
            · have dk1 : decide (k < q.length) = true := decide_eq_true hlt
              obtain ⟨b1, o1, rfl, hb1, c0, c1, c2, c3⟩ := HQ.out.hldV_ hlt
              have hne := HK8.out.noCell c0
              have e0 := (World.cell?_of_block (a := ⟨b1, o1 + k * 4, none⟩) (HF.out.block b1 hb1 hne)).trans c0
              have e1 := (World.cell?_of_block (a := ⟨b1, o1 + k * 4 + 1, none⟩) (HF.out.block b1 hb1 hne)).trans c1
              obtain ⟨p1, p2, hpe, hpp⟩ := drop_perm hlt HP.out
              subst hpe
              obtain ⟨x, hx⟩ : ∃ x, x = q[k] := ⟨_, rfl⟩
              rw [← hx] at e0 e1 HK
              obtain ⟨xn, xk, xa, xb⟩ := x
              simp only at e0 e1
              have HPP := Lib.hid hpp
              clear c0 c1 c2 c3 hx hpp HP
              go_upto_region 25 with (fail)
              go_cut [15] from 116 to 127 (fun bv wz => bv = .nilIface ∧ Hid (KeyedAt wz g b (p1 ++ p2)) ∧ Hid (Frm (· = b) w8 wz))
              case first =>
                refine wp_region_still_tail 11 (by kernel_rfl) (by kernel_rfl) ?_
                simp only [List.take_succ_cons, List.take_zero, List.drop_succ_cons, List.drop_zero]
                change wpStill _ _ wr.drew _ _ _
                repeat still_step
                refine wpStill_nil ?_
                change wpList _ _ _ _ _ wr.drew
                go_wp2_with fail
                refine (del_hit g b p1 p2 xn xk xa xb wr.drew (HK.out.keep rfl rfl)).mono ?_
                rintro e w9 ⟨rfl, hk9, hf9⟩
                have HK9 := Lib.hid hk9
                have HF9 : Hid (Frm (· = b) w8 w9) := HF.out.drew.trans hf9 (fun _ h => h) (fun _ h => .inl h)
                clear hk9 hf9
                go_wp2_with fail
                go_meet
                case rel => exact ⟨rfl, HK9, HF9⟩
              case rest =>
                obtain ⟨rfl, HK9, HF9⟩ := hcut
                clear e0 e1 HK HF
                go_wp2_with fail
                go_roundw
                case rel => exact ⟨k + 1, p1 ++ p2, by omega, by go_num, HK9, HPP, HF9⟩
                case measure => simp [intOf]; omega
            · obtain rfl : k = q.length := by omega
              have dk1 : decide (q.length < q.length) = false := by simp
              have hps' : ps' = [] := by have := HP.out; rw [List.drop_length] at this; exact this.eq_nil
              subst hps'
              have hwb8 : Below w.heap.size w _ := HB8.out.trans (HF.out.below (by omega) (fun k e => by omega))
              have HW8 := Lib.hid hwb8
              clear hwb8
              go_wp2_with fail
              refine (all_any g b [] _ HK.out (by simp)).mono ?_
              rintro e w9 ⟨A9, c9, q9, rfl, hp9, -, -, hb9⟩
              have hq9 : q9 = [] := hp9.eq_nil
              subst hq9
              have HB9 := Lib.hid (HW8.out.trans (hb9.mono HW8.out.size))
              have hl0 : ([] : List Hld).length = 0 := rfl
              rw [hl0]
              clear hp9 hb9
              go_wp2_with fail
              go_ret
              exact ⟨rfl, HB9.out⟩
  · simp at hh
end Go.Proofs.Ytdnmdekmgbgioaa
