/-
  The walk of LsmLast: it returns true. Condition: errors.errorType as laid.
-/
import Derived.Test.YthobnigjhedjaaaDoorLsmPut
import Derived.Test.YthobnigjhedjaaaDoorLsmLastP
import Derived.Test.YthobnigjhedjaaaDoorErrAs
import Derived.Deep.CutBlock
namespace Go.Proofs.YthobnigjhedjaaaDoor
open Go.RowKit Go.ChangeShapes Go.WideShapes
open Go.Sort hiding Below
set_option linter.unusedVariables false

/-- A store that holds V, where no entry is dead. -/
def LsmV (B : Nat) (w : World) (g limit n : Nat) (V : ByteArray → Option Ent) : Prop :=
  ∃ F L, Lsm B w g limit F L ∧ LsmOk limit F L ∧ L.length ≤ n ∧ (∀ k, view F L k = V k) ∧ ∀ x ∈ evals F ++ L.flatten, x.dead = false
theorem LsmV.below {B : Nat} {w w' : World} {g limit n : Nat} {V : ByteArray → Option Ent} (h : LsmV B w g limit n V) (hb : Below w.heap.size w w') : LsmV B w' g limit n V := by
  obtain ⟨F, L, h1, h2⟩ := h
  exact ⟨F, L, h1.below hb, h2⟩
theorem LsmV.more {B : Nat} {w : World} {g limit n m : Nat} {V : ByteArray → Option Ent} (h : LsmV B w g limit n V) (hn : n ≤ m) : LsmV B w g limit m V := by
  obtain ⟨F, L, h1, h2, h3, h4⟩ := h
  exact ⟨F, L, h1, h2, by omega, h4⟩
theorem vput_ok (B g limit n : Nat) (V : ByteArray → Option Ent) (kk vv : ByteArray) (w : World) (S : LsmV B w g limit n V) (hn : n ≤ 800) (hB : B ≤ w.heap.size) :
    Calls Tryd.prog 13 #[.pointer (some ⟨g, 0, none⟩), .string kk, .string vv] w fun e w' =>
      (((120 < kk.size ∨ 120 < vv.size ∨ (V kk = none ∧ ∃ l : List ByteArray, 400 ≤ l.length ∧ ∀ k ∈ l, V k ≠ none)) ∧ ∃ k : Int, k ≠ 0 ∧ e = .returned (errI k)) ∨ (e = .returned .nilIface ∧ LsmV B w' g limit (n + 1) fun k => if k = kk then some ⟨kk, vv, false⟩ else V k)) ∧ Below B w w' := by
  obtain ⟨F, L, h1, h2, h3, h4, h5⟩ := S
  refine (lput_ok B g limit F L kk vv w h1 h2 (by omega) hB).mono ?_
  rintro e w' ⟨⟨hb, k, hk, rfl⟩ | ⟨rfl, hkk, F', L', p1, p2, p3, p4, p5⟩, hbl⟩
  · refine ⟨.inl ⟨?_, k, hk, rfl⟩, hbl⟩
    rcases hb with hb | hb | ⟨hb, _⟩
    · exact .inl hb
    · exact .inr (.inl hb)
    · rename_i hfull
      rw [view_all, h4] at hb
      refine .inr (.inr ⟨hb, (allOf F L).map (·.key), by rw [List.length_map]; exact hfull, fun k hk => ?_⟩)
      obtain ⟨x, hx, rfl⟩ := List.mem_map.1 hk
      rw [← h4, ← view_all, efind_mem (all_apart F L) hx]
      simp
  · refine ⟨.inr ⟨rfl, F', L', p1, p2, by omega, fun k => ?_, fun x hx => ?_⟩, hbl⟩
    · rw [p3, h4]
    · rcases p5 x hx with rfl | hx
      · rfl
      · exact h5 x hx
theorem vflush_ok (B g limit n : Nat) (V : ByteArray → Option Ent) (w : World) (S : LsmV B w g limit n V) (hn : n ≤ 800) (hB : B ≤ w.heap.size) :
    Calls Tryd.prog 15 #[.pointer (some ⟨g, 0, none⟩)] w fun e w' => e = .returned .nilIface ∧ LsmV B w' g limit (n + 1) V ∧ Below B w w' := by
  obtain ⟨F, L, h1, h2, h3, h4, h5⟩ := S
  refine (lflush_ok B g limit F L w h1 h2.pre (by omega) (Nat.lt_of_le_of_lt (Nat.zero_le _) h2.less) hB).mono ?_
  rintro e w' ⟨rfl, ⟨L', p1, p2, p3, p4, p5⟩, hbl⟩
  exact ⟨rfl, ⟨[], L', p1, p2, by omega, fun k => (p3 k).trans (h4 k), fun x hx => h5 x (p5 x hx)⟩, hbl⟩
theorem vcompact_ok (B g limit n : Nat) (V : ByteArray → Option Ent) (w : World) (S : LsmV B w g limit n V) (hn : n ≤ 800) (hB : B ≤ w.heap.size) :
    Calls Tryd.prog 16 #[.pointer (some ⟨g, 0, none⟩)] w fun e w' => e = .returned .nilIface ∧ LsmV B w' g limit (n + 1) V ∧ Below B w w' := by
  obtain ⟨F, L, h1, h2, h3, h4, h5⟩ := S
  refine (compact_any B g limit F L w h1 h2 h5 (by omega) hB).mono ?_
  rintro e w' ⟨rfl, ⟨L', p1, p2, p3, p4, p5⟩, hbl⟩
  exact ⟨rfl, ⟨[], L', p1, p2, by omega, fun k => (p3 k).trans (h4 k), fun x hx => h5 x (p5 x hx)⟩, hbl⟩
theorem vget_ok (B g limit n : Nat) (V : ByteArray → Option Ent) (kk : ByteArray) (w : World) (S : LsmV B w g limit n V) (hn : n ≤ 800) :
    Calls Tryd.prog 14 #[.pointer (some ⟨g, 0, none⟩), .string kk] w fun e w' => e = .returned (gotV (V kk)) ∧ Below w.heap.size w w' := by
  obtain ⟨F, L, h1, h2, h3, h4, h5⟩ := S
  refine (get_ok B g limit F L kk w h1 h2.pre (by omega)).mono ?_
  rintro e w' ⟨rfl, hb⟩
  exact ⟨by rw [h4], hb⟩
/-- A store behind a Del. -/
def LsmD (B : Nat) (w : World) (g limit : Nat) (V : ByteArray → Option Ent) : Prop := ∃ F L, Lsm B w g limit F L ∧ LsmOk limit F L ∧ L.length ≤ 900 ∧ ∀ k, view F L k = V k
theorem LsmD.below {B : Nat} {w w' : World} {g limit : Nat} {V : ByteArray → Option Ent} (h : LsmD B w g limit V) (hb : Below w.heap.size w w') : LsmD B w' g limit V := by
  obtain ⟨F, L, h1, h2⟩ := h
  exact ⟨F, L, h1.below hb, h2⟩
theorem vdel_ok (B g limit n : Nat) (V : ByteArray → Option Ent) (kk : ByteArray) (w : World) (S : LsmV B w g limit n V) (hn : n ≤ 800) (hB : B ≤ w.heap.size) :
    Calls Tryd.prog 17 #[.pointer (some ⟨g, 0, none⟩), .string kk] w fun e w' =>
      ((∃ k : Int, k ≠ 0 ∧ e = .returned (errI k)) ∨ (e = .returned .nilIface ∧ LsmD B w' g limit fun k => if k = kk then some ⟨kk, ⟨#[]⟩, true⟩ else V k)) ∧ Below B w w' := by
  obtain ⟨F, L, h1, h2, h3, h4, h5⟩ := S
  refine (ldel_ok B g limit F L kk w h1 h2 (by omega) hB).mono ?_
  rintro e w' ⟨⟨hb, k, hk, rfl⟩ | ⟨rfl, hkk, F', L', p1, p2, p3, p4, p5⟩, hbl⟩
  · exact ⟨.inl ⟨k, hk, rfl⟩, hbl⟩
  · refine ⟨.inr ⟨rfl, F', L', p1, p2, by omega, fun k => ?_⟩, hbl⟩
    rw [p3, h4]
theorem dget_ok (B g limit : Nat) (V : ByteArray → Option Ent) (kk : ByteArray) (w : World) (S : LsmD B w g limit V) :
    Calls Tryd.prog 14 #[.pointer (some ⟨g, 0, none⟩), .string kk] w fun e w' => e = .returned (gotV (V kk)) ∧ Below w.heap.size w w' := by
  obtain ⟨F, L, h1, h2, h3, h4⟩ := S
  refine (get_ok B g limit F L kk w h1 h2.pre (by omega)).mono ?_
  rintro e w' ⟨rfl, hb⟩
  exact ⟨by rw [h4], hb⟩
theorem vnew_ok (limit : Int) (w : World) (hl : (Lit.int .i64 limit).wf = true) :
    Calls Tryd.prog 12 #[.int .i64 limit] w fun e w' =>
      (((limit < 1 ∨ 400 < limit) ∧ e = .returned (.tuple #[.pointer none, errI 1])) ∨ (∃ g : Nat, 1 ≤ limit ∧ limit ≤ 400 ∧ e = .returned (.tuple #[.pointer (some ⟨g, 0, none⟩), .nilIface]) ∧ LsmV w.heap.size w' g limit.toNat 0 fun _ => none)) ∧ Below w.heap.size w w' := by
  refine (lnew_ok limit w hl).mono ?_
  rintro e w' ⟨⟨h, rfl⟩ | ⟨g, h1, h2, rfl, h⟩, hb⟩
  · exact ⟨.inl ⟨h, rfl⟩, hb⟩
  · exact ⟨.inr ⟨g, h1, h2, rfl, [], [], h, ok_new _ (by omega), Nat.le_refl _, fun k => rfl, nofun⟩, hb⟩
def kA : ByteArray := ⟨#[97]⟩
def kX : ByteArray := ⟨#[120]⟩
def kY : ByteArray := ⟨#[121]⟩
set_option maxRecDepth 100000 in
set_option maxHeartbeats 4000000 in
theorem lsmLast_walk (limit : Int) (A1 : Option Addr) (c1 : Nat) (ks : List ByteArray) (A2 : Option Addr) (c2 : Nat) (vs : List ByteArray) (gone : ByteArray) (w : World) (wl : (Lit.int .i64 limit).wf = true) (h1 : SlA strE (· < w.heap.size) w A1 c1 ks) (s1 : c1 * 16 ≤ 140737488351232) (h2 : SlA strE (· < w.heap.size) w A2 c2 vs) (s2 : c2 * 16 ≤ 140737488351232) (h3 : gone.size ≤ 9223372036854775807) (s3 : gone.size ≤ 140737488351232) (hE : ErrVar w) :
    Calls Tryd.prog 4 #[.int .i64 limit, .slice A1 ks.length c1, .slice A2 vs.length c2, .string gone] w fun e w' => e = .returned (.bool true) ∧ Below w.heap.size w w' := by
  have hl1 := h1.le
  have hl2 := h2.le
  have H1 := Lib.hid h1
  have H2 := Lib.hid h2
  have HE := Lib.hid hE
  have hN := vnew_ok limit w wl
  clear h1 h2 hE s1 s2 h3 s3
  go_enter Tryd.func4, Tryd.ntmps4
  go_wp2_with fail
  refine hN.mono ?_
  rintro e w1 ⟨⟨hbad, rfl⟩ | ⟨g, hg1, hg2, rfl, S1⟩, hb1⟩
  · unfold errI
    by_cases hlt : limit < 1
    · have d0 : decide (limit < 1) = true := decide_eq_true hlt
      go_wp2_with fail
      go_ret
      exact ⟨rfl, hb1⟩
    · have d0 : decide (limit < 1) = false := decide_eq_false hlt
      have d1 : decide (400 < limit) = true := decide_eq_true (by omega)
      go_wp2_with fail
      go_ret
      exact ⟨rfl, hb1⟩
  · have HS1 := Lib.hid S1
    have HB1 := Lib.hid hb1
    have hN2 := vnew_ok 9 w1 (by decide)
    clear hN S1 hb1
    go_wp2_with fail
    refine hN2.mono ?_
    rintro e w2 ⟨⟨hbad, rfl⟩ | ⟨o, -, -, rfl, S2⟩, hb2⟩
    · omega
    · have hP1 := vput_ok w1.heap.size o 9 0 (fun _ => none) kA kX w2 S2 (by omega) hb2.size
      have HB2 := Lib.hid hb2
      clear hN2 S2 hb2
      unfold kA kX at hP1
      go_wp2_with fail
      refine hP1.mono ?_
      rintro e w3 ⟨⟨hbad, -⟩ | ⟨rfl, S3⟩, hb3⟩
      · rcases hbad with h | h | ⟨_, l, h, h'⟩
        · exact absurd h (by decide)
        · exact absurd h (by decide)
        · cases l with
          | nil => simp at h
          | cons x l => exact absurd rfl (h' x List.mem_cons_self)
      · have hP2 := vput_ok w1.heap.size o 9 1 _ kA kY w3 S3 (by omega) (Nat.le_trans HB2.out.size hb3.size)
        have HB3 := Lib.hid hb3
        clear hP1 S3 hb3
        unfold kA kY at hP2
        go_wp2_with fail
        refine hP2.mono ?_
        rintro e w4 ⟨⟨hbad, -⟩ | ⟨rfl, S4⟩, hb4⟩
        · rcases hbad with h | h | ⟨h, _⟩
          · exact absurd h (by decide)
          · exact absurd h (by decide)
          · simp at h
        · have hG := vget_ok w1.heap.size o 9 2 _ kA w4 S4 (by omega)
          have hgv : Hid (Below w1.heap.size w1 w4) := HB2.out.trans (HB3.out.trans hb4)
          clear hP2 S4 hb4
          unfold kA at hG
          simp only [↓reduceIte, gotV, Bool.false_eq_true] at hG
          go_wp2_with fail
          refine hG.mono ?_
          rintro e w5 ⟨rfl, hb5⟩
          have HB5 : Hid (Below w1.heap.size w1 w5) := hgv.out.trans (hb5.mono hgv.out.size)
          have HS5 := Lib.hid (HS1.out.below HB5.out)
          have HBW : Hid (Below w.heap.size w w5) := HB1.out.trans (HB5.out.mono HB1.out.size)
          clear hG hb5 HB2 HB3 hgv HS1 HB1 HB5
          go_upto_if 73 with (fail)
          go_cut [16] from 74 to 75 (fun nv wx => ∃ n : Nat, n ≤ ks.length ∧ n ≤ vs.length ∧ nv = .int .i64 n ∧ wx = w5)
          case first =>
            by_cases hlt : vs.length < ks.length
            · have d0 : decide (vs.length < ks.length) = true := decide_eq_true hlt
              go_wp2_with fail
              go_meet
              case rel => exact ⟨vs.length, by omega, Nat.le_refl _, rfl, rfl⟩
            · have d0 : decide (vs.length < ks.length) = false := decide_eq_false hlt
              go_wp2_with fail
              go_meet
              case rel => exact ⟨ks.length, Nat.le_refl _, by omega, rfl, rfl⟩
          case rest =>
            obtain ⟨n, hn1, hn2, rfl, rfl⟩ := hcut
            obtain ⟨w6, rfl⟩ : ∃ wx, wx = wc := ⟨_, rfl⟩
            go_wp2_with fail
            go_loopw [17] (fun iv wx => ∃ i : Nat, i ≤ n ∧ i ≤ 40 ∧ iv = .int .i64 i ∧ Hid (LsmV w.heap.size wx g limit.toNat (3 * i) (lastV ks vs i)) ∧ Hid (Below w.heap.size w wx)) (fun iv _ => n - (intOf iv).toNat)
            case atStart => exact ⟨0, Nat.zero_le _, by omega, rfl, HS5, HBW⟩
            case round =>
              clear HS5 HBW
              obtain ⟨i, hi, hi4, rfl, HV, HB⟩ := hrel
              by_cases hlt : i < n ∧ i < 40
              · obtain ⟨hl1', hl2'⟩ := hlt
                have d0 : decide (i < n) = true := decide_eq_true hl1'
                have d1 : decide ((i : Int) < 40) = true := decide_eq_true (by omega)
                obtain ⟨b0, o0, rfl, hb0, x0, hz0⟩ := (H1.out.keep (Same.below HB.out)).str_ (k := i) (by omega)
                obtain ⟨b1, o1, rfl, hb1, y0, hz1⟩ := (H2.out.keep (Same.below HB.out)).str_ (k := i) (by omega)
                have HST : Hid (∀ k, lastV ks vs (i + 1) k = if k = ks[i] then some ⟨ks[i], vs[i], false⟩ else lastV ks vs i k) := lastV_step (by omega) (by omega)
                obtain ⟨kk, hkk⟩ : ∃ k, k = ks[i] := ⟨_, rfl⟩
                obtain ⟨vv, hvv⟩ : ∃ k, k = vs[i] := ⟨_, rfl⟩
                rw [← hkk] at x0 hz0 HST
                rw [← hvv] at y0 hz1 HST
                have hbs := HB.out.size
                have hik1 : i < ks.length := by omega
                have hik2 : i < vs.length := by omega
                have hP : Calls Tryd.prog 13 #[.pointer (some ⟨g, 0, none⟩), .string kk, .string vv] wr.drew fun e w' => ∃ v, e = .returned v ∧ ((∃ k : Int, k ≠ 0 ∧ v = errI k) ∨ (v = .nilIface ∧ LsmV w.heap.size w' g limit.toNat (3 * i + 1) (lastV ks vs (i + 1)))) ∧ Below w.heap.size w w' := by
                  refine (vput_ok w.heap.size g limit.toNat (3 * i) _ kk vv wr.drew (HV.out.below ((Below.refl _ _).drew)) (by omega) hbs).mono ?_
                  rintro e w' ⟨⟨_, k, hk, rfl⟩ | ⟨rfl, h⟩, hbl⟩
                  · exact ⟨_, rfl, .inl ⟨k, hk, rfl⟩, HB.out.drew.trans hbl⟩
                  · refine ⟨_, rfl, .inr ⟨rfl, ?_⟩, HB.out.drew.trans hbl⟩
                    rw [funext HST.out]; exact h
                have HP := Lib.hid hP
                have hbl0 : b0 < wr.heap.size := by omega
                have hbl1 : b1 < wr.heap.size := by omega
                clear hP hz0 hz1 hkk hvv HST
                go_upto_region 18 with (fail)
                go_region_held3 (fun W => W.cell? ⟨b0, o0 + i, none⟩ = some (.string kk) ∧ W.cell? ⟨b1, o1 + i, none⟩ = some (.string vv)) (first | exact ⟨x0, y0⟩ | exact ⟨x1, y1⟩) ((go_at_call 13; refine HP.out.mono ?_; rintro e w7 ⟨v, rfl, hv, hbw⟩; have x1 : w7.cell? ⟨b0, o0 + i, none⟩ = some (.string kk) := ((hbw.cell (p := ⟨b0, o0 + i, none⟩) hb0).trans (HB.out.cell (p := ⟨b0, o0 + i, none⟩) hb0).symm).trans x0; have y1 : w7.cell? ⟨b1, o1 + i, none⟩ = some (.string vv) := ((hbw.cell (p := ⟨b1, o1 + i, none⟩) hb1).trans (HB.out.cell (p := ⟨b1, o1 + i, none⟩) hb1).symm).trans y0; have HHV := Lib.hid hv; have HB7 := Lib.hid hbw; clear hv hbw))
                all_goals
                  have hv := HHV.out
                  clear HHV
                  rcases hv with ⟨k, hk, rfl⟩ | ⟨rfl, hS7⟩
                  · unfold errI
                    go_wp2_with fail
                    go_ret
                    exact ⟨rfl, HB7.out⟩
                  · have HS7 := Lib.hid hS7
                    clear hS7
                    clear HV HP
                    cases hb3 : ((i : Int) % 3 == 1) with
                    | true =>
                      have hF := vflush_ok w.heap.size g limit.toNat (3 * i + 1) _ w7 HS7.out (by omega) HB7.out.size
                      go_wp2_with fail
                      refine hF.mono ?_
                      rintro e w8 ⟨rfl, hs8, hb8⟩
                      have HS8 := Lib.hid hs8
                      have HB8 : Hid (Below w.heap.size w w8) := HB7.out.trans hb8
                      clear hs8 hb8 hF
                      cases hb7 : ((i : Int) % 7 == 5) with
                      | true =>
                        have hC := vcompact_ok w.heap.size g limit.toNat (3 * i + 2) _ w8 HS8.out (by omega) HB8.out.size
                        go_wp2_with fail
                        refine hC.mono ?_
                        rintro e w9 ⟨rfl, hs9, hb9⟩
                        have HS9 := Lib.hid hs9
                        have HB9 : Hid (Below w.heap.size w w9) := HB8.out.trans hb9
                        clear hs9 hb9 hC
                        go_wp2_with fail
                        go_roundw
                        case rel => exact ⟨i + 1, by omega, by omega, by go_num, HS9.out.more (by omega), HB9⟩
                        case measure => simp [intOf]; omega
                      | false =>
                        go_wp2_with fail
                        go_roundw
                        case rel => exact ⟨i + 1, by omega, by omega, by go_num, HS8.out.more (by omega), HB8⟩
                        case measure => simp [intOf]; omega
                    | false =>
                      cases hb7 : ((i : Int) % 7 == 5) with
                      | true =>
                        have hC := vcompact_ok w.heap.size g limit.toNat (3 * i + 1) _ w7 HS7.out (by omega) HB7.out.size
                        go_wp2_with fail
                        refine hC.mono ?_
                        rintro e w9 ⟨rfl, hs9, hb9⟩
                        have HS9 := Lib.hid hs9
                        have HB9 : Hid (Below w.heap.size w w9) := HB7.out.trans hb9
                        clear hs9 hb9 hC
                        go_wp2_with fail
                        go_roundw
                        case rel => exact ⟨i + 1, by omega, by omega, by go_num, HS9.out.more (by omega), HB9⟩
                        case measure => simp [intOf]; omega
                      | false =>
                        go_wp2_with fail
                        go_roundw
                        case rel => exact ⟨i + 1, by omega, by omega, by go_num, HS7.out.more (by omega), HB7⟩
                        case measure => simp [intOf]; omega
              · have hm : i = n ∨ i = 40 ∧ 40 ≤ n := by omega
                obtain ⟨m, hmi⟩ : ∃ m, m = i := ⟨_, rfl⟩
                have hD := vdel_ok w.heap.size g limit.toNat (3 * i) (lastV ks vs i) gone wr HV.out (by omega) HB.out.size
                by_cases hin : i < n
                case' pos =>
                  have d0 : decide (i < n) = true := decide_eq_true hin
                  have d1 : decide ((i : Int) < 40) = false := decide_eq_false (by omega)
                case' neg =>
                  have d0 : decide (i < n) = false := decide_eq_false hin
                all_goals
                  clear HV hlt
                  go_wp2_with fail
                  refine hD.mono ?_
                  rintro e w7 ⟨⟨k, hk, rfl⟩ | ⟨rfl, S7⟩, hb7⟩
                  · unfold errI
                    have HB7 := Lib.hid hb7
                    clear hb7
                    go_wp2_with fail
                    go_ret
                    exact ⟨rfl, HB.out.trans HB7.out⟩
                  · have HB7 : Hid (Below w.heap.size w w7) := HB.out.trans hb7
                    rw [← hmi] at S7 hm
                    have HS7 := Lib.hid S7
                    have hmn : m ≤ n := by omega
                    have hm4 : m ≤ 40 := by omega
                    clear S7 hb7 hD HB hmi hin d0 hi hi4
                    try clear d1
                    go_wp2_with fail
                    go_loopw [20] (fun iv wx => ∃ i : Nat, i ≤ m ∧ iv = .int .i64 i ∧ Hid (LsmD w.heap.size wx g limit.toNat fun k => if k = gone then some ⟨gone, ⟨#[]⟩, true⟩ else lastV ks vs m k) ∧ Hid (Below w.heap.size w wx)) (fun iv _ => n - (intOf iv).toNat)
                    case atStart => exact ⟨0, Nat.zero_le _, rfl, HS7, HB7⟩
                    case round =>
                      clear HS7 HB7
                      obtain ⟨i, hi, rfl, HV, HB⟩ := hrel
                      by_cases hlt : i < m
                      · have d0 : decide (i < n) = true := decide_eq_true (by omega)
                        have d1 : decide ((i : Int) < 40) = true := decide_eq_true (by omega)
                        have hiks : i < ks.length := by omega
                        go_wp2_with fail
                        go_loopw [21, 22] (fun lv kv wx => ∃ k l q : Nat, i < k ∧ k ≤ m ∧ lv = .int .i64 l ∧ kv = .int .i64 k ∧ Hid (LastAt ks i k l hiks) ∧ wx = wr.drewN q) (fun _ kv _ => n - (intOf kv).toNat)
                        case atStart => exact ⟨i + 1, i, 0, by omega, by omega, rfl, by go_num, LastAt.start hiks, rfl⟩
                        case round =>
                          obtain ⟨k, l, q, hik, hkm, rfl, rfl, HL, rfl⟩ := hrel
                          by_cases hkl : k < m
                          · have d2 : decide (k < n) = true := decide_eq_true (by omega)
                            have d3 : decide ((k : Int) < 40) = true := decide_eq_true (by omega)
                            obtain ⟨b0, o0, rfl, hb0, x0, hz0⟩ := (H1.out.keep (Same.below HB.out)).str_ (k := k) (by omega)
                            obtain ⟨_, _, e1, _, x1, hz1⟩ := (H1.out.keep (Same.below HB.out)).str_ (k := i) hiks
                            injection e1 with e1
                            injection e1 with e1 e2 _
                            subst e1; subst e2
                            have hb0' : b0 < wr.heap.size := Nat.lt_of_lt_of_le hb0 HB.out.size
                            have hs := str_eqL (a := ks[k]) (b := ks[i])
                            obtain ⟨y, hy⟩ : ∃ y, y = ks[k] := ⟨_, rfl⟩
                            obtain ⟨z, hz⟩ : ∃ z, z = ks[i] := ⟨_, rfl⟩
                            by_cases hkey : ks[k] = ks[i]
                            · have HLN : Hid (LastAt ks i (k + 1) k hiks) := HL.out.yes (by omega) hkey
                              rw [decide_eq_true hkey, ← hy, ← hz] at hs
                              rw [← hy] at x0
                              rw [← hz] at x1
                              clear hy hz hkey hz0 hz1 HL hb0
                              go_wp2_with fail
                              go_quiet (fail)
                              go_wp2_with fail
                              go_roundw
                              case rel => exact ⟨k + 1, k, q + nq, by omega, by omega, rfl, by go_num, HLN, by simp⟩
                              case measure => simp [intOf]; omega
                            · have HLN : Hid (LastAt ks i (k + 1) l hiks) := HL.out.no (by omega) hkey
                              rw [decide_eq_false hkey, ← hy, ← hz] at hs
                              rw [← hy] at x0
                              rw [← hz] at x1
                              clear hy hz hkey hz0 hz1 HL hb0
                              go_wp2_with fail
                              go_quiet (fail)
                              go_wp2_with fail
                              go_roundw
                              case rel => exact ⟨k + 1, l, q + nq, by omega, by omega, rfl, by go_num, HLN, by simp⟩
                              case measure => simp [intOf]; omega
                          · have hke : k = m := by omega
                            subst hke
                            obtain ⟨hlv, hval⟩ := HL.out.val (vs := vs) (by omega)
                            have HBQ : Hid (Below w.heap.size w (wr.drewN q)) := below_drewN HB.out q
                            obtain ⟨b0, o0, rfl, hb0, x0, hz0⟩ := (H1.out.keep (Same.below HBQ.out)).str_ (k := i) hiks
                            obtain ⟨b1, o1, rfl, hb1, y0, hz1⟩ := (H2.out.keep (Same.below HBQ.out)).str_ (k := l) hlv
                            have hG := dget_ok w.heap.size g limit.toNat _ ks[i] (wr.drewN q) (HV.out.below (below_drewN (Below.refl _ _) q))
                            have hs := str_eqL (a := ks[i]) (b := gone)
                            have hwz := HB.out.size
                            have hb0' : b0 < wr.heap.size := by omega
                            have hb1' : b1 < wr.heap.size := by omega
                            have HX0 : Hid (∀ W, Below (wr.drewN q).heap.size (wr.drewN q) W → W.cell? ⟨b0, o0 + i, none⟩ = some (.string ks[i])) := fun W h => (h.cell (p := ⟨b0, o0 + i, none⟩) hb0').trans x0
                            have HY0 : Hid (∀ W, Below (wr.drewN q).heap.size (wr.drewN q) W → W.cell? ⟨b1, o1 + l, none⟩ = some (.string vs[l])) := fun W h => (h.cell (p := ⟨b1, o1 + l, none⟩) hb1').trans y0
                            rw [hval] at hG
                            obtain ⟨z, hz⟩ : ∃ z, z = ks[i] := ⟨_, rfl⟩
                            obtain ⟨u, hu⟩ : ∃ u, u = vs[l] := ⟨_, rfl⟩
                            rw [← hz] at hG x0 HX0 hs
                            rw [← hu] at hG y0 HY0
                            clear hval hz hu hz0 hz1 HL
                            by_cases hkn : k < n
                            case' pos =>
                              have d2 : decide (k < n) = true := decide_eq_true hkn
                              have d3 : decide ((k : Int) < 40) = false := decide_eq_false (by omega)
                            case' neg =>
                              have d2 : decide (k < n) = false := decide_eq_false hkn
                            all_goals
                              by_cases hzg : z = gone
                              · rw [if_pos hzg] at hG
                                rw [decide_eq_true hzg] at hs
                                simp only [gotV, ↓reduceIte] at hG
                                unfold errI at hG
                                clear hzg
                                go_wp2_with fail
                                refine hG.mono ?_
                                rintro e w8 ⟨rfl, hb8⟩
                                have x8 := HX0.out w8 hb8
                                have HB8 : Hid (Below w.heap.size w w8) := HBQ.out.trans (hb8.mono HBQ.out.size)
                                have HV8 := Lib.hid (HV.out.below ((below_drewN (Below.refl _ _) q).trans hb8))
                                have hER := error_errno 6 6 w8 (HE.out.below HB8.out HE.out.pos)
                                have hb08 : b0 < w8.heap.size := Nat.lt_of_lt_of_le hb0' hb8.size
                                clear hG hb8
                                go_wp2_with fail
                                refine hER.mono ?_
                                rintro e w9 ⟨rfl, hb9⟩
                                have HB9 : Hid (Below w.heap.size w w9) := HB8.out.trans (hb9.mono HB8.out.size)
                                have HV9 := Lib.hid (HV8.out.below hb9)
                                clear hER hb9
                                go_wp2_with fail
                                go_roundw
                                case rel => exact ⟨i + 1, by omega, by go_num, HV9, HB9⟩
                                case measure => simp [intOf]; omega
                              · rw [if_neg hzg] at hG
                                rw [decide_eq_false hzg] at hs
                                simp only [gotV, Bool.false_eq_true, ↓reduceIte] at hG
                                clear hzg
                                go_wp2_with fail
                                refine hG.mono ?_
                                rintro e w8 ⟨rfl, hb8⟩
                                have x8 := HX0.out w8 hb8
                                have y8 := HY0.out w8 hb8
                                have HB8 : Hid (Below w.heap.size w w8) := HBQ.out.trans (hb8.mono HBQ.out.size)
                                have HV8 := Lib.hid (HV.out.below ((below_drewN (Below.refl _ _) q).trans hb8))
                                have hb08 : b0 < w8.heap.size := Nat.lt_of_lt_of_le hb0' hb8.size
                                have hb18 : b1 < w8.heap.size := Nat.lt_of_lt_of_le hb1' hb8.size
                                clear hG hb8
                                go_wp2_with fail
                                go_roundw
                                case rel => exact ⟨i + 1, by omega, by go_num, HV8, HB8⟩
                                case measure => simp [intOf]; omega
                      · by_cases hin : i < n
                        case' pos =>
                          have d2 : decide (i < n) = true := decide_eq_true hin
                          have d3 : decide ((i : Int) < 40) = false := decide_eq_false (by omega)
                        case' neg =>
                          have d2 : decide (i < n) = false := decide_eq_false hin
                        all_goals
                          go_wp2_with fail
                          go_ret
                          exact ⟨rfl, HB.out⟩
end Go.Proofs.YthobnigjhedjaaaDoor
