/-
  The walk of KeepBreaks: it returns true. Conditions: the table of powers of ten, and the variable of Atoi's error, read as the library's text lays them.
-/
import Derived.Test.YthanjafbgcljgaaGreatDoorBreakEv
import Derived.Deep.CutBlock
import Derived.Lib.SlBytesConst
import Derived.Deep.RegionHeld3
import Derived.Deep.LoopGhost
import Derived.Deep.RegionHeld
namespace Go.Proofs.YthanjafbgcljgaaGreatDoor
open Go.RowKit Go.Shelf
set_option linter.unusedVariables false

theorem newS_fine : DiskFine newS := ⟨by decide, by decide, by decide, by decide, by decide⟩
def p1S (id : Int) (v : Value) : DState := saveS newS id v 4
theorem p1S_now (id : Int) (v : Value) : (p1S id v).now = [(picN id, v)] := by
  have h := pic_half id
  simp [p1S, saveS, syncS, doneS, newS, DOp.run, fset, fdel, fgetD]
theorem ids_one {id : Int} (h : Good id) (v : Value) : idsOf [(picN id, v)] = [id] := by simp [idsOf, skeys, idOf_pic h]
theorem half_no1 (id : Int) (v : Value) : fhas [(picN id, v)] halfN = false := by simp [fhas, pic_half id]
theorem lit_x {w : World} {g : Nat} {fr : Nat × Nat} (h : w.heap[g]? = some (.cells #[.int .u8 120] 5 fr)) : SlA bytE (· < w.heap.size) w (some ⟨g, 0, none⟩) 1 [120] := by
  refine ⟨by simp, by unfold maxLen; omega, fun i x hx => ?_⟩
  cases i with
  | succ i => simp at hx
  | zero =>
    simp at hx; subst hx
    refine ⟨g, 0, [.int .u8 120], rfl, block_lt h, fun j u hj => ?_, rfl⟩
    cases j with
    | succ j => simp at hj
    | zero =>
      simp at hj; subst hj
      exact (cell_of_row w g 0 _ _ _ h).trans rfl
theorem br_new {w0 w : World} {g : Nat} (h : DiskIn w0 w g newS) : Br w0 w g 0 0 0 :=
  ⟨newS, h, rfl, rfl, rfl, by decide, by decide, by decide, ⟨nofun, fun h => absurd h (by omega), fun id h => pic_seal h⟩⟩
theorem Br.all {w0 w : World} {g : Nat} {safe given : Int} {n : Nat} (h : Br w0 w g safe given n) : Below w0.heap.size w0 w := by
  obtain ⟨S, h1, _⟩ := h; exact h1.all
theorem BrA.all {w0 w : World} {g : Nat} {safe given : Int} {n : Nat} {calm : Bool} (h : BrA w0 w g safe given n calm) : Below w0.heap.size w0 w := by
  obtain ⟨S, h1, _⟩ := h; exact h1.all
theorem BrB.all {w0 w : World} {g : Nat} {safe given : Int} {n : Nat} {calm : Bool} (h : BrB w0 w g safe given n calm) : Below w0.heap.size w0 w := by
  obtain ⟨S, h1, _⟩ := h; exact h1.all
/-- Four numbers of an event, where they lie. -/
def Ev4 (w : World) (p : Nat) (a b c d : Int) : Prop := w.heap[p]? = some (.cells #[.int .i64 a, .int .i64 b, .int .i64 c, .int .i64 d] 31 (0, 0)) ∧ I64 a ∧ I64 b ∧ I64 c ∧ I64 d
theorem Ev4.qk {w w' : World} {p : Nat} {a b c d : Int} (h : Ev4 w p a b c d) (hq : QKeep w w') : Ev4 w' p a b c d := ⟨(hq p ⟨_, _, _, h.1, by decide, by decide⟩).trans h.1, h.2⟩
set_option maxRecDepth 100000 in
set_option maxHeartbeats 8000000 in
theorem keepBreaks_walk (A : Option Addr) (c : Nat) (l : List (List Int)) (w : World) (hl : SlA (slE (intE .i64)) (· < w.heap.size) w A c l) (hT : PowTab w) (hsy : SynVar w) :
    Calls Tryz.prog 3 #[.slice A l.length c] w fun e w' => e = .returned (.bool true) ∧ Below w.heap.size w w' := by
  have hle := hl.le
  have H := Lib.hid hl
  clear hl
  go_enter Tryz.func3, Tryz.ntmps3
  go_wp2_with fail
  refine (new_in w).mono ?_
  rintro e w1 ⟨g, rfl, hD1⟩
  have D1 := Lib.hid hD1
  have hT1 : PowTab w1 := hT.at_ hD1
  have HSY1 : Hid (SynVar w1) := hsy.below hD1.all
  clear hD1
  go_wp2_with fail
  refine (new_in w1).mono ?_
  rintro e w2 ⟨o, rfl, hO2⟩
  have O2 := Lib.hid hO2
  clear hO2
  obtain ⟨W3, hW3⟩ : ∃ W3, W3 = w2.alloc (.cells #[.int .u8 120] 5 (1, 2)) := ⟨_, rfl⟩
  have hb3 : Below w2.heap.size w2 W3 := by rw [hW3]; exact (Below.refl _ _).alloc (Nat.le_refl _) _
  have hx3 : W3.heap[w2.heap.size]? = some (.cells #[.int .u8 120] 5 (1, 2)) := by rw [hW3]; exact heap_alloc_new _ _
  have hG3 : Good 3 := ⟨by decide, by decide⟩
  have hS := save_ok w1 o newS 3 (some ⟨w2.heap.size, 0, none⟩) 1 [120] W3 (O2.out.below hb3) hG3 hT1 rfl (lit_x hx3) (by decide +kernel) newS_fine
  simp only [List.length_cons, List.length_nil, Nat.zero_add] at hS
  have kc := fun (w : World) (C : Array Value) (n c : Nat) => Lib.run_convert_bytes_const (P := Tryz.prog) w 28 5 C n c Tryz.underlying28 Tryz.underlying5
  clear hb3 hx3
  go_wp2_with fail
  rw [← hW3]
  clear hW3 kc
  refine hS.mono ?_
  rintro e w4 ⟨v, j, he, hs4⟩
  obtain rfl := saved_all hs4 rfl
  obtain rfl : e = .returned .nilIface := he
  have O4 : Hid (DiskIn w1 w4 o (p1S 3 v)) := hs4.disk
  have HV4 := Lib.hid (hs4.blob (by omega))
  clear hs4 hS
  have hLt := klatest_ok w1 o (p1S 3 v) (fun _ => [120]) w4 O4.out hT1 (by rw [p1S_now]; intro p hp; obtain rfl := List.mem_singleton.1 hp; exact ⟨.inr ⟨3, hG3, rfl⟩, [120], HV4.out, by decide +kernel⟩)
    (by rw [p1S_now, half_no1]; exact nofun) (by rw [p1S_now]; simp) (by rw [p1S_now, ids_one hG3]; intro k hk; obtain rfl := List.mem_singleton.1 hk; exact ⟨by simpa [fgetD] using HV4.out, by decide +kernel⟩)
  rw [p1S_now, ids_one hG3] at hLt
  go_wp2_with fail
  refine hLt.mono ?_
  rintro e w5 ⟨⟨h, _⟩ | ⟨k, A5, c5, hk, -, rfl, hs5⟩, hb5⟩
  · cases h
  obtain rfl : 3 = k := (List.mem_singleton.1 hk).symm
  have v1 := conv_string (P := Tryz.prog) (src := 28) (dst := 9) hs5 Tryz.underlying28 Tryz.underlying5 Tryz.underlying9
  simp only [List.length_cons, List.length_nil, Nat.zero_add] at v1
  have HB5 : Hid (Below w1.heap.size w1 w5) := O4.out.all.trans (hb5.mono O4.out.all.size)
  have HBR : Hid (Br w w5 g 0 0 0) := br_new (D1.out.below HB5.out)
  clear hLt hb5 hs5 O2 O4 HV4 hk D1 HB5
  go_wp2_with fail
  go_loopw [9, 10, 11] (fun sv gv iv wr => ∃ (i : Nat) (safe given : Int), i ≤ l.length ∧ i ≤ 40 ∧ sv = .int .i64 safe ∧ gv = .int .i64 given ∧ iv = .int .i64 i ∧ 0 ≤ given ∧ given ≤ i ∧ safe ≤ given ∧ 0 ≤ safe ∧ Hid (Br w wr g safe given i)) (fun _ _ iv _ => l.length - (intOf iv).toNat)
  case atStart => exact ⟨0, 0, 0, Nat.zero_le _, by omega, rfl, rfl, rfl, by omega, by omega, by omega, by omega, HBR⟩
  case round =>
    clear HBR v1
    obtain ⟨i, safe, given, hi, hi4, rfl, rfl, rfl, hg0, hgi, hsg, hs0, HBR⟩ := hrel
    by_cases hlt : i < l.length ∧ i < 40
    · obtain ⟨hl1, hl2⟩ := hlt
      have d0 : decide (i < l.length) = true := decide_eq_true hl1
      have d1 : decide ((i : Int) < 40) = true := decide_eq_true (by omega)
      have HB := Lib.hid HBR.out.all
      go_upto_block 2 with (fail)
      go_cut [12] from 56 to 77 (fun p wx => ∃ (pb : Nat) (a b c d : Int), p = .pointer (some ⟨pb, 0, none⟩) ∧ Hid (Ev4 wx pb a b c d) ∧ Hid (Br w wx g safe given i))
      case first => as_aux_lemma =>
        obtain ⟨bo, off, Ai, ci, rfl, hbo, hc, hin⟩ := H.out.sl_ hl1
        have hcr := (HB.out.cell (p := ⟨bo, off + i, none⟩) hbo).trans hc
        obtain ⟨st, hst⟩ : ∃ st, st = l[i] := ⟨_, rfl⟩
        rw [← hst] at hcr hin
        have hbz : bo < wr.heap.size := Nat.lt_of_lt_of_le hbo HB.out.size
        have hin' := hin.keep (Same.below HB.out)
        have hst2 := hin.le
        have HIN := Lib.hid hin'
        have HSV : Hid (∀ a b c4 d : Int, I64 a → I64 b → I64 c4 → I64 d → Ev4 (wr.alloc (.cells #[.int .i64 a, .int .i64 b, .int .i64 c4, .int .i64 d] 31)) wr.heap.size a b c4 d ∧ Br w (wr.alloc (.cells #[.int .i64 a, .int .i64 b, .int .i64 c4, .int .i64 d] 31)) g safe given i) := fun a b c4 d h1 h2 h3 h4 =>
          ⟨⟨heap_alloc_new wr _, h1, h2, h3, h4⟩, HBR.out.below ((Below.refl _ _).alloc (Nat.le_refl _) _)⟩
        clear hst hc hbo hin hin'
        have hcx : ∀ a b c4 d : Int, (wr.alloc (.cells #[.int .i64 a, .int .i64 b, .int .i64 c4, .int .i64 d] 31)).cell? ⟨bo, off + i, none⟩ = some (.slice Ai st.length ci) := fun a b c4 d => by
          rw [World.cell?_alloc_lt _ _ ⟨bo, off + i, none⟩ hbz]; exact hcr
        go_wp2_with fail
        go_loopg [13] (4) (fun g2 jv wx => ∃ (j : Nat) (a b c4 d : Int), j ≤ st.length ∧ j ≤ 4 ∧ g2 = 4 - j ∧ I64 a ∧ I64 b ∧ I64 c4 ∧ I64 d ∧ jv = .int .i64 j ∧ wx = wr.alloc (.cells #[.int .i64 a, .int .i64 b, .int .i64 c4, .int .i64 d] 31))
        case atStart => exact ⟨0, 0, 0, 0, 0, by omega, by omega, rfl, by show (Lit.int .i64 0).wf = true; decide, by show (Lit.int .i64 0).wf = true; decide, by show (Lit.int .i64 0).wf = true; decide, by show (Lit.int .i64 0).wf = true; decide, rfl, rfl⟩
        case round =>
          obtain ⟨j, a, b, c4, d, hj, hj2, hg2, ha, hb, hc, hd, rfl, rfl⟩ := hrel
          have HA := Lib.hid ha
          have HB4 := Lib.hid hb
          have HC := Lib.hid hc
          have HD4 := Lib.hid hd
          have HG2 := Lib.hid hg2
          clear ha hb hc hd hg2
          have hc1 := hcx a b c4 d
          rcases (show (j = 0 ∧ 0 < st.length) ∨ (j = 1 ∧ 1 < st.length) ∨ (j = 2 ∧ 2 < st.length) ∨ (j = 3 ∧ 3 < st.length) ∨ (j < st.length ∧ j = 4) ∨ ¬ j < st.length by omega) with ⟨h, h2⟩ | ⟨h, h2⟩ | ⟨h, h2⟩ | ⟨h, h2⟩ | ⟨h2, h⟩ | h
          · subst h
            obtain ⟨b1, o1, rfl, hb1, hc2, hw2⟩ := HIN.out.int_ h2
            obtain ⟨x, hx⟩ : ∃ x, x = st[0] := ⟨_, rfl⟩
            rw [← hx] at hc2 hw2
            have hc3 : (wr.alloc (.cells #[.int .i64 a, .int .i64 b, .int .i64 c4, .int .i64 d] 31)).cell? ⟨b1, o1 + 0, none⟩ = some (.int .i64 x) := by
              rw [World.cell?_alloc_lt _ _ ⟨b1, o1 + 0, none⟩ (cell_lt hc2)]; exact hc2
            have HX := Lib.hid hw2
            clear hx hw2 hc2 hb1
            simp only [Nat.add_zero] at hc3
            have hd3 : decide (0 < st.length) = true := decide_eq_true h2
            go_wp2_with fail
            go_roundg (3)
            case measure => have := HG2.out; omega
            case rel => exact ⟨1, x, b, c4, d, by omega, by omega, rfl, HX.out, HB4.out, HC.out, HD4.out, rfl, rfl⟩
          · subst h
            obtain ⟨b1, o1, rfl, hb1, hc2, hw2⟩ := HIN.out.int_ h2
            obtain ⟨x, hx⟩ : ∃ x, x = st[1] := ⟨_, rfl⟩
            rw [← hx] at hc2 hw2
            have hc3 : (wr.alloc (.cells #[.int .i64 a, .int .i64 b, .int .i64 c4, .int .i64 d] 31)).cell? ⟨b1, o1 + 1, none⟩ = some (.int .i64 x) := by
              rw [World.cell?_alloc_lt _ _ ⟨b1, o1 + 1, none⟩ (cell_lt hc2)]; exact hc2
            have HX := Lib.hid hw2
            clear hx hw2 hc2 hb1
            skip
            have hd3 : decide (1 < st.length) = true := decide_eq_true h2
            go_wp2_with fail
            go_roundg (2)
            case measure => have := HG2.out; omega
            case rel => exact ⟨2, a, x, c4, d, by omega, by omega, rfl, HA.out, HX.out, HC.out, HD4.out, rfl, rfl⟩
          · subst h
            obtain ⟨b1, o1, rfl, hb1, hc2, hw2⟩ := HIN.out.int_ h2
            obtain ⟨x, hx⟩ : ∃ x, x = st[2] := ⟨_, rfl⟩
            rw [← hx] at hc2 hw2
            have hc3 : (wr.alloc (.cells #[.int .i64 a, .int .i64 b, .int .i64 c4, .int .i64 d] 31)).cell? ⟨b1, o1 + 2, none⟩ = some (.int .i64 x) := by
              rw [World.cell?_alloc_lt _ _ ⟨b1, o1 + 2, none⟩ (cell_lt hc2)]; exact hc2
            have HX := Lib.hid hw2
            clear hx hw2 hc2 hb1
            skip
            have hd3 : decide (2 < st.length) = true := decide_eq_true h2
            go_wp2_with fail
            go_roundg (1)
            case measure => have := HG2.out; omega
            case rel => exact ⟨3, a, b, x, d, by omega, by omega, rfl, HA.out, HB4.out, HX.out, HD4.out, rfl, rfl⟩
          · subst h
            obtain ⟨b1, o1, rfl, hb1, hc2, hw2⟩ := HIN.out.int_ h2
            obtain ⟨x, hx⟩ : ∃ x, x = st[3] := ⟨_, rfl⟩
            rw [← hx] at hc2 hw2
            have hc3 : (wr.alloc (.cells #[.int .i64 a, .int .i64 b, .int .i64 c4, .int .i64 d] 31)).cell? ⟨b1, o1 + 3, none⟩ = some (.int .i64 x) := by
              rw [World.cell?_alloc_lt _ _ ⟨b1, o1 + 3, none⟩ (cell_lt hc2)]; exact hc2
            have HX := Lib.hid hw2
            clear hx hw2 hc2 hb1
            skip
            have hd3 : decide (3 < st.length) = true := decide_eq_true h2
            go_wp2_with fail
            go_roundg (0)
            case measure => have := HG2.out; omega
            case rel => exact ⟨4, a, b, c4, x, by omega, by omega, rfl, HA.out, HB4.out, HC.out, HX.out, rfl, rfl⟩
          · subst h
            have hd3 : decide (4 < st.length) = true := decide_eq_true h2
            go_wp2_with fail
            go_meet
            case rel => exact ⟨_, a, b, c4, d, rfl, (HSV.out a b c4 d HA.out HB4.out HC.out HD4.out).1, (HSV.out a b c4 d HA.out HB4.out HC.out HD4.out).2⟩
          · have hd3 : decide (j < st.length) = false := decide_eq_false h
            go_wp2_with fail
            go_meet
            case rel => exact ⟨_, a, b, c4, d, rfl, (HSV.out a b c4 d HA.out HB4.out HC.out HD4.out).1, (HSV.out a b c4 d HA.out HB4.out HC.out HD4.out).2⟩
      case rest =>
        obtain ⟨pb, a, b, c4, d, rfl, HV, HBR2⟩ := hcut
        obtain ⟨w6, hw6⟩ : ∃ wx, wx = wc := ⟨_, rfl⟩
        rw [← hw6] at HV HBR2 ⊢
        clear hw6 HBR HB
        obtain ⟨x0, x1, x2, x3⟩ : w6.cell? ⟨pb, 0, none⟩ = some (.int .i64 a) ∧ w6.cell? ⟨pb, 1, none⟩ = some (.int .i64 b) ∧ w6.cell? ⟨pb, 2, none⟩ = some (.int .i64 c4) ∧ w6.cell? ⟨pb, 3, none⟩ = some (.int .i64 d) :=
          ⟨(cell_of_row w6 pb 0 _ _ _ HV.out.1).trans rfl, (cell_of_row w6 pb 1 _ _ _ HV.out.1).trans rfl, (cell_of_row w6 pb 2 _ _ _ HV.out.1).trans rfl, (cell_of_row w6 pb 3 _ _ _ HV.out.1).trans rfl⟩
        go_upto_if 80 with (fail)
        go_cut [10] from 80 to 88 (fun gv wx => gv = .int .i64 given ∧ Hid (BrA w wx g safe given i (decide (b < 0))) ∧ Hid (Ev4 wx pb a b c4 d))
        case first =>
          by_cases hb0 : b < 0
          · have d2 : decide (0 ≤ b) = false := decide_eq_false (by omega)
            have HR : Hid (BrA w w6 g safe given i (decide (b < 0))) := by
              show BrA _ _ _ _ _ _ _
              rw [decide_eq_true hb0]; exact HBR2.out.calm
            go_wp2_with fail
            go_meet
            case rel => exact ⟨rfl, HR, HV⟩
          · have d2 : decide (0 ≤ b) = true := decide_eq_true (by omega)
            have hb1 : 0 ≤ b := by omega
            have HDB : Hid (decide (b < 0) = false) := decide_eq_false hb0
            have hb9 : b ≤ 9223372036854775807 := (bounds_i64 HV.out.2.2.1).2
            have hST := ev_steps w g safe given i w6.drew (HBR2.out.below (Below.refl _ _).drew) (by omega)
            have HST := Lib.hid hST
            have HFA : Hid (∀ x, x ≤ 1000000 → Calls Tryz.prog 7 #[.pointer (some ⟨g, 0, none⟩), .int .i64 x] w6.drew fun e w' => e = .returned (.tuple #[]) ∧ QKeep w6.drew w' ∧ BrA w w' g safe given i false) := fun x hx => ev_fail w g safe given i x w6.drew (HBR2.out.below (Below.refl _ _).drew) hx
            clear hST hb0
            go_wp2_with fail
            go_region_held3 (fun W => W.cell? ⟨pb, 1, none⟩ = some (.int .i64 b)) (first | exact x1 | exact y1) (first
              | ((go_at_call 8; refine HST.out.mono ?_; rintro e w7 ⟨k, hk0, hk1, rfl, rfl⟩))
              | ((go_at_call 7; refine (HFA.out _ (by rw [IntKind.wrap_i64, Int.tmod_eq_emod_of_nonneg hb1]; omega)).mono ?_; rintro e w8 ⟨rfl, hq, hA⟩; have HQ8 := Lib.hid hq; have HA8 := Lib.hid hA; have y1 : w8.cell? ⟨pb, 1, none⟩ = some (.int .i64 b) := (cell_of_row w8 pb 1 _ _ _ (HV.out.qk hq).1).trans rfl; clear hq hA)))
            all_goals
              have HV8 : Hid (Ev4 w8 pb a b c4 d) := HV.out.qk HQ8.out
              have HR8 : Hid (BrA w w8 g safe given i (decide (b < 0))) := by
                show BrA _ _ _ _ _ _ _
                rw [HDB.out]; exact HA8.out
              go_wp2_with fail
              go_meet
              case rel => exact ⟨rfl, HR8, HV8⟩
        case rest =>
          obtain ⟨rfl, HA, HV7⟩ := hcut
          obtain ⟨w7, hw7⟩ : ∃ wx, wx = wc := ⟨_, rfl⟩
          rw [← hw7] at HV7 HA ⊢
          clear hw7 HBR2 HV x0 x1 x2 x3
          obtain ⟨x0, x1, x2, x3⟩ : w7.cell? ⟨pb, 0, none⟩ = some (.int .i64 a) ∧ w7.cell? ⟨pb, 1, none⟩ = some (.int .i64 b) ∧ w7.cell? ⟨pb, 2, none⟩ = some (.int .i64 c4) ∧ w7.cell? ⟨pb, 3, none⟩ = some (.int .i64 d) :=
            ⟨(cell_of_row w7 pb 0 _ _ _ HV7.out.1).trans rfl, (cell_of_row w7 pb 1 _ _ _ HV7.out.1).trans rfl, (cell_of_row w7 pb 2 _ _ _ HV7.out.1).trans rfl, (cell_of_row w7 pb 3 _ _ _ HV7.out.1).trans rfl⟩
          have HCM : Hid (b < 0 → decide (b < 0) = true) := fun h => decide_eq_true h
          generalize decide (b < 0) = calm at HA HCM
          go_upto_if 91 with (fail)
          go_cut [9, 10, 14] from 89 to 109 (fun sv gv ev wx => ∃ safe' given' : Int, sv = .int .i64 safe' ∧ gv = .int .i64 given' ∧ 0 ≤ given' ∧ given' ≤ i + 1 ∧ safe' ≤ given' ∧ 0 ≤ safe' ∧ Hid (BrB w wx g safe' given' i calm) ∧ Hid (Ev4 wx pb a b c4 d))
          case first =>
            by_cases ha : a = 1
            · have d2 : (a == 1) = true := beq_iff_eq.2 ha
              clear ha
              have hcb := bounds_i64 HV7.out.2.2.2.1
              obtain ⟨r, hr⟩ : ∃ r, r = (c4.tmod 3 + 3).tmod 3 := ⟨_, rfl⟩
              have hm1 : -3 < c4.tmod 3 ∧ c4.tmod 3 < 3 := by
                rcases Int.le_total 0 c4 with h | h
                · rw [Int.tmod_eq_emod_of_nonneg h]; omega
                · have h2 : c4.tmod 3 = -((-c4).tmod 3) := by rw [Int.neg_tmod]; omega
                  rw [h2, Int.tmod_eq_emod_of_nonneg (by omega)]; omega
              have hr1 : 0 ≤ r ∧ r < 3 := by rw [hr, Int.tmod_eq_emod_of_nonneg (by omega)]; omega
              have e1 : IntKind.i64.wrap (c4.tmod 3 + 3) = c4.tmod 3 + 3 := by rw [IntKind.wrap_i64]; omega
              have e2 := hr.symm
              have e3 : IntKind.i64.wrap (1 + r) = 1 + r := by rw [IntKind.wrap_i64]; omega
              have HCL := Lib.hid (ev_clean w g safe given i calm (1 + r) w7 HA.out hT hsy (by omega) (by omega) (by omega))
              clear hr
              go_wp2_with fail
              refine HCL.out.mono ?_
              rintro e w8 ⟨⟨vc, rfl⟩, hq, hB⟩
              have HB8 := Lib.hid hB
              have HV8 := Lib.hid (HV7.out.qk hq)
              clear hq hB HCL
              go_wp2_with fail
              go_meet
              case rel => exact ⟨safe, given, rfl, rfl, hg0, by omega, hsg, hs0, HB8, HV8⟩
            · have d2 : (a == 1) = false := beq_eq_false_iff_ne.2 ha
              have hGd : Good (given + 1) := ⟨by omega, by omega⟩
              have hTX := ptext_ok (given + 1) w7 hGd
              have HGD := Lib.hid hGd
              have e1 : IntKind.i64.wrap (given + 1) = given + 1 := by rw [IntKind.wrap_i64]; omega
              clear hGd
              go_wp2_with fail
              refine hTX.mono ?_
              rintro e w8 ⟨At, ct, rfl, hst, hb8⟩
              have hSV := ev_save w g safe given i calm At ct w8 (HA.out.below hb8) hT (by omega) HGD.out hst
              have HV8 := Lib.hid (HV7.out.qk (QKeep.below hb8))
              clear hst hb8 hTX
              go_wp2_with fail
              refine hSV.mono ?_
              rintro e w9 ⟨hq, ⟨rfl, hB⟩ | ⟨rfl, hB⟩⟩
              · have HB9 := Lib.hid hB
                have HV9 := Lib.hid (HV8.out.qk hq)
                clear hq hB hSV
                go_wp2_with fail
                go_meet
                case rel => exact ⟨given + 1, given + 1, rfl, rfl, by omega, by omega, by omega, by omega, HB9, HV9⟩
              · have HB9 := Lib.hid hB
                have HV9 := Lib.hid (HV8.out.qk hq)
                clear hq hB hSV
                go_wp2_with fail
                go_meet
                case rel => exact ⟨safe, given + 1, rfl, rfl, by omega, by omega, by omega, by omega, HB9, HV9⟩
          case rest =>
            obtain ⟨safe', given', rfl, rfl, hg0', hgi', hsg', hs0', HB8, HV8⟩ := hcut
            obtain ⟨w8, hw8⟩ : ∃ wx, wx = wc := ⟨_, rfl⟩
            rw [← hw8] at HV8 HB8 ⊢
            clear hw8 HA HV7 x0 x1 x2 x3
            obtain ⟨x0, x1, x2, x3⟩ : w8.cell? ⟨pb, 0, none⟩ = some (.int .i64 a) ∧ w8.cell? ⟨pb, 1, none⟩ = some (.int .i64 b) ∧ w8.cell? ⟨pb, 2, none⟩ = some (.int .i64 c4) ∧ w8.cell? ⟨pb, 3, none⟩ = some (.int .i64 d) :=
              ⟨(cell_of_row w8 pb 0 _ _ _ HV8.out.1).trans rfl, (cell_of_row w8 pb 1 _ _ _ HV8.out.1).trans rfl, (cell_of_row w8 pb 2 _ _ _ HV8.out.1).trans rfl, (cell_of_row w8 pb 3 _ _ _ HV8.out.1).trans rfl⟩
            go_upto_if 112 with (fail)
            go_cut [14] from 110 to 116 (fun ev wx => Hid (Br w wx g safe' given' (i + 1)))
            case first =>
              by_cases hb0 : b < 0
              · have d2 : decide (0 ≤ b) = false := decide_eq_false (by omega)
                have HR : Hid (Br w w8 g safe' given' (i + 1)) := by
                  have h := HB8.out
                  rw [HCM.out hb0] at h
                  exact h.rest
                go_wp2_with fail
                go_meet
                case rel => exact HR
              · have d2 : decide (0 ≤ b) = true := decide_eq_true (by omega)
                have hCR := ev_crash w g safe' given' i calm d w8 HB8.out HV8.out.2.2.2.2
                have hb1 : 0 ≤ b := by omega
                clear hb0
                go_wp2_with fail
                refine hCR.mono ?_
                rintro e w9 ⟨rfl, hq, hB⟩
                have HB9 := Lib.hid hB
                clear hq hB hCR
                go_wp2_with fail
                go_meet
                case rel => exact HB9
            case rest =>
              obtain ⟨w9, hw9⟩ : ∃ wx, wx = wc := ⟨_, rfl⟩
              have HBR9 : Hid (Br w w9 g safe' given' (i + 1)) := by rw [hw9]; exact hcut.out
              rw [← hw9]
              clear hw9 hcut HB8 HV8 x0 x1 x2 x3
              obtain ⟨S, hD, hS1, hS2, hS3, hS4, hS5, hS6, hF⟩ := HBR9.out
              have HD := Lib.hid hD
              have HF := Lib.hid hF
              have HLT := Lib.hid (klatest_ok w g S pic w9 hD hT hF.all (fun _ => hsy) (by omega) (fun id hid => hF.blob hD.nodup hid))
              have HLN : Hid (S.now.length ≤ 100) := by show _ ≤ _; omega
              clear hD hS1 hS2 hS3 hS4 hS5 hS6 hF
              go_wp2_with fail
              refine HLT.out.mono ?_
              rintro e w10 ⟨⟨hnone, rfl⟩ | ⟨id, Ai, ci, hid, hmax, rfl, hsi⟩, hb10⟩
              · have hs00 : ¬ 0 < safe' := fun h => by
                  obtain ⟨k, _, h2, h3⟩ := HF.out.has h
                  have := (ids_has HF.out).2 ⟨h2, h3⟩
                  rw [hnone] at this; cases this
                have d2 : decide (0 < safe') = false := decide_eq_false hs00
                have HBR10 := Lib.hid (HBR9.out.below hb10)
                clear hnone hb10 HLT
                go_wp2_with fail
                go_roundw
                case rel => exact ⟨i + 1, safe', given', by omega, by omega, rfl, rfl, by go_num, hg0', by omega, hsg', hs0', HBR10⟩
                case measure => simp [intOf]; omega
              · have hGi := ((ids_has HF.out).1 hid).1
                have hidg := HF.out.ids_le hid
                have hsid : safe' ≤ id := by
                  by_cases h0 : 0 < safe'
                  · obtain ⟨k, h1, h2, h3⟩ := HF.out.has h0
                    have := hmax k ((ids_has HF.out).2 ⟨h2, h3⟩)
                    omega
                  · have := hGi.1; omega
                have d2 : decide (id < safe') = false := decide_eq_false (by omega)
                have d3 : decide (given' < id) = false := decide_eq_false (by omega)
                have HMAX := Lib.hid hmax
                have HID := Lib.hid hid
                have HBR10 := Lib.hid (HBR9.out.below hb10)
                have HD10 := Lib.hid (HD.out.below hb10)
                have HF10 := Lib.hid (HF.out.below hb10)
                have HTX := Lib.hid (ptext_ok id w10.drew hGi)
                have HSI := Lib.hid hsi
                have v1 := conv_string (P := Tryz.prog) (src := 28) (dst := 9) (hsi.keep (w' := w10.drew) fun k hk => rfl) Tryz.underlying28 Tryz.underlying5 Tryz.underlying9
                clear hmax hid hb10 HLT hsi
                go_wp2_with fail
                go_region_held (fun W => (convert 28 9 (.slice Ai (pic id).length ci)).run Tryz.prog W = .ok (.string ⟨(pic id).toArray⟩) W) (first | exact v1 | exact v3) ((go_at_call 10; refine HTX.out.mono ?_; rintro e w11 ⟨At, ct, rfl, hst, hb11⟩; have v2 := conv_string (P := Tryz.prog) (src := 28) (dst := 9) hst Tryz.underlying28 Tryz.underlying5 Tryz.underlying9; have v3 := conv_string (P := Tryz.prog) (src := 28) (dst := 9) (HSI.out.keep (w' := w11) fun k hk => hb11.block k hk) Tryz.underlying28 Tryz.underlying5 Tryz.underlying9; have HB11 := Lib.hid hb11; clear hst hb11))
                all_goals
                  have hb1011 : Below w10.heap.size w10 w11 := (Below.refl _ _).drew.trans HB11.out
                  have HBR11 := Lib.hid (HBR10.out.below hb1011)
                  have HLS := Lib.hid (klist_ok w g S w11 (HD10.out.below hb1011) hT (HF10.out.below hb1011).all (fun _ => hsy) (by have := HLN.out; omega))
                  clear v1 v2 v3 hb1011
                  go_wp2_with fail
                  refine HLS.out.mono ?_
                  rintro e w12 ⟨zs, vz, rfl, hr, hpz, hsz, hb12⟩
                  have hiz : id ∈ zs := hpz.mem_iff.2 HID.out
                  have h0 : zs ≠ [] := List.ne_nil_of_mem hiz
                  obtain ⟨g1, cap, rfl, hc⟩ := ints_cell hr h0
                  have hlen : 0 < zs.length := List.length_pos_iff.2 h0
                  have hl : zs.length - 1 < zs.length := by omega
                  have hcl := hc (zs.length - 1) hl
                  have hlast : zs[zs.length - 1] = id := by
                    have h1 := last_max hsz h0 hl id hiz
                    have h2 := HMAX.out zs[zs.length - 1] (hpz.mem_iff.1 (List.getElem_mem hl))
                    omega
                  rw [hlast] at hcl
                  have HBR12 := Lib.hid (HBR11.out.below hb12)
                  have hzl : zs.length ≤ 1000000 := by
                    rw [hpz.length_eq]
                    have h1 := List.length_filterMap_le idOf (skeys S.now)
                    have h2 : (skeys S.now).length = S.now.length := by simp [skeys]
                    have := HLN.out
                    unfold idsOf; omega
                  obtain ⟨m, hm⟩ : ∃ m, zs.length = m + 1 := ⟨zs.length - 1, by omega⟩
                  rw [hm] at hcl hzl
                  rw [hm]
                  simp only [Nat.add_sub_cancel] at hcl
                  clear hr hpz hsz hb12 hc hiz h0 hlen hl hlast hm HLS
                  go_wp2_with fail
                  go_roundw
                  case rel => exact ⟨i + 1, safe', given', by omega, by omega, rfl, rfl, by go_num, hg0', by omega, hsg', hs0', HBR12⟩
                  case measure => simp [intOf]; omega
    · by_cases hin : i < l.length
      case' pos =>
        have d0 : decide (i < l.length) = true := decide_eq_true hin
        have d1 : decide ((i : Int) < 40) = false := decide_eq_false (by omega)
      case' neg =>
        have d0 : decide (i < l.length) = false := decide_eq_false hin
      all_goals
        go_wp2_with fail
        go_ret
        exact ⟨rfl, HBR.out.all⟩
end Go.Proofs.YthanjafbgcljgaaGreatDoor
