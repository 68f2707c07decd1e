/-
  Several texts of this claim in one, in build order; each begins with its own remark, which says what it proves and under which conditions.
-/
import Derived.Test.YtfndhfekbbbliaaGreatDoorPackN
import Derived.Test.YtfndhfekbbbliaaGreatDoorPackI
import Derived.Deep.RegionLaw
import Derived.Deep.CutRange
import Derived.BigQuiet
import Derived.Test.YtfndhfekbbbliaaGreatDoorPackA
import Derived.LaidEql
import Derived.Stop.Asserts
import Derived.RowKitTokens

/-
  The reference's Lines: the records' numbers by key, in the keys' order. Conditions: where the records lie; no more than a million.
-/
namespace Go.Proofs.YtfndhfekbbbliaaGreatDoor
open Go.RowKit Go.ChangeShapes Go.WideShapes Go.Shelf
set_option linter.unusedVariables false
theorem src_linesR {w : World} {A : Option Addr} {c : Nat} {q : List LineR} {F : Nat → Prop} (h : SlA linC F w A c q) : Src Tryz.prog 2 130 (.slice A q.length c) q.length (q.flatMap lineCells) w :=
 Src.of_sl (P := Tryz.prog) (tx := 130) h Tryz.underlying130 lineCells (fun cs x hx => hx) (fun _ => rfl) (fun x u hu => by simp [lineCells] at hu; rcases hu with rfl | rfl <;> rfl)
theorem LnAt.sl {B : Nat} {w : World} {A : Option Addr} {cap : Nat} {q : List LineR} (h : LnAt B w A cap q) : SlA linC (· < w.heap.size) w A cap q :=
 OwnS.sl (E := linC) lineCells (fun _ => rfl) h.own rfl (fun k e => h.own.lt k e) (fun x _ => rfl)
theorem LnAt.at_ {B : Nat} {w : World} {g off cap : Nat} {q : List LineR} (h : LnAt B w (some ⟨g, off, none⟩) cap q) {k : Nat} (hk : k < q.length) :
  w.cell? ⟨g, off + k * 2, none⟩ = some (.string q[k].1) ∧ w.cell? ⟨g, off + k * 2 + 1, none⟩ = some (.slice q[k].2.A q[k].2.xs.length q[k].2.cap) := by
 obtain ⟨g', off', e, _, hr⟩ := h.own.head (by omega) (by decide)
 injection e with e; injection e with e1 e2; subst e1; subst e2
 have h5 := List.getElem?_eq_getElem hk
 have h0 := flat_get lineCells 2 (fun _ => rfl) q h5 (j := 0) (by decide)
 have h1 := flat_get lineCells 2 (fun _ => rfl) q h5 (j := 1) (by decide)
 exact ⟨hr _ _ h0, by rw [Nat.add_assoc]; exact hr _ _ h1⟩
theorem LnAt.some {B : Nat} {w : World} {A : Option Addr} {cap : Nat} {q : List LineR} (h : LnAt B w A cap q) (hq : 0 < q.length) : ∃ g off, A = some ⟨g, off, none⟩ ∧ g < w.heap.size ∧ B ≤ g := by
 obtain ⟨g, off, e, hg, _⟩ := h.own.head hq (by decide)
 exact ⟨g, off, e, hg, h.base g (by rw [e]; rfl)⟩
set_option maxRecDepth 100000 in
set_option maxHeartbeats 4000000 in
theorem rlines_ok (F : Nat → Prop) (A : Option Addr) (c : Nat) (l : List Rec) (w : World) (hl : SlA recE F w A c l) (hF : ∀ k, F k → k < w.heap.size) (hm : l.length ≤ 1000000) :
  Calls Tryz.prog 74 #[.slice A l.length c] w fun e w' => ∃ A' c' out, e = .returned (.slice A' (List.length out) c') ∧ LinesGrp l out ∧ SlA linE (fun k => w.heap.size ≤ k ∧ k < w'.heap.size) w' A' c' out ∧ Below w.heap.size w w' := by
 have HFINE := Lib.hid (recs_fine hl)
 have HL := Lib.hid hl
 have HF := Lib.hid hF
 have hle := hl.le
 clear hl hF
 go_enter Tryz.func74, Tryz.ntmps74
 go_wp2_with fail
 go_loopw [3, 4] (fun ov iv wr => ∃ (i : Nat) (Ao : Option Addr) (co : Nat) (q : List LineR), i ≤ l.length ∧ iv = .int .i64 i ∧ q.length ≤ i ∧ ov = .slice Ao q.length co ∧ Hid (q = [] → Ao = none ∧ co = 0) ∧ Hid (LnAt w.heap.size wr Ao co q) ∧ Hid (LnOk (l.take i) none q) ∧ Hid (Below w.heap.size w wr)) (fun _ iv _ => l.length - (intOf iv).toNat)
 case atStart => exact ⟨0, none, 0, [], Nat.zero_le _, rfl, Nat.le_refl _, rfl, (fun _ => ⟨rfl, rfl⟩), LnAt.nil _ _, LnOk.nil, Below.refl _ _⟩
 case round =>
  obtain ⟨i, Ao, co, q, hi, rfl, hqi, rfl, HZ, HQ, HOK, HB⟩ := hrel
  by_cases hlt : i < l.length
  ·have hB0 := HB.out.size
   obtain ⟨b, off, rfl, hFb, y0, y1, _, _⟩ := (HL.out.keep fun k hk => HB.out.block k (HF.out k hk)).rec_ hlt
   have hbl : b < wr.heap.size := Nat.lt_of_lt_of_le (HF.out b hFb) hB0
   have hbw : b < w.heap.size := HF.out b hFb
   have HNX : Hid (l.take (i + 1) = l.take i ++ [l[i]]) := List.take_succ_eq_append_getElem hlt
   clear hFb
   generalize l[i] = r at y0 y1 HNX
   obtain ⟨key, num, time⟩ := r
   simp only at y0 y1
   have HBW := Lib.hid hbw
   clear hbw
   go_wp2_with fail
   go_loopw [5] (fun kv wx => ∃ k q2 : Nat, k ≤ q.length ∧ kv = .int .i64 k ∧ Hid (∀ p ∈ q.take k, kLess p.1 key) ∧ wx = wr.drewN q2) (fun kv _ => q.length - (intOf kv).toNat)
   case atStart => exact ⟨0, 0, Nat.zero_le _, rfl, (fun p hp => by simp at hp), rfl⟩
   case round =>
    obtain ⟨k, q2, hk, rfl, HK, rfl⟩ := hrel
    go_upto_region 6 with (fail)
    go_cut [29] from 14 to 31 (fun bv wx => (∃ bt : Bool, bv = .bool bt ∧ Hid ((bt = true → ∃ h : k < q.length, kLess q[k].1 key) ∧ (bt = false → ∀ h : k < q.length, ¬ kLess q[k].1 key))) ∧ ∃ q3, wx = wr.drewN q3)
    case first =>
     by_cases hkl : k < q.length
     ·obtain ⟨g, oo, rfl, hgl, hgb⟩ := HQ.out.some (by omega)
      obtain ⟨z0, _⟩ := HQ.out.at_ hkl
      have HG : Hid (q[k]'hkl = q[k]'hkl) := rfl
      obtain ⟨kk, hkk⟩ : ∃ kk, kk = q[k].1 := ⟨_, rfl⟩
      rw [← hkk] at z0
      have dk : decide (k < q.length) = true := decide_eq_true hkl
      have hcap := HQ.out.sl.1
      have HKK := Lib.hid hkk
      clear hkk
      cases hb : Op.bytesLess kk.toList key.toList with
      | true =>
       have HX : Hid (kLess kk key) := of_decide_eq_true (p := kLess kk key) (by rw [← kLess_bytes]; exact hb)
       go_quiet (fail)
       go_wp2_with fail
       go_meet
       case rel => exact ⟨⟨true, rfl, fun _ => ⟨hkl, HKK.out ▸ HX.out⟩, fun e => by cases e⟩, _, by first | rfl | exact World.drewN_drewN _ _ _⟩
      | false =>
       have HX : Hid (¬ kLess kk key) := of_decide_eq_false (p := kLess kk key) (by rw [← kLess_bytes]; exact hb)
       go_quiet (fail)
       go_wp2_with fail
       go_meet
       case rel => exact ⟨⟨false, rfl, (fun e => by cases e), fun _ _ => HKK.out ▸ HX.out⟩, _, by first | rfl | exact World.drewN_drewN _ _ _⟩
     ·have dk : decide (k < q.length) = false := decide_eq_false hkl
      go_quiet (fail)
      go_wp2_with fail
      go_meet
      case rel => exact ⟨⟨false, rfl, (fun e => by cases e), fun _ h => absurd h hkl⟩, _, by first | rfl | exact World.drewN_drewN _ _ _⟩
    case rest =>
     obtain ⟨⟨bt, rfl, HBT⟩, q3, rfl⟩ := hcut
     clear q2
     generalize q3 = q2
     cases bt with
     | true =>
      obtain ⟨hkl, hx⟩ := HBT.out.1 rfl
      have HK2 : Hid (∀ p ∈ q.take (k + 1), kLess p.1 key) := fun p hp => by
       rw [List.take_succ_eq_append_getElem hkl] at hp
       rcases List.mem_append.1 hp with hp | hp
       ·exact HK.out p hp
       ·rw [List.mem_singleton.1 hp]; exact hx
      clear hx HK HBT
      go_wp2_with fail
      go_roundw
      case rel => exact ⟨k + 1, q2, by omega, by go_num, HK2, rfl⟩
      case measure => simp [intOf]; omega
     | false =>
      have HN : Hid (∀ h : k < q.length, ¬ kLess q[k].1 key) := HBT.out.2 rfl
      clear HBT
      go_upto_region 8 with (fail)
      go_cut [48] from 8 to 83 (fun bv wx => (∃ bt : Bool, bv = .bool bt ∧ Hid ((bt = true → ∀ p ∈ q.drop k, kLess key p.1) ∧ (bt = false → ∃ h : k < q.length, q[k].1 = key))) ∧ ∃ q3, wx = wr.drewN q3)
      case first =>
       by_cases hkl : k < q.length
       ·obtain ⟨g, oo, rfl, hgl, hgb⟩ := HQ.out.some (by omega)
        obtain ⟨z0, _⟩ := HQ.out.at_ hkl
        have HAFT := Lib.hid (fun h => after_all HOK.out.sorted hkl (key := key) h)
        have hno := HN.out hkl
        obtain ⟨kk, hkk⟩ : ∃ kk, kk = q[k].1 := ⟨_, rfl⟩
        rw [← hkk] at z0 hno HAFT
        have dk : decide (k = q.length) = false := decide_eq_false (by omega)
        have dk2 : ((k : Int) == (q.length : Int)) = false := by simp; omega
        have hcap := HQ.out.sl.1
        have HKK := Lib.hid hkk
        have HNO := Lib.hid hno
        clear hkk hno
        by_cases hb : kk = key
        ·have hb2 : (kk.toList == key.toList) = true := by rw [hb]; simp
         have HX := Lib.hid hb
         clear hb
         go_quiet (fail)
         go_wp2_with fail
         go_meet
         case rel => exact ⟨⟨false, rfl, (fun e => by cases e), fun _ => ⟨hkl, HKK.out ▸ HX.out⟩⟩, _, by first | rfl | exact World.drewN_drewN _ _ _⟩
        ·have hb2 : (kk.toList == key.toList) = false := str_neR hb
         have HX := Lib.hid hb
         clear hb
         go_quiet (fail)
         go_wp2_with fail
         go_meet
         case rel => exact ⟨⟨true, rfl, (fun _ => HAFT.out (kLess_tri HNO.out HX.out)), fun e => by cases e⟩, _, by first | rfl | exact World.drewN_drewN _ _ _⟩
       ·have hke : k = q.length := by omega
        have dk2 : ((k : Int) == (q.length : Int)) = true := by simp; omega
        have HD : Hid (q.drop k = []) := List.drop_eq_nil_of_le (by omega)
        have dk : decide (k = q.length) = true := decide_eq_true hke
        go_quiet (fail)
        go_wp2_with fail
        go_meet
        case rel => exact ⟨⟨true, rfl, (fun _ p hp => by rw [HD.out] at hp; cases hp), fun e => by cases e⟩, _, by first | rfl | exact World.drewN_drewN _ _ _⟩
      case rest =>
       obtain ⟨⟨bt, rfl, HBT⟩, q3, rfl⟩ := hcut
       clear q2
       generalize q3 = q2
       go_upto_if 48 with (fail)
       go_cut [3] from 8 to 83 (fun ov wx => ∃ (A1 : Option Addr) (c1 : Nat) (a : List LineR) (row : RowI) (z : List LineR), ov = .slice A1 (a.length + 1 + z.length) c1 ∧ a.length = k ∧ a.length + z.length ≤ i ∧ Hid (LnAt w.heap.size wx A1 c1 (a ++ (key, row) :: z)) ∧ Hid (LnOk (l.take i) (some key) (a ++ (key, row) :: z)) ∧ Hid (Below wr.heap.size wr wx))
       case first =>
        cases bt with
        | false =>
         obtain ⟨hkl, hx⟩ := HBT.out.2 rfl
         have hsp : q = q.take k ++ (key, q[k].2) :: q.drop (k + 1) := by
          conv => lhs; rw [← List.take_append_drop k q, List.drop_eq_getElem_cons hkl]
          rw [← hx]
         have HQ2 : Hid (LnAt w.heap.size (wr.drewN q2) Ao co (q.take k ++ (key, q[k].2) :: q.drop (k + 1))) := by
          show LnAt _ _ _ _ _; rw [← hsp]; exact HQ.out.below (bdrewN (Below.refl _ _) q2)
         have HOK2 : Hid (LnOk (l.take i) (some key) (q.take k ++ (key, q[k].2) :: q.drop (k + 1))) := by
          have h := HOK.out
          rw [hsp] at h
          exact h.hit
         have HLN : Hid ((q.take k).length = k ∧ (q.drop (k + 1)).length = q.length - k - 1) := ⟨by rw [List.length_take]; omega, by rw [List.length_drop]; omega⟩
         clear HBT hx hsp
         go_wp2_with fail
         go_meet
         case rel => exact ⟨Ao, co, q.take k, q[k].2, q.drop (k + 1), by rw [HLN.out.1, HLN.out.2]; congr 1; omega, HLN.out.1, by rw [HLN.out.1, HLN.out.2]; omega, HQ2, HOK2, bdrewN (Below.refl _ _) q2⟩
        | true =>
         have HAF : Hid (∀ p ∈ q.drop k, kLess key p.1) := HBT.out.1 rfl
         have HLN : Hid ((q.take k).length = k ∧ (q.drop k).length = q.length - k) := ⟨by rw [List.length_take]; omega, by rw [List.length_drop]⟩
         have HOK2 : Hid (LnOk (l.take i) (some key) (q.take k ++ (key, noRow) :: q.drop k)) := by
          have h := HOK.out
          rw [← List.take_append_drop k q] at h
          exact h.add HK.out HAF.out rfl
         have HFL : Hid ((q.take k ++ (key, noRow) :: q.drop k).flatMap lineCells = (q.take k).flatMap lineCells ++ [.string key, .slice none 0 0] ++ (q.drop k).flatMap lineCells ∧ (q.take k ++ (key, noRow) :: q.drop k).length = k + 1 + (q.length - k)) := by
          refine ⟨?_, ?_⟩
          ·rw [List.flatMap_append, List.flatMap_cons, List.append_assoc]; rfl
          ·rw [List.length_append, List.length_cons, HLN.out.1, HLN.out.2]; omega
         clear HBT HAF HN HK
         by_cases hq0 : q = []
         ·obtain ⟨rfl, rfl⟩ := HZ.out hq0
          subst hq0
          obtain rfl : k = 0 := by simpa using hk
          have HS1 : Hid (Src Tryz.prog 2 130 (.slice none 0 0) 0 ((([] : List LineR).take 0).flatMap lineCells) (wr.drewN q2)) := src_linesR (q := []) (SlA.nil linC (fun _ => True) _ none 0 (Nat.zero_le _))
          have HS2 : Hid (∀ W, Below wr.heap.size wr W → Src Tryz.prog 2 130 (.slice none 0 0) 0 ((([] : List LineR).drop 0).flatMap lineCells) W) := fun W _ => src_linesR (q := []) (SlA.nil linC (fun _ => True) _ none 0 (Nat.zero_le _))
          go_wp2_with (at_builtin; refine wpList_append_src (w := wr.drewN q2) rfl _ _ 130 130 rfl wr.heap.size 178 _ 2 40 Tryz.underlying130 info_line rfl (by decide) (.slice none 0 0) 0 [] rfl (World.ownsRow_nil _ _ _ _) (.slice none 0 0) rfl 0 ((([] : List LineR).take 0).flatMap lineCells) HS1.out ?_ ?_ (Nat.le_refl _) (bdrewN (Below.refl _ _) q2) (Nat.le_refl _) ?_)
          any_goals (first | (show _ ≤ maxLen; unfold maxLen; omega) | (show _ ≤ 140737488355328; omega) | skip)
          ·intro v1 w1 hown1 hg1 hb1 hat1
           try simp only [Nat.zero_add, List.nil_append] at hown1
           have x0 := (hb1.cell (p := ⟨b, off + i * 3, none⟩) hbl).trans y0
           have HO1 := Lib.hid hown1
           have HB1 := Lib.hid hb1
           have hz1 := hb1.size
           clear hown1 hg1 hb1 hat1
           go_wp2_with (at_builtin; refine wpList_push (w0 := w1) rfl _ _ 130 rfl wr.heap.size 178 _ 2 40 Tryz.underlying130 info_line rfl (by decide) v1 0 _ rfl HO1.out [.string key, .slice none 0 0] (by simp [Act.eval]) rfl ?_ ?_ ?_ HB1.out.size HB1.out (Nat.le_refl _) ?_)
           ·rintro u hu; simp only [List.mem_cons, List.not_mem_nil, or_false] at hu; rcases hu with rfl | rfl <;> rfl
           any_goals (first | (show _ ≤ maxLen; unfold maxLen; omega) | (show _ ≤ 140737488355328; omega) | skip)
           ·intro v2 w2 hown2 hg2 hb2 hat2
            have HO2 := Lib.hid hown2
            have HB2 := Lib.hid hb2
            have hz2 := hb2.size
            have HSR := Lib.hid (HS2.out w2 hb2)
            clear hown2 hg2 hb2 hat2 HO1 HB1 x0
            go_wp2_with (at_builtin; refine wpList_append_src (w := w2) rfl _ _ 130 130 rfl wr.heap.size 178 _ 2 40 Tryz.underlying130 info_line rfl (by decide) v2 (0 + 1) _ rfl HO2.out (.slice none 0 0) rfl 0 ((([] : List LineR).drop 0).flatMap lineCells) HSR.out ?_ ?_ HB2.out.size HB2.out (Nat.le_refl _) ?_)
            any_goals (first | (show _ ≤ maxLen; unfold maxLen; omega) | (show _ ≤ 140737488355328; omega) | skip)
            ·intro v3 w3 hown3 hg3 hb3 hat3
             obtain ⟨A3, c3, hv3, ho3, hbs3⟩ := OwnS.of_row hown3
             have HX : Hid (LnAt w.heap.size w3 A3 c3 (([] : List LineR).take 0 ++ (key, noRow) :: ([] : List LineR).drop 0)) := by
              have h : LnAt w.heap.size wr none 0 (([] : List LineR).take 0 ++ ([] : List LineR).drop 0) := HQ.out
              refine h.add hb3 hB0 key ?_ hbs3
              rw [HFL.out.1, HFL.out.2]
              have h9 := ho3
              simp only [List.append_assoc, List.cons_append, List.nil_append, Nat.zero_add] at h9 ⊢
              exact h9
             have HB3 := Lib.hid hb3
             clear hown3 hg3 hb3 hat3 ho3 hbs3 HO2 HB2 HSR
             subst hv3
             go_wp2_with fail
             go_meet
             case rel => exact ⟨A3, c3, ([] : List LineR).take 0, noRow, ([] : List LineR).drop 0, by rw [HLN.out.1, HLN.out.2]; rfl, HLN.out.1, by rw [HLN.out.1, HLN.out.2]; omega, HX, HOK2, HB3⟩
         ·have hq1 : 0 < q.length := List.length_pos_iff.2 hq0
          obtain ⟨g, oo, rfl, hgl, hgb⟩ := HQ.out.some hq1
          have hcap := HQ.out.sl.1
          clear hq0
          have HS1 : Hid (Src Tryz.prog 2 130 (.slice (some ⟨g, oo, none⟩) k co) k ((q.take k).flatMap lineCells) (wr.drewN q2)) := by
           have h := src_linesR ((HQ.out.sl.head (k := k) (by omega)).drewN q2)
           rw [HLN.out.1] at h; exact h
          by_cases hmc : co = k
          ·have hkq : k = q.length := by omega
           have HDN : Hid (q.drop k = []) := List.drop_eq_nil_of_le (by omega)
           obtain rfl : k = co := hmc.symm
           have HS2 : Hid (∀ W, Below wr.heap.size wr W → Src Tryz.prog 2 130 (.slice (some ⟨g, oo, none⟩) 0 0) 0 ((q.drop k).flatMap lineCells) W) := fun W hb => by
            have h := src_linesR (SlA.nil linC (fun _ => True) W (some ⟨g, oo, none⟩) 0 (by unfold maxLen; omega))
            rw [HDN.out]; exact h
           have hql : q.length - k = 0 := by omega
           rw [hql] at HFL HLN
           have HKQ := Lib.hid hkq
           have hk9 : q.length = k := hkq.symm
           clear hkq hql
           go_wp2_with (at_builtin; refine wpList_append_src (w := wr.drewN q2) rfl _ _ 130 130 rfl wr.heap.size 178 _ 2 40 Tryz.underlying130 info_line rfl (by decide) (.slice none 0 0) 0 [] rfl (World.ownsRow_nil _ _ _ _) (.slice (some ⟨g, oo, none⟩) k k) rfl k ((q.take k).flatMap lineCells) HS1.out ?_ ?_ (Nat.le_refl _) (bdrewN (Below.refl _ _) q2) (Nat.le_refl _) ?_)
           any_goals (first | (show _ ≤ maxLen; unfold maxLen; omega) | (show _ ≤ 140737488355328; omega) | skip)
           ·intro v1 w1 hown1 hg1 hb1 hat1
            try simp only [Nat.zero_add, List.nil_append] at hown1
            have x0 := (hb1.cell (p := ⟨b, off + i * 3, none⟩) hbl).trans y0
            have HO1 := Lib.hid hown1
            have HB1 := Lib.hid hb1
            have hz1 := hb1.size
            clear hown1 hg1 hb1 hat1
            go_wp2_with (at_builtin; refine wpList_push (w0 := w1) rfl _ _ 130 rfl wr.heap.size 178 _ 2 40 Tryz.underlying130 info_line rfl (by decide) v1 k _ rfl HO1.out [.string key, .slice none 0 0] (by simp [Act.eval]) rfl ?_ ?_ ?_ HB1.out.size HB1.out (Nat.le_refl _) ?_)
            ·rintro u hu; simp only [List.mem_cons, List.not_mem_nil, or_false] at hu; rcases hu with rfl | rfl <;> rfl
            any_goals (first | (show _ ≤ maxLen; unfold maxLen; omega) | (show _ ≤ 140737488355328; omega) | skip)
            ·intro v2 w2 hown2 hg2 hb2 hat2
             have HO2 := Lib.hid hown2
             have HB2 := Lib.hid hb2
             have hz2 := hb2.size
             have HSR := Lib.hid (HS2.out w2 hb2)
             clear hown2 hg2 hb2 hat2 HO1 HB1 x0
             go_wp2_with (at_builtin; refine wpList_append_src (w := w2) rfl _ _ 130 130 rfl wr.heap.size 178 _ 2 40 Tryz.underlying130 info_line rfl (by decide) v2 (k + 1) _ rfl HO2.out (.slice (some ⟨g, oo, none⟩) 0 0) rfl 0 ((q.drop k).flatMap lineCells) HSR.out ?_ ?_ HB2.out.size HB2.out (Nat.le_refl _) ?_)
             any_goals (first | (show _ ≤ maxLen; unfold maxLen; omega) | (show _ ≤ 140737488355328; omega) | skip)
             ·intro v3 w3 hown3 hg3 hb3 hat3
              obtain ⟨A3, c3, hv3, ho3, hbs3⟩ := OwnS.of_row hown3
              have HX : Hid (LnAt w.heap.size w3 A3 c3 (q.take k ++ (key, noRow) :: q.drop k)) := by
               have h := HQ.out
               rw [← List.take_append_drop k q] at h
               refine h.add hb3 hB0 key ?_ hbs3
               rw [HFL.out.1, HFL.out.2]
               have h9 := ho3
               simp only [List.append_assoc, List.cons_append, List.nil_append, Nat.add_zero] at h9 ⊢
               exact h9
              have HB3 := Lib.hid hb3
              clear hown3 hg3 hb3 hat3 ho3 hbs3 HO2 HB2 HSR
              subst hv3
              go_wp2_with fail
              go_meet
              case rel => exact ⟨A3, c3, q.take k, noRow, q.drop k, by rw [HLN.out.1, HLN.out.2], HLN.out.1, by rw [HLN.out.1, HLN.out.2]; omega, HX, HOK2, HB3⟩
          ·have HS2 : Hid (∀ W, Below wr.heap.size wr W → Src Tryz.prog 2 130 (.slice (some ⟨g, oo + k * 2, none⟩) (q.length - k) (co - k)) (q.length - k) ((q.drop k).flatMap lineCells) W) := fun W hb => by
            have h := src_linesR ((HQ.out.sl.keep fun j hj => hb.block j hj).cut (k := k) (by omega))
            rw [HLN.out.2] at h; exact h
           go_wp2_with (at_builtin; refine wpList_append_src (w := wr.drewN q2) rfl _ _ 130 130 rfl wr.heap.size 178 _ 2 40 Tryz.underlying130 info_line rfl (by decide) (.slice none 0 0) 0 [] rfl (World.ownsRow_nil _ _ _ _) (.slice (some ⟨g, oo, none⟩) k co) rfl k ((q.take k).flatMap lineCells) HS1.out ?_ ?_ (Nat.le_refl _) (bdrewN (Below.refl _ _) q2) (Nat.le_refl _) ?_)
           any_goals (first | (show _ ≤ maxLen; unfold maxLen; omega) | (show _ ≤ 140737488355328; omega) | skip)
           ·intro v1 w1 hown1 hg1 hb1 hat1
            try simp only [Nat.zero_add, List.nil_append] at hown1
            have x0 := (hb1.cell (p := ⟨b, off + i * 3, none⟩) hbl).trans y0
            have HO1 := Lib.hid hown1
            have HB1 := Lib.hid hb1
            have hz1 := hb1.size
            clear hown1 hg1 hb1 hat1
            go_wp2_with (at_builtin; refine wpList_push (w0 := w1) rfl _ _ 130 rfl wr.heap.size 178 _ 2 40 Tryz.underlying130 info_line rfl (by decide) v1 k _ rfl HO1.out [.string key, .slice none 0 0] (by simp [Act.eval]) rfl ?_ ?_ ?_ HB1.out.size HB1.out (Nat.le_refl _) ?_)
            ·rintro u hu; simp only [List.mem_cons, List.not_mem_nil, or_false] at hu; rcases hu with rfl | rfl <;> rfl
            any_goals (first | (show _ ≤ maxLen; unfold maxLen; omega) | (show _ ≤ 140737488355328; omega) | skip)
            ·intro v2 w2 hown2 hg2 hb2 hat2
             have HO2 := Lib.hid hown2
             have HB2 := Lib.hid hb2
             have hz2 := hb2.size
             have HSR := Lib.hid (HS2.out w2 hb2)
             clear hown2 hg2 hb2 hat2 HO1 HB1 x0
             go_wp2_with (at_builtin; refine wpList_append_src (w := w2) rfl _ _ 130 130 rfl wr.heap.size 178 _ 2 40 Tryz.underlying130 info_line rfl (by decide) v2 (k + 1) _ rfl HO2.out (.slice (some ⟨g, oo + k * 2, none⟩) (q.length - k) (co - k)) rfl (q.length - k) ((q.drop k).flatMap lineCells) HSR.out ?_ ?_ HB2.out.size HB2.out (Nat.le_refl _) ?_)
             any_goals (first | (show _ ≤ maxLen; unfold maxLen; omega) | (show _ ≤ 140737488355328; omega) | skip)
             ·intro v3 w3 hown3 hg3 hb3 hat3
              obtain ⟨A3, c3, hv3, ho3, hbs3⟩ := OwnS.of_row hown3
              have HX : Hid (LnAt w.heap.size w3 A3 c3 (q.take k ++ (key, noRow) :: q.drop k)) := by
               have h := HQ.out
               rw [← List.take_append_drop k q] at h
               refine h.add hb3 hB0 key ?_ hbs3
               rw [HFL.out.1, HFL.out.2]
               have h9 := ho3
               simp only [List.append_assoc, List.cons_append, List.nil_append] at h9 ⊢
               exact h9
              have HB3 := Lib.hid hb3
              clear hown3 hg3 hb3 hat3 ho3 hbs3 HO2 HB2 HSR
              subst hv3
              go_wp2_with fail
              go_meet
              case rel => exact ⟨A3, c3, q.take k, noRow, q.drop k, by rw [HLN.out.1, HLN.out.2], HLN.out.1, by rw [HLN.out.1, HLN.out.2]; omega, HX, HOK2, HB3⟩
       case rest =>
        obtain ⟨wx, rfl⟩ : ∃ wx, wx = wc := ⟨_, rfl⟩
        obtain ⟨A1, c1, a, row, z, rfl, hak, haz, HQ1, HOK1, HB1⟩ := hcut
        clear HQ HOK HK HN HBT
        obtain ⟨g, oo, rfl, hgl, hgb⟩ := HQ1.out.some (by rw [List.length_append, List.length_cons]; omega)
        have hkl : a.length < (a ++ (key, row) :: z).length := by simp
        obtain ⟨_, z1⟩ := HQ1.out.at_ hkl
        rw [show (a ++ (key, row) :: z)[a.length] = (key, row) from by simp] at z1
        obtain ⟨rA, rc, rxs⟩ := row
        simp only at z1
        have hrow : OwnS _ 3 1 rA rc rxs.length (rxs.flatMap intC) := HQ1.out.rows.at_ (rowO (key, ⟨rA, rc, rxs⟩)) (List.mem_map.2 ⟨_, by simp, rfl⟩)
        have hcap := HQ1.out.sl.1
        rw [show (a ++ (key, (⟨rA, rc, rxs⟩ : RowI)) :: z).length = a.length + 1 + z.length from by simp; omega] at hcap
        have hrx : rxs.length ≤ i := by
         have h := HOK1.out.nums (key, ⟨rA, rc, rxs⟩) (by simp)
         show rxs.length ≤ i
         rw [show rxs = numsAt (l.take i) key from h]
         refine Nat.le_trans ?_ (List.length_take_le i l)
         unfold numsAt
         rw [List.length_map]; exact List.length_filter_le _ _
        obtain ⟨rn, hrn⟩ : ∃ rn, rn = rxs.length := ⟨_, rfl⟩
        rw [← hrn] at z1 hrow hrx
        subst hak
        have hz1 := HB1.out.size
        have hbl1 : b < wx.heap.size := Nat.lt_of_lt_of_le hbl hz1
        have n1 : wx.cell? ⟨b, off + i * 3 + 1, none⟩ = some (.int .i64 num) := (HB1.out.cell (p := ⟨b, off + i * 3 + 1, none⟩) hbl).trans y1
        have hgr : blk rA ≠ some g := fun e => HQ1.out.own.apart hrow (by decide) g rfl e
        have HGR := Lib.hid hgr
        obtain ⟨cur, hcur⟩ := HQ1.out.own.block (k := g) rfl
        have HFZ : Hid (∀ W : World, W.heap[g]? = wx.heap[g]? → ∀ i, W.frozen? ⟨g, i, none⟩ = false) := fun W hW i => by rw [hcur] at hW; simp [World.frozen?, hW]
        clear hcur
        have HROW := Lib.hid hrow
        have HRN := Lib.hid hrn
        have hRB : Hid (∀ j, blk rA = some j → w.heap.size ≤ j) := fun j hj => HQ1.out.rbase j ⟨rowO (key, ⟨rA, rc, rxs⟩), List.mem_map.2 ⟨_, by simp, rfl⟩, hj⟩
        have HBA : Hid (Below w.heap.size w wx) := HB.out.trans (HB1.out.mono hB0)
        clear hgr hrow hrn
        obtain ⟨zn, hzn⟩ : ∃ zn, zn = z.length := ⟨_, rfl⟩
        rw [← hzn] at hcap haz ⊢
        have HZN := Lib.hid hzn
        clear hzn
        obtain ⟨an, han⟩ : ∃ an, an = a.length := ⟨_, rfl⟩
        rw [← han] at hcap haz z1 ⊢
        have HAN := Lib.hid han
        clear han y0 y1
        obtain ⟨L, hL⟩ : ∃ L, L = an + 1 + zn := ⟨_, rfl⟩
        rw [← hL] at hcap ⊢
        have hanL : an < L := by omega
        have HLL := Lib.hid hL
        clear hL
        go_upto_region 13 with (fail)
        go_region_law (refine step_push_S (w0 := wx) rfl (.tmp 74) (.tmp 80) 38 rfl 3 _ 1 8 Tryz.underlying38 info_intA rfl (by decide) rA rc rn _ (by simp [Act.eval]) HROW.out [.int .i64 num] (by simp [Act.eval]) rfl (by simp [Value.oneCell']) (by unfold maxLen; omega) (by omega) ?_; intro A3 c3 w3 ho3 hg3 hat3; have g1 : w3.cell? ⟨g, oo + an * 2 + 1, none⟩ = some (.slice rA rn rc) := (World.cell?_of_block (a := ⟨g, oo + an * 2 + 1, none⟩) (hg3.block g hgl (fun e => HGR.out e.symm))).trans z1; have gfz := HFZ.out w3 (hg3.block g hgl (fun e => HGR.out e.symm)); have HP : Hid (OwnS w3 3 1 A3 c3 (rn + 1) (rxs.flatMap intC ++ [.int .i64 num]) ∧ wx.grownBy w3 (blk rA) ∧ (blk A3 = blk rA ∨ ∃ j, blk A3 = some j ∧ wx.heap.size ≤ j)) := ⟨ho3, hg3, hat3⟩; clear ho3 hg3 hat3)
        all_goals
         have hq9 : LnAt w.heap.size (w3.setCell ⟨g, oo + an * 2 + 1, none⟩ (.slice A3 (rn + 1) c3)) (some ⟨g, oo, none⟩) c1 (a ++ (key, ⟨A3, c3, rxs ++ [num]⟩) :: z) := by
          have h := HQ1.out.put (x := num) (A' := A3) (cap' := c3) (w1 := w3) (j := oo + an * 2 + 1) (by have := HBA.out.size; omega) (by show OwnS _ _ _ _ _ (rxs.length + 1) _; rw [← HRN.out]; exact HP.out.1) HP.out.2.1 HP.out.2.2 (by rw [HAN.out])
          rw [show (⟨rA, rc, rxs⟩ : RowI).xs.length + 1 = rn + 1 from by rw [HRN.out]] at h
          exact h
         have HQ9 := Lib.hid hq9
         have HB9 : Hid (Below w.heap.size w (w3.setCell ⟨g, oo + an * 2 + 1, none⟩ (.slice A3 (rn + 1) c3))) := (HBA.out.grown HP.out.2.1 HBA.out.size hRB.out).setCell (p := ⟨g, oo + an * 2 + 1, none⟩) hgb _
         have HOK9 : Hid (LnOk (l.take (i + 1)) none (a ++ (key, ⟨A3, c3, rxs ++ [num]⟩) :: z)) := by
          show LnOk _ _ _
          rw [HNX.out]
          exact HOK1.out.put (r := ⟨key, num, time⟩) (row' := ⟨A3, c3, rxs ++ [num]⟩) rfl
         have HLN9 : Hid (L = (a ++ (key, (⟨A3, c3, rxs ++ [num]⟩ : RowI)) :: z).length) := by show _ = _; rw [HLL.out, HAN.out, HZN.out]; simp; omega
         clear hq9 HP HQ1 HOK1 HB1 HBA
         go_wp2_with fail
         refine ⟨⟨i + 1, some ⟨g, oo, none⟩, c1, _, by omega, by go_num, by rw [← HLN9.out, HLL.out]; omega, by rw [← HLN9.out], (fun e => by simp at e), HQ9, HOK9, HB9⟩, ?_⟩
         simp [intOf]; omega
  ·have di : decide (i < l.length) = false := decide_eq_false hlt
   have HOK9 : Hid (LnOk l none q) := by
    have h := HOK.out
    rw [List.take_of_length_le (by omega)] at h; exact h
   clear HOK hlt
   go_wp2_with fail
   go_ret
   refine ⟨Ao, co, q.map linOf, by rw [List.length_map]; rfl, HOK9.out.grp, HQ.out.lines HOK9.out HFINE.out, HB.out⟩
end Go.Proofs.YtfndhfekbbbliaaGreatDoor

/-
  The reference's Den: the lines of each Sink; or what is wrong. Conditions: where the job and its data lie.
-/
namespace Go.Proofs.YtfndhfekbbbliaaGreatDoor
open Go.RowKit Go.ChangeShapes Go.WideShapes Go.Shelf
set_option linter.unusedVariables false
theorem info_linesR : (Tryz.prog.info? 130).map (fun i => (i.zero, i.size, i.bytes)) = some (some (.slice none 0 0), 1, 24) := by kernel_rfl
abbrev RowL := List Lin × (Option Addr × Nat)
def rowLC (o : RowL) : List Value := [.slice o.2.1 o.1.length o.2.2]
structure LRowsAt (B : Nat) (w : World) (v : Value) (rows : List RowL) : Prop where
 own : w.ownsRow B 130 1 v rows.length (rows.flatMap rowLC)
 mem : ∀ o ∈ rows, SlA linE (fun q => q < w.heap.size ∧ v.ownBlock ≠ some q) w o.2.1 o.2.2 o.1
theorem LRowsAt.nil (B : Nat) (w : World) : LRowsAt B w (.slice none 0 0) [] := ⟨World.ownsRow_nil _ _ _ _, nofun⟩
theorem LRowsAt.push {B : Nat} {w w' : World} {v v' : Value} {rows : List RowL} {o : RowL} (h : LRowsAt B w v rows) (hg : w.grownBy w' v.ownBlock) (hown : w'.ownsRow B 130 1 v' (rows.length + 1) (rows.flatMap rowLC ++ rowLC o))
  (hv : v'.ownBlock = v.ownBlock ∨ ∃ g, v'.ownBlock = some g ∧ w.heap.size ≤ g) (ho : SlA linE (fun q => q < w.heap.size ∧ v.ownBlock ≠ some q) w o.2.1 o.2.2 o.1) : LRowsAt B w' v' (rows ++ [o]) := by
 refine ⟨by rw [List.length_append, List.flatMap_append]; simpa using hown, fun x hx => ?_⟩
 have hx2 : SlA linE (fun q => q < w.heap.size ∧ v.ownBlock ≠ some q) w x.2.1 x.2.2 x.1 := by
  rcases List.mem_append.1 hx with hx | hx
  ·exact h.mem x hx
  ·rw [List.mem_singleton.1 hx]; exact ho
 refine (hx2.keep fun q hq => hg.block q hq.1 fun e => hq.2 e.symm).more fun q hq => ⟨Nat.lt_of_lt_of_le hq.1 hg.size, ?_⟩
 intro e
 rcases hv with e2 | ⟨k, e2, hk⟩
 ·exact hq.2 (e2 ▸ e)
 ·rw [e2] at e; injection e with e; have := hq.1; omega
theorem LRowsAt.below {B : Nat} {w w' : World} {v : Value} {rows : List RowL} (h : LRowsAt B w v rows) (hb : Below w.heap.size w w') : LRowsAt B w' v rows :=
 ⟨ownsRow_keep h.own fun k hk => hb.block k (h.own.lt k hk).2, fun x hx => ((h.mem x hx).keep fun q hq => hb.block q hq.1).more fun q hq => ⟨Nat.lt_of_lt_of_le hq.1 hb.size, hq.2⟩⟩
theorem LRowsAt.sl {B : Nat} {w : World} {v : Value} {rows : List RowL} (h : LRowsAt B w v rows) : ∃ A c, v = .slice A rows.length c ∧ SlA (slE linE) (· < w.heap.size) w A c (rows.map (·.1)) := by
 obtain ⟨A, c, rfl, ho, _⟩ := OwnS.of_row h.own
 obtain ⟨h1, h2, h3, h4⟩ := ho
 refine ⟨A, c, rfl, by rw [List.length_map]; exact h2, h3, fun i x hx => ?_⟩
 rw [List.getElem?_map] at hx
 cases hi : rows[i]? with
 | none => rw [hi] at hx; cases hx
 | some o =>
  rw [hi] at hx
  injection hx with hx
  subst hx
  rcases h4 with ⟨rfl, h0⟩ | ⟨g, off, cur, rfl, hh, hc, hr⟩
  ·have := (List.getElem?_eq_some_iff.1 hi).1; omega
  ·refine ⟨g, off, rowLC o, rfl, block_lt hh, fun j u hj => ?_, _, rfl, o.2.1, o.2.2, rfl, (h.mem o (List.mem_of_getElem? hi)).more fun q hq => hq.1⟩
   have hj0 : j = 0 := by
    have := (List.getElem?_eq_some_iff.1 hj).1
    simp [rowLC] at this; exact this
   subst hj0
   rw [cell_of_row w g _ cur _ (0, 0) hh]
   have h5 := hr i u (by
    have h6 := flat_get rowLC 1 (fun _ => rfl) rows hi (j := 0) (by decide)
    rw [Nat.mul_one, Nat.add_zero] at h6
    rw [h6]; exact hj)
   simpa [slE] using h5
def DenIs (J : List Nod) (data : List (List Rec)) (out : List (List Lin)) : Prop := out.length = (ofKind J 10).length ∧ ∀ (i : Nat) (s : Int) (o : List Lin), (ofKind J 10)[i]? = some s → out[i]? = some o → LinesGrp ((allR data J).outs[s.toNat]?.getD []) o
def RDenPost (J : List Nod) (data : List (List Rec)) (w : World) (e : Ending) (w' : World) : Prop :=
 (denErr J data ≠ 0 → e = .returned (.tuple #[.slice none 0 0, .int .i64 (denErr J data)])) ∧
 (denErr J data = 0 → AllOver J data → e = .returned (.tuple #[.slice none 0 0, .int .i64 4])) ∧
 (denErr J data = 0 → ¬ AllOver J data → ∃ A c out, e = .returned (.tuple #[.slice A (List.length out) c, .int .i64 0]) ∧ DenIs J data out ∧ SlA (slE linE) (· < w'.heap.size) w' A c out) ∧ Below w.heap.size w w'
theorem ofKind_mem {J : List Nod} {k y : Int} (h : y ∈ ofKind J k) : ∃ (u : Nat), y = (u : Int) ∧ u < J.length := by
 obtain ⟨u, n, e, hn, _⟩ := kind_mem h
 exact ⟨u, e, (List.getElem?_eq_some_iff.1 hn).1⟩
theorem ofKind_len (J : List Nod) (k : Int) : (ofKind J k).length ≤ J.length := by
 unfold ofKind
 rw [List.length_map]
 exact Nat.le_trans (List.length_filter_le _ _) (by rw [List.length_zipIdx]; exact Nat.le_refl _)
theorem outs_len {J : List Nod} {data : List (List Rec)} (h0 : denErr J data = 0) (hno : ¬ AllOver J data) : ∀ l ∈ (allR data J).outs, l.length ≤ 24300 := fun l hl => by
 obtain ⟨i, hi⟩ := List.getElem?_of_mem hl
 have hlt : i < J.length := by rw [← allR_len data J]; exact (List.getElem?_eq_some_iff.1 hi).1
 have hNO : NoOver J (allR data (J.take i)).outs i := fun j n l' hj hn hl' hk => by
  rw [allR_take data J (by omega), List.getElem?_take, if_pos hj] at hl'
  exact Nat.le_of_not_lt fun h => hno ⟨j, n, l', hn, hl', h, hk⟩
 have hP := NodeP.of h0 hlt hNO
 have h1 := allR_get data J hlt
 rw [hi] at h1
 injection h1 with h1
 rw [← allR_src data J (by omega), ← allR_take data J (by omega), hP.node] at h1
 rw [h1, List.length_append]
 have h2 := run_three J[i] (logR J[i].from_ (allR data (J.take i)).outs 0)
 have h3 : (if J[i].kind = 1 then data[(allR data (J.take i)).src]?.getD [] else []).length ≤ 300 := by
  split
  ·cases e : data[(allR data (J.take i)).src]? with
   | none => exact Nat.zero_le _
   | some d => exact data_lens (den_split h0).2.2 d (List.mem_of_getElem? e)
  ·exact Nat.zero_le _
 have h4 : ∀ (fr : List Int) (k : Nat), (∀ f ∈ fr, ((allR data (J.take i)).outs[f.toNat]?.getD []).length ≤ 2000) → (logR fr (allR data (J.take i)).outs k).length ≤ 2000 * fr.length := by
  intro fr
  induction fr with
  | nil => intro k _; exact Nat.zero_le _
  | cons f fr ih =>
   intro k hf
   have e : logR (f :: fr) (allR data (J.take i)).outs k = (((allR data (J.take i)).outs[f.toNat]?.getD []).map fun r => (k, r)) ++ logR fr (allR data (J.take i)).outs (k + 1) := rfl
   rw [e, List.length_append, List.length_map, List.length_cons]
   have h6 := ih (k + 1) fun f' hf' => hf f' (List.mem_cons_of_mem _ hf')
   have h7 := hf f List.mem_cons_self
   omega
 have h5 := h4 J[i].from_ 0 hP.small
 have h6 := hP.four
 omega
set_option maxRecDepth 100000 in
set_option maxHeartbeats 4000000 in
theorem rden_ok (F : Nat → Prop) (A : Option Addr) (c : Nat) (J : List Nod) (G : Nat → Prop) (Ad : Option Addr) (cd : Nat) (data : List (List Rec)) (w : World) (hl : SlA nodE F w A c J) (hF : ∀ k, F k → k < w.heap.size) (hd : SlA (slE recE) G w Ad cd data) (hG : ∀ k, G k → k < w.heap.size) :
  Calls Tryz.prog 32 #[.slice A J.length c, .slice Ad data.length cd] w (RDenPost J data w) := by
 have HC := Lib.hid (rall_ok F A c J G Ad cd data w hl hF hd hG)
 have HL := Lib.hid hl
 have HF := Lib.hid hF
 by_cases h0 : denErr J data = 0
 ·by_cases hov : AllOver J data
  ·have HC2 : Hid (Calls Tryz.prog 73 #[.slice A J.length c, .slice Ad data.length cd] w fun e w' => e = .returned (.tuple #[.slice none 0 0, .int .i64 4]) ∧ Below w.heap.size w w') := HC.out.mono fun e w' h => ⟨h.2.1 h0 hov, h.2.2.2⟩
   have H0 := Lib.hid h0
   have HOV := Lib.hid hov
   clear hl hF hd hG h0 hov HC
   go_enter Tryz.func32, Tryz.ntmps32
   go_wp2_with fail
   refine HC2.out.mono ?_
   rintro e w1 ⟨rfl, b1⟩
   have B1 := Lib.hid b1
   clear b1
   go_wp2_with fail
   go_ret2
   exact ⟨fun h => absurd H0.out h, fun _ _ => rfl, fun _ h => absurd HOV.out h, B1.out⟩
  ·have HC2 : Hid (Calls Tryz.prog 73 #[.slice A J.length c, .slice Ad data.length cd] w fun e w' => (∃ A c, e = .returned (.tuple #[.slice A J.length c, .int .i64 0]) ∧ SlA (slE recE) (· < w'.heap.size) w' A c (allR data J).outs) ∧ Below w.heap.size w w') := HC.out.mono fun e w' h => ⟨h.2.2.1 h0 hov, h.2.2.2⟩
   have HLENS := Lib.hid (outs_len h0 hov)
   have h12 := (job_parts (den_split h0).1).1
   have HOL : Hid ((allR data J).outs.length = J.length) := allR_len data J
   have H0 := Lib.hid h0
   have HOV := Lib.hid hov
   clear hl hF hd hG h0 hov HC
   go_enter Tryz.func32, Tryz.ntmps32
   go_wp2_with fail
   refine HC2.out.mono ?_
   rintro e w1 ⟨⟨A1, c1, rfl, hs1⟩, b1⟩
   have HO1 := Lib.hid hs1
   have B1 := Lib.hid b1
   have HOF := Lib.hid (rof_ok F A c J 10 w1 (HL.out.keep fun k hk => b1.block k (HF.out k hk)) (fun k hk => Nat.lt_of_lt_of_le (HF.out k hk) b1.size) (by omega))
   clear hs1 b1 HC2
   go_wp2_with fail
   refine HOF.out.mono ?_
   rintro e w2 ⟨⟨A2, c2, rfl, hs2⟩, b2⟩
   obtain ⟨S, hS⟩ : ∃ S, S = ofKind J 10 := ⟨_, rfl⟩
   have hsl12 : S.length ≤ 12 := by rw [hS]; have := ofKind_len J 10; omega
   have HSM : Hid (∀ y ∈ S, ∃ u : Nat, y = (u : Int) ∧ u < J.length) := by rw [hS]; exact fun y hy => ofKind_mem hy
   rw [← hS] at hs2 ⊢
   have HS := Lib.hid hS
   have HO2 : Hid (SlA (slE recE) (· < w2.heap.size) w2 A1 c1 (allR data J).outs) := (HO1.out.keep fun k hk => b2.block k hk).more fun k hk => Nat.lt_of_lt_of_le hk b2.size
   have HS2 : Hid (SlA (intE .i64) (· < w2.heap.size) w2 A2 c2 S) := hs2.more fun k hk => hk.2
   have B2 : Hid (Below w.heap.size w w2) := B1.out.trans (b2.mono B1.out.size)
   clear hs2 b2 hS HO1 B1 HOF
   obtain ⟨O, hO⟩ : ∃ O, O = (allR data J).outs := ⟨_, rfl⟩
   rw [← hO] at HO2 HLENS HOL
   have HOE := Lib.hid hO
   clear hO
   have hcO := HO2.out.1
   rw [HOL.out] at hcO
   go_wp2_with fail
   go_loopw [9, 10] (fun ov iv wr => ∃ (i : Nat) (rows : List RowL) (Ao : Option Addr) (co : Nat), i ≤ S.length ∧ iv = .int .i64 i ∧ ov = .slice Ao i co ∧ Hid (LRowsAt w2.heap.size wr (.slice Ao i co) rows) ∧ Hid (rows.length = i) ∧ Hid (∀ (k : Nat) (s : Int) (o : RowL), S[k]? = some s → rows[k]? = some o → LinesGrp (O[s.toNat]?.getD []) o.1) ∧ Hid (Below w2.heap.size w2 wr)) (fun _ iv _ => S.length - (intOf iv).toNat)
   case atStart => exact ⟨0, [], none, 0, Nat.zero_le _, rfl, rfl, LRowsAt.nil _ _, rfl, (fun k s o _ h => by cases h), Below.refl _ _⟩
   case round =>
    obtain ⟨i, rows, Ao, co, hi, rfl, rfl, HR, HRL, HG, HB⟩ := hrel
    by_cases hlt : i < S.length
    ·obtain ⟨bs, os_, rfl, hbs, c0, _⟩ := (HS2.out.keep fun k hk => HB.out.block k hk).int_ hlt
     have hSi := List.getElem?_eq_getElem hlt
     obtain ⟨u, hu, huJ⟩ := HSM.out S[i] (List.getElem_mem hlt)
     rw [hu] at c0 hSi
     have hcs := HS2.out.1
     have huO : u < O.length := by rw [HOL.out]; exact huJ
     obtain ⟨bo, oo, A3, c3, rfl, hbo, z0, hx⟩ := (HO2.out.keep fun k hk => HB.out.block k hk).sl_ huO
     have hlen3 := HLENS.out O[u] (List.getElem_mem huO)
     have HOU : Hid (O[u]? = some O[u]) := List.getElem?_eq_getElem huO
     generalize O[u] = x at z0 hx hlen3 HOU
     have hB2 := HB.out.size
     have HLI := Lib.hid (rlines_ok (· < w2.heap.size) A3 c3 x wr hx (fun k hk => Nat.lt_of_lt_of_le hk hB2) (by omega))
     have HSI := Lib.hid hSi
     clear hx hSi hu huO
     go_wp2_with fail
     refine HLI.out.mono ?_
     rintro e w4 ⟨A4, c4, out, rfl, hgr, hso, hb4⟩
     have hr4 := HR.out.below hb4
     have hrw := hr4.own
     rw [HRL.out] at hrw
     have HR4 := Lib.hid hr4
     have HRW := Lib.hid hrw
     have HG4 := Lib.hid hgr
     have HSO := Lib.hid hso
     have HB4 : Hid (Below w2.heap.size w2 w4) := HB.out.trans (hb4.mono hB2)
     have hz4 := hb4.size
     have HNB : Hid (∀ q, wr.heap.size ≤ q → Value.ownBlock (.slice Ao i co) ≠ some q) := fun q hq e => by have := (HR.out.own.lt q e).2; omega
     obtain ⟨ol, hol⟩ : ∃ ol, ol = out.length := ⟨_, rfl⟩
     rw [← hol]
     have HOLN := Lib.hid hol
     clear hr4 hrw hgr hso hb4 hol HLI
     go_wp2_with (at_builtin; refine wpList_push (w0 := w4) rfl _ _ 72 rfl w2.heap.size 130 (.slice none 0 0) 1 24 Tryz.underlying72 info_linesR rfl (by decide) (.slice Ao i co) i _ rfl HRW.out [.slice A4 ol c4] (by simp [Act.eval]) rfl ?_ ?_ ?_ HB4.out.size HB4.out (Nat.le_refl _) ?_)
     ·intro u hu; rw [List.mem_singleton.1 hu]; rfl
     ·unfold maxLen; omega
     ·omega
     ·intro v9 w9 hown9 hg9 hb9 hat9
      obtain ⟨A9, c9, rfl, _, _⟩ := OwnS.of_row hown9
      have hpush := HR4.out.push (o := (out, (A4, c4))) hg9 (by rw [HRL.out]; show World.ownsRow _ _ _ _ _ _ (_ ++ [Value.slice A4 out.length c4]); rw [← HOLN.out]; exact hown9) hat9 (HSO.out.more fun q hq => ⟨hq.2, HNB.out q hq.1⟩)
      have HP9 := Lib.hid hpush
      have HL9 : Hid ((rows ++ [((out, (A4, c4)) : RowL)]).length = i + 1) := by show _ = _; rw [List.length_append, HRL.out]; rfl
      have HG9 : Hid (∀ (k : Nat) (s : Int) (o : RowL), S[k]? = some s → (rows ++ [((out, (A4, c4)) : RowL)])[k]? = some o → LinesGrp (O[s.toNat]?.getD []) o.1) := fun k s o hs ho => by
       rcases Nat.lt_or_ge k rows.length with h | h
       ·rw [List.getElem?_append_left h] at ho; exact HG.out k s o hs ho
       ·have hkl := (List.getElem?_eq_some_iff.1 ho).1
        rw [HL9.out] at hkl
        have hki : k = i := by rw [HRL.out] at h; omega
        subst hki
        rw [List.getElem?_append_right h, HRL.out, Nat.sub_self] at ho
        injection ho with ho
        rw [← ho]
        rw [HSI.out] at hs
        injection hs with hs
        rw [← hs, Int.toNat_natCast, HOU.out]
        exact HG4.out
      have HB9 := Lib.hid hb9
      clear hown9 hg9 hb9 hat9 hpush
      go_wp2_with fail
      go_roundw
      case rel => exact ⟨i + 1, _, A9, c9, by omega, by go_num, rfl, HP9, HL9, HG9, HB9⟩
      case measure => simp [intOf]; omega
    ·have di : decide (i < S.length) = false := decide_eq_false hlt
     have hie : i = S.length := by omega
     obtain ⟨A9, c9, e9, hso⟩ := HR.out.sl
     rw [HRL.out] at e9
     injection e9 with e9 _ e10
     subst e9; subst e10
     have HSO := Lib.hid hso
     have HB9 := Lib.hid (B2.out.trans (HB.out.mono B2.out.size))
     have HIE := Lib.hid hie
     clear hso hlt hie
     go_wp2_with fail
     go_ret2
     refine ⟨fun h => absurd H0.out h, fun _ h => absurd h HOV.out, fun _ _ => ⟨Ao, co, rows.map (·.1), ?_, ⟨?_, fun k s o hs ho => ?_⟩, HSO.out⟩, HB9.out⟩
     ·rw [List.length_map, HRL.out]; rfl
     ·rw [List.length_map, HRL.out, HIE.out, HS.out]
     ·rw [List.getElem?_map] at ho
      cases hr : rows[k]? with
      | none => rw [hr] at ho; cases ho
      | some r =>
       rw [hr] at ho
       injection ho with ho
       subst ho
       rw [← HOE.out]
       exact HG.out k s r (by rw [HS.out]; exact hs) hr
 ·have HC2 : Hid (Calls Tryz.prog 73 #[.slice A J.length c, .slice Ad data.length cd] w fun e w' => e = .returned (.tuple #[.slice none 0 0, .int .i64 (denErr J data)]) ∧ Below w.heap.size w w') := HC.out.mono fun e w' h => ⟨h.1 h0, h.2.2.2⟩
  obtain ⟨je, hje⟩ : ∃ je, je = denErr J data := ⟨_, rfl⟩
  rw [← hje] at HC2
  have hj0 : (je != 0) = true := by rw [hje]; simp [h0]
  have hj1 : decide (je = 0) = false := decide_eq_false (by rw [hje]; exact h0)
  have H0 := Lib.hid h0
  have HJE := Lib.hid hje
  clear hl hF hd hG h0 HC hje
  go_enter Tryz.func32, Tryz.ntmps32
  go_wp2_with fail
  refine HC2.out.mono ?_
  rintro e w1 ⟨rfl, b1⟩
  have B1 := Lib.hid b1
  clear b1
  go_wp2_with fail
  go_ret2
  exact ⟨fun _ => by rw [← HJE.out]; rfl, fun h => absurd h H0.out, fun h => absurd h H0.out, B1.out⟩
end Go.Proofs.YtfndhfekbbbliaaGreatDoor

/-
  Contracts of errors.As at a target '*api.Errno', of plain.Told and of weirsame.Error: nil and an Errno. Condition: the variable errors.errorType reads as the program's text lays it. (Turned from the guide's worked example of errors.As to this program's types.)
-/
namespace Go.Proofs.YtfndhfekbbbliaaGreatDoor
open Go.RowKit Go.Extern.Stop Go.Stop Go.Extern
set_option linter.unusedVariables false
def ErrVar (w : World) : Prop := w.cell? ⟨0, 0, none⟩ = some (.iface 215 (.agg #[.pointer (some ⟨9, 28, none⟩)]))
theorem ea_valueOfP (t : Addr) (w : World) : (ReflectliteValue.unpack (.iface 155 (.pointer (some t)))).run Tryz.prog w
  = .ok (.agg #[.pointer (some ⟨9, 155, none⟩), .pointer (some ⟨w.heap.size, 0, none⟩), .int .u64 150]) (w.alloc (.cells #[.pointer (some t)] 155)) := by kernel_rfl
theorem ea_typeP (a : Addr) (w : World) : (ReflectliteValue.methodAny (ReflectliteValue.valueError "reflectlite.Value.Type" 0) (fun t _ _ _ => ReflectliteType.toType t) #[.agg #[.pointer (some ⟨9, 155, none⟩), .pointer (some a), .int .u64 150]]).run Tryz.prog w
  = .ok (.iface 215 (.agg #[.pointer (some ⟨9, 155, none⟩)])) w := by kernel_rfl
theorem ea_methodKind (h : Value) (w : World) : (Go.method 427 215 (.agg #[h]) "Kind").run Tryz.prog w = .ok (238, h) w := by kernel_rfl
theorem ea_kindP (w : World) : ((ReflectliteType.abiMethod fun t => (fun a : Nat => Value.int IntKind.u8 (a : Int)) <$> Rtype.kind t) #[.pointer (some ⟨9, 155, none⟩)]).run Tryz.prog w = .ok (.int .u8 22) w := by kernel_rfl
theorem ea_kindE (w : World) : ((ReflectliteType.abiMethod fun t => (fun a : Nat => Value.int IntKind.u8 (a : Int)) <$> Rtype.kind t) #[.pointer (some ⟨9, 89, none⟩)]).run Tryz.prog w = .ok (.int .u8 2) w := by kernel_rfl
theorem ea_rlm (z : Sem Value) (f : TypeId → Addr → Nat → Nat → Sem Value) (v : Value) :
  ReflectliteValue.method z f #[v] = (do match ← ReflectliteValue.parts v with | none => z | some (t, a, fl) => f t a fl (fl % 32)) := rfl
theorem ea_partsP (a : Addr) (w : World) : (ReflectliteValue.parts (.agg #[.pointer (some ⟨9, 155, none⟩), .pointer (some a), .int .u64 150])).run Tryz.prog w = .ok (some (155, a, 150)) w := by kernel_rfl
theorem ea_isNilP (a p : Addr) (W : World) (ha : W.cell? a = some (.pointer (some p))) :
  (ReflectliteValue.method (ReflectliteValue.valueError "reflectlite.Value.IsNil" 0) ReflectliteValue.isNil #[.agg #[.pointer (some ⟨9, 155, none⟩), .pointer (some a), .int .u64 150]]).run Tryz.prog W = .ok (.bool false) W := by
 rw [ea_rlm]
 simp only [Sem.run_bind, ea_partsP, Result.andThen]
 simp [ReflectliteValue.isNil, loadVar, isAgg, underlying, Tryz.underlying155, ha, Result.andThen]
theorem ea_methodElem (h : Value) (w : World) : (Go.method 427 215 (.agg #[h]) "Elem").run Tryz.prog w = .ok (251, .agg #[h]) w := by kernel_rfl
theorem ea_methodImplements (h : Value) (w : World) : (Go.method 427 215 (.agg #[h]) "Implements").run Tryz.prog w = .ok (252, .agg #[h]) w := by kernel_rfl
theorem ea_methodAssignableTo (h : Value) (w : World) : (Go.method 427 215 (.agg #[h]) "AssignableTo").run Tryz.prog w = .ok (249, .agg #[h]) w := by kernel_rfl
theorem ea_elemP (w : World) : (ReflectliteType.method ReflectliteType.elem #[.agg #[.pointer (some ⟨9, 155, none⟩)]]).run Tryz.prog w = .ok (.iface 215 (.agg #[.pointer (some ⟨9, 89, none⟩)])) w := by kernel_rfl
theorem ea_implementsE (w : World) : (ReflectliteType.relation "Implements" ReflectliteType.implements_ #[.agg #[.pointer (some ⟨9, 89, none⟩)], .iface 215 (.agg #[.pointer (some ⟨9, 28, none⟩)])]).run Tryz.prog w = .ok (.bool true) w := by kernel_rfl
theorem ea_typeOfE (v : Value) (w : World) : (ReflectliteType.typeOf #[.iface 89 v]).run Tryz.prog w = .ok (.iface 215 (.agg #[.pointer (some ⟨9, 89, none⟩)])) w := by kernel_rfl
theorem ea_assignableE (w : World) : (ReflectliteType.relation "AssignableTo" ReflectliteType.assignableTo #[.agg #[.pointer (some ⟨9, 89, none⟩)], .iface 215 (.agg #[.pointer (some ⟨9, 89, none⟩)])]).run Tryz.prog w = .ok (.bool true) w := by kernel_rfl
theorem ea_valueOfE (k : Int) (w : World) : (ReflectliteValue.unpack (.iface 89 (.int .i64 k))).run Tryz.prog w
  = .ok (.agg #[.pointer (some ⟨9, 89, none⟩), .pointer (some ⟨w.heap.size, 0, none⟩), .int .u64 130]) (w.alloc (.cells #[.int .i64 k] 89)) := by kernel_rfl
theorem ea_elemOfP (w : World) : (Rtype.elem? 155).run Tryz.prog w = .ok (some 89) w := by kernel_rfl
theorem ea_mkE (p : Addr) (w : World) : (ReflectliteValue.mk 89 p ReflectliteValue.flagAddr).run Tryz.prog w = .ok (.agg #[.pointer (some ⟨9, 89, none⟩), .pointer (some p), .int .u64 386]) w := by kernel_rfl
theorem ea_elemVP (a p : Addr) (W : World) (ha : W.cell? a = some (.pointer (some p))) :
  (ReflectliteValue.method (ReflectliteValue.valueError "reflectlite.Value.Elem" 0) ReflectliteValue.elem #[.agg #[.pointer (some ⟨9, 155, none⟩), .pointer (some a), .int .u64 150]]).run Tryz.prog W
   = .ok (.agg #[.pointer (some ⟨9, 89, none⟩), .pointer (some p), .int .u64 386]) W := by
 rw [ea_rlm]
 simp only [Sem.run_bind, ea_partsP, Result.andThen]
 simp [ReflectliteValue.elem, loadVar, isAgg, underlying, Tryz.underlying155, ha, Result.andThen, ea_elemOfP, ea_mkE]
theorem ea_rls (v x : Value) : ReflectliteValue.set #[v, x] = (do
  let (some (dst, a, fl), some (src, b, _)) := (← ReflectliteValue.parts v, ← ReflectliteValue.parts x)
   | unsupported (.noEntry "extern/(internal/reflectlite.Value).Set.zeroValue")
  if fl / ReflectliteValue.flagAddr % 2 == 0 then unsupported (.noEntry "extern/(internal/reflectlite.Value).Set.unaddressable")
  let val ← loadVar src b
  if ← Rtype.directlyAssignable dst src then storeVar dst a val
  else if ← Rtype.implements dst src then
   if (← Rtype.kind src) == 20 then
    match val with
    | .nilIface => unsupported (.noEntry "extern/reflectlite: a nil value of one interface type handed on as a value of another")
    | _ => storeVar dst a val
   else storeVar dst a (.iface src val)
  else panicString ("reflectlite.Set: value of type " ++ (← Rtype.spelt src) ++ " is not assignable to type " ++ (← Rtype.spelt dst))
  pure (.tuple #[])) := rfl
theorem ea_partsEa (a : Addr) (w : World) : (ReflectliteValue.parts (.agg #[.pointer (some ⟨9, 89, none⟩), .pointer (some a), .int .u64 386])).run Tryz.prog w = .ok (some (89, a, 386)) w := by kernel_rfl
theorem ea_partsE (a : Addr) (w : World) : (ReflectliteValue.parts (.agg #[.pointer (some ⟨9, 89, none⟩), .pointer (some a), .int .u64 130])).run Tryz.prog w = .ok (some (89, a, 130)) w := by kernel_rfl
theorem ea_directE (w : World) : (Rtype.directlyAssignable 89 89).run Tryz.prog w = .ok true w := by kernel_rfl
theorem ea_setE (ta b : Addr) (k : Int) (old : Value) (W : World) (hb : W.cell? b = some (.int .i64 k)) (ht : W.cell? ta = some old) (hf : W.frozen? ta = false) :
  (ReflectliteValue.set #[.agg #[.pointer (some ⟨9, 89, none⟩), .pointer (some ta), .int .u64 386], .agg #[.pointer (some ⟨9, 89, none⟩), .pointer (some b), .int .u64 130]]).run Tryz.prog W
   = .ok (.tuple #[]) (W.setCell ta (.int .i64 k)) := by
 rw [ea_rls]
 simp only [Sem.run_bind, ea_partsEa, ea_partsE, Result.andThen]
 simp [ReflectliteValue.flagAddr, loadVar, isAgg, underlying, Tryz.underlying89, hb, Result.andThen, ea_directE, storeVar, Value.cells, storeCells, Addr.add]
 rw [run_store Tryz.prog W ta _ _ (by rfl)]
 simp [ht, hf]
set_option maxHeartbeats 4000000 in
theorem as_hit (k : Int) (t : Addr) (old : Value) (w : World) (hg : ErrVar w) (ht0 : w.cell? t = some old) (hf0 : w.frozen? t = false) :
  Calls Tryz.prog 86 #[.iface 89 (.int .i64 k), .iface 155 (.pointer (some t))] w fun ev w' => ev = .returned (.bool true) ∧ w' = ((((w.alloc (.cells #[.pointer (some t)] 155)).alloc (.cells #[.pointer (some ⟨9, 155, none⟩), .pointer (some ⟨w.heap.size, 0, none⟩), .int .u64 150] 189)).alloc (.cells #[.pointer (some ⟨9, 155, none⟩), .pointer (some ⟨w.heap.size, 0, none⟩), .int .u64 150] 189)).alloc (.cells #[.int .i64 k] 89)).setCell t (.int .i64 k) := by
 unfold ErrVar at hg
 have h6 := @run_callFunc_extern Tryz.prog 120 _ (fun args => ReflectliteValue.unpack (args.getD 0 (.tuple #[]))) Tryz.func120 (by kernel_rfl) (by kernel_rfl) (by kernel_rfl) (by kernel_rfl)
 have h7 := @run_callFunc_extern Tryz.prog 121 _ (ReflectliteValue.methodAny (ReflectliteValue.valueError "reflectlite.Value.Type" 0) (fun t _ _ _ => ReflectliteType.toType t)) Tryz.func121 (by kernel_rfl) (by kernel_rfl) (by kernel_rfl) (by kernel_rfl)
 have h8 := @run_callFunc_extern Tryz.prog 122 _ (ReflectliteValue.method (ReflectliteValue.valueError "reflectlite.Value.IsNil" 0) ReflectliteValue.isNil) Tryz.func122 (by kernel_rfl) (by kernel_rfl) (by kernel_rfl) (by kernel_rfl)
 have h27 := @run_callFunc_extern Tryz.prog 238 _ (ReflectliteType.abiMethod fun t => do pure (.int .u8 (← Rtype.kind t))) Tryz.func238 (by kernel_rfl) (by kernel_rfl) (by kernel_rfl) (by kernel_rfl)
 have h37 := @run_callFunc_extern Tryz.prog 251 _ (ReflectliteType.method ReflectliteType.elem) Tryz.func251 (by kernel_rfl) (by kernel_rfl) (by kernel_rfl) (by kernel_rfl)
 have h38 := @run_callFunc_extern Tryz.prog 252 _ (ReflectliteType.relation "Implements" ReflectliteType.implements_) Tryz.func252 (by kernel_rfl) (by kernel_rfl) (by kernel_rfl) (by kernel_rfl)
 have h10 := @run_callFunc_extern Tryz.prog 146 _ ReflectliteType.typeOf Tryz.func146 (by kernel_rfl) (by kernel_rfl) (by kernel_rfl) (by kernel_rfl)
 have h35 := @run_callFunc_extern Tryz.prog 249 _ (ReflectliteType.relation "AssignableTo" ReflectliteType.assignableTo) Tryz.func249 (by kernel_rfl) (by kernel_rfl) (by kernel_rfl) (by kernel_rfl)
 have h11 := @run_callFunc_extern Tryz.prog 147 _ (ReflectliteValue.method (ReflectliteValue.valueError "reflectlite.Value.Elem" 0) ReflectliteValue.elem) Tryz.func147 (by kernel_rfl) (by kernel_rfl) (by kernel_rfl) (by kernel_rfl)
 have h12 := @run_callFunc_extern Tryz.prog 148 _ ReflectliteValue.set Tryz.func148 (by kernel_rfl) (by kernel_rfl) (by kernel_rfl) (by kernel_rfl)
 have tO := ea_typeOfE
 have mA := ea_methodAssignableTo
 have a25 := ea_assignableE
 have v25 := ea_valueOfE
 have f6 := ea_valueOfP
 have f7 := ea_typeP
 have mK := ea_methodKind
 have mE := ea_methodElem
 have mI := ea_methodImplements
 have k27 := ea_kindP
 have k25 := ea_kindE
 have e27 := ea_elemP
 have i25 := ea_implementsE
 have n8 := ea_isNilP ⟨w.heap.size, 0, none⟩ t ((w.alloc (.cells #[.pointer (some t)] 155)).alloc (.cells #[.pointer (some ⟨9, 155, none⟩), .pointer (some ⟨w.heap.size, 0, none⟩), .int .u64 150] 189)) (by simp)
 have hlt : 0 < w.heap.size := by
  rcases Nat.eq_zero_or_pos w.heap.size with h0 | h
  ·simp [World.cell?, h0] at hg
  ·exact h
 have hg2 : ((w.alloc (.cells #[.pointer (some t)] 155)).alloc (.cells #[.pointer (some ⟨9, 155, none⟩), .pointer (some ⟨w.heap.size, 0, none⟩), .int .u64 150] 189)).cell? ⟨0, 0, none⟩ = some (.iface 215 (.agg #[.pointer (some ⟨9, 28, none⟩)])) := by
  rw [World.cell?_alloc_lt _ _ ⟨0, 0, none⟩ (by simp), World.cell?_alloc_lt _ _ ⟨0, 0, none⟩ hlt]; exact hg
 have htl : t.block < w.heap.size := by
  rcases Nat.lt_or_ge t.block w.heap.size with h | h
  ·exact h
  ·simp [World.cell?, Array.getElem?_eq_none h] at ht0
 have el := ea_elemVP ⟨w.heap.size, 0, none⟩ t (((w.alloc (.cells #[.pointer (some t)] 155)).alloc (.cells #[.pointer (some ⟨9, 155, none⟩), .pointer (some ⟨w.heap.size, 0, none⟩), .int .u64 150] 189)).alloc (.cells #[.pointer (some ⟨9, 155, none⟩), .pointer (some ⟨w.heap.size, 0, none⟩), .int .u64 150] 189)) (by rw [World.cell?_alloc_lt _ _ ⟨w.heap.size, 0, none⟩ (by simp; omega)]; simp)
 have st := ea_setE t ⟨w.heap.size + 1 + 1 + 1, 0, none⟩ k old ((((w.alloc (.cells #[.pointer (some t)] 155)).alloc (.cells #[.pointer (some ⟨9, 155, none⟩), .pointer (some ⟨w.heap.size, 0, none⟩), .int .u64 150] 189)).alloc (.cells #[.pointer (some ⟨9, 155, none⟩), .pointer (some ⟨w.heap.size, 0, none⟩), .int .u64 150] 189)).alloc (.cells #[.int .i64 k] 89))
  (by rw [World.cell?_alloc_at _ _ _ _ (by simp)]; rfl)
  (by rw [World.cell?_alloc_lt _ _ t (by simp; omega), World.cell?_alloc_lt _ _ t (by simp; omega), World.cell?_alloc_lt _ _ t (by simp; omega), World.cell?_alloc_lt _ _ t htl]; exact ht0)
  (by rw [World.frozen?_alloc_old _ _ t (by simp; omega), World.frozen?_alloc_old _ _ t (by simp; omega), World.frozen?_alloc_old _ _ t (by simp; omega), World.frozen?_alloc_old _ _ t (Nat.ne_of_lt htl)]; exact hf0)
 go_enter Tryz.func86, Tryz.ntmps86
 go_wp2
 refine wp_loop_rounds 1 ?_
 rw [rounds_succ]
 go_wp2
 go_ret
 exact ⟨rfl, rfl⟩
theorem ErrVar.below {w w' : World} {B : Nat} (h : ErrVar w) (hb : Below B w w') (hB : 0 < B) : ErrVar w' := by
 unfold ErrVar at h ⊢
 rw [hb.cell (p := ⟨0, 0, none⟩) hB]; exact h
theorem ErrVar.pos {w : World} (h : ErrVar w) : 0 < w.heap.size := by
 unfold ErrVar at h
 rcases Nat.eq_zero_or_pos w.heap.size with h0 | h'
 ·simp [World.cell?, h0] at h
 ·exact h'
theorem ErrVar.alloc {w : World} (h : ErrVar w) (o : Obj) : ErrVar (w.alloc o) := by
 have hp := h.pos
 unfold ErrVar at h ⊢
 rw [World.cell?_alloc_lt _ _ ⟨0, 0, none⟩ hp]; exact h
theorem told_nil (w : World) : Calls Tryz.prog 38 #[.nilIface] w fun e w' => e = .returned (.int .i64 0) ∧ w = w' := by
 go_enter Tryz.func38, Tryz.ntmps38
 go_wp2
 go_ret
 exact ⟨rfl, rfl⟩
set_option maxHeartbeats 1000000 in
theorem told_errno (k : Int) (w : World) (hg : ErrVar w) : Calls Tryz.prog 38 #[.iface 89 (.int .i64 k)] w fun e w' => e = .returned (.int .i64 k) ∧ Below w.heap.size w w' := by
 have hgA := hg.alloc (.cells #[.int .i64 0] 89)
 have htA : (w.alloc (.cells #[.int .i64 0] 89)).cell? ⟨w.heap.size, 0, none⟩ = some (.int .i64 0) := by simp
 have hfA : (w.alloc (.cells #[.int .i64 0] 89)).frozen? ⟨w.heap.size, 0, none⟩ = false := by simp
 have HA := Lib.hid hgA
 clear hgA
 go_enter Tryz.func38, Tryz.ntmps38
 go_wp2_with (go_at_call 86; refine (as_hit k _ (.int .i64 0) _ HA.out htA hfA).mono ?_; rintro e w' ⟨rfl, rfl⟩)
 go_ret
 refine ⟨rfl, ?_⟩
 exact (((((Below.refl _ _).alloc (Nat.le_refl _) _).alloc (by simp) _).alloc (by simp; omega) _).alloc (by simp; omega) _).alloc (by simp; omega) _
theorem error_nil (e0 : Int) (w : World) : Calls Tryz.prog 11 #[.nilIface, .int .i64 e0] w fun e w' => e = .returned (.bool (0 == e0)) ∧ w = w' := by
 go_enter Tryz.func11, Tryz.ntmps11
 go_wp2_with (go_at_call 38; refine (told_nil _).mono ?_; rintro e w' ⟨rfl, rfl⟩)
 go_ret
 exact ⟨rfl, rfl⟩
theorem error_errno (k e0 : Int) (w : World) (hg : ErrVar w) : Calls Tryz.prog 11 #[.iface 89 (.int .i64 k), .int .i64 e0] w fun e w' => e = .returned (.bool (k == e0)) ∧ Below w.heap.size w w' := by
 have HA := Lib.hid hg
 clear hg
 go_enter Tryz.func11, Tryz.ntmps11
 go_wp2_with (go_at_call 38; refine (told_errno k _ HA.out).mono ?_; rintro e w' ⟨rfl, hb⟩)
 go_ret
 exact ⟨rfl, hb⟩
end Go.Proofs.YtfndhfekbbbliaaGreatDoor
