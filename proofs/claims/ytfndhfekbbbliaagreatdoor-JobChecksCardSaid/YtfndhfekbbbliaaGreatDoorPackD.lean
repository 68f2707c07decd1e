/-
  Several texts of this claim in one, in build order; each begins with its own remark, which says what it proves and under which conditions.
-/
import Derived.Test.YtfndhfekbbbliaaGreatDoorPackC
import Derived.Test.YtfndhfekbbbliaaGreatDoorPackB
import Derived.Test.YtfndhfekbbbliaaGreatDoorPackA
import Derived.Deep.RegionHeld3

/-
  The reference's reader: one, where two stand in brackets. Conditions: the text takes at most 120 bytes, the depth is at most 20.
-/
namespace Go.Proofs.YtfndhfekbbbliaaGreatDoor
open Go.RowKit Go.ChangeShapes Go.WideShapes
set_option linter.unusedVariables false

set_option maxRecDepth 100000 in
set_option maxHeartbeats 32000000 in
theorem pone_two {W : Reads} {m : Nat} (hS : ∀ d, Short (W d)) (hW : PReadsLt 35 W m) (R : Nat) (s : ByteArray) (l r : List UInt8) (op : UInt8) (d : Nat) (w : World) (h : PL w R s l d) (hs : s.size ≤ 120) (hd : d ≤ 20) (hm : l.length ≤ m)
    (hl : (op = 109 ∧ l = 109 :: 105 :: 110 :: 40 :: r) ∨ (op = 77 ∧ l = 109 :: 97 :: 120 :: 40 :: r)) :
    Calls Tryz.prog 176 #[.pointer (some ⟨R, 0, none⟩)] w (PReads R s d w (deepRd d l.length (twoRd W op (d + 1) r))) := by
  obtain ⟨r0, hr0⟩ : ∃ r0, r0 = deepRd d l.length (twoRd W op (d + 1) r) := ⟨_, rfl⟩
  rw [← hr0]
  have HR0 := Lib.hid hr0
  have HS := Lib.hid hS
  have HW := Lib.hid hW
  have hlt := h.lt
  have HLT := Lib.hid hlt
  have HS1 := Lib.hid ((PSt.start hlt).var (.int .i64 0) (.int .i64 0) (.slice none 0 0))
  have HP1 : Hid (PL (w.alloc (.cells #[.int .i64 0, .int .i64 0, .slice none 0 0] 24)) R s l d) := h.keep (heap_alloc_old _ _ hlt)
  obtain ⟨wr1, hpa1⟩ := h.2.2
  obtain ⟨c0, c1, c2, c3, c4, cf⟩ := hpa1.cells
  have hrl : l.length = r.length + 4 := by rcases hl with ⟨_, rfl⟩ | ⟨_, rfl⟩ <;> rfl
  have HRM : Hid (r.length < m) := by show _ < _; omega
  have hll : l.length ≤ s.size := h.1
  have hop : op ∈ binOps := by rcases hl with ⟨rfl, _⟩ | ⟨rfl, _⟩ <;> decide
  have HOP := Lib.hid hop
  have hpre : (op = 109 ∧ l = 109 :: 105 :: 110 :: 40 :: r) ∨ (op = 77 ∧ l = 109 :: 97 :: 120 :: 40 :: r ∧ Lib.hasPrefix l (⟨#[109, 105, 110, 40]⟩ : ByteArray).data.toList = false) := by
    rcases hl with h | ⟨h1, h2⟩
    · exact .inl h
    · exact .inr ⟨h1, h2, by rw [h2]; simp [Lib.hasPrefix, List.isPrefixOf]⟩
  clear hr0 hS hW h hm hl hop
  obtain ⟨at_, hat⟩ : ∃ at_ : Nat, at_ = s.size - l.length := ⟨_, rfl⟩
  rw [← hat] at c1
  have HAT := Lib.hid hat
  clear hat hpa1 hrl hll
  go_enter Tryz.func176, Tryz.ntmps176
  rcases hpre with ⟨eop, hl⟩ | ⟨eop, hl, hno⟩
  case' inl =>
    have HHL := Lib.hid hl
    have HOPI : Hid ((op.toNat : Int) = 109) := by rw [eop]; rfl
    clear hl eop
    go_wp2_with fail
    refine (pisL_yes R s ⟨#[109, 105, 110, 40]⟩ l r d _ HP1.out hs (by show 4 ≤ 10; omega) HHL.out).mono ?_
    rintro e w2 ⟨rfl, hp, hf⟩
    have HS2 := Lib.hid (HS1.out.call hf)
    have HP2 := Lib.hid hp
    clear hp hf HS1 HP1 c0 c1 c2 c3 c4 cf HHL hlt
    go_wp2_with fail
  case' inr =>
    have HHL := Lib.hid hl
    have HOPI : Hid ((op.toNat : Int) = 77) := by rw [eop]; rfl
    clear hl eop
    go_wp2_with fail
    refine (pisL_no R s ⟨#[109, 105, 110, 40]⟩ l d _ HP1.out hs (by show 4 ≤ 10; omega) hno).mono ?_
    rintro e w1 ⟨rfl, hp, hf⟩
    have HS1b := Lib.hid (HS1.out.call hf)
    have HP1b := Lib.hid hp
    clear hp hf HS1 HP1 c0 c1 c2 c3 c4 cf hlt
    go_wp2_with fail
    refine (pisL_yes R s ⟨#[109, 97, 120, 40]⟩ l r d _ HP1b.out hs (by show 4 ≤ 10; omega) HHL.out).mono ?_
    rintro e w2 ⟨rfl, hp, hf⟩
    have HS2 := Lib.hid (HS1b.out.call hf)
    have HP2 := Lib.hid hp
    clear hp hf HS1b HP1b HHL hno
    go_wp2_with fail
  all_goals
    by_cases hd2 : d = 20
    · subst hd2
      refine (pdownL_full R s r _ w2 HP2.out).mono ?_
      rintro e w3 ⟨rfl, hp, hf⟩
      have hS3 := HS2.out.call hf
      have HE : Hid (r0 = .bad l.length 4) := HR0.out
      have hp2 : PBad w3 R s 20 (s.size - l.length : Nat) 4 := by rw [← HAT.out]; exact hp
      have HEND := Lib.hid (hS3.endBad (.head _) hp2 (o := 0) (n := 0) (A := none) (c := 0))
      obtain ⟨z0, z1, z2, zf⟩ := hS3.cells (.head _)
      have HQ := Lib.hid (hS3.out (.head _) (.int .i64 0) (.int .i64 0) (.slice none 0 0))
      clear hp hf hp2 hS3 HS2 HP2 HR0
      go_wp2_with fail
      obtain ⟨q0, q1, q2⟩ := HQ.out
      refine ⟨rfl, .agg #[.int .i64 0, .int .i64 0, .slice none 0 0], ?_, ?_⟩
      · simp only [results, Tryz.results176]
        simp [go_sem, q0, q1, q2]
      · rw [HE.out]; exact HEND.out
    · have hd3 : d < 20 := by omega
      refine (pdownL R d s r _ w2 HP2.out hd3).mono ?_
      rintro e w3 ⟨rfl, hp, hf⟩
      have HS3 := Lib.hid (HS2.out.call hf)
      have HP3 := Lib.hid hp
      obtain ⟨ra, hra⟩ : ∃ ra, ra = W (d + 1) r := ⟨_, rfl⟩
      have HE : Hid (r0 = ra.bind fun a l1 => wantRd 44 l1 fun l2 => (W (d + 1) l2).bind fun b l3 => wantRd 41 l3 fun l4 => .ok (.bin op a b) l4) := by show _ = _; rw [HR0.out, hra]; unfold deepRd twoRd; rw [if_neg hd2]
      have HRA := Lib.hid hra
      clear hp hf HS2 HP2 HR0 hra
      go_wp2_with fail
      refine (HW.out R s r (d + 1) w3 HP3.out hs (by omega) HRM.out).mono ?_
      rw [← HRA.out]
      intro e w4 hr
      obtain ⟨o, n, A, c, rfl, hf, hst⟩ := hr.form
      have hR4 := (HS3.out.call hf).lt'
      rcases hst with ⟨a, l1, h1, ht, hp⟩ | ⟨k, j, h1, hp⟩
      · have HE2 : Hid (r0 = wantRd 44 l1 fun l2 => (W (d + 1) l2).bind fun b l3 => wantRd 41 l3 fun l4 => .ok (.bin op a b) l4) := by show _ = _; rw [HE.out, h1]; rfl
        have HL1 : Hid (l1.length < r.length) := HS.out (d + 1) r a l1 (by rw [← HRA.out]; exact h1)
        have HS5 := Lib.hid ((HS3.out.tree hf ht).var (.int .i64 o) (.int .i64 n) (.slice A c c))
        have HP5 : Hid (PL (w4.alloc (.cells #[.int .i64 o, .int .i64 n, .slice A c c] 24)) R s l1 (d + 1)) := hp.keep (heap_alloc_old _ _ hR4)
        obtain ⟨wr4, hpa⟩ := hp.2.2
        obtain ⟨c0, c1, c2, c3, c4, cf⟩ := hpa.cells
        clear hr hf hp h1 ht HE HS3 HP3 hpa HRA
        go_wp2_with fail
        generalize gb : w4.heap.size = g at *
        clear c0 c1 c2 c3 c4 cf
        generalize w4.alloc (.cells #[.int .i64 o, .int .i64 n, .slice A c c] 24) = W5 at *
        clear gb
        by_cases hw : ∃ l2, l1 = 44 :: l2
        · obtain ⟨l2, rfl⟩ := hw
          refine (pwantL_yes R s 44 l2 (d + 1) W5 HP5.out hs).mono ?_
          rintro e w6 ⟨rfl, hp, hf⟩
          have HS6 := Lib.hid (HS5.out.call hf)
          have HP6 := Lib.hid hp
          obtain ⟨wr6, hpa⟩ := hp.2.2
          obtain ⟨c0, c1, c2, c3, c4, cf⟩ := hpa.cells
          obtain ⟨rb, hrb⟩ : ∃ rb, rb = W (d + 1) l2 := ⟨_, rfl⟩
          have HE3 : Hid (r0 = rb.bind fun b l3 => wantRd 41 l3 fun l4 => .ok (.bin op a b) l4) := by show _ = _; rw [HE2.out, hrb]; simp only [wantRd, if_true]
          have HRB := Lib.hid hrb
          clear hp hf HS5 HP5 hpa HE2 hrb
          go_wp2_with fail
          refine (HW.out R s l2 (d + 1) w6 HP6.out hs (by omega) (by have := HL1.out; have := HRM.out; simp only [List.length_cons] at *; omega)).mono ?_
          rw [← HRB.out]
          clear c0 c1 c2 c3 c4 cf
          intro e w7 hr
          obtain ⟨o7, n7, A7, c7, rfl, hf, hst⟩ := hr.form
          have hS7 := HS6.out.call hf
          have hR7 := hS7.lt'
          rcases hst with ⟨b, l3, h1, ht, hp⟩ | ⟨k, j, h1, hp⟩
          · have HE4 : Hid (r0 = wantRd 41 l3 fun l4 => .ok (.bin op a b) l4) := by show _ = _; rw [HE3.out, h1]; rfl
            have HS8 := Lib.hid ((HS6.out.tree hf ht).var (.int .i64 o7) (.int .i64 n7) (.slice A7 c7 c7))
            have HP8 : Hid (PL (w7.alloc (.cells #[.int .i64 o7, .int .i64 n7, .slice A7 c7 c7] 24)) R s l3 (d + 1)) := hp.keep (heap_alloc_old _ _ hR7)
            obtain ⟨wr7, hpa⟩ := hp.2.2
            obtain ⟨c0, c1, c2, c3, c4, cf⟩ := hpa.cells
            clear hr hf hp h1 ht HE3 HS6 HP6 hpa HRB hS7
            go_wp2_with fail
            generalize gb : w7.heap.size = g2 at *
            clear c0 c1 c2 c3 c4 cf
            generalize w7.alloc (.cells #[.int .i64 o7, .int .i64 n7, .slice A7 c7 c7] 24) = W8 at *
            clear gb hR7
            have HC : Hid (Calls Tryz.prog 82 #[.pointer (some ⟨R, 0, none⟩), .string ⟨#[41]⟩] W8 fun e w9 => e = .returned (.tuple #[]) ∧ Hid (Frm (· = R) W8 w9) ∧
                Hid (∃ (p E D : Nat) (wr bd : Int), PAt w9 R s p E wr bd ∧ (E : Int) - 1 = (D : Int) ∧ wrap64 (D : Int) = (D : Int) ∧ ((∃ l4, r0 = .ok (.bin op a b) l4 ∧ PL (w9.setCell ⟨R, 2, none⟩ (.int .i64 (D : Int))) R s l4 d) ∨ (∃ k j, r0 = .bad k j ∧ PBad (w9.setCell ⟨R, 2, none⟩ (.int .i64 (D : Int))) R s d (s.size - k : Nat) j)))) := by
              show Calls _ _ _ _ _
              by_cases hw : ∃ l4, l3 = 41 :: l4
              · obtain ⟨l4, rfl⟩ := hw
                refine (pwantL_yes R s 41 l4 (d + 1) W8 HP8.out hs).mono ?_
                rintro e w9 ⟨h1, hp, hf⟩
                obtain ⟨E, wr', g2, g3, g4, g5⟩ := hp.dec hd3
                exact ⟨h1, hf, _, E, d, wr', 0, g2, g3, g4, .inl ⟨l4, by rw [HE4.out]; simp only [wantRd, if_true], g5⟩⟩
              · refine (pwantL_no R s 41 l3 (d + 1) W8 HP8.out hs (by omega) fun r e => hw ⟨r, e⟩).mono ?_
                rintro e w9 ⟨h1, hp, hf⟩
                obtain ⟨p', E, D, g1, g2, g3, g4, g5, g6⟩ := hp.dec
                exact ⟨h1, hf, p', E, D, _, _, g2, g4, g5, .inr ⟨_, _, HE4.out.trans (want_other _ fun r e => hw ⟨r, e⟩), g6⟩⟩
            refine HC.out.mono ?_
            rintro e w9 ⟨rfl, HF9, HX9⟩
            have hS9 := HS8.out.call HF9.out
            obtain ⟨p', E', D, wr', bd, g1', g2', g3', hx9⟩ := HX9.out
            have HX9b := Lib.hid hx9
            obtain ⟨c0, c1, c2, c3, c4, cf⟩ := g1'.cells
            have a0 := fun v => ((hS9.setR 2 v).cells (.tail _ (.head _))).1
            have a1 := fun v => ((hS9.setR 2 v).cells (.tail _ (.head _))).2.1
            have a2 := fun v => ((hS9.setR 2 v).cells (.tail _ (.head _))).2.2.1
            have b0 := fun v => ((hS9.setR 2 v).cells (.head _)).1
            have b1 := fun v => ((hS9.setR 2 v).cells (.head _)).2.1
            have b2 := fun v => ((hS9.setR 2 v).cells (.head _)).2.2.1
            have z0 := fun v ob => (((hS9.setR 2 v).alloc ob).cells (.tail _ (.tail _ (.head _)))).1
            have z1 := fun v ob => (((hS9.setR 2 v).alloc ob).cells (.tail _ (.tail _ (.head _)))).2.1
            have z2 := fun v ob => (((hS9.setR 2 v).alloc ob).cells (.tail _ (.tail _ (.head _)))).2.2.1
            have z3 := fun v ob => (((hS9.setR 2 v).alloc ob).cells (.tail _ (.tail _ (.head _)))).2.2.2
            have HQ : Hid (∀ v ob x y z, _ ∧ _ ∧ _) := fun v ob x y z => ((hS9.setR 2 v).alloc ob).out (.tail _ (.tail _ (.head _))) x y z
            have hsz : (w9.setCell ⟨R, 2, none⟩ (.int .i64 (D : Int))).heap.size = w9.heap.size := by simp
            have hS10 := (hS9.setR 2 (.int .i64 (D : Int))).two (.tail _ (.head _)) (.head _) HOP.out
            rw [hsz, HOPI.out] at hS10
            have HS10 := Lib.hid hS10
            have HLT9 := Lib.hid hS9.lt'
            clear HC HE4 HS8 HP8 HF9 HX9 hx9 hS9 hS10 hsz g1'
            go_wp2_with fail
            refine ⟨rfl, .agg #[.int .i64 (op.toNat : Int), .int .i64 0, .slice (some ⟨w9.heap.size, 0, none⟩) 2 2], ?_, ?_⟩
            all_goals rw [HOPI.out]
            rotate_left
            · show PReads R s d w r0 _ (rset _ w.heap.size _ _ _)
              rcases HX9b.out with ⟨l4, e1, e2⟩ | ⟨k, j, e1, e2⟩
              · rw [e1]
                exact HS10.out.endOk (.tail _ (.tail _ (.head _))) (.head _) (e2.keep (keep_setalloc 2 _ _ HLT9.out))
              · rw [e1]
                exact HS10.out.endBad (.tail _ (.tail _ (.head _))) (e2.keep (keep_setalloc 2 _ _ HLT9.out))
            · obtain ⟨q0, q1, q2⟩ := HQ.out (.int .i64 (D : Int)) (.cells #[.int .i64 o, .int .i64 n, .slice A c c, .int .i64 o7, .int .i64 n7, .slice A7 c7 c7] 24) (.int .i64 (op.toNat : Int)) (.int .i64 0) (.slice (some ⟨w9.heap.size, 0, none⟩) 2 2)
              rw [HOPI.out] at q0 q1 q2
              simp only [results, Tryz.results176]
              simp [go_sem, q0, q1, q2]
          · have HE4 : Hid (r0 = .bad k j) := by show _ = _; rw [HE3.out, h1]; rfl
            obtain ⟨p', E, D, g1, g2, g3, g4, g5, g6⟩ := hp.dec
            obtain ⟨c0, c1, c2, c3, c4, cf⟩ := g2.cells
            have hS8 := hS7.setvar 2 (.int .i64 (D : Int)) (.int .i64 o7) (.int .i64 n7) (.slice A7 c7 c7)
            have hp8 : PBad ((w7.setCell ⟨R, 2, none⟩ (.int .i64 (D : Int))).alloc (.cells #[.int .i64 o7, .int .i64 n7, .slice A7 c7 c7] 24)) R s d (s.size - k : Nat) j := g6.keep (keep_setalloc 2 _ _ hR7)
            have hsz : ((w7.setCell ⟨R, 2, none⟩ (.int .i64 (D : Int))).alloc (.cells #[.int .i64 o7, .int .i64 n7, .slice A7 c7 c7] 24)).heap.size = w7.heap.size + 1 := by simp
            have HS8 := Lib.hid hS8
            have HP8 := Lib.hid hp8
            have HSZ := Lib.hid hsz
            have a0 := fun v ob => (((hS7.setR 2 v).alloc ob).cells (.head _)).1
            have a1 := fun v ob => (((hS7.setR 2 v).alloc ob).cells (.head _)).2.1
            have a2 := fun v ob => (((hS7.setR 2 v).alloc ob).cells (.head _)).2.2.1
            have z0 := fun v ob ob2 => ((((hS7.setR 2 v).alloc ob).alloc ob2).cells (.tail _ (.head _))).1
            have z1 := fun v ob ob2 => ((((hS7.setR 2 v).alloc ob).alloc ob2).cells (.tail _ (.head _))).2.1
            have z2 := fun v ob ob2 => ((((hS7.setR 2 v).alloc ob).alloc ob2).cells (.tail _ (.head _))).2.2.1
            have z3 := fun v ob ob2 => ((((hS7.setR 2 v).alloc ob).alloc ob2).cells (.tail _ (.head _))).2.2.2
            have HQ : Hid (∀ v ob ob2 x y z, _ ∧ _ ∧ _) := fun v ob ob2 x y z => (((hS7.setR 2 v).alloc ob).alloc ob2).out (.tail _ (.head _)) x y z
            clear hr hf hp h1 hS7 hS8 hp8 hsz HE3 HS6 HP6 g2 g6 HRB
            go_wp2_with fail
            refine ⟨rfl, .agg #[.int .i64 (op.toNat : Int), .int .i64 0, .slice (some ⟨w7.heap.size + 1, 0, none⟩) 2 2], ?_, ?_⟩
            all_goals rw [HOPI.out]
            rotate_left
            · show PReads R s d w r0 _ (rset _ w.heap.size _ _ _)
              rw [HE4.out]
              exact (HS8.out.alloc _).endBad (.tail _ (.tail _ (.head _))) (HP8.out.keep (heap_alloc_old _ _ (by rw [HSZ.out]; omega)))
            · obtain ⟨q0, q1, q2⟩ := HQ.out (.int .i64 (D : Int)) (.cells #[.int .i64 o7, .int .i64 n7, .slice A7 c7 c7] 24) (.cells #[.int .i64 o, .int .i64 n, .slice A c c, .int .i64 o7, .int .i64 n7, .slice A7 c7 c7] 24) (.int .i64 (op.toNat : Int)) (.int .i64 0) (.slice (some ⟨w7.heap.size + 1, 0, none⟩) 2 2)
              rw [HOPI.out] at q0 q1 q2
              simp only [results, Tryz.results176]
              simp [go_sem, q0, q1, q2]
        · have HE3 : Hid (r0 = .bad l1.length 2) := HE2.out.trans (want_other _ fun r e => hw ⟨r, e⟩)
          refine (pwantL_no R s 44 l1 (d + 1) W5 HP5.out hs (by omega) fun r e => hw ⟨r, e⟩).mono ?_
          rintro e w6 ⟨rfl, hp, hf⟩
          have hS6 := HS5.out.call hf
          obtain ⟨z0, z1, z2, zf⟩ := hS6.cells (.tail _ (.head _))
          have HQ := Lib.hid (hS6.out (.tail _ (.head _)) (.int .i64 0) (.int .i64 0) (.slice none 0 0))
          have HEND := Lib.hid (hS6.endBad (.tail _ (.head _)) (hp.less (Nat.le_succ d)) (o := 0) (n := 0) (A := none) (c := 0))
          obtain ⟨p', d', g1', g2', g3', g4', g5'⟩ := hp
          obtain ⟨c0, c1, c2, c3, c4, cf⟩ := g5'.cells
          clear hf hS6 HS5 HP5 HE2 g1' g2' g3' g4' g5'
          go_wp2_with fail
          obtain ⟨q0, q1, q2⟩ := HQ.out
          refine ⟨rfl, .agg #[.int .i64 0, .int .i64 0, .slice none 0 0], ?_, ?_⟩
          · simp only [results, Tryz.results176]
            simp [go_sem, q0, q1, q2]
          · rw [HE3.out]; exact HEND.out
      · have HE2 : Hid (r0 = .bad k j) := by show _ = _; rw [HE.out, h1]; rfl
        have hS5 := (HS3.out.call hf).var (.int .i64 o) (.int .i64 n) (.slice A c c)
        have hp5 : PBad (w4.alloc (.cells #[.int .i64 o, .int .i64 n, .slice A c c] 24)) R s (d + 1) (s.size - k : Nat) j := hp.keep (heap_alloc_old _ _ hR4)
        have HEND := Lib.hid (hS5.endBad (.tail _ (.head _)) (hp5.less (Nat.le_succ d)) (o := 0) (n := 0) (A := none) (c := 0))
        have HQ := Lib.hid (hS5.out (.tail _ (.head _)) (.int .i64 0) (.int .i64 0) (.slice none 0 0))
        obtain ⟨z0, z1, z2, zf⟩ := hS5.cells (.tail _ (.head _))
        obtain ⟨p', d', g1, g2, g3, g4, g5⟩ := hp
        obtain ⟨c0, c1, c2, c3, c4, cf⟩ := g5.cells
        have d0 : (j == 0) = false := beq_eq_false_iff_ne.2 g4
        clear hr hf h1 hS5 hp5 HE HS3 HP3 g1 g2 g3 g4 g5 HRA
        go_wp2_with fail
        obtain ⟨q0, q1, q2⟩ := HQ.out
        refine ⟨rfl, .agg #[.int .i64 0, .int .i64 0, .slice none 0 0], ?_, ?_⟩
        · simp only [results, Tryz.results176]
          simp [go_sem, q0, q1, q2]
        · rw [HE2.out]; exact HEND.out
end Go.Proofs.YtfndhfekbbbliaaGreatDoor

/-
  The reference's reader: one, where a name or a bracket stands. Conditions: the text takes at most 120 bytes, the depth is at most 20.
-/
namespace Go.Proofs.YtfndhfekbbbliaaGreatDoor
open Go.RowKit Go.ChangeShapes Go.WideShapes
set_option linter.unusedVariables false

theorem one_heads {l : List UInt8} (h : ∀ r, l ≠ 109 :: r) : Lib.hasPrefix l (⟨#[109, 105, 110, 40]⟩ : ByteArray).data.toList = false ∧ Lib.hasPrefix l (⟨#[109, 97, 120, 40]⟩ : ByteArray).data.toList = false := by
  cases l with
  | nil => exact ⟨rfl, rfl⟩
  | cons x r =>
    have : ¬ 109 = x := fun e => h r (e ▸ rfl)
    constructor <;> simp [Lib.hasPrefix, List.isPrefixOf, this]
set_option maxRecDepth 100000 in
set_option maxHeartbeats 16000000 in
theorem pone_name {W : Reads} (R : Nat) (s : ByteArray) (r : List UInt8) (x : Bool) (d : Nat) (w : World) (h : PL w R s ((if x then 110 else 115) :: r) d) (hs : s.size ≤ 120) (hd : d ≤ 20) :
    Calls Tryz.prog 176 #[.pointer (some ⟨R, 0, none⟩)] w (PReads R s d w (.ok (.nam x) r)) := by
  obtain ⟨c, hc⟩ : ∃ c : UInt8, c = if x then 110 else 115 := ⟨_, rfl⟩
  rw [← hc] at h
  have hc2 : (x = true ∧ (c.toNat : Int) = 110) ∨ (x = false ∧ (c.toNat : Int) = 115) := by cases x <;> simp [hc]
  have hno := one_heads (l := c :: r) fun r' e => by
    have e1 := (List.cons.inj e).1
    rw [hc] at e1; cases x <;> simp at e1
  obtain ⟨hn1, hn2⟩ := hno
  have hlt := h.lt
  have HLT := Lib.hid hlt
  have HS1 := Lib.hid ((PSt.start hlt).var (.int .i64 0) (.int .i64 0) (.slice none 0 0))
  have HP1 : Hid (PL (w.alloc (.cells #[.int .i64 0, .int .i64 0, .slice none 0 0] 24)) R s (c :: r) d) := h.keep (heap_alloc_old _ _ hlt)
  obtain ⟨wr1, hpa1⟩ := h.2.2
  obtain ⟨c0, c1, c2, c3, c4, cf⟩ := hpa1.cells
  have hlen : r.length + 1 ≤ s.size := by have := h.1; simpa using this
  have HC := Lib.hid hc2
  clear hpa1 h hc hc2
  go_enter Tryz.func176, Tryz.ntmps176
  go_wp2_with fail
  refine (pisL_no R s ⟨#[109, 105, 110, 40]⟩ (c :: r) d _ HP1.out hs (by show 4 ≤ 10; omega) hn1).mono ?_
  rintro e w1 ⟨rfl, hp, hf⟩
  have HS1b := Lib.hid (HS1.out.call hf)
  have HP1b := Lib.hid hp
  clear hp hf HS1 HP1 c0 c1 c2 c3 c4 cf hlt
  go_wp2_with fail
  refine (pisL_no R s ⟨#[109, 97, 120, 40]⟩ (c :: r) d _ HP1b.out hs (by show 4 ≤ 10; omega) hn2).mono ?_
  rintro e w2 ⟨rfl, hp, hf⟩
  have HS2 := Lib.hid (HS1b.out.call hf)
  have HP2 := Lib.hid hp
  clear hp hf HS1b HP1b hn1 hn2
  go_wp2_with fail
  refine (ppeekL R s (c :: r) d _ HP2.out).mono ?_
  rintro e w4 ⟨rfl, q, rfl⟩
  have HP4 : Hid (PL (w2.drewN q) R s (c :: r) d) := HP2.out.keep rfl
  have HS4 := Lib.hid (HS2.out.drewN q)
  clear HS2 HP2
  generalize w2.drewN q = W4 at *
  have HS5 := Lib.hid (HS4.out.setR 1 (.int .i64 (((s.size - (r.length + 1) : Nat) : Int) + 1)))
  have HP5 := Lib.hid HP4.out.next
  obtain ⟨z0, z1, z2, zf⟩ := HS5.out.cells (.head _)
  obtain ⟨wr, hpa⟩ := HP4.out.2.2
  have eh : headR (c :: r) = (c.toNat : Int) := rfl
  rw [eh]
  obtain ⟨ci, hci⟩ : ∃ ci : Int, ci = (c.toNat : Int) := ⟨_, rfl⟩
  rw [← hci] at HC ⊢
  obtain ⟨q0, q1, q2⟩ := HS5.out.out (.head _) (.int .i64 ci) (.int .i64 0) (.slice none 0 0)
  obtain ⟨e1, e2, e3, e4⟩ := HS5.out.res (.head _) (.int .i64 ci) (.int .i64 0) (.slice none 0 0)
  have HEND : Hid (PReads R s d w (.ok (.nam x) r) (.returned (.agg #[.int .i64 ci, .int .i64 0, .slice none 0 0])) (rset (W4.setCell ⟨R, 1, none⟩ (.int .i64 (((s.size - (r.length + 1) : Nat) : Int) + 1))) w.heap.size (.int .i64 ci) (.int .i64 0) (.slice none 0 0))) := by
    refine ⟨ci, 0, none, 0, rfl, ?_, HP5.out.keep e3, e1⟩
    rcases HC.out with ⟨rfl, rfl⟩ | ⟨rfl, rfl⟩
    · exact .nam true
    · exact .nam false
  obtain ⟨c0, c1, c2, c3, c4, cf⟩ := hpa.cells
  have hci2 : ci = 110 ∨ ci = 115 := HC.out.elim (fun h => .inl h.2) (fun h => .inr h.2)
  clear hpa HS4 HP4 HS5 HP5 e1 e2 e3 e4 hci eh HC
  rcases hci2 with rfl | rfl
  all_goals
    go_wp2_with fail
    refine ⟨rfl, .agg #[.int .i64 _, .int .i64 0, .slice none 0 0], ?_, HEND.out⟩
    simp only [results, Tryz.results176]
    simp [go_sem, q0, q1, q2]
set_option maxRecDepth 100000 in
set_option maxHeartbeats 16000000 in
theorem pone_brk {W : Reads} {m : Nat} (hW : PReadsLt 35 W m) (R : Nat) (s : ByteArray) (r : List UInt8) (d : Nat) (w : World) (h : PL w R s (40 :: r) d) (hs : s.size ≤ 120) (hd : d ≤ 20) (hm : r.length < m) :
    Calls Tryz.prog 176 #[.pointer (some ⟨R, 0, none⟩)] w (PReads R s d w (deepRd d (r.length + 1) ((W (d + 1) r).bind fun a l1 => wantRd 41 l1 fun l2 => .ok a l2))) := by
  obtain ⟨r0, hr0⟩ : ∃ r0, r0 = deepRd d (r.length + 1) ((W (d + 1) r).bind fun a l1 => wantRd 41 l1 fun l2 => .ok a l2) := ⟨_, rfl⟩
  rw [← hr0]
  have HR0 := Lib.hid hr0
  have HW := Lib.hid hW
  obtain ⟨hn1, hn2⟩ := one_heads (l := 40 :: r) fun r' e => by have e1 := (List.cons.inj e).1; simp at e1
  have hlt := h.lt
  have HLT := Lib.hid hlt
  have HM := Lib.hid hm
  have HS1 := Lib.hid ((PSt.start hlt).var (.int .i64 0) (.int .i64 0) (.slice none 0 0))
  have HP1 : Hid (PL (w.alloc (.cells #[.int .i64 0, .int .i64 0, .slice none 0 0] 24)) R s (40 :: r) d) := h.keep (heap_alloc_old _ _ hlt)
  obtain ⟨wr1, hpa1⟩ := h.2.2
  obtain ⟨c0, c1, c2, c3, c4, cf⟩ := hpa1.cells
  have hlen : r.length + 1 ≤ s.size := by have := h.1; simpa using this
  clear hpa1 h hr0 hW hm
  go_enter Tryz.func176, Tryz.ntmps176
  go_wp2_with fail
  refine (pisL_no R s ⟨#[109, 105, 110, 40]⟩ (40 :: r) d _ HP1.out hs (by show 4 ≤ 10; omega) hn1).mono ?_
  rintro e w1 ⟨rfl, hp, hf⟩
  have HS1b := Lib.hid (HS1.out.call hf)
  have HP1b := Lib.hid hp
  clear hp hf HS1 HP1 c0 c1 c2 c3 c4 cf hlt
  go_wp2_with fail
  refine (pisL_no R s ⟨#[109, 97, 120, 40]⟩ (40 :: r) d _ HP1b.out hs (by show 4 ≤ 10; omega) hn2).mono ?_
  rintro e w2 ⟨rfl, hp, hf⟩
  have HS2 := Lib.hid (HS1b.out.call hf)
  have HP2 := Lib.hid hp
  clear hp hf HS1b HP1b hn1 hn2
  go_wp2_with fail
  refine (ppeekL R s (40 :: r) d _ HP2.out).mono ?_
  rintro e w4 ⟨rfl, q, rfl⟩
  have HP4 : Hid (PL (w2.drewN q) R s (40 :: r) d) := HP2.out.keep rfl
  have HS4 := Lib.hid (HS2.out.drewN q)
  clear HS2 HP2
  generalize w2.drewN q = W4 at *
  have HS5 := Lib.hid (HS4.out.setR 1 (.int .i64 (((s.size - (r.length + 1) : Nat) : Int) + 1)))
  have HP5 := Lib.hid HP4.out.next
  obtain ⟨wr, hpa⟩ := HP4.out.2.2
  have eh : headR (40 :: r) = 40 := rfl
  rw [eh]
  obtain ⟨c0, c1, c2, c3, c4, cf⟩ := hpa.cells
  clear hpa HS4 HP4 eh
  go_wp2_with fail
  clear c0 c1 c2 c3 c4 cf
  generalize W4.setCell ⟨R, 1, none⟩ (.int .i64 (((s.size - (r.length + 1) : Nat) : Int) + 1)) = W5 at *
  by_cases hd2 : d = 20
  · subst hd2
    refine (pdownL_full R s r _ W5 HP5.out).mono ?_
    rintro e w3 ⟨rfl, hp, hf⟩
    have hS3 := HS5.out.call hf
    have HE : Hid (r0 = .bad (r.length + 1) 4) := HR0.out
    have HEND := Lib.hid (hS3.endBad (.head _) hp (o := 0) (n := 0) (A := none) (c := 0))
    obtain ⟨z0, z1, z2, zf⟩ := hS3.cells (.head _)
    have HQ := Lib.hid (hS3.out (.head _) (.int .i64 0) (.int .i64 0) (.slice none 0 0))
    clear hp hf hS3 HS5 HP5 HR0
    go_wp2_with fail
    obtain ⟨q0, q1, q2⟩ := HQ.out
    refine ⟨rfl, .agg #[.int .i64 0, .int .i64 0, .slice none 0 0], ?_, ?_⟩
    · simp only [results, Tryz.results176]
      simp [go_sem, q0, q1, q2]
    · rw [HE.out]; exact HEND.out
  · have hd3 : d < 20 := by omega
    refine (pdownL R d s r _ W5 HP5.out hd3).mono ?_
    rintro e w3 ⟨rfl, hp, hf⟩
    have HS3 := Lib.hid (HS5.out.call hf)
    have HP3 := Lib.hid hp
    obtain ⟨ra, hra⟩ : ∃ ra, ra = W (d + 1) r := ⟨_, rfl⟩
    have HE : Hid (r0 = ra.bind fun a l1 => wantRd 41 l1 fun l2 => .ok a l2) := by show _ = _; rw [HR0.out, hra]; unfold deepRd; rw [if_neg hd2]
    have HRA := Lib.hid hra
    clear hp hf HS5 HP5 HR0 hra
    go_wp2_with fail
    refine (HW.out R s r (d + 1) w3 HP3.out hs (by omega) HM.out).mono ?_
    rw [← HRA.out]
    intro e w4 hr
    obtain ⟨o, n, A, c, rfl, hf, hst⟩ := hr.form
    have hS4 := HS3.out.call hf
    have hR4 := hS4.lt'
    rcases hst with ⟨a, l1, h1, ht, hp⟩ | ⟨k, j, h1, hp⟩
    · have HE2 : Hid (r0 = wantRd 41 l1 fun l2 => .ok a l2) := by show _ = _; rw [HE.out, h1]; rfl
      have HS5 := Lib.hid ((HS3.out.tree hf ht).var (.int .i64 o) (.int .i64 n) (.slice A c c))
      have HP5 : Hid (PL (w4.alloc (.cells #[.int .i64 o, .int .i64 n, .slice A c c] 24)) R s l1 (d + 1)) := hp.keep (heap_alloc_old _ _ hR4)
      obtain ⟨wr4, hpa⟩ := hp.2.2
      obtain ⟨c0, c1, c2, c3, c4, cf⟩ := hpa.cells
      clear hr hf hp h1 ht HE HS3 HP3 hpa HRA hS4
      go_wp2_with fail
      generalize gb : w4.heap.size = g at *
      clear c0 c1 c2 c3 c4 cf
      generalize w4.alloc (.cells #[.int .i64 o, .int .i64 n, .slice A c c] 24) = W6 at *
      clear gb hR4
      have HC : Hid (Calls Tryz.prog 82 #[.pointer (some ⟨R, 0, none⟩), .string ⟨#[41]⟩] W6 fun e w9 => e = .returned (.tuple #[]) ∧ Hid (Frm (· = R) W6 w9) ∧
          Hid (∃ (p E D : Nat) (wr bd : Int), PAt w9 R s p E wr bd ∧ (E : Int) - 1 = (D : Int) ∧ wrap64 (D : Int) = (D : Int) ∧ ((∃ l4, r0 = .ok a l4 ∧ PL (w9.setCell ⟨R, 2, none⟩ (.int .i64 (D : Int))) R s l4 d) ∨ (∃ k j, r0 = .bad k j ∧ PBad (w9.setCell ⟨R, 2, none⟩ (.int .i64 (D : Int))) R s d (s.size - k : Nat) j)))) := by
        show Calls _ _ _ _ _
        by_cases hw : ∃ l4, l1 = 41 :: l4
        · obtain ⟨l4, rfl⟩ := hw
          refine (pwantL_yes R s 41 l4 (d + 1) W6 HP5.out hs).mono ?_
          rintro e w9 ⟨h1, hp, hf⟩
          obtain ⟨E, wr', g2, g3, g4, g5⟩ := hp.dec hd3
          exact ⟨h1, hf, _, E, d, wr', 0, g2, g3, g4, .inl ⟨l4, by rw [HE2.out]; simp only [wantRd, if_true], g5⟩⟩
        · refine (pwantL_no R s 41 l1 (d + 1) W6 HP5.out hs (by omega) fun r e => hw ⟨r, e⟩).mono ?_
          rintro e w9 ⟨h1, hp, hf⟩
          obtain ⟨p', E, D, g1, g2, g3, g4, g5, g6⟩ := hp.dec
          exact ⟨h1, hf, p', E, D, _, _, g2, g4, g5, .inr ⟨_, _, HE2.out.trans (want_other _ fun r e => hw ⟨r, e⟩), g6⟩⟩
      refine HC.out.mono ?_
      rintro e w9 ⟨rfl, HF9, HX9⟩
      have hS9 := HS5.out.call HF9.out
      obtain ⟨p', E', D, wr', bd, g1', g2', g3', hx9⟩ := HX9.out
      have HX9b := Lib.hid hx9
      obtain ⟨c0, c1, c2, c3, c4, cf⟩ := g1'.cells
      have a0 := fun v => ((hS9.setR 2 v).cells (.head _)).1
      have a1 := fun v => ((hS9.setR 2 v).cells (.head _)).2.1
      have a2 := fun v => ((hS9.setR 2 v).cells (.head _)).2.2.1
      have z0 := fun v => ((hS9.setR 2 v).cells (.tail _ (.head _))).1
      have z1 := fun v => ((hS9.setR 2 v).cells (.tail _ (.head _))).2.1
      have z2 := fun v => ((hS9.setR 2 v).cells (.tail _ (.head _))).2.2.1
      have z3 := fun v => ((hS9.setR 2 v).cells (.tail _ (.head _))).2.2.2
      have hS10 := hS9.setR 2 (.int .i64 (D : Int))
      have HQ := Lib.hid (hS10.out (.tail _ (.head _)) (.int .i64 o) (.int .i64 n) (.slice A c c))
      have HS10 := Lib.hid hS10
      clear HC HE2 HS5 HP5 HF9 HX9 hx9 hS9 hS10 g1'
      go_wp2_with fail
      refine ⟨rfl, .agg #[.int .i64 o, .int .i64 n, .slice A c c], ?_, ?_⟩
      · obtain ⟨q0, q1, q2⟩ := HQ.out
        simp only [results, Tryz.results176]
        simp [go_sem, q0, q1, q2]
      · show PReads R s d w r0 _ (rset _ w.heap.size _ _ _)
        rcases HX9b.out with ⟨l4, e1, e2⟩ | ⟨k, j, e1, e2⟩
        · rw [e1]
          exact HS10.out.endOk (.tail _ (.head _)) (.head _) e2
        · rw [e1]
          exact HS10.out.endBad (.tail _ (.head _)) e2
    · have HE2 : Hid (r0 = .bad k j) := by show _ = _; rw [HE.out, h1]; rfl
      obtain ⟨p', E, D, g1, g2, g3, g4, g5, g6⟩ := hp.dec
      obtain ⟨c0, c1, c2, c3, c4, cf⟩ := g2.cells
      have hS8 := hS4.setvar 2 (.int .i64 (D : Int)) (.int .i64 o) (.int .i64 n) (.slice A c c)
      have hp8 : PBad ((w4.setCell ⟨R, 2, none⟩ (.int .i64 (D : Int))).alloc (.cells #[.int .i64 o, .int .i64 n, .slice A c c] 24)) R s d (s.size - k : Nat) j := g6.keep (keep_setalloc 2 _ _ hR4)
      have HS8 := Lib.hid hS8
      have HP8 := Lib.hid hp8
      have z0 := fun v ob => (((hS4.setR 2 v).alloc ob).cells (.head _)).1
      have z1 := fun v ob => (((hS4.setR 2 v).alloc ob).cells (.head _)).2.1
      have z2 := fun v ob => (((hS4.setR 2 v).alloc ob).cells (.head _)).2.2.1
      have z3 := fun v ob => (((hS4.setR 2 v).alloc ob).cells (.head _)).2.2.2
      have HQ := Lib.hid (hS8.out (.tail _ (.head _)) (.int .i64 o) (.int .i64 n) (.slice A c c))
      clear hr hf hp h1 hS4 hS8 hp8 HE HS3 HP3 g2 g6 HRA
      go_wp2_with fail
      refine ⟨rfl, .agg #[.int .i64 o, .int .i64 n, .slice A c c], ?_, ?_⟩
      · obtain ⟨q0, q1, q2⟩ := HQ.out
        simp only [results, Tryz.results176]
        simp [go_sem, q0, q1, q2]
      · show PReads R s d w r0 _ (rset _ w.heap.size _ _ _)
        rw [HE2.out]
        exact HS8.out.endBad (.tail _ (.head _)) HP8.out
end Go.Proofs.YtfndhfekbbbliaaGreatDoor

/-
  The statements' own whole numbers: the product of two rows of words. No condition.
-/
namespace Go.Proofs.YtfndhfekbbbliaaGreatDoor
open Go.RowKit Go.ChangeShapes Go.WideShapes
set_option linter.unusedVariables false

theorem wVal_set : ∀ (l : List Nat) (p v : Nat) (hp : p < l.length), wVal (l.set p v) + l[p] * 4294967296 ^ p = wVal l + v * 4294967296 ^ p
  | [], p, v, hp => by simp at hp
  | a :: l, 0, v, _ => by simp only [List.set_cons_zero, wVal, List.getElem_cons_zero, Nat.pow_zero, Nat.mul_one]; omega
  | a :: l, p + 1, v, hp => by
    have h := wVal_set l p v (by simpa using hp)
    simp only [List.set_cons_succ, wVal, List.getElem_cons_succ, Nat.pow_succ]
    have e1 : ∀ x : Nat, x * (4294967296 ^ p * 4294967296) = 4294967296 * (x * 4294967296 ^ p) := fun x => by rw [Nat.mul_comm (4294967296 ^ p), ← Nat.mul_assoc, Nat.mul_comm x, Nat.mul_assoc]
    rw [e1, e1]
    omega
theorem wVal_zeros (n : Nat) : wVal (List.replicate n 0) = 0 := wVal_zero fun x hx => List.eq_of_mem_replicate hx
/-- A row of words as a block. -/
def wCells (l : List Nat) : Array Value := (l.map u32v).toArray
theorem w_made (w : World) (n : Nat) : (w.alloc (.cells (madeCells #[.int .u32 0] n) 202)).heap[w.heap.size]? = some (.cells (wCells (List.replicate n 0)) 202 (0, 0)) := by
  rw [heap_alloc_new w _]
  congr 2
  apply Array.ext'
  rw [toList_madeCells_one]
  simp [wCells, u32v]
theorem w_set (l : List Nat) (p x : Nat) : (wCells l).setIfInBounds p (u32v x) = wCells (l.set p x) := by
  unfold wCells
  apply Array.ext'
  rw [Array.toList_setIfInBounds, List.map_set]
/-- The row of a call's own, of so many words. -/
structure RowW (w W : World) (g : Nat) (l : List Nat) : Prop where
  blk : W.heap[g]? = some (.cells (wCells l) 202 (0, 0))
  words : ∀ x ∈ l, x < 4294967296
  below : Below w.heap.size w W
  base : w.heap.size ≤ g
theorem RowW.cell {w W : World} {g : Nat} {l : List Nat} (h : RowW w W g l) {p : Nat} (hp : p < l.length) : W.cell? ⟨g, p, none⟩ = some (.int .u32 (l[p] : Int)) ∧ W.frozen? ⟨g, p, none⟩ = false := by
  refine ⟨?_, by simp [World.frozen?, h.blk]⟩
  rw [cell_of_row W g p _ _ _ h.blk]
  unfold wCells
  rw [List.getElem?_toArray, List.getElem?_map, List.getElem?_eq_getElem hp]
  rfl
theorem RowW.set {w W : World} {g : Nat} {l : List Nat} (h : RowW w W g l) {p x : Nat} (hx : x < 4294967296) : RowW w (W.setCell ⟨g, p, none⟩ (.int .u32 (x : Int))) g (l.set p x) := by
  refine ⟨?_, fun y hy => ?_, h.below.setCell h.base _, h.base⟩
  · rw [show (W.setCell ⟨g, p, none⟩ (.int .u32 (x : Int))).heap[g]? = some (.cells ((wCells l).setIfInBounds p (u32v x)) 202 (0, 0)) by simp [World.setCell, Array.getElem?_modify, h.blk, u32v], w_set]
  · rcases List.mem_or_eq_of_mem_set hy with hy | hy
    · exact h.words y hy
    · rw [hy]; exact hx
theorem RowW.drewN {w W : World} {g : Nat} {l : List Nat} (h : RowW w W g l) (q : Nat) : RowW w (W.drewN q) g l := ⟨h.blk, h.words, bdrewN h.below q, h.base⟩
theorem RowW.sl {w W : World} {g : Nat} {l : List Nat} (h : RowW w W g l) (hl : l.length ≤ 1000) : SlA u32E (fun k => w.heap.size ≤ k ∧ k < W.heap.size) W (some ⟨g, 0, none⟩) l.length l :=
  ws_sl l h.blk (by simp [wCells]; intros; rfl) ⟨h.base, block_lt h.blk⟩ h.words (by unfold maxLen; omega)

/-! ### What the loops hold -/
/-- Ahead of round i, j of the inner loop: R the row, c what is carried. -/
structure MulAt (la lb : List Nat) (i j : Nat) (c : Nat) (R : List Nat) : Prop where
  len : R.length = la.length + lb.length
  val : wVal R + c * 4294967296 ^ (i + j) = wVal (la.take i) * wVal lb + 4294967296 ^ i * (la.getD i 0 * wVal (lb.take j))
  zero : ∀ p, i + lb.length ≤ p → R.getD p 0 = 0
  carry : c < 4294967296
theorem take_getD {l : List Nat} {i : Nat} (h : i < l.length) : wVal (l.take (i + 1)) = wVal (l.take i) + l.getD i 0 * 4294967296 ^ i := by
  rw [wVal_split (l.take (i + 1)) i (by rw [List.length_take]; omega), List.take_take, Nat.min_eq_left (by omega)]
  have : (l.take (i + 1)).drop i = [l.getD i 0] := by
    rw [List.drop_take, List.drop_eq_getElem_cons h, show i + 1 - i = 1 by omega, List.take_succ_cons, List.take_zero, List.getD_eq_getElem?_getD, List.getElem?_eq_getElem h]; rfl
  rw [this]
  simp only [wVal]
  rw [Nat.mul_zero, Nat.add_zero, Nat.mul_comm]
theorem getD_get {l : List Nat} {i : Nat} (h : i < l.length) : l.getD i 0 = l[i] := by
  rw [List.getD_eq_getElem?_getD, List.getElem?_eq_getElem h]; rfl
theorem mul_fin {X W0 r P t c Y : Nat} (ab : Nat) (ht : t = c + (ab + r)) (h1 : X + r * P = W0 + t % 4294967296 * P) {Y0 : Nat} (h2 : W0 + c * P = Y + Y0) : X + t / 4294967296 * (4294967296 * P) = Y + (Y0 + ab * P) := by
  have e4 : (t % 4294967296) * P + (t / 4294967296) * (4294967296 * P) = t * P := by
    rw [← Nat.mul_assoc, ← Nat.add_mul]
    congr 1
    rw [Nat.mul_comm, Nat.add_comm]
    exact Nat.div_add_mod t 4294967296
  have e5 : t * P = c * P + (ab * P + r * P) := by rw [ht, Nat.add_mul, Nat.add_mul]
  generalize (t % 4294967296) * P = a1 at h1 e4
  generalize (t / 4294967296) * (4294967296 * P) = a2 at e4 ⊢
  generalize t * P = a3 at e4 e5
  generalize c * P = a4 at e5 h2
  generalize ab * P = a5 at e5 ⊢
  generalize r * P = a6 at e5 h1
  omega
theorem mul_e2 (Bi a x y Bj : Nat) : Bi * (a * (x + y * Bj)) = Bi * (a * x) + a * y * (Bi * Bj) := by
  rw [Nat.mul_add, Nat.mul_add]
  congr 1
  rw [← Nat.mul_assoc a, Nat.mul_left_comm]
theorem mul_e3 (x a Bi v : Nat) : (x + a * Bi) * v = x * v + Bi * (a * v) := by
  rw [Nat.add_mul, Nat.mul_comm a, Nat.mul_assoc]
theorem MulAt.step {la lb R : List Nat} {i j c t : Nat} (h : MulAt la lb i j c R) (hi : i < la.length) (hj : j < lb.length) (ha : la.getD i 0 < 4294967296) (hb : lb.getD j 0 < 4294967296) (hr : R.getD (i + j) 0 < 4294967296)
    (ht : t = c + (la.getD i 0 * lb.getD j 0 + R.getD (i + j) 0)) : t < 18446744073709551616 ∧ MulAt la lb i (j + 1) (t / 4294967296) (R.set (i + j) (t % 4294967296)) := by
  have hpr : la.getD i 0 * lb.getD j 0 ≤ 4294967295 * 4294967295 := Nat.mul_le_mul (by omega) (by omega)
  have htb : t < 18446744073709551616 := by have := h.carry; omega
  refine ⟨htb, by rw [List.length_set]; exact h.len, ?_, fun p hp => ?_, by omega⟩
  · have hp : i + j < R.length := by rw [h.len]; omega
    have h1 := wVal_set R (i + j) (t % 4294967296) hp
    rw [← getD_get hp] at h1
    have h2 := h.val
    rw [take_getD hj]
    have e1 : 4294967296 ^ (i + (j + 1)) = 4294967296 * 4294967296 ^ (i + j) := by rw [show i + (j + 1) = (i + j) + 1 by omega, Nat.pow_succ, Nat.mul_comm]
    rw [e1, mul_e2, ← Nat.pow_add]
    generalize 4294967296 ^ (i + j) = P at h1 h2 ⊢
    exact mul_fin (la.getD i 0 * lb.getD j 0) ht h1 h2
  · rw [List.getD_eq_getElem?_getD, List.getElem?_set_ne (by omega), ← List.getD_eq_getElem?_getD]
    exact h.zero p hp
theorem MulAt.next {la lb R : List Nat} {i c : Nat} (h : MulAt la lb i lb.length c R) (hi : i < la.length) : MulAt la lb (i + 1) 0 0 (R.set (i + lb.length) c) := by
  have hp : i + lb.length < R.length := by rw [h.len]; omega
  refine ⟨by rw [List.length_set]; exact h.len, ?_, fun p hp2 => ?_, by omega⟩
  · have h1 := wVal_set R (i + lb.length) c hp
    rw [← getD_get hp, h.zero _ (Nat.le_refl _)] at h1
    have h2 := h.val
    rw [List.take_length] at h2
    rw [take_getD hi, List.take_zero]
    rw [mul_e3]
    generalize 4294967296 ^ (i + lb.length) = P at h1 h2
    generalize 4294967296 ^ i = Q at h2 ⊢
    rw [show wVal [] = 0 from rfl, Nat.zero_mul, Nat.mul_zero, Nat.mul_zero, Nat.add_zero, Nat.add_zero]
    rw [Nat.zero_mul, Nat.add_zero] at h1
    exact h1.trans h2
  · rw [List.getD_eq_getElem?_getD, List.getElem?_set_ne (by omega), ← List.getD_eq_getElem?_getD]
    exact h.zero p (by omega)
theorem MulAt.start (la lb : List Nat) : MulAt la lb 0 0 0 (List.replicate (la.length + lb.length) 0) :=
  ⟨by simp, by simp [wVal_zeros, wVal], fun p _ => by rw [List.getD_eq_getElem?_getD, List.getElem?_replicate]; split <;> rfl, by omega⟩
theorem MulAt.begin {la lb R : List Nat} {i c : Nat} (h : MulAt la lb i 0 c R) (h0 : c = 0) : MulAt la lb i 0 0 R := by subst h0; exact h
theorem MulAt.end_ {la lb R : List Nat} {c : Nat} (h : MulAt la lb la.length 0 c R) (h0 : c = 0) : wVal R = wVal la * wVal lb := by
  have := h.val
  rw [List.take_length, h0, List.take_zero] at this
  simpa [wVal] using this
set_option maxRecDepth 100000 in
set_option maxHeartbeats 2000000 in
theorem mul_ok (F G : Nat → Prop) (A B : Option Addr) (n m c d U V : Nat) (w : World) (ha : WordsAt w F A n c U) (hb : WordsAt w G B m d V) (hF : ∀ k, F k → k < w.heap.size) (hG : ∀ k, G k → k < w.heap.size) (hn : n + m ≤ 1000) :
    Calls Tryz.prog 212 #[.slice A n c, .slice B m d] w fun e w' => ∃ A' n' c', e = .returned (.slice A' n' c') ∧ WordsAt w' (fun k => w.heap.size ≤ k ∧ k < w'.heap.size) A' n' c' (U * V) ∧ Below w.heap.size w w' := by
  have hza := ha.zero
  have hzb := hb.zero
  obtain ⟨la, hla, _, sa, va, _⟩ := ha
  obtain ⟨lb, hlb, _, sb, vb, _⟩ := hb
  have wa := words_lt sa
  have wb := words_lt sb
  have hca := sa.1
  have hcb := sb.1
  have HA := Lib.hid sa
  have HB := Lib.hid sb
  have HF := Lib.hid hF
  have HG := Lib.hid hG
  rw [hla] at hca
  rw [hlb] at hcb
  clear sa sb hF hG
  by_cases hn0 : n = 0
  · have hU := hza.2 hn0
    subst hn0
    have HR : Hid (U * V = 0) := by show _ = _; rw [hU, Nat.zero_mul]
    clear hza hzb va vb wa wb HA HB HF HG hU hla hlb
    go_enter Tryz.func212, Tryz.ntmps212
    go_wp2_with fail
    go_ret
    rw [HR.out]
    exact ⟨none, 0, 0, rfl, WordsAt.nil _ _, Below.refl _ _⟩
  · by_cases hm0 : m = 0
    · have hV := hzb.2 hm0
      subst hm0
      have HR : Hid (U * V = 0) := by show _ = _; rw [hV, Nat.mul_zero]
      clear hza hzb va vb wa wb HA HB HF HG hV hla hlb
      go_enter Tryz.func212, Tryz.ntmps212
      go_wp2_with fail
      go_ret
      rw [HR.out]
      exact ⟨none, 0, 0, rfl, WordsAt.nil _ _, Below.refl _ _⟩
    · have HUV : Hid (wVal la * wVal lb = U * V) := by show _ = _; rw [va, vb]
      have HWA := Lib.hid wa
      have HWB := Lib.hid wb
      have HLA := Lib.hid hla
      have HLB := Lib.hid hlb
      clear hza hzb va vb wa wb hla hlb
      have dn : ((n : Int) == 0) = false := by rw [beq_eq_false_iff_ne]; omega
      have dm : ((m : Int) == 0) = false := by rw [beq_eq_false_iff_ne]; omega
      have hmk : ∀ u : World, (Instr.makeSlice 96 (.int .i64 ((n : Int) + (m : Int))) (.int .i64 ((n : Int) + (m : Int)))).run Tryz.prog u = .ok (.slice (some ⟨u.heap.size, 0, none⟩) (n + m) (n + m)) (u.alloc (.cells (madeCells #[.int .u32 0] (n + m)) 202)) := fun u => by
        rw [show (n : Int) + (m : Int) = ((n + m : Nat) : Int) by omega]
        exact run_make_row' (P := Tryz.prog) 96 202 (.int .u32 0) 4 Tryz.underlying96 u32_info rfl .i64 .i64 (n + m) (by omega) (by omega) u
      have HS : Hid (MulAt la lb 0 0 0 (List.replicate (n + m) 0)) := by have h := MulAt.start la lb; rw [HLA.out, HLB.out] at h; exact h
      have HR0 : Hid (RowW w (w.alloc (.cells (madeCells #[.int .u32 0] (n + m)) 202)) w.heap.size (List.replicate (n + m) 0)) :=
        ⟨w_made w (n + m), fun x hx => by rw [List.eq_of_mem_replicate hx]; omega, (Below.refl _ _).alloc (Nat.le_refl _) _, Nat.le_refl _⟩
      go_enter Tryz.func212, Tryz.ntmps212
      go_wp2_with fail
      go_loopw [6] (fun iv wx => ∃ (i : Nat) (R : List Nat), i ≤ n ∧ iv = .int .i64 i ∧ Hid (MulAt la lb i 0 0 R) ∧ Hid (RowW w wx w.heap.size R)) (fun iv _ => n - (intOf iv).toNat)
      case atStart => exact ⟨0, _, Nat.zero_le _, rfl, HS, HR0⟩
      case round =>
        clear HS HR0
        obtain ⟨i, R, hi, rfl, HM, HR⟩ := hrel
        by_cases hin : i < n
        · go_wp2_with fail
          go_loopw [7, 8] (fun cv jv wx => ∃ (j cc : Nat) (R : List Nat), j ≤ m ∧ jv = .int .i64 j ∧ cv = .int .u64 (cc : Int) ∧ cc < 4294967296 ∧ Hid (MulAt la lb i j cc R) ∧ Hid (RowW w wx w.heap.size R)) (fun _ jv _ => m - (intOf jv).toNat)
          case atStart => exact ⟨0, 0, R, Nat.zero_le _, rfl, rfl, by omega, HM, HR⟩
          case round =>
            clear HM HR R
            obtain ⟨j, cc, R, hj, rfl, rfl, hcc, HM, HR⟩ := hrel
            by_cases hjm : j < m
            · have hil : i < la.length := by have := HLA.out; omega
              have hjl : j < lb.length := by have := HLB.out; omega
              obtain ⟨bA, oA, rfl, hbA, a0, ha0⟩ := HA.out.u32_ hil
              obtain ⟨bB, oB, rfl, hbB, b0, hb0⟩ := HB.out.u32_ hjl
              have za := (HR.out.below.cell (p := ⟨bA, oA + i, none⟩) (HF.out _ hbA)).trans a0
              have zb := (HR.out.below.cell (p := ⟨bB, oB + j, none⟩) (HG.out _ hbB)).trans b0
              have hRl : i + j < R.length := by have h1 := HM.out.len; have h2 := HLA.out; have h3 := HLB.out; omega
              obtain ⟨zr, fr⟩ := HR.out.cell hRl
              have hr0 := HR.out.words _ (List.getElem_mem hRl)
              have hst := HM.out.step (t := cc + (la.getD i 0 * lb.getD j 0 + R.getD (i + j) 0)) hil hjl (by rw [getD_get hil]; exact ha0) (by rw [getD_get hjl]; exact hb0) (by rw [getD_get hRl]; exact hr0) rfl
              rw [getD_get hil, getD_get hjl, getD_get hRl] at hst
              obtain ⟨p, hp⟩ : ∃ p, p = i + j := ⟨_, rfl⟩
              have hpi : (i : Int) + (j : Int) = (p : Int) := by omega
              have hpw : IntKind.i64.wrap ((i : Int) + (j : Int)) = (p : Int) := by rw [hpi]; exact IntWalk.i64_in _ (by omega)
              have hpn : p < n + m := by omega
              simp only [← hp] at zr fr hr0 hst
              have hab : la[i] * lb[j] < 18446744073709551616 := by
                have : la[i] * lb[j] ≤ 4294967295 * 4294967295 := Nat.mul_le_mul (by omega) (by omega)
                omega
              generalize la[i] = x at za ha0 hst hab
              generalize lb[j] = y at zb hb0 hst hab
              generalize R[p] = r at zr hr0 hst
              clear hp
              obtain ⟨ab, hab2⟩ : ∃ ab, ab = x * y := ⟨_, rfl⟩
              have hm1 : IntKind.u64.wrap ((x : Int) * (y : Int)) = (ab : Int) := by
                rw [show (x : Int) * (y : Int) = (ab : Int) by rw [hab2]; exact (Int.natCast_mul x y).symm]
                show (ab : Int) % 18446744073709551616 = _; omega
              rw [← hab2] at hst hab
              clear hab2
              have htb := hst.1
              obtain ⟨s, hs⟩ : ∃ s, s = ab + r := ⟨_, rfl⟩
              have hm2 : IntKind.u64.wrap ((ab : Int) + (r : Int)) = (s : Int) := by
                show ((ab : Int) + (r : Int)) % 18446744073709551616 = _; omega
              rw [← hs] at hst htb
              obtain ⟨t, ht⟩ : ∃ t, t = cc + s := ⟨_, rfl⟩
              have hm3 : IntKind.u64.wrap ((cc : Int) + (s : Int)) = (t : Int) := by
                show ((cc : Int) + (s : Int)) % 18446744073709551616 = _; omega
              rw [← ht] at hst htb
              have HM2 := Lib.hid hst.2
              have HR2 := Lib.hid (fun q => (HR.out.drewN q).set (p := p) (x := t % 4294967296) (Nat.mod_lt _ (by decide)))
              clear hst hs ht HM a0 b0 hRl
              go_upto_region 11 with (fail)
              go_quiet (fail)
              go_wp2_with fail
              go_roundw
              case rel => exact ⟨j + 1, t / 4294967296, R.set p (t % 4294967296), by omega, by go_num, rfl, by omega, HM2, HR2.out _⟩
              case measure => simp [intOf]; omega
            · have djm : decide (j < m) = false := decide_eq_false hjm
              have hjme : j = m := by omega
              subst hjme
              have hRl : i + j < R.length := by have h1 := HM.out.len; have h2 := HLA.out; have h3 := HLB.out; omega
              obtain ⟨zr, fr⟩ := HR.out.cell hRl
              have HMN : Hid (MulAt la lb (i + 1) 0 0 (R.set (i + j) cc)) := by
                have h1 := HM.out
                have h3 := HLB.out
                rw [← h3] at h1 ⊢
                exact h1.next (by have h2 := HLA.out; omega)
              obtain ⟨p, hp⟩ : ∃ p, p = i + j := ⟨_, rfl⟩
              have hpi : (i : Int) + (j : Int) = (p : Int) := by omega
              have hpn : p < n + j := by omega
              simp only [← hp] at zr fr HMN
              have HR2 := Lib.hid (HR.out.set (p := p) (x := cc) hcc)
              generalize R[p] = r at zr
              clear hp
              clear HM HR
              go_wp2_with fail
              refine ⟨⟨i + 1, R.set p cc, by omega, by go_num, HMN, HR2⟩, ?_⟩
              simp [intOf]; omega
        · have din : decide (i < n) = false := decide_eq_false hin
          have hie : i = n := by omega
          subst hie
          have hval : wVal R = U * V := by
            have h1 := HM.out
            rw [← HLA.out] at h1
            exact (h1.end_ rfl).trans HUV.out
          have hRl : R.length = i + m := by rw [HM.out.len, HLA.out, HLB.out]
          have hsl := HR.out.sl (by omega)
          have HT := Lib.hid (trim_ok _ _ _ _ wr hsl)
          rw [hRl] at HT
          have HS := Lib.hid hsl
          have HV := Lib.hid hval
          have HRL := Lib.hid hRl
          clear hsl hval hRl HM
          go_wp2_with fail
          refine HT.out.mono ?_
          rintro e w2 ⟨k, rfl, hk, ht, rfl⟩
          have HRR : Hid (WordsAt wr (fun k => w.heap.size ≤ k ∧ k < wr.heap.size) (some ⟨w.heap.size, 0, none⟩) k (i + m) (U * V)) := by
            have h1 := WordsAt.of_trim (by rw [HRL.out]; exact hk) ht HS.out (by rw [HRL.out]; exact hn)
            rw [HV.out, HRL.out] at h1
            exact h1
          have HBB := Lib.hid HR.out.below
          clear hk ht HT HS HV HRL HR
          go_wp2_with fail
          go_ret
          exact ⟨_, k, _, rfl, HRR.out, HBB.out⟩
end Go.Proofs.YtfndhfekbbbliaaGreatDoor

/-
  The statements' own whole numbers: the sum of two rows of words. No condition.
-/
namespace Go.Proofs.YtfndhfekbbbliaaGreatDoor
open Go.RowKit Go.ChangeShapes Go.WideShapes
set_option linter.unusedVariables false

structure AddAt (la lb : List Nat) (n i c : Nat) (R : List Nat) : Prop where
  len : R.length = n + 1
  val : wVal R + c * 4294967296 ^ i = wVal (la.take i) + wVal (lb.take i)
  zero : ∀ p, i ≤ p → R.getD p 0 = 0
  carry : c ≤ 1
theorem take_getDx (l : List Nat) (i : Nat) : wVal (l.take (i + 1)) = wVal (l.take i) + l.getD i 0 * 4294967296 ^ i := by
  rcases Nat.lt_or_ge i l.length with h | h
  · exact take_getD h
  · rw [List.take_of_length_le (by omega), List.take_of_length_le h, List.getD_eq_getElem?_getD, List.getElem?_eq_none h]; simp
theorem add_fin {X W0 P t c : Nat} {a b Y : Nat} (ht : t = c + a + b) (h1 : X = W0 + t % 4294967296 * P) (h2 : W0 + c * P = Y) : X + t / 4294967296 * (P * 4294967296) = Y + (a * P + b * P) := by
  have e4 : (t % 4294967296) * P + (t / 4294967296) * (P * 4294967296) = t * P := by
    rw [Nat.mul_comm P, ← Nat.mul_assoc, ← Nat.add_mul]
    congr 1
    rw [Nat.mul_comm, Nat.add_comm]
    exact Nat.div_add_mod t 4294967296
  have e5 : t * P = c * P + (a * P + b * P) := by rw [ht, Nat.add_mul, Nat.add_mul, Nat.add_assoc]
  generalize (t % 4294967296) * P = a1 at h1 e4
  generalize (t / 4294967296) * (P * 4294967296) = a2 at e4 ⊢
  generalize t * P = a3 at e4 e5
  generalize c * P = a4 at e5 h2
  generalize a * P + b * P = a5 at e5 ⊢
  omega
theorem AddAt.step {la lb R : List Nat} {n i c t : Nat} (h : AddAt la lb n i c R) (hi : i < n) (ha : la.getD i 0 < 4294967296) (hb : lb.getD i 0 < 4294967296) (ht : t = c + la.getD i 0 + lb.getD i 0) :
    t < 8589934592 ∧ AddAt la lb n (i + 1) (t / 4294967296) (R.set i (t % 4294967296)) := by
  have htb : t < 8589934592 := by have := h.carry; omega
  have hp : i < R.length := by rw [h.len]; omega
  refine ⟨htb, by rw [List.length_set]; exact h.len, ?_, fun p hp2 => ?_, by omega⟩
  · have h1 := wVal_set R i (t % 4294967296) hp
    rw [← getD_get hp, h.zero i (Nat.le_refl _), Nat.zero_mul, Nat.add_zero] at h1
    have h2 := h.val
    rw [take_getDx, take_getDx, Nat.pow_succ]
    generalize 4294967296 ^ i = P at h1 h2 ⊢
    have h3 := add_fin ht h1 h2
    rw [h3]
    generalize la.getD i 0 * P = a1
    generalize lb.getD i 0 * P = a2
    omega
  · rw [List.getD_eq_getElem?_getD, List.getElem?_set_ne (by omega), ← List.getD_eq_getElem?_getD]
    exact h.zero p (by omega)
theorem AddAt.end_ {la lb R : List Nat} {n c : Nat} (h : AddAt la lb n n c R) (hla : la.length ≤ n) (hlb : lb.length ≤ n) : wVal (R.set n c) = wVal la + wVal lb := by
  have hp : n < R.length := by rw [h.len]; omega
  have h1 := wVal_set R n c hp
  rw [← getD_get hp, h.zero n (Nat.le_refl _), Nat.zero_mul, Nat.add_zero] at h1
  have h2 := h.val
  rw [List.take_of_length_le hla, List.take_of_length_le hlb] at h2
  exact h1.trans h2
theorem AddAt.start (la lb : List Nat) (n : Nat) : AddAt la lb n 0 0 (List.replicate (n + 1) 0) :=
  ⟨by simp, by rw [wVal_zeros]; simp [wVal], fun p _ => by rw [List.getD_eq_getElem?_getD, List.getElem?_replicate]; split <;> rfl, by omega⟩
set_option maxRecDepth 100000 in
set_option maxHeartbeats 2000000 in
theorem add_ok (F G : Nat → Prop) (A B : Option Addr) (n m c d U V : Nat) (w : World) (ha : WordsAt w F A n c U) (hb : WordsAt w G B m d V) (hF : ∀ k, F k → k < w.heap.size) (hG : ∀ k, G k → k < w.heap.size) (hn : n ≤ 900) (hm : m ≤ 900) :
    Calls Tryz.prog 211 #[.slice A n c, .slice B m d] w fun e w' => ∃ A' n' c', e = .returned (.slice A' n' c') ∧ WordsAt w' (fun k => w.heap.size ≤ k ∧ k < w'.heap.size) A' n' c' (U + V) ∧ Below w.heap.size w w' := by
  obtain ⟨la, hla, _, sa, va, _⟩ := ha
  obtain ⟨lb, hlb, _, sb, vb, _⟩ := hb
  have wa := words_lt sa
  have wb := words_lt sb
  have hca := sa.1
  have hcb := sb.1
  rw [hla] at hca
  rw [hlb] at hcb
  have HA := Lib.hid sa
  have HB := Lib.hid sb
  have HF := Lib.hid hF
  have HG := Lib.hid hG
  have HWA := Lib.hid wa
  have HWB := Lib.hid wb
  have HLA := Lib.hid hla
  have HLB := Lib.hid hlb
  have HUV : Hid (wVal la + wVal lb = U + V) := by show _ = _; rw [va, vb]
  clear sa sb hF hG wa wb hla hlb va vb
  go_enter Tryz.func211, Tryz.ntmps211
  by_cases hnm : n < m
  · have dnm : decide (n < m) = true := decide_eq_true hnm
    have hmk : ∀ u : World, (Instr.makeSlice 96 (.int .i64 ((m : Int) + 1)) (.int .i64 ((m : Int) + 1))).run Tryz.prog u = .ok (.slice (some ⟨u.heap.size, 0, none⟩) (m + 1) (m + 1)) (u.alloc (.cells (madeCells #[.int .u32 0] (m + 1)) 202)) := fun u => by
      rw [show (m : Int) + 1 = ((m + 1 : Nat) : Int) by omega]
      exact run_make_row' (P := Tryz.prog) 96 202 (.int .u32 0) 4 Tryz.underlying96 u32_info rfl .i64 .i64 (m + 1) (by omega) (by omega) u
    have HS : Hid (AddAt lb la m 0 0 (List.replicate (m + 1) 0)) := AddAt.start _ _ _
    have HR0 : Hid (RowW w (w.alloc (.cells (madeCells #[.int .u32 0] (m + 1)) 202)) w.heap.size (List.replicate (m + 1) 0)) :=
      ⟨w_made w (m + 1), fun x hx => by rw [List.eq_of_mem_replicate hx]; omega, (Below.refl _ _).alloc (Nat.le_refl _) _, Nat.le_refl _⟩
    go_wp2_with fail
    go_loopw [6, 7] (fun cv iv wx => ∃ (i cc : Nat) (R : List Nat), i ≤ m ∧ iv = .int .i64 i ∧ cv = .int .u64 (cc : Int) ∧ cc ≤ 1 ∧ Hid (AddAt lb la m i cc R) ∧ Hid (RowW w wx w.heap.size R)) (fun _ iv _ => m - (intOf iv).toNat)
    case atStart => exact ⟨0, 0, _, Nat.zero_le _, rfl, rfl, by omega, HS, HR0⟩
    case round =>
      clear HS HR0
      obtain ⟨i, cc, R, hi, rfl, rfl, hcc, HM, HR⟩ := hrel
      have hRl : R.length = m + 1 := HM.out.len
      by_cases hin : i < m
      · have hil : i < lb.length := by have := HLB.out; omega
        obtain ⟨bA, oA, hAe, hbA, a0, ha0⟩ := HB.out.u32_ hil
        subst hAe
        have za := (HR.out.below.cell (p := ⟨bA, oA + i, none⟩) (HG.out _ hbA)).trans a0
        obtain ⟨zr, fr⟩ := HR.out.cell (p := i) (by omega)
        have hag : lb.getD i 0 = lb[i] := getD_get hil
        generalize lb[i] = x at za ha0 hag
        generalize R[i]'(by omega) = r at zr
        clear a0 hil
        by_cases him : i < n
        · have hjl : i < la.length := by have := HLA.out; omega
          obtain ⟨bB, oB, hBe, hbB, b0, hb0⟩ := HA.out.u32_ hjl
          subst hBe
          have zb := (HR.out.below.cell (p := ⟨bB, oB + i, none⟩) (HF.out _ hbB)).trans b0
          have hbg : la.getD i 0 = la[i] := getD_get hjl
          generalize la[i] = y at zb hb0 hbg
          have hst := HM.out.step (t := cc + x + y) hin (by rw [hag]; exact ha0) (by rw [hbg]; exact hb0) (by rw [hag, hbg])
          obtain ⟨t, ht⟩ : ∃ t, t = cc + x + y := ⟨_, rfl⟩
          have htI : (cc : Int) + (x : Int) + (y : Int) = (t : Int) := by omega
          rw [← ht] at hst
          obtain ⟨t0, ht0⟩ : ∃ t0, t0 = t % 4294967296 := ⟨_, rfl⟩
          obtain ⟨t1, ht1⟩ : ∃ t1, t1 = t / 4294967296 := ⟨_, rfl⟩
          have e0 : (t : Int) % 4294967296 = (t0 : Int) := by omega
          have e1 : (t : Int) / 4294967296 = (t1 : Int) := by omega
          have htb := hst.1
          rw [← ht0, ← ht1] at hst
          have HM2 := Lib.hid hst.2
          have HR2 := Lib.hid (HR.out.set (p := i) (x := t0) (by omega))
          have hc1 : t1 ≤ 1 := by omega
          clear hst HM HR ht ht0 ht1 b0 hjl hag hbg
          go_wp2_with fail
          go_roundw
          case rel => exact ⟨i + 1, t1, R.set i t0, by omega, by go_num, rfl, hc1, HM2, HR2⟩
          case measure => simp [intOf]; omega
        · have dim : decide (i < n) = false := decide_eq_false him
          have hbg : la.getD i 0 = 0 := by rw [List.getD_eq_getElem?_getD, List.getElem?_eq_none (by have := HLA.out; omega)]; rfl
          have hst := HM.out.step (t := cc + x) hin (by rw [hag]; exact ha0) (by rw [hbg]; omega) (by rw [hag, hbg, Nat.add_zero])
          obtain ⟨t, ht⟩ : ∃ t, t = cc + x := ⟨_, rfl⟩
          have htI : (cc : Int) + (x : Int) = (t : Int) := by omega
          rw [← ht] at hst
          obtain ⟨t0, ht0⟩ : ∃ t0, t0 = t % 4294967296 := ⟨_, rfl⟩
          obtain ⟨t1, ht1⟩ : ∃ t1, t1 = t / 4294967296 := ⟨_, rfl⟩
          have e0 : (t : Int) % 4294967296 = (t0 : Int) := by omega
          have e1 : (t : Int) / 4294967296 = (t1 : Int) := by omega
          have htb := hst.1
          rw [← ht0, ← ht1] at hst
          have HM2 := Lib.hid hst.2
          have HR2 := Lib.hid (HR.out.set (p := i) (x := t0) (by omega))
          have hc1 : t1 ≤ 1 := by omega
          clear hst HM HR ht ht0 ht1 hag hbg
          go_wp2_with fail
          go_roundw
          case rel => exact ⟨i + 1, t1, R.set i t0, by omega, by go_num, rfl, hc1, HM2, HR2⟩
          case measure => simp [intOf]; omega
      · have din : decide (i < m) = false := decide_eq_false hin
        have hie : i = m := by omega
        subst hie
        obtain ⟨zr, fr⟩ := HR.out.cell (p := i) (by omega)
        generalize R[i]'(by omega) = r at zr
        have hval : wVal (R.set i cc) = U + V := by
          have h1 := HM.out.end_ (by rw [HLB.out]; exact Nat.le_refl _) (by rw [HLA.out]; omega)
          rw [h1]; exact (Nat.add_comm _ _).trans HUV.out
        have hrow := HR.out.set (p := i) (x := cc) (by omega)
        have hl2 : (R.set i cc).length = i + 1 := by rw [List.length_set]; exact hRl
        have hsl := hrow.sl (by omega)
        have HT := Lib.hid (trim_ok _ _ _ _ (wr.setCell ⟨w.heap.size, i, none⟩ (.int .u32 (cc : Int))) hsl)
        rw [hl2] at HT
        have HW := Lib.hid (fun k (hk : k ≤ (R.set i cc).length) (ht : TrimOf (R.set i cc) k) => WordsAt.of_trim hk ht hsl (by omega))
        rw [hl2, hval] at HW
        have HBB := Lib.hid hrow.below
        clear hval hrow hl2 hsl HM HR hRl
        go_wp2_with fail
        refine HT.out.mono ?_
        rintro e w2 ⟨k, rfl, hk, ht, rfl⟩
        have HRR := Lib.hid (HW.out k hk ht)
        clear hk ht HT HW
        go_wp2_with fail
        go_ret
        exact ⟨_, k, _, rfl, HRR.out, HBB.out⟩
  · have dnm : decide (n < m) = false := decide_eq_false hnm
    have hmk : ∀ u : World, (Instr.makeSlice 96 (.int .i64 ((n : Int) + 1)) (.int .i64 ((n : Int) + 1))).run Tryz.prog u = .ok (.slice (some ⟨u.heap.size, 0, none⟩) (n + 1) (n + 1)) (u.alloc (.cells (madeCells #[.int .u32 0] (n + 1)) 202)) := fun u => by
      rw [show (n : Int) + 1 = ((n + 1 : Nat) : Int) by omega]
      exact run_make_row' (P := Tryz.prog) 96 202 (.int .u32 0) 4 Tryz.underlying96 u32_info rfl .i64 .i64 (n + 1) (by omega) (by omega) u
    have HS : Hid (AddAt la lb n 0 0 (List.replicate (n + 1) 0)) := AddAt.start _ _ _
    have HR0 : Hid (RowW w (w.alloc (.cells (madeCells #[.int .u32 0] (n + 1)) 202)) w.heap.size (List.replicate (n + 1) 0)) :=
      ⟨w_made w (n + 1), fun x hx => by rw [List.eq_of_mem_replicate hx]; omega, (Below.refl _ _).alloc (Nat.le_refl _) _, Nat.le_refl _⟩
    go_wp2_with fail
    go_loopw [6, 7] (fun cv iv wx => ∃ (i cc : Nat) (R : List Nat), i ≤ n ∧ iv = .int .i64 i ∧ cv = .int .u64 (cc : Int) ∧ cc ≤ 1 ∧ Hid (AddAt la lb n i cc R) ∧ Hid (RowW w wx w.heap.size R)) (fun _ iv _ => n - (intOf iv).toNat)
    case atStart => exact ⟨0, 0, _, Nat.zero_le _, rfl, rfl, by omega, HS, HR0⟩
    case round =>
      clear HS HR0
      obtain ⟨i, cc, R, hi, rfl, rfl, hcc, HM, HR⟩ := hrel
      have hRl : R.length = n + 1 := HM.out.len
      by_cases hin : i < n
      · have hil : i < la.length := by have := HLA.out; omega
        obtain ⟨bA, oA, hAe, hbA, a0, ha0⟩ := HA.out.u32_ hil
        subst hAe
        have za := (HR.out.below.cell (p := ⟨bA, oA + i, none⟩) (HF.out _ hbA)).trans a0
        obtain ⟨zr, fr⟩ := HR.out.cell (p := i) (by omega)
        have hag : la.getD i 0 = la[i] := getD_get hil
        generalize la[i] = x at za ha0 hag
        generalize R[i]'(by omega) = r at zr
        clear a0 hil
        by_cases him : i < m
        · have hjl : i < lb.length := by have := HLB.out; omega
          obtain ⟨bB, oB, hBe, hbB, b0, hb0⟩ := HB.out.u32_ hjl
          subst hBe
          have zb := (HR.out.below.cell (p := ⟨bB, oB + i, none⟩) (HG.out _ hbB)).trans b0
          have hbg : lb.getD i 0 = lb[i] := getD_get hjl
          generalize lb[i] = y at zb hb0 hbg
          have hst := HM.out.step (t := cc + x + y) hin (by rw [hag]; exact ha0) (by rw [hbg]; exact hb0) (by rw [hag, hbg])
          obtain ⟨t, ht⟩ : ∃ t, t = cc + x + y := ⟨_, rfl⟩
          have htI : (cc : Int) + (x : Int) + (y : Int) = (t : Int) := by omega
          rw [← ht] at hst
          obtain ⟨t0, ht0⟩ : ∃ t0, t0 = t % 4294967296 := ⟨_, rfl⟩
          obtain ⟨t1, ht1⟩ : ∃ t1, t1 = t / 4294967296 := ⟨_, rfl⟩
          have e0 : (t : Int) % 4294967296 = (t0 : Int) := by omega
          have e1 : (t : Int) / 4294967296 = (t1 : Int) := by omega
          have htb := hst.1
          rw [← ht0, ← ht1] at hst
          have HM2 := Lib.hid hst.2
          have HR2 := Lib.hid (HR.out.set (p := i) (x := t0) (by omega))
          have hc1 : t1 ≤ 1 := by omega
          clear hst HM HR ht ht0 ht1 b0 hjl hag hbg
          go_wp2_with fail
          go_roundw
          case rel => exact ⟨i + 1, t1, R.set i t0, by omega, by go_num, rfl, hc1, HM2, HR2⟩
          case measure => simp [intOf]; omega
        · have dim : decide (i < m) = false := decide_eq_false him
          have hbg : lb.getD i 0 = 0 := by rw [List.getD_eq_getElem?_getD, List.getElem?_eq_none (by have := HLB.out; omega)]; rfl
          have hst := HM.out.step (t := cc + x) hin (by rw [hag]; exact ha0) (by rw [hbg]; omega) (by rw [hag, hbg, Nat.add_zero])
          obtain ⟨t, ht⟩ : ∃ t, t = cc + x := ⟨_, rfl⟩
          have htI : (cc : Int) + (x : Int) = (t : Int) := by omega
          rw [← ht] at hst
          obtain ⟨t0, ht0⟩ : ∃ t0, t0 = t % 4294967296 := ⟨_, rfl⟩
          obtain ⟨t1, ht1⟩ : ∃ t1, t1 = t / 4294967296 := ⟨_, rfl⟩
          have e0 : (t : Int) % 4294967296 = (t0 : Int) := by omega
          have e1 : (t : Int) / 4294967296 = (t1 : Int) := by omega
          have htb := hst.1
          rw [← ht0, ← ht1] at hst
          have HM2 := Lib.hid hst.2
          have HR2 := Lib.hid (HR.out.set (p := i) (x := t0) (by omega))
          have hc1 : t1 ≤ 1 := by omega
          clear hst HM HR ht ht0 ht1 hag hbg
          go_wp2_with fail
          go_roundw
          case rel => exact ⟨i + 1, t1, R.set i t0, by omega, by go_num, rfl, hc1, HM2, HR2⟩
          case measure => simp [intOf]; omega
      · have din : decide (i < n) = false := decide_eq_false hin
        have hie : i = n := by omega
        subst hie
        obtain ⟨zr, fr⟩ := HR.out.cell (p := i) (by omega)
        generalize R[i]'(by omega) = r at zr
        have hval : wVal (R.set i cc) = U + V := by
          have h1 := HM.out.end_ (by rw [HLA.out]; exact Nat.le_refl _) (by rw [HLB.out]; omega)
          rw [h1]; exact HUV.out
        have hrow := HR.out.set (p := i) (x := cc) (by omega)
        have hl2 : (R.set i cc).length = i + 1 := by rw [List.length_set]; exact hRl
        have hsl := hrow.sl (by omega)
        have HT := Lib.hid (trim_ok _ _ _ _ (wr.setCell ⟨w.heap.size, i, none⟩ (.int .u32 (cc : Int))) hsl)
        rw [hl2] at HT
        have HW := Lib.hid (fun k (hk : k ≤ (R.set i cc).length) (ht : TrimOf (R.set i cc) k) => WordsAt.of_trim hk ht hsl (by omega))
        rw [hl2, hval] at HW
        have HBB := Lib.hid hrow.below
        clear hval hrow hl2 hsl HM HR hRl
        go_wp2_with fail
        refine HT.out.mono ?_
        rintro e w2 ⟨k, rfl, hk, ht, rfl⟩
        have HRR := Lib.hid (HW.out k hk ht)
        clear hk ht HT HW
        go_wp2_with fail
        go_ret
        exact ⟨_, k, _, rfl, HRR.out, HBB.out⟩
end Go.Proofs.YtfndhfekbbbliaaGreatDoor

/-
  The statements' own whole numbers: SetString at decimal digits. Conditions: no byte but digits; no more than 120.
-/
namespace Go.Proofs.YtfndhfekbbbliaaGreatDoor
open Go.RowKit Go.ChangeShapes Go.WideShapes
set_option linter.unusedVariables false

theorem digVal_snocS (l : List UInt8) (c : UInt8) : digVal (l ++ [c]) = digVal l * 10 + (c.toNat - 48) := by unfold digVal; rw [List.foldl_append]; rfl
theorem digVal_ltS (l : List UInt8) (h : ∀ c ∈ l, 48 ≤ c.toNat ∧ c.toNat ≤ 57) : digVal l < 4294967296 ^ l.length := by
  refine (snoc_indS (P := fun l => (∀ c ∈ l, 48 ≤ c.toNat ∧ c.toNat ≤ 57) → digVal l < 4294967296 ^ l.length) ?_ ?_ l) h
  · intro _; show 0 < 4294967296 ^ 0; omega
  · intro l c ih h
    have h1 := ih fun x hx => h x (List.mem_append.2 (.inl hx))
    have h2 := h c (List.mem_append.2 (.inr List.mem_cons_self))
    rw [digVal_snocS, List.length_append, List.length_singleton, Nat.pow_succ]
    generalize 4294967296 ^ l.length = P at h1 ⊢
    omega
where
  snoc_indS {P : List UInt8 → Prop} (h0 : P []) (hs : ∀ l c, P l → P (l ++ [c])) : ∀ l, P l := fun l => by
    have : ∀ l a, P a → P (a ++ l) := fun l => by
      induction l with
      | nil => intro a ha; simpa using ha
      | cons x l ih => intro a ha; have := ih (a ++ [x]) (hs a x ha); simpa using this
    simpa using this l [] h0
set_option maxRecDepth 100000 in
theorem setString_none (gz : Nat) (w : World) :
    Calls Tryz.prog 197 #[.pointer (some ⟨gz, 0, none⟩), .string ⟨#[]⟩, .int .i64 10] w fun e w' => e = .returned (.tuple #[.pointer none, .bool false]) ∧ w = w' := by
  go_enter Tryz.func197, Tryz.ntmps197
  go_wp2_with fail
  go_ret2
  exact ⟨rfl, rfl⟩
set_option maxRecDepth 100000 in
set_option maxHeartbeats 2000000 in
theorem setString_ok (gz : Nat) (s : ByteArray) (w : World) (hz : IntObj w gz) (hs0 : 0 < s.size) (hs : s.size ≤ 120) (hd : ∀ c ∈ s.data.toList, 48 ≤ c.toNat ∧ c.toNat ≤ 57) :
    Calls Tryz.prog 197 #[.pointer (some ⟨gz, 0, none⟩), .string s, .int .i64 10] w fun e w' => e = .returned (.tuple #[.pointer (some ⟨gz, 0, none⟩), .bool true]) ∧ BigAt w' gz false (digVal s.data.toList) ∧ Frm (· = gz) w w' := by
  have hat : ∀ (k : Nat) (h : k < s.size), 48 ≤ s[k].toNat ∧ s[k].toNat ≤ 57 := fun k h => hd _ (by
    have : s[k] ∈ s.data := Array.getElem_mem h
    simpa using this)
  obtain ⟨a1, a2⟩ := hat 0 hs0
  have d1 : ((s[0].toNat : Int) == 45) = false := by rw [beq_eq_false_iff_ne]; omega
  have d2 : ((s[0].toNat : Int) == 43) = false := by rw [beq_eq_false_iff_ne]; omega
  have d3 : ((s.size : Int) == 0) = false := by rw [beq_eq_false_iff_ne]; omega
  have d4 : decide (0 < s.size) = true := decide_eq_true hs0
  have HAT := Lib.hid hat
  have HD := Lib.hid hd
  have HZ := Lib.hid hz
  have HW10 := Lib.hid (fun W => words_at 10 W (by decide))
  clear hat hd hz
  go_enter Tryz.func197, Tryz.ntmps197
  go_wp2_with fail
  go_loopw [9, 10] (fun rv iv wx => ∃ (k : Nat) (A : Option Addr) (n c : Nat), k ≤ s.size ∧ iv = .int .i64 k ∧ rv = .slice A n c ∧ n ≤ 120 ∧ Hid (WordsAt wx (· < wx.heap.size) A n c (digVal (s.data.toList.take k))) ∧ Hid (Below w.heap.size w wx)) (fun _ iv _ => s.size - (intOf iv).toNat)
  case atStart => exact ⟨0, none, 0, 0, Nat.zero_le _, rfl, rfl, by omega, WordsAt.nil _ _, Below.refl _ _⟩
  case round =>
    obtain ⟨k, A, n, c, hk, rfl, rfl, hn, HR, HB⟩ := hrel
    by_cases hlt : k < s.size
    · obtain ⟨c1, c2⟩ := HAT.out k hlt
      have hsn : digVal (s.data.toList.take (k + 1)) = digVal (s.data.toList.take k) * 10 + (s[k].toNat - 48) := by
        rw [List.take_succ_eq_append_getElem (by simpa using hlt), digVal_snocS]; rfl
      have HSN := Lib.hid hsn
      have hV : digVal (s.data.toList.take (k + 1)) < 4294967296 ^ (k + 1) := by
        have h1 := digVal_ltS (s.data.toList.take (k + 1)) fun c hc => HD.out c (List.mem_of_mem_take hc)
        rw [List.length_take, Nat.min_eq_left (by rw [Array.length_toList]; exact hlt)] at h1
        exact h1
      have HV := Lib.hid hV
      obtain ⟨dn, hdn⟩ : ∃ dn, dn = s[k].toNat - 48 := ⟨_, rfl⟩
      rw [← hdn] at HSN
      have hdi : (s[k].toNat : Int) - 48 = (dn : Int) := by omega
      have hd9 : dn ≤ 9 := by omega
      have e1 : decide (48 ≤ s[k].toNat) = true := decide_eq_true c1
      have e2 : decide (s[k].toNat ≤ 57) = true := decide_eq_true c2
      clear hsn hV hdn
      have HWD := Lib.hid (fun W => words_at dn W (by omega))
      have HVk : Hid (digVal (s.data.toList.take k) * 10 + dn < 4294967296 ^ (k + 1)) := by have := HV.out; rw [HSN.out] at this; exact this
      obtain ⟨V, hVe⟩ : ∃ V, V = digVal (s.data.toList.take k) := ⟨_, rfl⟩
      rw [← hVe] at HR HSN HVk
      clear hVe HV
      go_wp2_with fail
      refine (HW10.out wr).mono ?_
      rintro e w2 ⟨A1, n1, k1, rfl, h1, hb1⟩
      have hn1 := h1.len (k := 1) (by decide)
      have HM := Lib.hid (mul_ok (· < w2.heap.size) (· < w2.heap.size) A A1 n n1 c k1 V 10 w2 ((HR.out.keep fun k hk => hb1.block k hk).more fun k hk => Nat.lt_of_lt_of_le hk hb1.size) (h1.more fun k hk => hk.2) (fun _ h => h) (fun _ h => h) (by omega))
      have HB2 := Lib.hid (HB.out.trans (hb1.mono HB.out.size))
      clear h1 hb1 HR HB
      go_wp2_with fail
      refine HM.out.mono ?_
      rintro e w3 ⟨A2, n2, k2, rfl, h2, hb2⟩
      have hn2 : n2 ≤ k + 1 := h2.len (k := k + 1) (by have := HVk.out; omega)
      have H2 := Lib.hid (h2.more (F' := (· < w3.heap.size)) fun k hk => hk.2)
      have HB3 := Lib.hid (HB2.out.trans (hb2.mono HB2.out.size))
      clear h2 hb2 HM HB2
      go_wp2_with fail
      refine (HWD.out w3).mono ?_
      rintro e w4 ⟨A3, n3, k3, rfl, h3, hb3⟩
      have hn3 := h3.len (k := 1) (by omega)
      have HA := Lib.hid (add_ok (· < w4.heap.size) (· < w4.heap.size) A2 A3 n2 n3 k2 k3 (V * 10) dn w4 ((H2.out.keep fun k hk => hb3.block k hk).more fun k hk => Nat.lt_of_lt_of_le hk hb3.size) (h3.more fun k hk => hk.2) (fun _ h => h) (fun _ h => h) (by omega) (by omega))
      have HB4 := Lib.hid (HB3.out.trans (hb3.mono HB3.out.size))
      clear h3 hb3 H2 HB3 HWD
      go_wp2_with fail
      refine HA.out.mono ?_
      rintro e w5 ⟨A4, n4, k4, rfl, h4, hb4⟩
      have hn4 : n4 ≤ k + 1 := h4.len (k := k + 1) HVk.out
      have H4 : Hid (WordsAt w5 (· < w5.heap.size) A4 n4 k4 (digVal (s.data.toList.take (k + 1)))) := by
        show WordsAt _ _ _ _ _ _
        rw [HSN.out]; exact h4.more fun k hk => hk.2
      have HB5 := Lib.hid (HB4.out.trans (hb4.mono HB4.out.size))
      clear h4 hb4 HA HB4 HVk HSN
      go_wp2_with fail
      refine ⟨⟨k + 1, A4, n4, k4, by omega, by go_num, rfl, by omega, H4, HB5⟩, ?_⟩
      simp [intOf]; omega
    · have dk : decide (k < s.size) = false := decide_eq_false hlt
      have hke : k = s.size := by omega
      have hfull : s.data.toList.take k = s.data.toList := List.take_of_length_le (by rw [Array.length_toList]; show s.size ≤ k; omega)
      have hr := HR.out
      rw [hfull] at hr
      have HG := Lib.hid (give_at gz false A n c _ wr (HZ.out.frm (Frm.ofBelow (F := fun _ => False) HB.out) id) hr)
      clear hfull hr HR
      go_wp2_with fail
      refine HG.out.mono ?_
      rintro e w2 ⟨rfl, h2, _, h4⟩
      have HE : Hid (BigAt w2 gz false (digVal s.data.toList) ∧ Frm (· = gz) w w2) := ⟨by simpa using h2, (Frm.ofBelow (F := fun _ => False) HB.out).trans h4 (fun _ h => h.elim) (fun _ h => .inl h)⟩
      clear h2 h4 HG
      go_wp2_with fail
      go_ret2
      exact ⟨rfl, HE.out⟩
end Go.Proofs.YtfndhfekbbbliaaGreatDoor

/-
  The reference's reader: one, where a number has to stand. Conditions: the text takes at most 120 bytes, the depth is at most 20.
-/
namespace Go.Proofs.YtfndhfekbbbliaaGreatDoor
open Go.RowKit Go.ChangeShapes Go.WideShapes
set_option linter.unusedVariables false

theorem digs_at : ∀ (l : List UInt8) (k : Nat), k < (digsOf l).length → ∃ h : k < l.length, isDig l[k] = true := by
  intro l
  induction l with
  | nil => intro k hk; simp [digsOf] at hk
  | cons c r ih =>
    intro k hk
    unfold digsOf at hk ih
    rw [List.takeWhile_cons] at hk
    cases hc : isDig c with
    | false => rw [hc] at hk; simp at hk
    | true =>
      rw [hc] at hk
      cases k with
      | zero => exact ⟨by simp, hc⟩
      | succ k =>
        obtain ⟨h, h2⟩ := ih k (by simpa using hk)
        exact ⟨by simpa using h, by simpa using h2⟩
theorem digs_end : ∀ (l : List UInt8), (digsOf l).length = l.length ∨ ∃ h : (digsOf l).length < l.length, isDig l[(digsOf l).length] = false := by
  intro l
  induction l with
  | nil => exact .inl rfl
  | cons c r ih =>
    cases hc : isDig c with
    | false =>
      have e : digsOf (c :: r) = [] := by unfold digsOf; rw [List.takeWhile_cons, hc]; rfl
      refine .inr ?_
      rw [e]
      exact ⟨by simp, hc⟩
    | true =>
      have e : digsOf (c :: r) = c :: digsOf r := by unfold digsOf; rw [List.takeWhile_cons, hc]; rfl
      rw [e]
      rcases ih with h | ⟨h, h2⟩
      · exact .inl (by simp [h])
      · exact .inr ⟨by simpa using h, by simpa using h2⟩
theorem digs_le (l : List UInt8) : (digsOf l).length ≤ l.length := (List.takeWhile_prefix _).length_le
/-- How many digits count. -/
theorem num_len (l : List UInt8) : (numOf l).length = if (digsOf l).length = 0 then 0 else if l.head? = some 48 then 1 else (digsOf l).length := by
  cases l with
  | nil => rfl
  | cons c r =>
    cases hc : isDig c with
    | false =>
      have e : digsOf (c :: r) = [] := by unfold digsOf; rw [List.takeWhile_cons, hc]; rfl
      unfold numOf; rw [e]; rfl
    | true =>
      have e : digsOf (c :: r) = c :: digsOf r := by unfold digsOf; rw [List.takeWhile_cons, hc]; rfl
      unfold numOf; rw [e]
      cases hd : digsOf r with
      | nil => simp
      | cons d r' =>
        by_cases h48 : c = 48
        · simp [h48]
        · simp [h48]
theorem num_take (l : List UInt8) : numOf l = l.take (numOf l).length := by
  have hp : digsOf l <+: l := List.takeWhile_prefix _
  have h : numOf l <+: digsOf l := by
    unfold numOf
    split
    · rename_i c d r e
      rw [e]
      split
      · rename_i h48; rw [h48]; exact ⟨d :: r, rfl⟩
      · exact List.prefix_refl _
    · exact List.prefix_refl _
  exact List.prefix_iff_eq_take.1 (h.trans hp)
theorem dig_nat {c : UInt8} (h : isDig c = true) : 48 ≤ c.toNat ∧ c.toNat ≤ 57 := by
  unfold isDig at h; rw [Bool.and_eq_true, decide_eq_true_iff, decide_eq_true_iff] at h; exact h
theorem dig_nat_no {c : UInt8} (h : isDig c = false) : c.toNat < 48 ∨ 57 < c.toNat := by
  unfold isDig at h
  rw [Bool.and_eq_false_iff] at h
  rcases h with h | h
  · have := of_decide_eq_false h; omega
  · have := of_decide_eq_false h; omega
theorem num_digits (l : List UInt8) : ∀ c ∈ numOf l, 48 ≤ c.toNat ∧ c.toNat ≤ 57 := by
  have hd : ∀ c ∈ digsOf l, isDig c = true := fun c hc => List.all_eq_true.1 List.all_takeWhile c hc
  intro c hc
  refine dig_nat ?_
  unfold numOf at hc
  split at hc
  · rename_i c0 d r e
    split at hc
    · rename_i h48
      rw [List.mem_singleton.1 hc]; decide
    · exact hd c (by rw [e]; exact hc)
  · exact hd c hc
/-- A byte of what is left. -/
theorem PL.byte {w : World} {R : Nat} {s : ByteArray} {l : List UInt8} {d : Nat} (h : PL w R s l d) {k : Nat} (hk : k < l.length) : ∃ hx : s.size - l.length + k < s.size, s[s.size - l.length + k] = l[k] := by
  obtain ⟨h1, h2, _⟩ := h
  refine ⟨by omega, ?_⟩
  have e : l[k] = (s.data.toList.drop (s.size - l.length))[k]'(by rw [← h2]; exact hk) := by congr 1
  rw [e, List.getElem_drop]
  simp
  rfl
theorem PL.cut {w : World} {R : Nat} {s : ByteArray} {l : List UInt8} {d : Nat} (h : PL w R s l d) {k : Nat} (hk : k ≤ l.length) : (s.extract (s.size - l.length) (s.size - l.length + k)).data.toList = l.take k := by
  obtain ⟨h1, h2, _⟩ := h
  simp only [ByteArray.data_extract, Array.toList_extract]
  rw [List.extract_eq_take_drop, ← h2]
  congr 1
  omega
/-- Words are kept where only the reader's block turns. -/
theorem u32_keepP {w w' : World} {A : Option Addr} {c R p d : Nat} {s : ByteArray} {wr bad : Int} {l : List Nat} (h4 : SlA u32E (· < w.heap.size) w A c l) (hb : Frm (· = R) w w') (hR : PAt w R s p d wr bad) : SlA u32E (· < w'.heap.size) w' A c l := by
  refine ⟨h4.1, h4.2.1, fun i x hx => ?_⟩
  obtain ⟨b, off, cs, e, hb2, hc, hr⟩ := h4.2.2 i x hx
  refine ⟨b, off, cs, e, Nat.lt_of_lt_of_le hb2 hb.size, fun j u hj => ?_, hr⟩
  have h8 := hc j u hj
  by_cases hFb : b = R
  · rw [hr.1] at hj
    match j, hj with
    | 0, hj =>
      simp at hj; subst hj
      rw [cell_of_row w b _ _ _ _ (by rw [hFb]; exact hR)] at h8
      generalize off + (i * u32E.sz + 0) = q at h8
      match q, h8 with
      | 0, h8 => simp at h8
      | 1, h8 => simp at h8
      | 2, h8 => simp at h8
      | 3, h8 => simp at h8
      | 4, h8 => simp at h8
  · exact (World.cell?_of_block (a := ⟨b, _, none⟩) (hb.block b hb2 hFb)).trans h8
theorem BigAt.frmP {w w' : World} {g R p d : Nat} {s : ByteArray} {wr bad : Int} {f : Bool} {V : Nat} (h : BigAt w g f V) (hb : Frm (· = R) w w') (hg : g ≠ R) (hR : PAt w R s p d wr bad) : BigAt w' g f V := by
  obtain ⟨A, n, c, h1, ⟨l, h2, h3, h4, h5, h6⟩, h7⟩ := h.words
  exact BigAt.of (A := A) (n := n) (c := c) ((hb.block g (block_lt h1) hg).trans h1) ⟨l, h2, h3, u32_keepP h4 hb hR, h5, h6⟩ h7
set_option maxRecDepth 100000 in
set_option maxHeartbeats 16000000 in
theorem pone_num (R : Nat) (s : ByteArray) (l : List UInt8) (d : Nat) (w : World) (h : PL w R s l d) (hs : s.size ≤ 120) (hd : d ≤ 20) (hn1 : Lib.hasPrefix l (⟨#[109, 105, 110, 40]⟩ : ByteArray).data.toList = false) (hn2 : Lib.hasPrefix l (⟨#[109, 97, 120, 40]⟩ : ByteArray).data.toList = false)
    (h3 : (headR l == 110) = false) (h4 : (headR l == 115) = false) (h5 : (headR l == 40) = false) :
    Calls Tryz.prog 176 #[.pointer (some ⟨R, 0, none⟩)] w (PReads R s d w (numRd l)) := by
  have hlt := h.lt
  have HLT := Lib.hid hlt
  have HS1 := Lib.hid ((PSt.start hlt).var (.int .i64 0) (.int .i64 0) (.slice none 0 0))
  have HP1 : Hid (PL (w.alloc (.cells #[.int .i64 0, .int .i64 0, .slice none 0 0] 24)) R s l d) := h.keep (heap_alloc_old _ _ hlt)
  obtain ⟨wr1, hpa1⟩ := h.2.2
  obtain ⟨p, hp⟩ : ∃ p : Nat, p = s.size - l.length := ⟨_, rfl⟩
  rw [← hp] at hpa1
  have HPE := Lib.hid hp
  have hps : p ≤ s.size := by omega
  obtain ⟨c0, c1, c2, c3, c4, cf⟩ := hpa1.cells
  clear hpa1 h hp
  go_enter Tryz.func176, Tryz.ntmps176
  go_wp2_with fail
  refine (pisL_no R s ⟨#[109, 105, 110, 40]⟩ l d _ HP1.out hs (by show 4 ≤ 10; omega) hn1).mono ?_
  rintro e w1 ⟨rfl, hp, hf⟩
  have HS1b := Lib.hid (HS1.out.call hf)
  have HP1b := Lib.hid hp
  clear hp hf HS1 HP1 c0 c1 c2 c3 c4 cf hlt
  go_wp2_with fail
  refine (pisL_no R s ⟨#[109, 97, 120, 40]⟩ l d _ HP1b.out hs (by show 4 ≤ 10; omega) hn2).mono ?_
  rintro e w2 ⟨rfl, hp, hf⟩
  have HS2 := Lib.hid (HS1b.out.call hf)
  have HP2 := Lib.hid hp
  clear hp hf HS1b HP1b hn1 hn2
  go_wp2_with fail
  refine (ppeekL R s l d _ HP2.out).mono ?_
  rintro e w4 ⟨rfl, q, rfl⟩
  have HP4 : Hid (PL (w2.drewN q) R s l d) := HP2.out.keep rfl
  have HS4 := Lib.hid (HS2.out.drewN q)
  clear HS2 HP2
  generalize w2.drewN q = W4 at *
  obtain ⟨wr, hpa⟩ := HP4.out.2.2
  rw [← HPE.out] at hpa
  obtain ⟨c0, c1, c2, c3, c4, cf⟩ := hpa.cells
  clear hpa
  generalize headR l = cc at *
  go_wp2_with fail
  clear h3 h4 h5
  go_loopg [10] ((digsOf l).length) (fun gk iv wx => ∃ k, k ≤ (digsOf l).length ∧ gk = (digsOf l).length - k ∧ iv = .int .i64 ((p + k : Nat) : Int) ∧ wx = W4)
  case atStart => exact ⟨0, Nat.zero_le _, rfl, rfl, rfl⟩
  case round =>
    obtain ⟨k, hk, hgk, rfl, rfl⟩ := hrel
    obtain ⟨I, hI⟩ : ∃ I, I = p + k := ⟨_, rfl⟩
    rw [← hI]
    by_cases hkD : k < (digsOf l).length
    · obtain ⟨hkl, hdig⟩ := digs_at l k hkD
      obtain ⟨hx, hxe⟩ := HP4.out.byte hkl
      have e1 : s.size - l.length + k = I := by rw [hI, HPE.out]
      have hIs : I < s.size := by omega
      have hb : isDig s[I] = true := by
        have : s[s.size - l.length + k] = s[I] := by congr 1
        rw [← this, hxe]; exact hdig
      obtain ⟨b1, b2⟩ := dig_nat hb
      have d1 : decide ((I : Int) < (s.size : Int)) = true := decide_eq_true (by omega)
      have d2 : decide (48 ≤ ((s[I]'hIs).toNat : Int)) = true := decide_eq_true (by omega)
      have d3 : decide (((s[I]'hIs).toNat : Int) ≤ 57) = true := decide_eq_true (by omega)
      clear hx hxe hdig hb b1 b2 hkl e1
      have HI := Lib.hid hI
      clear hI
      go_wp2_with fail
      go_roundg ((digsOf l).length - (k + 1))
      case measure => omega
      case rel => exact ⟨k + 1, by omega, rfl, by rw [HI.out]; congr 1, rfl⟩
    · have hkE : k = (digsOf l).length := by omega
      have HKE := Lib.hid hkE
      have HI := Lib.hid hI
      have hIs : I ≤ s.size := by have := digs_le l; have := HPE.out; have := HP4.out.1; omega
      have hend : I = s.size ∨ ∃ h : I < s.size, ((s[I]'h).toNat < 48 ∨ 57 < (s[I]'h).toNat) := by
        rcases digs_end l with h | ⟨h, h2⟩
        · left; have := HPE.out; have := HP4.out.1; omega
        · right
          obtain ⟨hx, hxe⟩ := HP4.out.byte h
          have e1 : s.size - l.length + (digsOf l).length = I := by rw [hI, hkE, HPE.out]
          refine ⟨by omega, dig_nat_no ?_⟩
          have : s[s.size - l.length + (digsOf l).length] = s[I]'(by omega) := by congr 1
          rw [← this, hxe]; exact h2
      clear hI hkE hkD hgk hk
      go_upto_region 38 with (fail)
      go_cut [144] from 120 to 146 (fun bv wx => bv = .bool false ∧ wr = wx)
      case first =>
        rcases hend with he | ⟨hx, hb⟩
        · have d1 : ¬ I < s.size := by omega
          clear he
          go_wp2_with fail
          go_meet
          case rel => exact ⟨rfl, rfl⟩
        · have d1 : decide ((I : Int) < (s.size : Int)) = true := decide_eq_true (by omega)
          rcases Nat.lt_or_ge (s[I]'hx).toNat 48 with hb1 | hb1
          · have d2 : decide (48 ≤ ((s[I]'hx).toNat : Int)) = false := decide_eq_false (by omega)
            clear hb hb1
            go_wp2_with fail
            go_meet
            case rel => exact ⟨rfl, rfl⟩
          · have d2 : decide (48 ≤ ((s[I]'hx).toNat : Int)) = true := decide_eq_true (by omega)
            have d3 : decide (((s[I]'hx).toNat : Int) ≤ 57) = false := decide_eq_false (by omega)
            clear hb hb1
            go_wp2_with fail
            go_meet
            case rel => exact ⟨by first | rfl | rw [d3], rfl⟩
      case rest =>
        obtain ⟨rfl, rfl⟩ := hcut
        clear hend
        obtain ⟨N, hN⟩ : ∃ N, N = (numOf l).length := ⟨_, rfl⟩
        have HN := Lib.hid hN
        obtain ⟨J, hJ⟩ : ∃ J, J = p + N := ⟨_, rfl⟩
        have HJ := Lib.hid hJ
        have hlen := num_len l
        have hJs : J ≤ s.size := by have := numOf_le l; have := HPE.out; have := HP4.out.1; omega
        have hpJ : p ≤ J := by omega
        go_upto_region 40 with (fail)
        go_cut [164] from 147 to 164 (fun bv wx => (∃ bt : Bool, bv = .bool bt ∧ Hid ((bt = true → J = p + 1) ∧ (bt = false → J = I))) ∧ ∃ q, wx = wr.drewN q)
        case first =>
          have HLEN := Lib.hid hlen
          clear hlen hN hJ hJs hpJ
          by_cases hD : (digsOf l).length = 0
          · have e : J = I := by have := HLEN.out; rw [if_pos hD] at this; rw [HJ.out, HI.out, HN.out, HKE.out, this, hD]
            have e2 : I = p := by rw [HI.out, HKE.out, hD]; rfl
            have d1 : decide ((p : Int) < (I : Int)) = false := decide_eq_false (by omega)
            go_quiet (fail)
            go_wp2_with fail
            go_meet
            case rel => exact ⟨⟨false, rfl, And.intro (fun h => nomatch h) (fun _ => e)⟩, _, rfl⟩
          · have hpI : p < I := by rw [HI.out, HKE.out]; omega
            have d1 : decide ((p : Int) < (I : Int)) = true := decide_eq_true (by omega)
            have hps2 : p < s.size := by omega
            have hl0 : 0 < l.length := by have := digs_le l; omega
            have hhead : l.head? = some (s[p]'hps2) := by
              obtain ⟨hx, hxe⟩ := HP4.out.byte hl0
              have : s[s.size - l.length + 0] = s[p]'hps2 := by congr 1; rw [HPE.out]; rfl
              rw [← this, hxe, List.head?_eq_getElem?, List.getElem?_eq_getElem hl0]
            by_cases h48 : (s[p]'hps2) = 48
            · have d2 : (((s[p]'hps2).toNat : Int) == 48) = true := by rw [h48]; rfl
              have e : J = p + 1 := by have := HLEN.out; rw [if_neg hD, if_pos (by rw [hhead, h48])] at this; rw [HJ.out, HN.out, this]
              clear hhead h48 hD hl0
              go_quiet (fail)
              go_wp2_with fail
              go_meet
              case rel => exact ⟨⟨true, by first | rfl | rw [d2], And.intro (fun _ => e) (fun h => nomatch h)⟩, _, rfl⟩
            · have d2 : (((s[p]'hps2).toNat : Int) == 48) = false := beq_eq_false_iff_ne.2 fun e => h48 (UInt8.toNat_inj.1 (by have h48' : (48 : UInt8).toNat = 48 := rfl; omega))
              have e : J = I := by have := HLEN.out; rw [if_neg hD, if_neg (by rw [hhead]; exact fun e => h48 (Option.some.inj e))] at this; rw [HJ.out, HI.out, HN.out, HKE.out, this]
              clear hhead h48 hD hl0
              go_quiet (fail)
              go_wp2_with fail
              go_meet
              case rel => exact ⟨⟨false, by first | rfl | rw [d2], And.intro (fun h => nomatch h) (fun _ => e)⟩, _, rfl⟩
        case rest =>
          obtain ⟨⟨bt, rfl, HBT⟩, q2, rfl⟩ := hcut
          have hp119 : p + 1 ≤ 121 := by omega
          go_upto_if 164 with (fail)
          go_cut [10] from 165 to 169 (fun jv wx => jv = .int .i64 (J : Int) ∧ wr.drewN q2 = wx)
          case first =>
            cases bt with
            | true =>
              have e := HBT.out.1 rfl
              clear hlen hN hJ hJs hpJ HBT
              have e' : (J : Int) = (p : Int) + 1 := by omega
              clear e
              go_wp2_with fail
              go_meet
              case rel => exact ⟨by rw [e'], rfl⟩
            | false =>
              have e := HBT.out.2 rfl
              clear hlen hN hJ hJs hpJ HBT
              go_wp2_with fail
              go_meet
              case rel => exact ⟨by rw [e], rfl⟩
          case rest =>
            obtain ⟨rfl, rfl⟩ := hcut
            clear hlen HI HKE hIs HBT
            have HP5 : Hid (PL (wr.drewN q2) R s l d) := HP4.out.keep rfl
            have HS5 := Lib.hid (HS4.out.drewN q2)
            clear HS4 HP4 c0 c1 c2 c3 c4 cf
            generalize wr.drewN q2 = W5 at *
            obtain ⟨wr5, hpa⟩ := HP5.out.2.2
            rw [← HPE.out] at hpa
            have HPA := Lib.hid hpa
            obtain ⟨c0, c1, c2, c3, c4, cf⟩ := hpa.cells
            have hR5 := HS5.out.lt'
            have hstr : (s.extract p J).data.toList = numOf l := by
              rw [HJ.out, HPE.out, HP5.out.cut (k := N) (by rw [HN.out]; exact numOf_le l), HN.out]
              exact (num_take l).symm
            have hz5 := HS5.out.vars _ (.head _)
            have hzR : w.heap.size ≠ R := by have := HLT.out; omega
            clear hpa hN hJ
            by_cases hN0 : N = 0
            · have hnil : numOf l = [] := List.length_eq_zero_iff.1 (HN.out.symm.trans hN0)
              have he : s.extract p J = ⟨#[]⟩ := by
                apply ByteArray.ext
                apply Array.toList_inj.1
                rw [hstr, hnil]
              have HSS : Hid (∀ (gz : Nat) (W : World), Calls Tryz.prog 197 #[.pointer (some ⟨gz, 0, none⟩), .string (s.extract p J), .int .i64 10] W fun e w' => e = .returned (.tuple #[.pointer none, .bool false]) ∧ W = w') := fun gz W => by
                rw [he]; exact setString_none gz W
              have HE : Hid (numRd l = .bad l.length 2) := by show _ = _; unfold numRd; rw [if_pos (.inl hnil)]
              clear hnil he hstr hN0
              go_upto_region 42 with (fail)
              go_region_held3 (fun W => W.cell? ⟨R, 0, none⟩ = some (.string s) ∧ W.cell? ⟨R, 1, none⟩ = some (.int .i64 (p : Int))) (first | exact ⟨c0, c1⟩ | go_keep) ((go_at_call 197; refine (HSS.out _ _).mono ?_; rintro e w1 ⟨rfl, rfl⟩))
              clear HSS
              have HS6 := Lib.hid ((HS5.out.alloc (.cells #[.bool false, .slice none 0 0] 98)).call ((Frm.refl (· = R) _).drew))
              have HP6 : Hid (PAt (W5.alloc (.cells #[.bool false, .slice none 0 0] 98)).drew R s p d wr5 0) := HPA.out.keep (heap_alloc_old _ _ hR5)
              clear c0 c1 c2 c3 c4 cf hz5 HS5 HP5 HPA
              generalize (W5.alloc (.cells #[.bool false, .slice none 0 0] 98)).drew = W6 at *
              go_wp2_with fail
              refine (pfail_ok R p d s p 2 wr5 W6 HP6.out).mono ?_
              rintro e w7 ⟨rfl, hp, hf⟩
              have hS7 := HS6.out.call hf
              obtain ⟨z0, z1, z2, zf⟩ := hS7.cells (.head _)
              have hbad : PBad w7 R s d (s.size - l.length : Nat) 2 := ⟨p, d, hps, Nat.le_refl _, hd, by decide, by rw [← HPE.out]; exact hp⟩
              have HEND := Lib.hid (hS7.endBad (.head _) hbad (o := 0) (n := 0) (A := none) (c := 0))
              have HQ := Lib.hid (hS7.out (.head _) (.int .i64 0) (.int .i64 0) (.slice none 0 0))
              clear hp hf hS7 hbad HS6 HP6
              go_wp2_with fail
              obtain ⟨q0, q1, q2⟩ := HQ.out
              refine ⟨rfl, .agg #[.int .i64 0, .int .i64 0, .slice none 0 0], ?_, ?_⟩
              · simp only [results, Tryz.results176]
                simp [go_sem, q0, q1, q2]
              · rw [HE.out]; exact HEND.out
            · have hne : numOf l ≠ [] := fun e => hN0 (by rw [HN.out, e]; rfl)
              have hsz : (s.extract p J).size = N := by
                have : (s.extract p J).data.toList.length = (s.extract p J).size := Array.length_toList
                rw [← this, hstr, HN.out]
              obtain ⟨V, hV⟩ : ∃ V, V = digVal (numOf l) := ⟨_, rfl⟩
              have HSS : Hid (∀ (gz : Nat) (W : World), IntObj W gz → Calls Tryz.prog 197 #[.pointer (some ⟨gz, 0, none⟩), .string (s.extract p J), .int .i64 10] W fun e w' => e = .returned (.tuple #[.pointer (some ⟨gz, 0, none⟩), .bool true]) ∧ BigAt w' gz false V ∧ Frm (· = gz) W w') := fun gz W hz => by
                have := setString_ok gz (s.extract p J) W hz (by omega) (by have := HJ.out; omega) (by rw [hstr]; exact num_digits l)
                rw [hstr, ← hV] at this
                exact this
              have HE : Hid (numRd l = if V ≤ 9223372036854775807 then .ok (.num V) (l.drop N) else .bad l.length 2) := by
                show _ = _
                unfold numRd
                rw [← hV, ← HN.out]
                by_cases hc : V ≤ 9223372036854775807
                · rw [if_pos hc, if_neg (by intro h; rcases h with h | h; exact hne h; omega)]
                · rw [if_neg hc, if_pos (.inr (by omega))]
              have hRz : R ≠ W5.heap.size := by omega
              clear hne hstr hsz hV
              go_upto_region 42 with (fail)
              go_region_held3 (fun W => W.cell? ⟨R, 0, none⟩ = some (.string s) ∧ W.cell? ⟨R, 1, none⟩ = some (.int .i64 (p : Int))) (first | exact ⟨c0, c1⟩ | exact ⟨k0, k1⟩ | go_keep) ((go_at_call 197; refine (HSS.out _ (W5.alloc (.cells #[.bool false, .slice none 0 0] 98)).drew ⟨false, none, 0, 0, heap_alloc_new W5 _⟩).mono ?_; rintro e w6 ⟨rfl, hb, hf⟩; have k0 : w6.cell? ⟨R, 0, none⟩ = some (.string s) := (World.cell?_of_block (a := ⟨R, 0, none⟩) ((hf.block R (by show R < (W5.alloc _).heap.size; simp; omega) hRz).trans (heap_alloc_old _ _ hR5))).trans c0; have k1 : w6.cell? ⟨R, 1, none⟩ = some (.int .i64 (p : Int)) := (World.cell?_of_block (a := ⟨R, 1, none⟩) ((hf.block R (by show R < (W5.alloc _).heap.size; simp; omega) hRz).trans (heap_alloc_old _ _ hR5))).trans c1))
              have hfW : Frm (· = R) W5 w6 := ((Frm.refl (· = R) W5).alloc (.cells #[.bool false, .slice none 0 0] 98)).drew.trans hf (fun _ h => h) (fun k h => .inr (Nat.le_of_eq h.symm))
              have HS6 := Lib.hid (HS5.out.call hfW)
              have HP6 : Hid (PAt w6 R s p d wr5 0) := HPA.out.keep ((hf.block R (by show R < (W5.alloc _).heap.size; simp; omega) hRz).trans (heap_alloc_old _ _ hR5))
              have hPL6 : PL w6 R s l d := HP5.out.keep ((hf.block R (by show R < (W5.alloc _).heap.size; simp; omega) hRz).trans (heap_alloc_old _ _ hR5))
              have HPL6 := Lib.hid hPL6
              have HB := Lib.hid hb
              have HRZ := Lib.hid hRz
              clear c0 c1 c2 c3 c4 cf hz5 HS5 HP5 HPA hfW hf hb k0 k1 HSS hPL6 hRz
              generalize W5.heap.size = gz at *
              obtain ⟨c0, c1, c2, c3, c4, cf⟩ := HP6.out.cells
              go_wp2_with fail
              refine (isInt64_ok gz false V w6 HB.out nofun).mono ?_
              rintro e w7 ⟨rfl, rfl⟩
              by_cases hV : V < 9223372036854775808
              · rw [decide_eq_true hV]
                have HVL := Lib.hid hV
                have hfr : Frm (· = R) w6 (w6.setCell ⟨R, 1, none⟩ (.int .i64 (J : Int))) := (Frm.refl (· = R) _).setCell (p := ⟨R, 1, none⟩) (.inl rfl) _
                have HI64 := Lib.hid (int64_ok gz false V (w6.setCell ⟨R, 1, none⟩ (.int .i64 (J : Int))) (HB.out.frmP hfr (fun e => HRZ.out e.symm) HP6.out) (by omega) (fun _ => hV))
                have hS8 := HS6.out.setR 1 (.int .i64 (J : Int))
                obtain ⟨z0, z1, z2, zf⟩ := hS8.cells (.head _)
                have HQ := Lib.hid (hS8.out (.head _) (.int .i64 0) (.int .i64 (V : Int)) (.slice none 0 0))
                have HEND : Hid (PReads R s d w (numRd l) (.returned (.agg #[.int .i64 0, .int .i64 (V : Int), .slice none 0 0])) (rset (w6.setCell ⟨R, 1, none⟩ (.int .i64 (J : Int))) w.heap.size (.int .i64 0) (.int .i64 (V : Int)) (.slice none 0 0))) := by
                  show PReads _ _ _ _ _ _ _
                  rw [HE.out, if_pos (by omega)]
                  obtain ⟨e1, e2, e3, e4⟩ := hS8.res (.head _) (.int .i64 0) (.int .i64 (V : Int)) (.slice none 0 0)
                  refine ⟨0, V, none, 0, rfl, .num (WalkArith.wf_i64 (by omega)), PL.keep ?_ e3, e1⟩
                  have hm := HP6.out.moved J
                  have hNl : N ≤ l.length := by rw [HN.out]; exact numOf_le l
                  refine HPL6.out.on (n := N) (wr := wr5) (by rw [List.length_drop]; omega) rfl ?_
                  have : s.size - l.length + N = J := by have := HJ.out; have := HPE.out; omega
                  rw [this]; exact hm
                clear hfr hS8 HS6 HPL6 HB hV HE
                go_wp2_with fail
                refine HI64.out.mono ?_
                rintro e w8 ⟨rfl, rfl⟩
                clear HI64 HP6
                go_wp2_with fail
                obtain ⟨q0, q1, q2⟩ := HQ.out
                refine ⟨rfl, .agg #[.int .i64 0, .int .i64 (V : Int), .slice none 0 0], ?_, HEND.out⟩
                simp only [results, Tryz.results176]
                simp [go_sem, q0, q1, q2]
              · rw [decide_eq_false hV]
                have HE2 : Hid (numRd l = .bad l.length 2) := by show _ = _; rw [HE.out, if_neg (by omega)]
                clear HE hV
                go_wp2_with fail
                refine (pfail_ok R p d s p 2 wr5 w6 HP6.out).mono ?_
                rintro e w7 ⟨rfl, hp, hf⟩
                have hS7 := HS6.out.call hf
                obtain ⟨z0, z1, z2, zf⟩ := hS7.cells (.head _)
                have hbad : PBad w7 R s d (s.size - l.length : Nat) 2 := ⟨p, d, hps, Nat.le_refl _, hd, by decide, by rw [← HPE.out]; exact hp⟩
                have HEND := Lib.hid (hS7.endBad (.head _) hbad (o := 0) (n := 0) (A := none) (c := 0))
                have HQ := Lib.hid (hS7.out (.head _) (.int .i64 0) (.int .i64 0) (.slice none 0 0))
                clear hp hf hS7 hbad HS6 HP6 HPL6 HB c0 c1 c2 c3 c4 cf
                go_wp2_with fail
                obtain ⟨q0, q1, q2⟩ := HQ.out
                refine ⟨rfl, .agg #[.int .i64 0, .int .i64 0, .slice none 0 0], ?_, ?_⟩
                · simp only [results, Tryz.results176]
                  simp [go_sem, q0, q1, q2]
                · rw [HE2.out]; exact HEND.out
end Go.Proofs.YtfndhfekbbbliaaGreatDoor
