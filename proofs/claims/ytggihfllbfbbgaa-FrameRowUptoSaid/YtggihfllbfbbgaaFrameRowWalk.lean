/-
  The walk of FrameRow: it returns true. Condition: the arguments hold at most 1048576 values and letters.
-/
import Derived.Test.YtggihfllbfbbgaaOpen
import Derived.Test.YtggihfllbfbbgaaFrameShortWalk
namespace Go.Proofs.Ytggihfllbfbbgaa
open Go.RowKit Go.ChangeShapes Go.WideShapes
set_option linter.unusedVariables false

def cat (l : List (List UInt8)) (k : Nat) : List UInt8 := (l.take k).flatMap sealB
theorem cat_succ (l : List (List UInt8)) (k : Nat) (h : k < l.length) : cat l (k + 1) = cat l k ++ sealB l[k] := by
  unfold cat
  rw [List.take_succ_eq_append_getElem h, List.flatMap_append]; simp
theorem cat_split (l : List (List UInt8)) (k K : Nat) (hk : k < K) (hK : K ≤ l.length) : ∃ rest, cat l K = cat l k ++ (sealB (l[k]'(by omega)) ++ rest) := by
  have h1 : l.take K = l.take k ++ (l.take K).drop k := by
    have := List.take_append_drop k (l.take K)
    rw [List.take_take, Nat.min_eq_left (by omega)] at this
    exact this.symm
  have h2 : (l.take K).drop k = (l.take K)[k]'(by rw [List.length_take]; omega) :: (l.take K).drop (k + 1) := List.drop_eq_getElem_cons (by rw [List.length_take]; omega)
  refine ⟨((l.take K).drop (k + 1)).flatMap sealB, ?_⟩
  unfold cat
  conv => lhs; rw [h1, List.flatMap_append, h2, List.flatMap_cons]
  simp
theorem rest_full (l : List (List UInt8)) (k K C : Nat) (hk : k < K) (hK : K ≤ l.length) (hC : (cat l k).length + (sealB (l[k]'(by omega))).length ≤ C) : ∃ tail, ((cat l K).take C).drop (cat l k).length = sealB (l[k]'(by omega)) ++ tail := by
  obtain ⟨rest, hr⟩ := cat_split l k K hk hK
  refine ⟨rest.take (C - (cat l k).length - (sealB (l[k]'(by omega))).length), ?_⟩
  rw [hr, List.take_append, List.take_of_length_le (by omega), List.drop_left, List.take_append, List.take_of_length_le (by omega)]
theorem rest_short (l : List (List UInt8)) (k K C : Nat) (hk : k < K) (hK : K ≤ l.length) (h0 : (cat l k).length ≤ C) (hC : C < (cat l k).length + (sealB (l[k]'(by omega))).length) : ((cat l K).take C).drop (cat l k).length = (sealB (l[k]'(by omega))).take (C - (cat l k).length) := by
  obtain ⟨rest, hr⟩ := cat_split l k K hk hK
  rw [hr, List.take_append, List.take_of_length_le (by omega), List.drop_left, List.take_append_of_le_length (by omega)]
theorem bulk_row (l : List (List UInt8)) (N : Nat) (h : sumBulk (slE bytE).bulk l ≤ N) : ∀ x ∈ l, x.length ≤ N := by
  have e : ∀ x : List UInt8, sumBulk bytE.bulk x = x.length := by
    intro x
    induction x with
    | nil => rfl
    | cons y x ih => rw [sumBulk, ih, List.length_cons]; show 1 + x.length = _; omega
  induction l generalizing N with
  | nil => intro x hx; cases hx
  | cons y l ih =>
    rw [sumBulk] at h
    have h2 : (slE bytE).bulk y = y.length + 1 := by show sumBulk bytE.bulk y + 1 = _; rw [e]
    intro x hx
    rcases List.mem_cons.1 hx with rfl | hx
    · omega
    · exact ih N (by omega) x hx
theorem cat_len (l : List (List UInt8)) (N : Nat) (h : ∀ x ∈ l, x.length ≤ N) (k : Nat) : (cat l k).length ≤ k * (N + 14) := by
  induction k with
  | zero => simp [cat]
  | succ k ih =>
    rw [Nat.succ_mul]
    by_cases hk : k < l.length
    · rw [cat_succ l k hk, List.length_append, sealB_length]
      have := h _ (List.getElem_mem hk)
      have := numB_len (l[k].length : Int)
      omega
    · have : cat l (k + 1) = cat l k := by unfold cat; rw [List.take_of_length_le (by omega), List.take_of_length_le (by omega)]
      rw [this]; omega
theorem sealB_pos (x : List UInt8) : 4 ≤ (sealB x).length := by rw [sealB_length]; omega

theorem own_src {P : Program} {w : World} {B n : Nat} {v : Value} {l : List UInt8} {e t : TypeId} (h : w.ownsRow B e 1 v n (bcells l)) (ht : P.underlying t = some (.slice e)) : Src P 1 t v n (bcells l) w := by
  obtain ⟨hn, A, c, rfl, hs⟩ := own_sl1 (E := bytE) (fun b => Value.int .u8 (b.toNat : Int)) rfl (fun x _ F => rfl) h
  have := Src.of_sl (P := P) (tx := t) hs ht (fun b => [Value.int .u8 (b.toNat : Int)]) (fun cs x hx => hx) (fun _ => rfl) (fun x u hu => by simp at hu; subst hu; rfl)
  rw [flat_bcells] at this
  rw [hn]
  exact this

theorem own_below {w w' : World} {base n size : Nat} {e : TypeId} {v : Value} {xs : List Value} (h : w.ownsRow base e size v n xs) (hb : Below w.heap.size w w') : w'.ownsRow base e size v n xs :=
  h.kept (row := none) ⟨hb.os, hb.tape, hb.output, hb.size, fun k hk _ => hb.block k hk⟩ (by cases v.ownBlock <;> simp)
set_option maxRecDepth 100000 in
set_option maxHeartbeats 8000000 in
theorem frameRow_walk (A : Option Addr) (c : Nat) (l : List (List UInt8)) (cut : Int) (w : World) (h : SlA (slE bytE) (· < w.heap.size) w A c l) (_ : c * 24 ≤ 140737488351232) (hcut : (Lit.int .i64 cut).wf = true) (hbk : sumBulk (slE bytE).bulk l + 1 + 1 ≤ 1048576) :
    Calls Try.prog 13 #[.slice A l.length c, .int .i64 cut] w fun e w' => e = .returned (.bool true) ∧ Below w.heap.size w w' := by
  have hrow := bulk_row l 1048576 (by omega)
  have hle := h.le
  have HR := Lib.hid hrow
  have H := Lib.hid h
  clear hrow h hbk
  go_enter Try.func13, Try.ntmps13
  go_wp2_with fail
  have h7 : SlA bytE (· < (w.alloc (.cells #[.int .u8 7] 5)).heap.size) (w.alloc (.cells #[.int .u8 7] 5)) (some ⟨w.heap.size, 0, none⟩) 1 [7] := lit_one (heap_alloc_new w _) rfl (Nat.le_refl _) (by unfold maxLen; omega)
  refine (seal_ok 1 (some ⟨w.heap.size, 0, none⟩) [7] _ h7 (by simp)).mono ?_; rintro e w1 ⟨v, rfl, ho1, hb1⟩
  obtain ⟨_, A1, c1, rfl, hs1⟩ := own_sl1 (E := bytE) (l := sealB [7]) (fun b => Value.int .u8 (b.toNat : Int)) rfl (fun x _ F => rfl) ho1
  have hop := open_ok c1 A1 (sealB [7]) [7] [] w1 (hs1.more fun k hk => hk.2) (by rw [sealB_length]; have := numB_len ((1 : Nat) : Int); simp at this ⊢; omega) (by simp)
  have h6 : (sealB [7]).length = 6 := by rw [sealB_length]; show (numB 1).length + 1 + 4 = 6; rw [numB_one 1 (by omega) (by omega)]
  rw [h6] at hop
  have HOP := Lib.hid hop
  have B1 : Hid (Below w.heap.size w w1) := ((Below.refl _ _).alloc (Nat.le_refl _) _).trans (hb1.mono (by simp))
  clear hop ho1 hb1 hs1 h7
  rw [h6]
  clear h6
  go_wp2_with fail
  refine HOP.out.mono ?_; rintro e w2 ⟨A2, c2, rfl, _, hb2⟩
  have B2 : Hid (Below w.heap.size w w2) := B1.out.trans (hb2.mono B1.out.size)
  clear hb2 HOP B1
  go_wp2_with fail
  go_loopw [8, 9] (fun v i wr => ∃ k : Nat, k ≤ l.length ∧ k ≤ 20 ∧ i = .int .i64 k ∧ Hid (wr.ownsRow w.heap.size 5 1 v (cat l k).length (bcells (cat l k))) ∧ Hid (Below w.heap.size w wr)) (fun _ i _ => 20 - (intOf i).toNat)
  case atStart => exact ⟨0, Nat.zero_le _, by omega, rfl, World.ownsRow_nil _ _ _ _, B2.out⟩
  case round =>
    clear B2
    obtain ⟨k, hk, hk20, rfl, HO, HB⟩ := hrel
    by_cases hlt : k < l.length ∧ k < 20
    · obtain ⟨hlt, hlt20⟩ := hlt
      have dl : decide (k < l.length) = true := decide_eq_true hlt
      have dl2 : decide ((k : Int) < 20) = true := by simp; omega
      obtain ⟨b, off, A3, c3, rfl, hbF, hc, hs3⟩ := (H.out.below HB.out).sl_ hlt
      obtain ⟨x, hx⟩ : ∃ x, x = l[k] := ⟨_, rfl⟩
      have hxl : x.length ≤ 1048576 := by rw [hx]; exact HR.out _ (List.getElem_mem hlt)
      rw [← hx] at hc hs3
      have hcat : cat l (k + 1) = cat l k ++ sealB x := by rw [hx]; exact cat_succ l k hlt
      have hcl := cat_len l 1048576 HR.out k
      have hcl2 : (cat l k).length ≤ 20971800 := by omega
      have hsl : (sealB x).length ≤ 1048590 := by rw [sealB_length]; have := numB_len (x.length : Int); omega
      have hsz := HB.out.size
      have HS3 := Lib.hid hs3
      have HCAT := Lib.hid hcat
      clear hcl hcat hx hs3
      obtain ⟨p, hp⟩ : ∃ p, p = (cat l k).length := ⟨_, rfl⟩
      rw [← hp] at hcl2
      have HP := Lib.hid hp
      clear hp
      obtain ⟨q, hq⟩ : ∃ q, q = (sealB x).length := ⟨_, rfl⟩
      rw [← hq] at hsl
      have HQ := Lib.hid hq
      clear hq
      go_wp2_with (first | (go_at_call 37; refine (seal_ok c3 A3 x _ HS3.out (by omega)).mono ?_; rintro e w3 ⟨v3, rfl, ho3, hb3⟩; have HO3 := Lib.hid ho3; have HB3 := Lib.hid hb3; clear ho3 hb3) | (at_builtin; refine wpList_append_src rfl _ _ 27 27 rfl w.heap.size 5 (.int .u8 0) 1 1 Try.underlying27 info_u8 rfl (by decide) _ _ _ rfl (own_below HO.out HB3.out) _ rfl _ _ (own_src HO3.out Try.underlying27) ?c1 ?c2 ?c3 ((HB.out).trans (HB3.out.mono hsz)) (Nat.le_refl _) ?_))
      case c1 => rw [← HP.out, ← HQ.out]; unfold maxLen; omega
      case c2 => rw [← HP.out, ← HQ.out]; omega
      case c3 => have := HB3.out.size; omega
      intro v4 w4 ho4 _ hb4 _
      have HO4 := Lib.hid ho4
      have HB4 := Lib.hid hb4
      clear ho4 hb4 HO3 HB3 HO
      go_wp2_with fail
      go_roundw
      case rel =>
        refine ⟨k + 1, by omega, by omega, by go_num, ?_, HB4.out⟩
        rw [HCAT.out, List.length_append, bcells_append]
        exact HO4.out
      case measure => simp [intOf]; omega
    · have HLT := Lib.hid hlt
      clear hlt
      obtain ⟨hP0, A0, c0, rfl, hsl0⟩ := own_sl1 (E := bytE) (fun b => Value.int .u8 (b.toNat : Int)) rfl (fun x _ F => rfl) HO.out
      have hS0 : SlA bytE (· < wr.heap.size) wr A0 c0 (cat l k) := hsl0.more fun k hk => hk.2
      have HS0 := Lib.hid hS0
      clear hP0 hsl0 hS0
      obtain ⟨w5, hw5⟩ : ∃ w5 : World, w5 = wr := ⟨_, rfl⟩
      rw [← hw5]
      rw [← hw5] at HS0 HB
      clear hw5 HO
      have hcl := cat_len l 1048576 HR.out k
      have hcl2 : (cat l k).length ≤ 20971800 := by omega
      have hc0 := HS0.out.1
      have hcm := HS0.out.2.1
      obtain ⟨P, hP⟩ : ∃ P, P = (cat l k).length := ⟨_, rfl⟩
      rw [← hP] at hcl2 hc0 ⊢
      have HP := Lib.hid hP
      clear hP hcl
      unfold maxLen at hcm
      have hg1 : decide (k < l.length) = true → decide ((k : Int) < 20) = false := by
        intro h1
        have h2 := of_decide_eq_true h1
        simp
        have := HLT.out
        omega
      have hrh : ∀ (C : Nat), C ≤ P → ∀ u : World, (Instr.slice 27 (.slice A0 P c0) none (some (.int .i64 (C : Int))) none).run Try.prog u = .ok (.slice A0 C c0) u := fun C hC u => run_head Try.prog 27 5 A0 P c0 C Try.underlying27 ⟨_, (info_parts info_u8).choose_spec.1⟩ (by omega) u
      have HRH := Lib.hid hrh
      clear hrh
      rcases (show (∃ C : Nat, cut = C ∧ C ≤ P) ∨ cut < 0 ∨ (0 ≤ cut ∧ P < cut) by
        by_cases h1 : cut < 0
        · exact .inr (.inl h1)
        · by_cases h2 : cut ≤ P
          · exact .inl ⟨cut.toNat, by omega, by omega⟩
          · exact .inr (.inr ⟨by omega, by omega⟩)) with ⟨C, rfl, hC⟩ | hc | ⟨hc, hc2⟩
      · have d1 : decide (P < C) = false := by simp; omega
        have hrun := HRH.out C hC
        have HSC : Hid (SlA bytE (· < w5.heap.size) w5 A0 c0 ((cat l k).take C)) := HS0.out.head (by rw [← HP.out]; exact hC)
        go_wp2_with fail
        all_goals
          clear hrun
          go_loopw [10, 11] (fun a kk wr => ∃ p q : Nat, q ≤ k ∧ a = .int .i64 p ∧ kk = .int .i64 q ∧ p ≤ C ∧ Hid (p = (cat l q).length) ∧ Hid (Below w5.heap.size w5 wr)) (fun a _ _ => C - (intOf a).toNat)
          case atStart => exact ⟨0, 0, Nat.zero_le _, rfl, rfl, Nat.zero_le _, rfl, Below.refl _ _⟩
          case round =>
            obtain ⟨p, q, hq, rfl, rfl, hp, HPP, HB5⟩ := hrel
            have HBW : Hid (Below w.heap.size w wr) := HB.out.trans (HB5.out.mono HB.out.size)
            by_cases hqk : q < k
            · obtain ⟨b, off, A3, c3, rfl, hbF, hc, hs3⟩ := (H.out.below HBW.out).sl_ (show q < l.length by omega)
              obtain ⟨x, hx⟩ : ∃ x, x = l[q]'(by omega) := ⟨_, rfl⟩
              have hxl : x.length ≤ 1048576 := by rw [hx]; exact HR.out _ (List.getElem_mem (by omega))
              rw [← hx] at hc hs3
              have HS3 := Lib.hid hs3
              have dq : decide (q < l.length) = true := by simp; omega
              have dq2 : decide ((q : Int) < 20) = true := by simp; omega
              have dq3 : decide (l.length ≤ q) = false := by simp; omega
              have hsx := sealB_pos x
              obtain ⟨n, hn⟩ : ∃ n, n = (sealB x).length := ⟨_, rfl⟩
              rw [← hn] at hsx
              by_cases hpC : p < C
              · have hSC := HSC.out.below HB5.out
                have hlenC : ((cat l k).take C).length = C := by rw [List.length_take, ← HP.out]; exact Nat.min_eq_left hC
                obtain ⟨b0, o0, rfl, _, hc00⟩ := hSC.byt_ (k := 0) (by omega)
                clear hc00
                have hcc := hSC.1
                rw [hlenC] at hcc
                have hcut : SlA bytE (· < wr.heap.size) wr (some ⟨b0, o0 + p, none⟩) (c0 - p) (((cat l k).take C).drop p) := by
                  have := hSC.cut (k := p) (by omega)
                  simpa [bytE] using this
                have hdl : (((cat l k).take C).drop p).length = C - p := by rw [List.length_drop, hlenC]
                have dc : (c0 == p) = false := by rw [beq_eq_false_iff_ne]; omega
                have dc2 : ¬ c0 = p := by omega
                by_cases hfull : p + n ≤ C
                · obtain ⟨tl, htl⟩ := rest_full l q k C hqk (by omega) (by rw [← HPP.out, ← hx, ← hn]; exact hfull)
                  rw [← HPP.out, ← hx] at htl
                  have hopen := open_ok (c0 - p) (some ⟨b0, o0 + p, none⟩) _ x tl wr hcut (by rw [hdl]; omega) htl
                  rw [hdl, ← hn] at hopen
                  have HOPEN := Lib.hid hopen
                  have HX := Lib.hid hx
                  have HN := Lib.hid hn
                  clear hs3 hx hn hopen hcut hdl hSC hlenC htl hcc
                  go_wp2_with fail
                  refine HOPEN.out.mono ?_; rintro e w6 ⟨A6, c6, rfl, hs6, hb6⟩
                  have HB6 : Hid (Below w5.heap.size w5 w6) := HB5.out.trans (hb6.mono HB5.out.size)
                  have hs3' := HS3.out.below hb6
                  have hcv := hc
                  have hbw6 : b < w6.heap.size := by have := hb6.size; omega
                  have hc' : w6.cell? ⟨b, off + q, none⟩ = some (.slice A3 x.length c3) := (hb6.cell (p := ⟨b, off + q, none⟩) hbF).trans hc
                  have v1 := fun q => conv_string (P := Try.prog) (src := 27) (dst := 9) (hs6.drewN q) Try.underlying27 Try.underlying5 Try.underlying9
                  have v2 := fun q => conv_string (P := Try.prog) (src := 27) (dst := 9) (hs3'.drewN q) Try.underlying27 Try.underlying5 Try.underlying9
                  clear hs6 hs3' hb6
                  have dn : decide ((n : Int) < 1) = false := by simp; omega
                  go_wp2_with fail
                  go_quiet (fail)
                  go_wp2_with fail
                  go_roundw
                  case rel =>
                    refine ⟨p + n, q + 1, by omega, by go_num, by go_num, hfull, ?_, bdrewN HB6.out _⟩
                    show _ = _
                    rw [cat_succ l q (by omega), List.length_append, ← HPP.out, HN.out, HX.out]
                  case measure => simp [intOf]; omega
                · have hrs := rest_short l q k C hqk (by omega) (by rw [← HPP.out]; exact hp) (by rw [← HPP.out, ← hx, ← hn]; omega)
                  rw [← HPP.out, ← hx] at hrs
                  have hopen := open_short (c0 - p) (C - p) (some ⟨b0, o0 + p, none⟩) _ x wr hcut (by omega) (by omega) hrs
                  rw [hdl] at hopen
                  have HOPEN := Lib.hid hopen
                  have HX := Lib.hid hx
                  have HN := Lib.hid hn
                  clear hx hn hopen hcut hdl hSC hlenC hrs hcc
                  go_wp2_with fail
                  refine HOPEN.out.mono ?_; rintro e w7 ⟨rfl, hb7⟩
                  have hs7 := hs3.below hb7
                  have HS7 := Lib.hid hs7
                  have HB7 : Hid (Below w.heap.size w w7) := HBW.out.trans (hb7.mono HBW.out.size)
                  have hc' : w7.cell? ⟨b, off + q, none⟩ = some (.slice A3 x.length c3) := (hb7.cell (p := ⟨b, off + q, none⟩) hbF).trans hc
                  clear hs7 hb7 hs3
                  have dd : decide ((C : Int) - p < n) = true := by simp; omega
                  unfold errFile
                  go_wp2_with fail
                  refine (seal_ok c3 A3 x _ HS7.out (by omega)).mono ?_; rintro e w6 ⟨v6, rfl, ho6, hb6⟩
                  obtain ⟨_, A6, c6, rfl, _⟩ := own_sl1 (E := bytE) (fun b => Value.int .u8 (b.toNat : Int)) rfl (fun x _ F => rfl) ho6
                  rw [← HN.out]
                  have HB6 : Hid (Below w.heap.size w w6) := HB7.out.trans (hb6.mono HB7.out.size)
                  clear ho6 hb6
                  go_wp2_with fail
                  go_ret
                  exact ⟨ret_true (by simp <;> omega), HB6.out⟩
              · obtain rfl : p = C := by omega
                have HX := Lib.hid hx
                have HN := Lib.hid hn
                clear hs3 hx hn
                have dd : decide ((p : Int) - p < n) = true := by simp; omega
                go_wp2_with fail
                refine (seal_ok c3 A3 x _ HS3.out (by omega)).mono ?_; rintro e w6 ⟨v6, rfl, ho6, hb6⟩
                obtain ⟨_, A6, c6, rfl, _⟩ := own_sl1 (E := bytE) (fun b => Value.int .u8 (b.toNat : Int)) rfl (fun x _ F => rfl) ho6
                rw [← HN.out]
                have HB6 : Hid (Below w.heap.size w w6) := HBW.out.trans (hb6.mono HBW.out.size)
                clear ho6 hb6
                go_wp2_with fail
                go_ret
                exact ⟨ret_true (by simp <;> omega), HB6.out⟩
            · obtain rfl : q = k := by omega
              have hpC : p = C := by have := HPP.out; have := HP.out; omega
              obtain rfl := hpC
              clear HPP
              go_wp2_with fail
              go_ret
              exact ⟨rfl, HBW.out⟩
      · have hC : P ≤ P := Nat.le_refl _
        have hrun := HRH.out P hC
        have HSC : Hid (SlA bytE (· < w5.heap.size) w5 A0 c0 ((cat l k).take P)) := HS0.out.head (by rw [← HP.out]; exact hC)
        go_wp2_with fail
        all_goals
          clear hrun
          go_loopw [10, 11] (fun a kk wr => ∃ p q : Nat, q ≤ k ∧ a = .int .i64 p ∧ kk = .int .i64 q ∧ p ≤ P ∧ Hid (p = (cat l q).length) ∧ Hid (Below w5.heap.size w5 wr)) (fun a _ _ => P - (intOf a).toNat)
          case atStart => exact ⟨0, 0, Nat.zero_le _, rfl, rfl, Nat.zero_le _, rfl, Below.refl _ _⟩
          case round =>
            obtain ⟨p, q, hq, rfl, rfl, hp, HPP, HB5⟩ := hrel
            have HBW : Hid (Below w.heap.size w wr) := HB.out.trans (HB5.out.mono HB.out.size)
            by_cases hqk : q < k
            · obtain ⟨b, off, A3, c3, rfl, hbF, hc, hs3⟩ := (H.out.below HBW.out).sl_ (show q < l.length by omega)
              obtain ⟨x, hx⟩ : ∃ x, x = l[q]'(by omega) := ⟨_, rfl⟩
              have hxl : x.length ≤ 1048576 := by rw [hx]; exact HR.out _ (List.getElem_mem (by omega))
              rw [← hx] at hc hs3
              have HS3 := Lib.hid hs3
              have dq : decide (q < l.length) = true := by simp; omega
              have dq2 : decide ((q : Int) < 20) = true := by simp; omega
              have dq3 : decide (l.length ≤ q) = false := by simp; omega
              have hsx := sealB_pos x
              obtain ⟨n, hn⟩ : ∃ n, n = (sealB x).length := ⟨_, rfl⟩
              rw [← hn] at hsx
              by_cases hpC : p < P
              · have hSC := HSC.out.below HB5.out
                have hlenC : ((cat l k).take P).length = P := by rw [List.length_take, ← HP.out]; exact Nat.min_eq_left hC
                obtain ⟨b0, o0, rfl, _, hc00⟩ := hSC.byt_ (k := 0) (by omega)
                clear hc00
                have hcc := hSC.1
                rw [hlenC] at hcc
                have hcut : SlA bytE (· < wr.heap.size) wr (some ⟨b0, o0 + p, none⟩) (c0 - p) (((cat l k).take P).drop p) := by
                  have := hSC.cut (k := p) (by omega)
                  simpa [bytE] using this
                have hdl : (((cat l k).take P).drop p).length = P - p := by rw [List.length_drop, hlenC]
                have dc : (c0 == p) = false := by rw [beq_eq_false_iff_ne]; omega
                have dc2 : ¬ c0 = p := by omega
                by_cases hfull : p + n ≤ P
                · obtain ⟨tl, htl⟩ := rest_full l q k P hqk (by omega) (by rw [← HPP.out, ← hx, ← hn]; exact hfull)
                  rw [← HPP.out, ← hx] at htl
                  have hopen := open_ok (c0 - p) (some ⟨b0, o0 + p, none⟩) _ x tl wr hcut (by rw [hdl]; omega) htl
                  rw [hdl, ← hn] at hopen
                  have HOPEN := Lib.hid hopen
                  have HX := Lib.hid hx
                  have HN := Lib.hid hn
                  clear hs3 hx hn hopen hcut hdl hSC hlenC htl hcc
                  go_wp2_with fail
                  refine HOPEN.out.mono ?_; rintro e w6 ⟨A6, c6, rfl, hs6, hb6⟩
                  have HB6 : Hid (Below w5.heap.size w5 w6) := HB5.out.trans (hb6.mono HB5.out.size)
                  have hs3' := HS3.out.below hb6
                  have hcv := hc
                  have hbw6 : b < w6.heap.size := by have := hb6.size; omega
                  have hc' : w6.cell? ⟨b, off + q, none⟩ = some (.slice A3 x.length c3) := (hb6.cell (p := ⟨b, off + q, none⟩) hbF).trans hc
                  have v1 := fun q => conv_string (P := Try.prog) (src := 27) (dst := 9) (hs6.drewN q) Try.underlying27 Try.underlying5 Try.underlying9
                  have v2 := fun q => conv_string (P := Try.prog) (src := 27) (dst := 9) (hs3'.drewN q) Try.underlying27 Try.underlying5 Try.underlying9
                  clear hs6 hs3' hb6
                  have dn : decide ((n : Int) < 1) = false := by simp; omega
                  go_wp2_with fail
                  go_quiet (fail)
                  go_wp2_with fail
                  go_roundw
                  case rel =>
                    refine ⟨p + n, q + 1, by omega, by go_num, by go_num, hfull, ?_, bdrewN HB6.out _⟩
                    show _ = _
                    rw [cat_succ l q (by omega), List.length_append, ← HPP.out, HN.out, HX.out]
                  case measure => simp [intOf]; omega
                · have hrs := rest_short l q k P hqk (by omega) (by rw [← HPP.out]; exact hp) (by rw [← HPP.out, ← hx, ← hn]; omega)
                  rw [← HPP.out, ← hx] at hrs
                  have hopen := open_short (c0 - p) (P - p) (some ⟨b0, o0 + p, none⟩) _ x wr hcut (by omega) (by omega) hrs
                  rw [hdl] at hopen
                  have HOPEN := Lib.hid hopen
                  have HX := Lib.hid hx
                  have HN := Lib.hid hn
                  clear hx hn hopen hcut hdl hSC hlenC hrs hcc
                  go_wp2_with fail
                  refine HOPEN.out.mono ?_; rintro e w7 ⟨rfl, hb7⟩
                  have hs7 := hs3.below hb7
                  have HS7 := Lib.hid hs7
                  have HB7 : Hid (Below w.heap.size w w7) := HBW.out.trans (hb7.mono HBW.out.size)
                  have hc' : w7.cell? ⟨b, off + q, none⟩ = some (.slice A3 x.length c3) := (hb7.cell (p := ⟨b, off + q, none⟩) hbF).trans hc
                  clear hs7 hb7 hs3
                  have dd : decide ((P : Int) - p < n) = true := by simp; omega
                  unfold errFile
                  go_wp2_with fail
                  refine (seal_ok c3 A3 x _ HS7.out (by omega)).mono ?_; rintro e w6 ⟨v6, rfl, ho6, hb6⟩
                  obtain ⟨_, A6, c6, rfl, _⟩ := own_sl1 (E := bytE) (fun b => Value.int .u8 (b.toNat : Int)) rfl (fun x _ F => rfl) ho6
                  rw [← HN.out]
                  have HB6 : Hid (Below w.heap.size w w6) := HB7.out.trans (hb6.mono HB7.out.size)
                  clear ho6 hb6
                  go_wp2_with fail
                  go_ret
                  exact ⟨ret_true (by simp <;> omega), HB6.out⟩
              · obtain rfl : p = P := by omega
                have HX := Lib.hid hx
                have HN := Lib.hid hn
                clear hs3 hx hn
                have dd : decide ((p : Int) - p < n) = true := by simp; omega
                go_wp2_with fail
                refine (seal_ok c3 A3 x _ HS3.out (by omega)).mono ?_; rintro e w6 ⟨v6, rfl, ho6, hb6⟩
                obtain ⟨_, A6, c6, rfl, _⟩ := own_sl1 (E := bytE) (fun b => Value.int .u8 (b.toNat : Int)) rfl (fun x _ F => rfl) ho6
                rw [← HN.out]
                have HB6 : Hid (Below w.heap.size w w6) := HBW.out.trans (hb6.mono HBW.out.size)
                clear ho6 hb6
                go_wp2_with fail
                go_ret
                exact ⟨ret_true (by simp <;> omega), HB6.out⟩
            · obtain rfl : q = k := by omega
              have hpC : p = P := by have := HPP.out; have := HP.out; omega
              obtain rfl := hpC
              clear HPP
              go_wp2_with fail
              go_ret
              exact ⟨rfl, HBW.out⟩
      · have hC : P ≤ P := Nat.le_refl _
        have hrun := HRH.out P hC
        have HSC : Hid (SlA bytE (· < w5.heap.size) w5 A0 c0 ((cat l k).take P)) := HS0.out.head (by rw [← HP.out]; exact hC)
        go_wp2_with fail
        all_goals
          clear hrun
          go_loopw [10, 11] (fun a kk wr => ∃ p q : Nat, q ≤ k ∧ a = .int .i64 p ∧ kk = .int .i64 q ∧ p ≤ P ∧ Hid (p = (cat l q).length) ∧ Hid (Below w5.heap.size w5 wr)) (fun a _ _ => P - (intOf a).toNat)
          case atStart => exact ⟨0, 0, Nat.zero_le _, rfl, rfl, Nat.zero_le _, rfl, Below.refl _ _⟩
          case round =>
            obtain ⟨p, q, hq, rfl, rfl, hp, HPP, HB5⟩ := hrel
            have HBW : Hid (Below w.heap.size w wr) := HB.out.trans (HB5.out.mono HB.out.size)
            by_cases hqk : q < k
            · obtain ⟨b, off, A3, c3, rfl, hbF, hc, hs3⟩ := (H.out.below HBW.out).sl_ (show q < l.length by omega)
              obtain ⟨x, hx⟩ : ∃ x, x = l[q]'(by omega) := ⟨_, rfl⟩
              have hxl : x.length ≤ 1048576 := by rw [hx]; exact HR.out _ (List.getElem_mem (by omega))
              rw [← hx] at hc hs3
              have HS3 := Lib.hid hs3
              have dq : decide (q < l.length) = true := by simp; omega
              have dq2 : decide ((q : Int) < 20) = true := by simp; omega
              have dq3 : decide (l.length ≤ q) = false := by simp; omega
              have hsx := sealB_pos x
              obtain ⟨n, hn⟩ : ∃ n, n = (sealB x).length := ⟨_, rfl⟩
              rw [← hn] at hsx
              by_cases hpC : p < P
              · have hSC := HSC.out.below HB5.out
                have hlenC : ((cat l k).take P).length = P := by rw [List.length_take, ← HP.out]; exact Nat.min_eq_left hC
                obtain ⟨b0, o0, rfl, _, hc00⟩ := hSC.byt_ (k := 0) (by omega)
                clear hc00
                have hcc := hSC.1
                rw [hlenC] at hcc
                have hcut : SlA bytE (· < wr.heap.size) wr (some ⟨b0, o0 + p, none⟩) (c0 - p) (((cat l k).take P).drop p) := by
                  have := hSC.cut (k := p) (by omega)
                  simpa [bytE] using this
                have hdl : (((cat l k).take P).drop p).length = P - p := by rw [List.length_drop, hlenC]
                have dc : (c0 == p) = false := by rw [beq_eq_false_iff_ne]; omega
                have dc2 : ¬ c0 = p := by omega
                by_cases hfull : p + n ≤ P
                · obtain ⟨tl, htl⟩ := rest_full l q k P hqk (by omega) (by rw [← HPP.out, ← hx, ← hn]; exact hfull)
                  rw [← HPP.out, ← hx] at htl
                  have hopen := open_ok (c0 - p) (some ⟨b0, o0 + p, none⟩) _ x tl wr hcut (by rw [hdl]; omega) htl
                  rw [hdl, ← hn] at hopen
                  have HOPEN := Lib.hid hopen
                  have HX := Lib.hid hx
                  have HN := Lib.hid hn
                  clear hs3 hx hn hopen hcut hdl hSC hlenC htl hcc
                  go_wp2_with fail
                  refine HOPEN.out.mono ?_; rintro e w6 ⟨A6, c6, rfl, hs6, hb6⟩
                  have HB6 : Hid (Below w5.heap.size w5 w6) := HB5.out.trans (hb6.mono HB5.out.size)
                  have hs3' := HS3.out.below hb6
                  have hcv := hc
                  have hbw6 : b < w6.heap.size := by have := hb6.size; omega
                  have hc' : w6.cell? ⟨b, off + q, none⟩ = some (.slice A3 x.length c3) := (hb6.cell (p := ⟨b, off + q, none⟩) hbF).trans hc
                  have v1 := fun q => conv_string (P := Try.prog) (src := 27) (dst := 9) (hs6.drewN q) Try.underlying27 Try.underlying5 Try.underlying9
                  have v2 := fun q => conv_string (P := Try.prog) (src := 27) (dst := 9) (hs3'.drewN q) Try.underlying27 Try.underlying5 Try.underlying9
                  clear hs6 hs3' hb6
                  have dn : decide ((n : Int) < 1) = false := by simp; omega
                  go_wp2_with fail
                  go_quiet (fail)
                  go_wp2_with fail
                  go_roundw
                  case rel =>
                    refine ⟨p + n, q + 1, by omega, by go_num, by go_num, hfull, ?_, bdrewN HB6.out _⟩
                    show _ = _
                    rw [cat_succ l q (by omega), List.length_append, ← HPP.out, HN.out, HX.out]
                  case measure => simp [intOf]; omega
                · have hrs := rest_short l q k P hqk (by omega) (by rw [← HPP.out]; exact hp) (by rw [← HPP.out, ← hx, ← hn]; omega)
                  rw [← HPP.out, ← hx] at hrs
                  have hopen := open_short (c0 - p) (P - p) (some ⟨b0, o0 + p, none⟩) _ x wr hcut (by omega) (by omega) hrs
                  rw [hdl] at hopen
                  have HOPEN := Lib.hid hopen
                  have HX := Lib.hid hx
                  have HN := Lib.hid hn
                  clear hx hn hopen hcut hdl hSC hlenC hrs hcc
                  go_wp2_with fail
                  refine HOPEN.out.mono ?_; rintro e w7 ⟨rfl, hb7⟩
                  have hs7 := hs3.below hb7
                  have HS7 := Lib.hid hs7
                  have HB7 : Hid (Below w.heap.size w w7) := HBW.out.trans (hb7.mono HBW.out.size)
                  have hc' : w7.cell? ⟨b, off + q, none⟩ = some (.slice A3 x.length c3) := (hb7.cell (p := ⟨b, off + q, none⟩) hbF).trans hc
                  clear hs7 hb7 hs3
                  have dd : decide ((P : Int) - p < n) = true := by simp; omega
                  unfold errFile
                  go_wp2_with fail
                  refine (seal_ok c3 A3 x _ HS7.out (by omega)).mono ?_; rintro e w6 ⟨v6, rfl, ho6, hb6⟩
                  obtain ⟨_, A6, c6, rfl, _⟩ := own_sl1 (E := bytE) (fun b => Value.int .u8 (b.toNat : Int)) rfl (fun x _ F => rfl) ho6
                  rw [← HN.out]
                  have HB6 : Hid (Below w.heap.size w w6) := HB7.out.trans (hb6.mono HB7.out.size)
                  clear ho6 hb6
                  go_wp2_with fail
                  go_ret
                  exact ⟨ret_true (by simp <;> omega), HB6.out⟩
              · obtain rfl : p = P := by omega
                have HX := Lib.hid hx
                have HN := Lib.hid hn
                clear hs3 hx hn
                have dd : decide ((p : Int) - p < n) = true := by simp; omega
                go_wp2_with fail
                refine (seal_ok c3 A3 x _ HS3.out (by omega)).mono ?_; rintro e w6 ⟨v6, rfl, ho6, hb6⟩
                obtain ⟨_, A6, c6, rfl, _⟩ := own_sl1 (E := bytE) (fun b => Value.int .u8 (b.toNat : Int)) rfl (fun x _ F => rfl) ho6
                rw [← HN.out]
                have HB6 : Hid (Below w.heap.size w w6) := HBW.out.trans (hb6.mono HBW.out.size)
                clear ho6 hb6
                go_wp2_with fail
                go_ret
                exact ⟨ret_true (by simp <;> omega), HB6.out⟩
            · obtain rfl : q = k := by omega
              have hpC : p = P := by have := HPP.out; have := HP.out; omega
              obtain rfl := hpC
              clear HPP
              go_wp2_with fail
              go_ret
              exact ⟨rfl, HBW.out⟩
end Go.Proofs.Ytggihfllbfbbgaa
