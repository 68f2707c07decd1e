/-
  The walk of WindowLayers: it returns true. No condition.
-/
import Derived.Test.YtdnmdekmgbgioaaSlide
import Derived.Test.YtdnmdekmgbgioaaLayers
namespace Go.Proofs.Ytdnmdekmgbgioaa
open Go.RowKit
open Go.Sort hiding Below
set_option linter.unusedVariables false

theorem SlA.pan_ {F : Nat → Prop} {w : World} {A : Option Addr} {c : Nat} {l : List Pane} (h : SlA panE F w A c l) {k : Nat} (hk : k < l.length) :
    ∃ b off, A = some ⟨b, off, none⟩ ∧ F b ∧ ∀ j u, (paneCells l[k])[j]? = some u → w.cell? ⟨b, off + (k * 6 + j), none⟩ = some u := by
  obtain ⟨b, off, cs, rfl, hb, hc, he⟩ := h.at_ hk
  have he : cs = paneCells l[k] := he
  subst he
  exact ⟨b, off, rfl, hb, hc⟩

set_option maxHeartbeats 4000000 in
set_option maxRecDepth 100000 in
theorem windowLayers_walk (A : Option Addr) (c : Nat) (l : List Rec) (by_ k : Int) (w : World) (hl : SlA recE (· < w.heap.size) w A c l) (wb : (Lit.int .i64 by_).wf = true) (wk : (Lit.int .i64 k).wf = true) :
    Calls Try.prog 3 #[.slice A l.length c, .int .i64 by_, .int .i64 k] w fun e w' => e = .returned (.bool true) ∧ Below w.heap.size w w' := by
  have H := Lib.hid hl
  have hle := hl.le
  clear hl
  by_cases hg : (1 ≤ by_ ∧ by_ ≤ 1000) ∧ 1 ≤ k ∧ k ≤ 16
  · obtain ⟨⟨hb1, hb2⟩, hk1, hk2⟩ := hg
    have d1 : decide (by_ < 1) = false := decide_eq_false (by omega)
    have d2 : decide (1000 < by_) = false := decide_eq_false (by omega)
    have d3 : decide (k < 1) = false := decide_eq_false (by omega)
    have d4 : decide (16 < k) = false := decide_eq_false (by omega)
    have hm1 : 1 ≤ by_ * k := by have := Int.mul_le_mul hb1 hk1 (by omega) (by omega); omega
    have hm2 : by_ * k ≤ 16000 := by have := Int.mul_le_mul hb2 hk2 (by omega) (by omega); omega
    have hm3 : by_ * k ≤ 16 * by_ := by have := Int.mul_le_mul_of_nonneg_left hk2 (show 0 ≤ by_ by omega); rw [Int.mul_comm 16]; exact this
    obtain ⟨sz, hsz⟩ : ∃ sz, sz = by_ * k := ⟨_, rfl⟩
    have HSZ := Lib.hid hsz
    rw [← hsz] at hm1 hm2 hm3
    have hmu : by_ * k = sz := hsz.symm
    have hA1 : AllOk [⟨⟨#[97]⟩, 2, 5⟩] := ⟨by decide, fun r hr => by rw [List.mem_singleton.1 hr]; decide⟩
    have HA1 := Lib.hid hA1
    clear hsz hA1
    go_enter Try.func3, Try.ntmps3
    go_wp2_with fail
    refine (slide_ok (some ⟨w.heap.size, 0, none⟩) 1 [⟨⟨#[97]⟩, 2, 5⟩] 4 2 0 _ (lit_one (heap_alloc_new w _) ⟨rfl, by show (1 : Nat) ≤ maxLen; unfold maxLen; omega, by show (Lit.int .i64 2).wf = true; decide, by show (Lit.int .i64 5).wf = true; decide⟩ (by omega) (by unfold maxLen; omega)) HA1.out (by omega) (by omega) (by omega) (by omega) (by omega) (by omega) (by omega)).mono ?_
    rintro e w1 ⟨A1, c1, q1, rfl, hp1, -, -, hb1'⟩
    have hql : q1.length = 2 := hp1.length_eq.trans fact_len
    rw [hql]
    have HB1 := Lib.hid (((Below.refl w.heap.size w).alloc (Nat.le_refl _) _).trans (hb1'.mono (by simp)))
    clear hp1 hb1' hql HA1
    go_wp2_with fail
    have hHl := H.out.below HB1.out
    by_cases hok : AllOk l
    · refine (slide_ok A c l sz by_ 0 _ hHl hok hm1 (by omega) hb1 (by omega) (by omega) (by omega) hm3).mono ?_
      rintro e w2 ⟨A2, c2, q, rfl, hp2, -, hs2, hb2'⟩
      have hnn : ∀ r ∈ l, 0 ≤ r.time := fun r hr => (recOk_iff.1 (hok.2 r hr)).2.1
      have hpos : Pos q := fun p hp => slideAll_pos sz by_ 0 l p (hp2.mem_iff.1 hp)
      have htot : tot q = wantN by_ k l := by rw [tot_perm hp2, HSZ.out]; exact layers hb1 hk1 hnn
      have hwle := wantN_le (l := l) hk1 hk2 hb1 hnn
      have hll := hok.1
      have HOK := Lib.hid hok
      have HS2 := Lib.hid hs2
      have HPOS := Lib.hid hpos
      have HTOT := Lib.hid htot
      have HNN := Lib.hid hnn
      have HWLE := Lib.hid hwle
      have hb2'' := HB1.out.trans (hb2'.mono HB1.out.size)
      have HB2 := Lib.hid hb2''
      have HL2 := Lib.hid (hHl.below hb2')
      have hqle := hs2.le
      clear hok hp2 hs2 hpos htot hnn hwle hb2' hb2'' hHl H HB1 hmu
      go_wp2_with fail
      go_loopw [11, 12] (fun nv iv wr => ∃ (i q' : Nat) (n : Int), i ≤ q.length ∧ wr = w2.drewN q' ∧ iv = .int .i64 i ∧ nv = .int .i64 n ∧ 0 ≤ n ∧ n ≤ 10000 ∧ Hid (n = tot (q.take i))) (fun _ iv _ => q.length - (intOf iv).toNat)
      case atStart => exact ⟨0, 0, 0, by omega, rfl, rfl, rfl, by omega, by omega, rfl⟩
      case round =>
        obtain ⟨i, q', n, hi, rfl, rfl, rfl, hn0, hn1, HN⟩ := hrel
        by_cases hlt : i < q.length
        · obtain ⟨b, off, rfl, hbb, hcell⟩ := HS2.out.pan_ hlt
          have hst := tot_take_succ q i hlt
          have hle2 := tot_take_le HPOS.out (i + 1)
          have hpp := HPOS.out q[i] (List.getElem_mem hlt)
          rw [← HN.out] at hst
          obtain ⟨p, hp⟩ : ∃ p, p = q[i] := ⟨_, rfl⟩
          rw [← hp] at hcell hst hpp
          have p3 := hcell 3 (.int .i64 p.many) rfl
          have p5 := hcell 5 (.int .i64 p.late) rfl
          rw [← Nat.add_assoc] at p3 p5
          obtain ⟨pk, pf, pt, pm, psu, pl⟩ := p
          simp only at p3 p5 hst hpp
          obtain ⟨hpp1, hpp2⟩ := hpp
          have htt : tot (q.take (i + 1)) ≤ 6400 := by have := HTOT.out; have := HWLE.out; omega
          have hn2 : n + pm + pl ≤ 6400 := by omega
          have HST := Lib.hid (show n + pm + pl = tot (q.take (i + 1)) by omega)
          have s1 : IntKind.i64.wrap (n + pm) = n + pm := IntWalk.i64_in _ (by omega)
          have s2 : IntKind.i64.wrap (n + pm + pl) = n + pm + pl := IntWalk.i64_in _ (by omega)
          have d6 : decide (i < q.length) = true := decide_eq_true hlt
          have hi0 : (0 : Int) ≤ (i : Int) := by omega
          have hi1 : (i : Int) < (q.length : Int) := by omega
          clear hcell hp hst hle2 htt
          go_wp2_with fail
          go_quiet (fail)
          go_wp2_with fail
          go_roundw
          case rel => exact ⟨i + 1, q' + nq, n + pm + pl, by omega, by simp, by go_num, rfl, by omega, by omega, HST⟩
          case measure => simp [intOf]; omega
        · obtain rfl : i = q.length := by omega
          have hn : n = wantN by_ k l := by rw [HN.out, List.take_length, HTOT.out]
          have HNW := Lib.hid hn
          clear hn HN HS2 HPOS HTOT hi
          have d6 : decide (q.length < q.length) = false := by simp
          go_wp2_with fail
          go_loop [13, 14] (fun mv jv => ∃ (j : Nat) (m : Int), j ≤ l.length ∧ jv = .int .i64 j ∧ mv = .int .i64 m ∧ 0 ≤ m ∧ m ≤ 16 * j ∧ Hid (m = wantN by_ k (l.take j))) (fun _ jv => l.length - (intOf jv).toNat)
          case atStart => exact ⟨0, 0, by omega, rfl, rfl, by omega, by omega, by show _ = _; simp [wantN]⟩
          case round =>
            obtain ⟨j, m, hj, rfl, rfl, hm0, hm1', HM⟩ := hrel
            by_cases hlt : j < l.length
            · obtain ⟨b, off, rfl, hbb, c0, c1, c2, -, -, -⟩ := HL2.out.rec_ hlt
              have hnj := HNN.out l[j] (List.getElem_mem hlt)
              have hwj := want1_le hk1 hb1 hnj
              have hsn : wantN by_ k (l.take (j + 1)) = wantN by_ k (l.take j) + want1 by_ k l[j].time := by rw [List.take_succ_eq_append_getElem hlt, wantN_snoc]
              have hti := (recOk_iff.1 (HOK.out.2 l[j] (List.getElem_mem hlt))).2.2
              obtain ⟨t, ht⟩ : ∃ t, t = l[j].time := ⟨_, rfl⟩
              rw [← ht] at c2 hnj hwj hsn hti
              have hq0 : 0 ≤ t / by_ := Int.ediv_nonneg hnj (by omega)
              have hq1 : t / by_ ≤ t := Int.ediv_le_self by_ hnj
              obtain ⟨qq, hqq⟩ : ∃ qq, qq = t / by_ := ⟨_, rfl⟩
              have hdv : t / by_ = qq := hqq.symm
              rw [← hqq] at hq0 hq1
              have HSN := Lib.hid hsn
              have d7 : decide (j < l.length) = true := decide_eq_true hlt
              have hjj : j ≤ 400 := by have := HOK.out.1; omega
              by_cases hkq : k < qq + 1
              · have hwv : want1 by_ k t = k := by unfold want1; rw [← hqq, if_pos (by omega)]
                have HWV := Lib.hid hwv
                clear ht hsn hwv hqq c0 c1 hwj
                go_wp2_with fail
                go_round
                case rel => exact ⟨j + 1, m + k, by omega, by go_num, rfl, by omega, by omega, by show _ = _; rw [HSN.out, HWV.out, HM.out]⟩
                case measure => simp [intOf]; omega
              · have hwv : want1 by_ k t = qq + 1 := by unfold want1; rw [← hqq, if_neg (by omega)]
                have HWV := Lib.hid hwv
                clear ht hsn hwv hqq c0 c1 hwj
                go_wp2_with fail
                go_round
                case rel => exact ⟨j + 1, m + (qq + 1), by omega, by go_num, rfl, by omega, by omega, by show _ = _; rw [HSN.out, HWV.out, HM.out]⟩
                case measure => simp [intOf]; omega
            · obtain rfl : j = l.length := by omega
              have hmn : m = n := by rw [HM.out, List.take_length, HNW.out]
              subst hmn
              have d7 : decide (l.length < l.length) = false := by simp
              clear HM HNW
              go_wp2_with fail
              go_ret
              exact ⟨by simp, bdrewN HB2.out _⟩
    · refine (slide_items A c l sz by_ 0 _ hHl hok).mono ?_
      rintro e w2 ⟨⟨kk, -, rfl⟩, hb2'⟩
      have HB2 := Lib.hid (HB1.out.trans (hb2'.mono HB1.out.size))
      clear hb2' hHl hmu
      go_wp2_with fail
      go_ret
      exact ⟨rfl, HB2.out⟩
  · rcases (show by_ < 1 ∨ (1 ≤ by_ ∧ 1000 < by_) ∨ ((1 ≤ by_ ∧ by_ ≤ 1000) ∧ k < 1) ∨ ((1 ≤ by_ ∧ by_ ≤ 1000) ∧ 1 ≤ k ∧ 16 < k) by omega) with h | ⟨h, h2⟩ | ⟨⟨h, h2⟩, h3⟩ | ⟨⟨h, h2⟩, h3, h4⟩
    · have d1 : decide (by_ < 1) = true := decide_eq_true h
      clear hg
      go_enter Try.func3, Try.ntmps3
      go_wp2_with fail
      go_ret
      exact ⟨rfl, Below.refl _ _⟩
    · have d1 : decide (by_ < 1) = false := decide_eq_false (by omega)
      have d2 : decide (1000 < by_) = true := decide_eq_true h2
      clear hg
      go_enter Try.func3, Try.ntmps3
      go_wp2_with fail
      go_ret
      exact ⟨rfl, Below.refl _ _⟩
    · have d1 : decide (by_ < 1) = false := decide_eq_false (by omega)
      have d2 : decide (1000 < by_) = false := decide_eq_false (by omega)
      have d3 : decide (k < 1) = true := decide_eq_true h3
      clear hg
      go_enter Try.func3, Try.ntmps3
      go_wp2_with fail
      go_ret
      exact ⟨rfl, Below.refl _ _⟩
    · have d1 : decide (by_ < 1) = false := decide_eq_false (by omega)
      have d2 : decide (1000 < by_) = false := decide_eq_false (by omega)
      have d3 : decide (k < 1) = false := decide_eq_false (by omega)
      have d4 : decide (16 < k) = true := decide_eq_true h4
      clear hg
      go_enter Try.func3, Try.ntmps3
      go_wp2_with fail
      go_ret
      exact ⟨rfl, Below.refl _ _⟩
end Go.Proofs.Ytdnmdekmgbgioaa
