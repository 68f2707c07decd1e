/-
  Contracts of window.Slide and window.Tumble: which panes they answer. Condition: none beyond those that the code tests.
-/
import Derived.Test.YtdnmdekmgbgioaaWin
import Derived.Test.YtdnmdekmgbgioaaPaneSort
import Derived.Deep.CutBlock
import Derived.Deep.LoopGhost
namespace Go.Proofs.Ytdnmdekmgbgioaa
open Go.RowKit
open Go.Sort hiding Below
set_option linter.unusedVariables false

theorem PanesAt.keep {w w' : World} {b : Nat} {ps : List (Pane × Nat)} (h : PanesAt w b ps) (hb : w'.heap[b]? = w.heap[b]?) (ho : ∀ x ∈ ps, w'.heap[x.2]? = w.heap[x.2]?) : PanesAt w' b ps :=
  ⟨h.map.keep hb, fun x hx => (ho x hx).trans (h.obj x hx), h.nd⟩
theorem PanesAt.lt {w : World} {b : Nat} {ps : List (Pane × Nat)} (h : PanesAt w b ps) : ∀ x ∈ ps, x.2 < w.heap.size := fun x hx => block_lt (h.obj x hx)
theorem PanesAt.below {w w' : World} {b : Nat} {ps : List (Pane × Nat)} (h : PanesAt w b ps) (hb : Below w.heap.size w w') : PanesAt w' b ps :=
  h.keep (hb.block b h.map.lt) fun x hx => hb.block x.2 (h.lt x hx)
theorem PanesAt.ne {w : World} {b : Nat} {ps : List (Pane × Nat)} (h : PanesAt w b ps) : ∀ x ∈ ps, x.2 ≠ b := fun x hx e => by
  have h1 := h.obj x hx
  obtain ⟨es, clock, hb, _⟩ := h.map
  rw [e, hb] at h1; cases h1
/-- One pane is turned. -/
theorem PanesAt.turn {w w' : World} {b g : Nat} {s1 s2 : List (Pane × Nat)} {p p' : Pane} (h : PanesAt w b (s1 ++ (p, g) :: s2)) (hk : p'.key = p.key ∧ p'.from_ = p.from_ ∧ p'.to = p.to) (hg : w'.heap[g]? = some (paneObj p')) (ho : ∀ k, k < w.heap.size → k ≠ g → w'.heap[k]? = w.heap[k]?) :
    PanesAt w' b (s1 ++ (p', g) :: s2) := by
  have hnd := h.nd
  simp only [List.map_append, List.map_cons] at hnd
  have hd := List.nodup_append.1 hnd
  have hpk : (s1 ++ (p', g) :: s2).map pk = (s1 ++ (p, g) :: s2).map pk := by simp [pk, hk]
  refine ⟨?_, fun x hx => ?_, by simpa using h.nd⟩
  · rw [hpk]
    exact h.map.keep (ho b h.map.lt (fun e => h.ne (p, g) (by simp) e.symm))
  · rcases List.mem_append.1 hx with hx1 | hx1
    · have hne : x.2 ≠ g := hd.2.2 x.2 (List.mem_map.2 ⟨x, hx1, rfl⟩) g (List.mem_cons_self)
      have hm : x ∈ s1 ++ (p, g) :: s2 := List.mem_append.2 (.inl hx1)
      exact (ho x.2 (h.lt x hm) hne).trans (h.obj x hm)
    · rcases List.mem_cons.1 hx1 with rfl | hx1
      · exact hg
      · have hne : x.2 ≠ g := fun e => (List.nodup_cons.1 hd.2.1).1 (e ▸ List.mem_map.2 ⟨x, hx1, rfl⟩)
        have hm : x ∈ s1 ++ (p, g) :: s2 := List.mem_append.2 (.inr (List.mem_cons_of_mem _ hx1))
        exact (ho x.2 (h.lt x hm) hne).trans (h.obj x hm)
/-- A pane more. -/
theorem PanesAt.push {w w' : World} {b g : Nat} {ps : List (Pane × Nat)} {p : Pane} (h : PanesAt w b ps) (hm : MapAt IsPaneK w' b (ps.map pk ++ [pk (p, g)])) (hg : w'.heap[g]? = some (paneObj p)) (ho : ∀ k, k < w.heap.size → k ≠ b → k ≠ g → w'.heap[k]? = w.heap[k]?) (hgn : ∀ x ∈ ps, x.2 ≠ g) :
    PanesAt w' b (ps ++ [(p, g)]) := by
  refine ⟨by rw [List.map_append]; exact hm, fun x hx => ?_, ?_⟩
  · rcases List.mem_append.1 hx with hx | hx
    · exact (ho x.2 (h.lt x hx) (h.ne x hx) (hgn x hx)).trans (h.obj x hx)
    · rw [List.mem_singleton.1 hx]; exact hg
  · rw [List.map_append]
    refine List.nodup_append.2 ⟨h.nd, by simp, fun a ha c hc => ?_⟩
    obtain ⟨x, hx, rfl⟩ := List.mem_map.1 ha
    simp at hc
    subst hc
    exact hgn x hx
theorem setCell_obj {w : World} {g i : Nat} {cs : Array Value} {t : TypeId} (h : w.heap[g]? = some (.cells cs t (0, 0))) (v : Value) : (w.setCell ⟨g, i, none⟩ v).heap[g]? = some (.cells (cs.setIfInBounds i v) t (0, 0)) := by
  simp [World.setCell, Array.getElem?_modify, h]
/-- How great the counts are at most. -/
def Bnd (K : Nat) (m : List Pane) : Prop := ∀ p ∈ m, 0 ≤ p.many ∧ p.many ≤ K ∧ 0 ≤ p.late ∧ p.late ≤ K
theorem Bnd.le {K K' : Nat} {m : List Pane} (h : Bnd K m) (hK : K ≤ K') : Bnd K' m := fun p hp => by have := h p hp; omega
theorem bump_bnd {K : Nat} {p : Pane} {mark num : Int} (h : 0 ≤ p.many ∧ p.many ≤ K ∧ 0 ≤ p.late ∧ p.late ≤ K) : 0 ≤ (bump mark num p).many ∧ (bump mark num p).many ≤ ((K + 1 : Nat) : Int) ∧ 0 ≤ (bump mark num p).late ∧ (bump mark num p).late ≤ ((K + 1 : Nat) : Int) := by
  unfold bump; split <;> simp only <;> omega
theorem addPane_bnd {K : Nat} {size mark num f : Int} {k : ByteArray} {m : List Pane} (h : Bnd K m) (ha : Apart m) : Bnd (K + 1) (addPane size mark k num f m) := by
  rcases addPane_parts (size := size) (mark := mark) (num := num) (f := f) (k := k) ha with ⟨m1, p, m2, rfl, h1⟩ | h1
  · rw [addPane_hit ha h1]
    intro q hq
    rcases List.mem_append.1 hq with hq | hq
    · have := h q (List.mem_append.2 (.inl hq)); omega
    · rcases List.mem_cons.1 hq with rfl | hq
      · exact bump_bnd (h p (by simp))
      · have := h q (List.mem_append.2 (.inr (List.mem_cons_of_mem _ hq))); omega
  · rw [addPane_miss h1]
    intro q hq
    rcases List.mem_append.1 hq with hq | hq
    · have := h q hq; omega
    · rw [List.mem_singleton.1 hq]
      refine bump_bnd ⟨by simp, by simp, by simp, by simp⟩
theorem addPane_length {size mark num f : Int} {k : ByteArray} {m : List Pane} : (addPane size mark k num f m).length ≤ m.length + 1 := by
  unfold addPane; split <;> simp
def SlidePost (w : World) (m : List Pane) (e : Ending) (w' : World) : Prop := ∃ A' c' q, e = .returned (.tuple #[.slice A' (List.length q) c', .nilIface]) ∧ q.Perm m ∧ q.Pairwise (fun a b => ltOf paneCf b a = false) ∧ SlA panE (· < w'.heap.size) w' A' c' q ∧ Below w.heap.size w w'

set_option maxRecDepth 100000 in
set_option maxHeartbeats 8000000 in
theorem slide_ok (A : Option Addr) (c : Nat) (l : List Rec) (size by_ slack : Int) (w : World) (hl : SlA recE (· < w.heap.size) w A c l) (hok : AllOk l) (hs1 : 1 ≤ size) (hs2 : size ≤ 1000000) (hb1 : 1 ≤ by_) (hb2 : by_ ≤ 1000000) (hk1 : 0 ≤ slack) (hk2 : slack ≤ 1000000) (h16 : size ≤ 16 * by_) :
    Calls Try.prog 8 #[.slice A l.length c, .int .i64 size, .int .i64 by_, .int .i64 slack] w (SlidePost w (slideAll size by_ slack l).2) := by
  have H := Lib.hid hl
  have HK := Lib.hid hok
  have hll := hok.1
  have d1 : decide (slack < 0) = false := decide_eq_false (by omega)
  have d2 : decide (1000000 < slack) = false := decide_eq_false (by omega)
  have d3 : decide (16 * by_ < size) = false := decide_eq_false (by omega)
  have hmm := @run_makeMap Try.prog
  clear hl hok
  go_enter Try.func8, Try.ntmps8
  go_wp2_with fail
  refine (check_loop A c l _ H.out hll).mono ?_
  rintro e w1 ⟨⟨-, rfl⟩ | ⟨hn, rfl⟩, hb⟩
  · have HB := Lib.hid hb
    clear hb
    go_wp2_with fail
    refine (time_yes size _ hs1 hs2).mono ?_
    rintro e w' ⟨rfl, rfl⟩
    go_wp2_with fail
    refine (time_yes by_ _ hb1 hb2).mono ?_
    rintro e w' ⟨rfl, rfl⟩
    go_wp2_with fail
    obtain ⟨b, hbe⟩ : ∃ b, b = w1.heap.size := ⟨_, rfl⟩
    have hP0 : PanesAt (w1.alloc (.map #[] 0)) b [] := by rw [hbe]; exact ⟨MapAt.made _ w1, nofun, List.nodup_nil⟩
    have hB0 : Below w.heap.size w (w1.alloc (.map #[] 0)) := HB.out.alloc HB.out.size _
    have hbw : w.heap.size ≤ b := by rw [hbe]; exact HB.out.size
    rw [← hbe]
    have HP0 := Lib.hid hP0
    have HB0 := Lib.hid hB0
    clear hmm hbe hP0 hB0 HB
    go_loopg [11, 49] (l.length) (fun gk mv kv wr => ∃ (k K : Nat) (mk : Int) (ps : List (Pane × Nat)), k ≤ l.length ∧ K ≤ k * 1000001 ∧ gk = l.length - k ∧ kv = .int .i64 k ∧ mv = .int .i64 mk ∧ 0 ≤ mk ∧ mk ≤ 1000000 ∧ Hid (slideAll size by_ slack (l.take k) = (mk, ps.map (·.1))) ∧ Hid (PanesAt wr b ps) ∧
      Hid (∀ x ∈ ps, w.heap.size ≤ x.2) ∧ Hid (Bnd K (ps.map (·.1)) ∧ ps.length ≤ K) ∧ Hid (Below w.heap.size w wr))
    case atStart => exact ⟨0, 0, 0, [], by omega, by omega, by omega, rfl, rfl, by omega, by omega, rfl, HP0, nofun, ⟨nofun, by simp⟩, HB0⟩
    case round =>
      clear HP0 HB0
      obtain ⟨k, K, mk, ps, hk, hK, hgk, rfl, rfl, hm1, hm2, HS, HP, HG, HBD, HB⟩ := hrel
      have HGK := Lib.hid hgk
      clear hgk
      by_cases hlt : k < l.length
      · obtain ⟨b0, off, rfl, hbb, c0, c1, c2, hks, hwn, hwt⟩ := H.out.rec_ hlt
        have e0 := (HB.out.cell (p := ⟨b0, off + k * 3, none⟩) hbb).trans c0
        have e1 := (HB.out.cell (p := ⟨b0, off + k * 3 + 1, none⟩) hbb).trans c1
        have e2 := (HB.out.cell (p := ⟨b0, off + k * 3 + 2, none⟩) hbb).trans c2
        have hz := HB.out.size
        have hro := HK.out.2 l[k] (List.getElem_mem hlt)
        have htk : slideAll size by_ slack (l.take (k + 1)) = slideStep size by_ slack (mk, ps.map (·.1)) l[k] := by
          rw [List.take_succ_eq_append_getElem hlt, slideAll_snoc, HS.out]
        obtain ⟨r, hr⟩ : ∃ r, r = l[k] := ⟨_, rfl⟩
        rw [← hr] at e0 e1 e2 hks hwn hwt hro htk
        obtain ⟨-, ht1, ht2⟩ := recOk_iff.1 hro
        have hap : Apart (ps.map (·.1)) := by have := slideAll_apart size by_ slack (l.take k); rw [HS.out] at this; exact this
        have HTK := Lib.hid htk
        have hto : Tos size (ps.map (·.1)) := by have := slideAll_tos size by_ slack (l.take k); rw [HS.out] at this; exact this
        have HAP := Lib.hid hap
        have HTO := Lib.hid hto
        have HWN := Lib.hid hwn
        have HWT := Lib.hid hwt
        have HKS := Lib.hid hks
        obtain ⟨rk, rn, rt⟩ := r
        simp only at e0 e1 e2 ht1 ht2
        have hq1 : rt / by_ * by_ ≤ rt := Int.ediv_mul_le rt (by omega)
        have hq0 : 0 ≤ rt / by_ := Int.ediv_nonneg ht1 (by omega)
        have hq2 : 0 ≤ rt / by_ * by_ := Int.mul_nonneg hq0 (by omega)
        obtain ⟨qq, hqq⟩ : ∃ qq, qq = rt / by_ := ⟨_, rfl⟩
        obtain ⟨f0, hf0⟩ : ∃ f0, f0 = qq * by_ := ⟨_, rfl⟩
        rw [← hqq, ← hf0] at hq1 hq2
        have HF0 := Lib.hid (show f0 = rt / by_ * by_ by rw [hf0, hqq])
        have hdv : (rt : Int) / by_ = qq := hqq.symm
        have hmu : qq * by_ = f0 := hf0.symm
        clear hr c0 c1 c2 hro hks hwn hwt htk hap hto hqq hf0 hq0
        go_upto_block 2 with (fail)
        obtain ⟨pr, hpr⟩ : ∃ n, n = wr.heap.size := ⟨_, rfl⟩
        have hX : (wr.alloc (.cells #[.string rk, .int .i64 rn, .int .i64 rt] 29)).heap[pr]? = some (.cells #[.string rk, .int .i64 rn, .int .i64 rt] 29 (0, 0)) := by rw [hpr]; exact heap_alloc_new wr _
        have hbr : b ≠ pr := by have := HP.out.map.lt; omega
        have hgr : ∀ x ∈ ps, x.2 ≠ pr := fun x hx => by have := HP.out.lt x hx; omega
        have hwpr : w.heap.size ≤ pr := by rw [hpr]; exact hz
        have HREL0 := Lib.hid (show PanesAt (wr.alloc (.cells #[.string rk, .int .i64 rn, .int .i64 rt] 29)) b ps ∧ Below w.heap.size w (wr.alloc (.cells #[.string rk, .int .i64 rn, .int .i64 rt] 29)) from ⟨HP.out.below ((Below.refl _ _).alloc (Nat.le_refl _) _), HB.out.alloc hz _⟩)
        have HX := Lib.hid hX
        have HGR := Lib.hid hgr
        rw [← hpr]
        clear hX hgr HP HB hz e0 e1 e2 hpr
        go_cut [15] from 50 to 130 (fun fv wx => ∃ (K2 : Nat) (qs : List (Pane × Nat)), K2 ≤ (k + 1) * 1000001 ∧ Hid (qs.map (·.1) = addFirst size by_ mk ⟨rk, rn, rt⟩ (ps.map (·.1)) (lapsN size by_ rt)) ∧ Hid (PanesAt wx b qs) ∧ Hid (∀ x ∈ qs, w.heap.size ≤ x.2) ∧ Hid (Bnd K2 (qs.map (·.1)) ∧ qs.length ≤ K2) ∧
          Hid (wx.heap[pr]? = some (.cells #[.string rk, .int .i64 rn, .int .i64 rt] 29 (0, 0))) ∧ Hid (Below w.heap.size w wx))
        case first =>
          go_wp2_with fail
          go_loopg [15] ((f0 + 1).toNat) (fun g2 fv wx => ∃ (j : Nat) (f : Int) (qs : List (Pane × Nat)), g2 = (f + 1).toNat ∧ fv = .int .i64 f ∧ -1000000 ≤ f ∧ f ≤ 1000000 ∧ j ≤ 1000001 ∧ Hid (f = f0 - j * by_) ∧ Hid (∀ i, i < j → laps size by_ rt i = true) ∧
            Hid (qs.map (·.1) = addFirst size by_ mk ⟨rk, rn, rt⟩ (ps.map (·.1)) j) ∧ Hid (PanesAt wx b qs) ∧ Hid (∀ x ∈ qs, w.heap.size ≤ x.2 ∧ x.2 ≠ pr) ∧ Hid (Bnd (K + j) (qs.map (·.1)) ∧ qs.length ≤ K + j) ∧
            Hid (wx.heap[pr]? = some (.cells #[.string rk, .int .i64 rn, .int .i64 rt] 29 (0, 0))) ∧ Hid (Below w.heap.size w wx))
          case atStart => exact ⟨0, f0, ps, rfl, rfl, by omega, by omega, by omega, by show f0 = f0 - ((0 : Nat) : Int) * by_; simp, (fun i hi => absurd hi (by omega)), rfl, HREL0.out.1, fun x hx => ⟨HG.out x hx, HGR.out x hx⟩, HBD, HX, HREL0.out.2⟩
          case round =>
            clear HREL0 HX HG HGR HBD
            obtain ⟨j, f, qs, hg2, rfl, hf1, hf2, hj, HF, HL, HQ, HP, HG, HBD, HX, HB⟩ := hrel
            have HG2 := Lib.hid hg2
            clear hg2
            have hz := HB.out.size
            have r0 := cell_of_row _ pr 0 _ _ _ HX.out
            have r1 := cell_of_row _ pr 1 _ _ _ HX.out
            have r2 := cell_of_row _ pr 2 _ _ _ HX.out
            simp at r0 r1 r2
            have hlap : laps size by_ rt j = (decide (0 ≤ f) && decide (rt < f + size)) := by rw [HF.out, HF0.out]; rfl
            have HLAP := Lib.hid hlap
            clear hlap
            by_cases hc : 0 ≤ f ∧ rt < f + size
            · obtain ⟨hc0, hc1⟩ := hc
              have hd1 : decide (0 ≤ f) = true := decide_eq_true hc0
              have hd2 : decide (rt < f + size) = true := decide_eq_true hc1
              have hlj : laps size by_ rt j = true := by rw [HLAP.out, hd1, hd2]; rfl
              have hjle := laps_le hb1 ht1 hlj
              have hL' : ∀ i, i < j + 1 → laps size by_ rt i = true := fun i hi => by
                by_cases e : i = j
                · rw [e]; exact hlj
                · exact HL.out i (by omega)
              have hQ' : addFirst size by_ mk ⟨rk, rn, rt⟩ (ps.map (·.1)) (j + 1) = addPane size mk rk rn f (qs.map (·.1)) := by
                rw [addFirst_succ]
                show addPane size mk rk rn (rt / by_ * by_ - j * by_) _ = _
                rw [← HF0.out, ← HF.out, ← HQ.out]
              have hap' : Apart (qs.map (·.1)) := by rw [HQ.out]; exact addFirst_apart HAP.out j
              have hto' : Tos size (qs.map (·.1)) := by rw [HQ.out]; exact addFirst_tos HTO.out j
              have hF' : f - by_ = f0 - ((j + 1 : Nat) : Int) * by_ := by
                rw [HF.out, Int.natCast_add, Int.add_mul]; omega
              have HF' := Lib.hid hF'
              have HL' := Lib.hid hL'
              have HQ' := Lib.hid hQ'
              have HWF : Hid (I64 f) := by show (Lit.int .i64 f).wf = true; exact WalkArith.wf_i64 (by omega)
              have HWS : Hid (I64 (f + size)) := by show (Lit.int .i64 (f + size)).wf = true; exact WalkArith.wf_i64 (by omega)
              have hKj : K + j ≤ 410000000 := by omega
              clear hlj hL' hQ' hF' HF HL HLAP HQ
              rcases addPane_parts (size := size) (mark := mk) (num := rn) (f := f) (k := rk) hap' with ⟨m1, p, m2, hm, hpk, hpf⟩ | hno
              · obtain ⟨s1, s2, rfl, hs1', hs2'⟩ := List.map_eq_append_iff.1 hm
                obtain ⟨x, s3, rfl, hx, hs3⟩ := List.map_eq_cons_iff.1 hs2'
                obtain ⟨p', g⟩ := x
                obtain rfl : p' = p := hx
                have hpt : p'.to = f + size := by rw [← hpf]; exact hto' p' (List.mem_map.2 ⟨(p', g), by simp, rfl⟩)
                have hbd := HBD.out.1 p' (List.mem_map.2 ⟨(p', g), by simp, rfl⟩)
                have hadd : addPane size mk rk rn f ((s1 ++ (p', g) :: s3).map (·.1)) = (s1 ++ (bump mk rn p', g) :: s3).map (·.1) := by
                  rw [List.map_append, List.map_cons, addPane_hit (by simpa using hap') ⟨hpk, hpf⟩]; simp
                obtain ⟨qk, qf, qt, qm, qs, ql⟩ := p'
                simp only at hpk hpf hpt hbd
                subst hpk; subst hpf; subst hpt
                have HADD := Lib.hid hadd
                have hPW := HP.out.below ((Below.refl _ _).alloc (Nat.le_refl _) (.cells #[.string qk, .int .i64 qf, .int .i64 (qf + size), .int .i64 0, .int .i64 0, .int .i64 0] 31))
                have hXW : (wr.alloc (.cells #[.string qk, .int .i64 qf, .int .i64 (qf + size), .int .i64 0, .int .i64 0, .int .i64 0] 31)).heap[pr]? = some (.cells #[.string qk, .int .i64 rn, .int .i64 rt] 29 (0, 0)) := (Below.heap_alloc _ _ _ (block_lt HX.out)).trans HX.out
                have hBW := HB.out.alloc hz (.cells #[.string qk, .int .i64 qf, .int .i64 (qf + size), .int .i64 0, .int .i64 0, .int .i64 0] 31)
                have hlook := hPW.map.look_hit paneT Try.underlying74 (key := paneV qk qf (qf + size)) (v := .pointer (some ⟨g, 0, none⟩)) (List.mem_map.2 ⟨(⟨qk, qf, qf + size, qm, qs, ql⟩, g), by simp, rfl⟩) false
                have hgo := hPW.obj (⟨qk, qf, qf + size, qm, qs, ql⟩, g) (by simp)
                have hgg := HG.out (⟨qk, qf, qf + size, qm, qs, ql⟩, g) (by simp)
                have hcw : ∀ i, (wr.alloc (.cells #[.string qk, .int .i64 qf, .int .i64 (qf + size), .int .i64 0, .int .i64 0, .int .i64 0] 31)).cell? ⟨g, i, none⟩ = (#[.string qk, .int .i64 qf, .int .i64 (qf + size), .int .i64 qm, .int .i64 qs, .int .i64 ql] : Array Value)[i]? := fun i => cell_of_row _ g i _ _ _ hgo
                have q2 := hcw 2
                have q3 := hcw 3
                have q4 := hcw 4
                have q5 := hcw 5
                have hfz : ∀ i, (wr.alloc (.cells #[.string qk, .int .i64 qf, .int .i64 (qf + size), .int .i64 0, .int .i64 0, .int .i64 0] 31)).frozen? ⟨g, i, none⟩ = false := fun i => by simp [World.frozen?, hgo, paneObj]
                have z3 := hfz 3
                have z4 := hfz 4
                have z5 := hfz 5
                simp only [show ∀ (a b c d e f : Value), (#[a, b, c, d, e, f] : Array Value)[2]? = some c from fun _ _ _ _ _ _ => rfl, show ∀ (a b c d e f : Value), (#[a, b, c, d, e, f] : Array Value)[3]? = some d from fun _ _ _ _ _ _ => rfl, show ∀ (a b c d e f : Value), (#[a, b, c, d, e, f] : Array Value)[4]? = some e from fun _ _ _ _ _ _ => rfl, show ∀ (a b c d e f : Value), (#[a, b, c, d, e, f] : Array Value)[5]? = some f from fun _ _ _ _ _ _ => rfl] at q2 q3 q4 q5
                have HPW := Lib.hid hPW
                have HXW := Lib.hid hXW
                have HBW := Lib.hid hBW
                have HLK := Lib.hid hlook
                have HGO := Lib.hid hgo
                have HHG := Lib.hid (show ∀ (p : Pane), ∀ x ∈ s1 ++ (p, g) :: s3, w.heap.size ≤ x.2 ∧ x.2 ≠ pr from fun p x hx => by
                  rcases List.mem_append.1 hx with hx | hx
                  · exact HG.out x (List.mem_append.2 (.inl hx))
                  · rcases List.mem_cons.1 hx with rfl | hx
                    · exact hgg
                    · exact HG.out x (List.mem_append.2 (.inr (List.mem_cons_of_mem _ hx))))
                have hBD' := addPane_bnd (size := size) (mark := mk) (num := rn) (f := qf) (k := qk) HBD.out.1 hap'
                rw [hadd] at hBD'
                have HBD' := Lib.hid (show Bnd (K + (j + 1)) ((s1 ++ (bump mk rn ⟨qk, qf, qf + size, qm, qs, ql⟩, g) :: s3).map (·.1)) ∧ (s1 ++ (bump mk rn ⟨qk, qf, qf + size, qm, qs, ql⟩, g) :: s3).length ≤ K + (j + 1) from ⟨hBD', by have := HBD.out.2; simp at this ⊢; omega⟩)
                obtain ⟨hbd1, hbd2, hbd3, hbd4⟩ := hbd
                have hq1' : qm ≤ 410000000 := by omega
                have hq2' : ql ≤ 410000000 := by omega
                have hgb := hgg.1
                have hgp := hgg.2
                clear hm hs1' hs2' hs3 hadd hPW hXW hBW hlook hgo hgg hcw hfz hap' hto' hBD' HBD HG HP HX HB hbd2 hbd4
                by_cases hlate : qf + size ≤ mk
                · have HBU := Lib.hid (show bump mk rn ⟨qk, qf, qf + size, qm, qs, ql⟩ = ⟨qk, qf, qf + size, qm, qs, ql + 1⟩ by unfold bump; rw [if_pos hlate])
                  go_wp2_with (at_lookup; refine wpList_lookup_M rfl _ _ 74 false rfl _ _ _ rfl rfl HLK.out ?_)
                  go_roundg ((qf - by_ + 1).toNat)
                  case measure => have := HG2.out; omega
                  case rel =>
                    refine ⟨j + 1, qf - by_, s1 ++ (⟨qk, qf, qf + size, qm, qs, ql + 1⟩, g) :: s3, rfl, by go_num, by omega, by omega, by omega, HF'.out, HL'.out, ?_, ?_, HHG.out _, ?_, ?_, ?_⟩
                    · show _ = _; rw [HQ'.out, HADD.out, HBU.out]
                    · exact HPW.out.turn ⟨rfl, rfl, rfl⟩ (setCell_obj HGO.out _) (fun k _ hne => Below.heap_setCell _ _ _ _ hne)
                    · rw [← HBU.out]; exact HBD'.out
                    · exact (Below.heap_setCell _ _ _ _ (fun e => hgp e.symm)).trans HXW.out
                    · exact HBW.out.setCell hgb _
                · have HBU := Lib.hid (show bump mk rn ⟨qk, qf, qf + size, qm, qs, ql⟩ = ⟨qk, qf, qf + size, qm + 1, IntKind.i64.wrap (qs + rn), ql⟩ by unfold bump; rw [if_neg hlate])
                  go_wp2_with (at_lookup; refine wpList_lookup_M rfl _ _ 74 false rfl _ _ _ rfl rfl HLK.out ?_)
                  have g3 := setCell_obj (i := 3) HGO.out (.int .i64 (qm + 1))
                  have k3 : ∀ k, k ≠ g → ((wr.alloc (.cells #[.string qk, .int .i64 qf, .int .i64 (qf + size), .int .i64 0, .int .i64 0, .int .i64 0] 31)).setCell ⟨g, 3, none⟩ (.int .i64 (qm + 1))).heap[k]? = (wr.alloc (.cells #[.string qk, .int .i64 qf, .int .i64 (qf + size), .int .i64 0, .int .i64 0, .int .i64 0] 31)).heap[k]? := fun k hne => Below.heap_setCell _ _ _ _ hne
                  have b3 := HBW.out.setCell (p := ⟨g, 3, none⟩) hgb (.int .i64 (qm + 1))
                  have s3z : ((wr.alloc (.cells #[.string qk, .int .i64 qf, .int .i64 (qf + size), .int .i64 0, .int .i64 0, .int .i64 0] 31)).setCell ⟨g, 3, none⟩ (.int .i64 (qm + 1))).heap.size = (wr.alloc (.cells #[.string qk, .int .i64 qf, .int .i64 (qf + size), .int .i64 0, .int .i64 0, .int .i64 0] 31)).heap.size := size_setCell _ _ _
                  obtain ⟨W3, hW3⟩ : ∃ W3, W3 = (wr.alloc (.cells #[.string qk, .int .i64 qf, .int .i64 (qf + size), .int .i64 0, .int .i64 0, .int .i64 0] 31)).setCell ⟨g, 3, none⟩ (.int .i64 (qm + 1)) := ⟨_, rfl⟩
                  rw [← hW3] at g3 k3 b3 s3z ⊢
                  have y4 := cell_of_row W3 g 4 _ _ _ g3
                  have yf : W3.frozen? ⟨g, 4, none⟩ = false := by simp [World.frozen?, g3]
                  have y1 := cell_of_row W3 pr 1 _ _ _ ((k3 pr hgp.symm).trans HXW.out)
                  have hP3 := HPW.out.turn (p' := ⟨qk, qf, qf + size, qm + 1, qs, ql⟩) ⟨rfl, rfl, rfl⟩ g3 (fun k _ hne => k3 k hne)
                  have hX3 := (k3 pr hgp.symm).trans HXW.out
                  simp at y4 y1
                  have G3 := Lib.hid g3
                  have P3 := Lib.hid hP3
                  have X3 := Lib.hid hX3
                  have B3 := Lib.hid b3
                  clear g3 k3 b3 s3z hW3 hP3 hX3 HPW HXW HBW HGO HLK q2 q3 q4 q5 z3 z4 z5
                  go_region
                  all_goals
                    go_wp2_with fail
                    go_roundg ((qf - by_ + 1).toNat)
                    case measure => have := HG2.out; omega
                    case rel =>
                      refine ⟨j + 1, qf - by_, s1 ++ (⟨qk, qf, qf + size, qm + 1, IntKind.i64.wrap (qs + rn), ql⟩, g) :: s3, rfl, by go_num, by omega, by omega, by omega, HF'.out, HL'.out, ?_, ?_, HHG.out _, ?_, ?_, ?_⟩
                      · show _ = _; rw [HQ'.out, HADD.out, HBU.out]
                      · have hwr : wrap64 (qs + rn) = IntKind.i64.wrap (qs + rn) := (IntWalk.i64_left _).symm
                        rw [← hwr]
                        exact P3.out.turn (w' := (W3.setCell ⟨g, 4, none⟩ (.int .i64 (wrap64 (qs + rn)))).drew) ⟨rfl, rfl, rfl⟩ (setCell_obj G3.out _) (fun k _ hne => Below.heap_setCell _ _ _ _ hne)
                      · rw [← HBU.out]; exact HBD'.out
                      · exact (Below.heap_setCell _ _ _ _ (fun e => hgp e.symm)).trans X3.out
                      · exact (B3.out.setCell hgb _).drew
              · have hno' : ∀ x ∈ qs, ¬ (x.1.key = rk ∧ x.1.from_ = f) := fun x hx => hno x.1 (List.mem_map.2 ⟨x, hx, rfl⟩)
                have hadd : ∀ g : Nat, addPane size mk rk rn f (qs.map (·.1)) = (qs ++ [(bump mk rn ⟨rk, f, f + size, 0, 0, 0⟩, g)]).map (·.1) := fun g => by
                  rw [List.map_append, addPane_miss hno]; rfl
                have hPW := HP.out.below ((Below.refl _ _).alloc (Nat.le_refl _) (.cells #[.string rk, .int .i64 f, .int .i64 (f + size), .int .i64 0, .int .i64 0, .int .i64 0] 31))
                have hXW : (wr.alloc (.cells #[.string rk, .int .i64 f, .int .i64 (f + size), .int .i64 0, .int .i64 0, .int .i64 0] 31)).heap[pr]? = some (.cells #[.string rk, .int .i64 rn, .int .i64 rt] 29 (0, 0)) := (Below.heap_alloc _ _ _ (block_lt HX.out)).trans HX.out
                have hBW := HB.out.alloc hz (.cells #[.string rk, .int .i64 f, .int .i64 (f + size), .int .i64 0, .int .i64 0, .int .i64 0] 31)
                have hkk : IsPaneK (paneV rk f (f + size)) := ⟨rk, f, f + size, rfl, HKS.out, HWF.out, HWS.out⟩
                have hnk : ∀ y ∈ qs.map pk, y.1 ≠ paneV rk f (f + size) := fun y hy e => by
                  obtain ⟨x, hx, rfl⟩ := List.mem_map.1 hy
                  have e2 : paneV x.1.key x.1.from_ x.1.to = paneV rk f (f + size) := e
                  unfold paneV at e2
                  injection e2 with e2
                  injection e2 with e2
                  injection e2 with e3 e4
                  injection e4 with e4 e5
                  injection e3 with e3
                  injection e4 with _ e4
                  exact hno' x hx ⟨e3, e4⟩
                have hlook := hPW.map.look_miss paneT Try.underlying74 (z := .pointer none) (by kernel_rfl) hkk hnk false
                have hwz : (wr.alloc (.cells #[.string rk, .int .i64 f, .int .i64 (f + size), .int .i64 0, .int .i64 0, .int .i64 0] 31)).heap.size = wr.heap.size + 1 := by simp
                obtain ⟨W, hW⟩ : ∃ W, W = wr.alloc (.cells #[.string rk, .int .i64 f, .int .i64 (f + size), .int .i64 0, .int .i64 0, .int .i64 0] 31) := ⟨_, rfl⟩
                have w0 := cell_of_row (wr.alloc (.cells #[.string rk, .int .i64 f, .int .i64 (f + size), .int .i64 0, .int .i64 0, .int .i64 0] 31)) pr 0 _ _ _ hXW
                have w1' := cell_of_row (wr.alloc (.cells #[.string rk, .int .i64 f, .int .i64 (f + size), .int .i64 0, .int .i64 0, .int .i64 0] 31)) pr 1 _ _ _ hXW
                simp only [show ∀ (a b c : Value), (#[a, b, c] : Array Value)[0]? = some a from fun _ _ _ => rfl, show ∀ (a b c : Value), (#[a, b, c] : Array Value)[1]? = some b from fun _ _ _ => rfl] at w0 w1'
                have hPW2 := hPW.below ((Below.refl _ _).alloc (Nat.le_refl _) (.cells #[.string rk, .int .i64 f, .int .i64 (f + size), .int .i64 0, .int .i64 0, .int .i64 0] 31))
                have hst := hPW2.map.store_new paneT Try.underlying74 (.pointer (some ⟨wr.heap.size + 1, 0, none⟩)) hkk hnk
                have hW2n : ((wr.alloc (.cells #[.string rk, .int .i64 f, .int .i64 (f + size), .int .i64 0, .int .i64 0, .int .i64 0] 31)).alloc (.cells #[.string rk, .int .i64 f, .int .i64 (f + size), .int .i64 0, .int .i64 0, .int .i64 0] 31)).heap[wr.heap.size + 1]? = some (paneObj ⟨rk, f, f + size, 0, 0, 0⟩) := by
                  have := heap_alloc_new (wr.alloc (.cells #[.string rk, .int .i64 f, .int .i64 (f + size), .int .i64 0, .int .i64 0, .int .i64 0] 31)) (.cells #[.string rk, .int .i64 f, .int .i64 (f + size), .int .i64 0, .int .i64 0, .int .i64 0] 31)
                  rw [hwz] at this; exact this
                have hBW2 := hBW.alloc (by simp; omega) (.cells #[.string rk, .int .i64 f, .int .i64 (f + size), .int .i64 0, .int .i64 0, .int .i64 0] 31)
                have hXW2 : ((wr.alloc (.cells #[.string rk, .int .i64 f, .int .i64 (f + size), .int .i64 0, .int .i64 0, .int .i64 0] 31)).alloc (.cells #[.string rk, .int .i64 f, .int .i64 (f + size), .int .i64 0, .int .i64 0, .int .i64 0] 31)).heap[pr]? = some (.cells #[.string rk, .int .i64 rn, .int .i64 rt] 29 (0, 0)) := (Below.heap_alloc _ _ _ (block_lt hXW)).trans hXW
                have hsz2 : ((wr.alloc (.cells #[.string rk, .int .i64 f, .int .i64 (f + size), .int .i64 0, .int .i64 0, .int .i64 0] 31)).alloc (.cells #[.string rk, .int .i64 f, .int .i64 (f + size), .int .i64 0, .int .i64 0, .int .i64 0] 31)).heap.size = wr.heap.size + 1 + 1 := by simp
                have HST := Lib.hid hst
                have HW2N := Lib.hid hW2n
                have HBW2 := Lib.hid hBW2
                have HXW2 := Lib.hid hXW2
                have HPW2 := Lib.hid hPW2
                have HSZ2 := Lib.hid hsz2
                clear hst hW2n hBW2 hXW2 hPW2 hsz2
                have HPW := Lib.hid hPW
                have HXW := Lib.hid hXW
                have HBW := Lib.hid hBW
                have HLK := Lib.hid hlook
                have HKK := Lib.hid hkk
                have HNK := Lib.hid hnk
                have HADD := Lib.hid hadd
                have hBD' := addPane_bnd (size := size) (mark := mk) (num := rn) (f := f) (k := rk) HBD.out.1 hap'
                have HBD' : Hid (∀ g : Nat, Bnd (K + (j + 1)) ((qs ++ [(bump mk rn ⟨rk, f, f + size, 0, 0, 0⟩, g)]).map (·.1)) ∧ (qs ++ [(bump mk rn ⟨rk, f, f + size, 0, 0, 0⟩, g)]).length ≤ K + (j + 1)) := fun g => ⟨by rw [hadd g] at hBD'; exact hBD', by have := HBD.out.2; simp; omega⟩
                have hlt : ∀ x ∈ qs, x.2 < wr.heap.size := HP.out.lt
                have HLT := Lib.hid hlt
                have hbl : b < wr.heap.size := HP.out.map.lt
                have hpl : pr < wr.heap.size := block_lt HX.out
                clear hno hno' hadd hPW hXW hBW hkk hnk hlook hW W hap' hto' hBD' HBD HP HX HB hlt
                go_wp2_with (first | (at_lookup; refine wpList_lookup_M rfl _ _ 74 false rfl _ _ _ rfl rfl HLK.out ?_) | (at_mapUpdate; refine wpList_store_M _ rfl _ _ _ 74 rfl 31 75 IsPaneK b (paneV rk f (f + size)) (.pointer (some ⟨wr.heap.size + 1, 0, none⟩)) rfl rfl rfl _ HST.out ?_))
                intro w3 hm3 hg3 hz3
                have hsz3 := HSZ2.out
                have hgn : w3.heap[wr.heap.size + 1]? = some (paneObj ⟨rk, f, f + size, 0, 0, 0⟩) := (hg3.block _ (by omega) (by intro e; injection e with e; omega)).trans HW2N.out
                have hX3 := (hg3.block pr (by omega) (by intro e; injection e with e; omega)).trans HXW2.out
                have hB3 := HBW2.out.grown hg3 (by omega) (fun k e => by injection e with e; omega)
                have hP3 := HPW2.out.push (p := ⟨rk, f, f + size, 0, 0, 0⟩) hm3 hgn (fun k hk h1 _ => hg3.block k hk (by intro e; injection e with e; exact h1 e)) (fun x hx => by have := HLT.out x hx; omega)
                have hcw : ∀ i, w3.cell? ⟨wr.heap.size + 1, i, none⟩ = (#[.string rk, .int .i64 f, .int .i64 (f + size), .int .i64 0, .int .i64 0, .int .i64 0] : Array Value)[i]? := fun i => cell_of_row _ _ i _ _ _ hgn
                have q2 := hcw 2
                have q3 := hcw 3
                have q4 := hcw 4
                have q5 := hcw 5
                have hfz : ∀ i, w3.frozen? ⟨wr.heap.size + 1, i, none⟩ = false := fun i => by simp [World.frozen?, hgn, paneObj]
                have z3 := hfz 3
                have z4 := hfz 4
                have z5 := hfz 5
                have y1 := cell_of_row w3 pr 1 _ _ _ hX3
                simp at q2 q3 q4 q5 y1
                have HGN := Lib.hid hgn
                have HX3 := Lib.hid hX3
                have HB3 := Lib.hid hB3
                have HP3 := Lib.hid hP3
                have hgb : w.heap.size ≤ wr.heap.size + 1 := by omega
                have hgp : wr.heap.size + 1 ≠ pr := by omega
                have HHG := Lib.hid (show ∀ (p : Pane), ∀ x ∈ qs ++ [(p, wr.heap.size + 1)], w.heap.size ≤ x.2 ∧ x.2 ≠ pr from fun p x hx => by
                  rcases List.mem_append.1 hx with hx | hx
                  · exact HG.out x hx
                  · rw [List.mem_singleton.1 hx]; exact ⟨hgb, hgp⟩)
                obtain ⟨gn, hgne⟩ : ∃ gn, gn = wr.heap.size + 1 := ⟨_, rfl⟩
                rw [← hgne] at q2 q3 q4 q5 z3 z4 z5 HGN HP3 hgb hgp HHG ⊢
                clear hm3 hg3 hz3 hsz3 hgn hX3 hB3 hP3 hcw hfz hgne HST HW2N HBW2 HXW2 HPW2 HSZ2 HPW HXW HBW HLK HKK HNK HLT HG hwz hbl hpl
                by_cases hlate : f + size ≤ mk
                · have HBU := Lib.hid (show bump mk rn ⟨rk, f, f + size, 0, 0, 0⟩ = ⟨rk, f, f + size, 0, 0, 0 + 1⟩ by unfold bump; rw [if_pos hlate])
                  go_wp2_with fail
                  go_roundg ((f - by_ + 1).toNat)
                  case measure => have := HG2.out; omega
                  case rel =>
                    refine ⟨j + 1, f - by_, qs ++ [(⟨rk, f, f + size, 0, 0, 0 + 1⟩, gn)], rfl, by go_num, by omega, by omega, by omega, HF'.out, HL'.out, ?_, ?_, HHG.out _, ?_, ?_, ?_⟩
                    · show _ = _; rw [HQ'.out, HADD.out gn, HBU.out]
                    · exact HP3.out.turn ⟨rfl, rfl, rfl⟩ (setCell_obj HGN.out _) (fun k _ hne => Below.heap_setCell _ _ _ _ hne)
                    · rw [← HBU.out]; exact HBD'.out gn
                    · exact (Below.heap_setCell _ _ _ _ (fun e => hgp e.symm)).trans HX3.out
                    · exact HB3.out.setCell hgb _
                · have HBU := Lib.hid (show bump mk rn ⟨rk, f, f + size, 0, 0, 0⟩ = ⟨rk, f, f + size, 0 + 1, IntKind.i64.wrap (0 + rn), 0⟩ by unfold bump; rw [if_neg hlate])
                  have g3 := setCell_obj (i := 3) HGN.out (.int .i64 1)
                  have k3 : ∀ k, k ≠ gn → (w3.setCell ⟨gn, 3, none⟩ (.int .i64 1)).heap[k]? = w3.heap[k]? := fun k hne => Below.heap_setCell _ _ _ _ hne
                  have b3 := HB3.out.setCell (p := ⟨gn, 3, none⟩) hgb (.int .i64 1)
                  go_wp2_with fail
                  obtain ⟨W3, hW3⟩ : ∃ W3, W3 = w3.setCell ⟨gn, 3, none⟩ (.int .i64 1) := ⟨_, rfl⟩
                  rw [← hW3] at g3 k3 b3 ⊢
                  have yy4 := cell_of_row W3 gn 4 _ _ _ g3
                  have yyf : W3.frozen? ⟨gn, 4, none⟩ = false := by simp [World.frozen?, g3]
                  have yy1 := cell_of_row W3 pr 1 _ _ _ ((k3 pr hgp.symm).trans HX3.out)
                  have hP4 := HP3.out.turn (s2 := []) (p' := ⟨rk, f, f + size, 0 + 1, 0, 0⟩) ⟨rfl, rfl, rfl⟩ g3 (fun k _ hne => k3 k hne)
                  have hX4 := (k3 pr hgp.symm).trans HX3.out
                  simp at yy4 yy1
                  have G3 := Lib.hid g3
                  have P3 := Lib.hid hP4
                  have X3 := Lib.hid hX4
                  have B3 := Lib.hid b3
                  clear g3 k3 b3 hW3 hP4 hX4 HGN HX3 HB3 HP3 q2 q3 q4 q5 z3 z4 z5 y1
                  go_region
                  all_goals
                    go_wp2_with fail
                    go_roundg ((f - by_ + 1).toNat)
                    case measure => have := HG2.out; omega
                    case rel =>
                      refine ⟨j + 1, f - by_, qs ++ [(⟨rk, f, f + size, 0 + 1, IntKind.i64.wrap (0 + rn), 0⟩, gn)], rfl, by go_num, by omega, by omega, by omega, HF'.out, HL'.out, ?_, ?_, HHG.out _, ?_, ?_, ?_⟩
                      · show _ = _; rw [HQ'.out, HADD.out gn, HBU.out]
                      · have hwr : wrap64 rn = IntKind.i64.wrap (0 + rn) := by rw [Int.zero_add]; exact (IntWalk.i64_left _).symm
                        rw [← hwr]
                        exact P3.out.turn (s2 := []) (w' := (W3.setCell ⟨gn, 4, none⟩ (.int .i64 (wrap64 rn))).drew) ⟨rfl, rfl, rfl⟩ (setCell_obj G3.out _) (fun k _ hne => Below.heap_setCell _ _ _ _ hne)
                      · rw [← HBU.out]; exact HBD'.out gn
                      · exact (Below.heap_setCell _ _ _ _ (fun e => hgp e.symm)).trans X3.out
                      · exact (B3.out.setCell hgb _).drew
            · have hfin : lapsN size by_ rt = j := lapsN_eq hb1 ht1 HL.out (by rw [HLAP.out]; by_cases h : 0 ≤ f; simp [h]; omega; simp [h])
              have hjt : j ≤ 1000001 := hj
              have HFIN := Lib.hid hfin
              have HGG := Lib.hid (show ∀ x ∈ qs, w.heap.size ≤ x.2 from fun x hx => (HG.out x hx).1)
              by_cases h : 0 ≤ f
              · have h2 : ¬ rt < f + size := fun h2 => hc ⟨h, h2⟩
                have hd1 : decide (0 ≤ f) = true := decide_eq_true h
                have hd2 : decide (rt < f + size) = false := decide_eq_false h2
                clear hc hfin HF HL HLAP
                go_wp2_with fail
                go_meet
                case rel => exact ⟨K + j, qs, by omega, by show _ = _; rw [HFIN.out]; exact HQ.out, HP, HGG, HBD, HX, HB⟩
              · have hd1 : decide (0 ≤ f) = false := decide_eq_false h
                clear hc hfin HF HL HLAP
                go_wp2_with fail
                go_meet
                case rel => exact ⟨K + j, qs, by omega, by show _ = _; rw [HFIN.out]; exact HQ.out, HP, HGG, HBD, HX, HB⟩
        case rest =>
          clear HREL0 HX HG HGR HBD
          obtain ⟨K2, qs, hK2, HQ, HP, HG, HBD, HX, HB⟩ := hcut
          have r2 := cell_of_row _ pr 2 _ _ _ HX.out
          simp at r2
          have hm' : slideStep size by_ slack (mk, ps.map (·.1)) ⟨rk, rn, rt⟩ = (max mk (rt - slack), qs.map (·.1)) := by rw [HQ.out]; rfl
          have HM' := Lib.hid hm'
          clear hm'
          by_cases hmx : mk ≤ rt - slack
          · have hmax : max mk (rt - slack) = rt - slack := by omega
            have HMX := Lib.hid hmax
            clear hmax
            go_wp2_with fail
            go_roundg (l.length - (k + 1))
            case measure => have := HGK.out; omega
            case rel => exact ⟨k + 1, K2, rt - slack, qs, by omega, hK2, rfl, by go_num, by rw [HMX.out], by omega, by omega, by show _ = _; rw [HTK.out, HM'.out, HMX.out], HP, HG, HBD, HB⟩
          · have hmax : max mk (rt - slack) = mk := by omega
            have HMX := Lib.hid hmax
            clear hmax
            go_wp2_with fail
            go_roundg (l.length - (k + 1))
            case measure => have := HGK.out; omega
            case rel => exact ⟨k + 1, K2, mk, qs, by omega, hK2, rfl, by go_num, by rw [HMX.out], by omega, by omega, by show _ = _; rw [HTK.out, HM'.out, HMX.out], HP, HG, HBD, HB⟩
      · obtain rfl : k = l.length := by omega
        have hfin : slideAll size by_ slack l = (mk, ps.map (·.1)) := by rw [← HS.out, List.take_length]
        have hps : ps.length ≤ 1000000000 := by have := HBD.out.2; omega
        have HFIN := Lib.hid hfin
        clear hfin
        go_wp2_with fail
        refine (sorted_any b ps _ HP.out hps).mono ?_
        rintro e w3 ⟨A', c', q, rfl, hq1, hq2, hq3, hq4⟩
        have HQ1 := Lib.hid hq1
        have HQ2 := Lib.hid hq2
        have HQ3 := Lib.hid hq3
        have HQ4 := Lib.hid (HB.out.trans (hq4.mono HB.out.size))
        clear hq1 hq2 hq3 hq4
        go_wp2_with fail
        go_ret2
        exact ⟨A', c', q, rfl, by rw [HFIN.out]; exact HQ1.out, HQ2.out, HQ3.out, HQ4.out⟩
  · exact absurd HK.out hn

/-! ### What is refused -/
def Refused (w : World) (e : Ending) (w' : World) : Prop := (∃ k : Int, k ≠ 0 ∧ e = .returned (.tuple #[.slice none 0 0, .iface 73 (.int .i64 k)])) ∧ Below w.heap.size w w'
set_option maxRecDepth 100000 in
theorem slide_items (A : Option Addr) (c : Nat) (l : List Rec) (size by_ slack : Int) (w : World) (hl : SlA recE (· < w.heap.size) w A c l) (hok : ¬ AllOk l) :
    Calls Try.prog 8 #[.slice A l.length c, .int .i64 size, .int .i64 by_, .int .i64 slack] w (Refused w) := by
  have H := Lib.hid hl
  have HK := Lib.hid hok
  by_cases hn : l.length ≤ 400
  · clear hl hok
    go_enter Try.func8, Try.ntmps8
    go_wp2_with fail
    refine (check_loop A c l _ H.out hn).mono ?_
    rintro e w1 ⟨⟨hy, rfl⟩ | ⟨-, rfl⟩, hb⟩
    · exact absurd hy HK.out
    · have HB := Lib.hid hb
      clear hb
      go_wp2_with fail
      go_ret2
      exact ⟨⟨1, by decide, rfl⟩, HB.out⟩
  · have hn' : 400 < l.length := by omega
    clear hl hok hn
    go_enter Try.func8, Try.ntmps8
    go_wp2_with fail
    refine (check_full A c l _ H.out hn').mono ?_
    rintro e w1 ⟨rfl, hb⟩
    have HB := Lib.hid hb
    clear hb
    go_wp2_with fail
    go_ret2
    exact ⟨⟨4, by decide, rfl⟩, HB.out⟩
end Go.Proofs.Ytdnmdekmgbgioaa
