/-
  Several texts of this claim in one, in build order; each begins with its own remark, which says what it proves and under which conditions.
-/
import Derived.Test.YtcmhbhdiepkndaaGreatDoorPackF
import Derived.Test.YtcmhbhdiepkndaaGreatDoorPackG
import Derived.Deep.RegionHeld3
import Derived.Deep.CutRange
import Derived.Test.YtcmhbhdiepkndaaGreatDoorPackA
import Derived.Shelf.SlSortCmp.NoneTotal
import Derived.Sort.Walk0
import Derived.WalkLawsBesides

/-
  Package den: the contract of Apply, kind by kind (printed by denapply.py). Conditions: the node's text is a string's, the numbers are ints, the two variables of Atoi's errors hold errors.
-/
namespace Go.Proofs.YtcmhbhdiepkndaaGreatDoor
open Go.RowKit Go.Shelf
set_option linter.unusedVariables false

theorem info_recA : (Tryz.prog.info? 30).map (fun i => (i.zero, i.size, i.bytes)) = some (some (.agg #[.string ByteArray.empty, .int .i64 0, .int .i64 0]), 3, 32) := by kernel_rfl
def repR (r : Rec) (i : Nat) : List Rec := (List.replicate i (passR r)).flatten
theorem passR_len (r : Rec) : (passR r).length ≤ 1 := by unfold passR; split <;> simp
theorem repR_succ (r : Rec) (i : Nat) : repR r (i + 1) = repR r i ++ passR r := by unfold repR; rw [List.replicate_succ', List.flatten_append]; simp
theorem repR_len (r : Rec) : ∀ i, (repR r i).length ≤ i := by
  intro i
  induction i with
  | zero => exact Nat.le_refl _
  | succ i ih => rw [repR_succ, List.length_append]; have := passR_len r; omega
set_option maxRecDepth 100000 in
set_option maxHeartbeats 1000000 in
theorem dapply_copy_has (n : Nod) (A0 : Option Addr) (c0 : Nat) (h : Hld) (r : Rec) (input : Int) (w : World) (hv : ErrVars w) (hsz : n.text.size ≤ maxLen) (hr : RecOk r) (hi : I64 h.a ∧ I64 h.b) (hk : n.kind = 5) (hi_n : I64 n.n) :
    Calls Tryz.prog 40 #[.agg #[.int .i64 n.kind, .slice A0 n.from_.length c0, .string n.text, .int .i64 n.n], hldV h, .bool true, recV r, .int .i64 input] w (AppPost (applyN n h true r input) w) := by
  obtain ⟨kind, from_, text, nn⟩ := n
  obtain ⟨hn, hkey, ha, hb⟩ := h
  obtain ⟨key, num, time⟩ := r
  simp only at hk hsz hi hi_n
  subst hk
  have HP : Hid (applyN ⟨5, from_, text, nn⟩ ⟨hn, hkey, ha, hb⟩ true ⟨key, num, time⟩ input = ⟨(List.replicate (min 3 nn).toNat (passR ⟨key, num, time⟩)).flatten, ⟨0, key, ha, hb⟩, true⟩) := rfl
  show Calls _ _ #[.agg #[.int .i64 5, .slice A0 from_.length c0, .string text, .int .i64 nn], .agg #[.int .i64 hn, .string hkey, .int .i64 ha, .int .i64 hb], .bool true, .agg #[.string key, .int .i64 num, .int .i64 time], .int .i64 input] w _
  have HR := Lib.hid hr
  have HV := Lib.hid hv
  have HI := Lib.hid hi
  clear hr hv hi
  go_enter Tryz.func40, Tryz.ntmps40
  go_upto_region 3 with (fail)
  go_region
  go_upto_region 6 with (fail)
  have hV := Vars.mk_ w (.int .i64 5) (.slice A0 from_.length c0) (.string text) (.int .i64 nn) ⟨0, key, ha, hb⟩ ⟨key, num, time⟩
  generalize ((((w.alloc _).alloc _).alloc _).alloc _).drew = W1 at hV ⊢
  generalize w.heap.size + 1 + 1 + 1 = b3 at hV ⊢
  generalize w.heap.size + 1 + 1 = b2 at hV ⊢
  generalize w.heap.size + 1 = b1 at hV ⊢
  generalize w.heap.size = b0 at hV ⊢
  obtain ⟨⟨n0, n2, n3⟩, ⟨h10, h11, h12, h13, h1f⟩, ⟨r0, r1, r2, rf⟩, ⟨_, _, _, _, s0, s1, s2, s3⟩, sf⟩ := hV.cells
  have HW := Lib.hid hV
  clear hV
  obtain ⟨q, hq⟩ : ∃ q : Int, q = min 3 nn := ⟨_, rfl⟩
  obtain ⟨m, hm⟩ : ∃ m : Nat, m = q.toNat := ⟨_, rfl⟩
  have HU : Hid ((List.replicate (min 3 nn).toNat (passR ⟨key, num, time⟩)).flatten = repR ⟨key, num, time⟩ m) := by show _ = _; rw [hm, hq]; rfl
  have hm3 : m ≤ 3 := by omega
  have hqm : ∀ i : Nat, (i : Int) < q ↔ i < m := by omega
  have HN := Lib.hid hi_n
  have HQ := Lib.hid hq
  clear hm hi_n hq
  have HRW := Lib.hid (repR_len ⟨key, num, time⟩)
  go_upto_region 20 with (fail)
  have hqv : (Builtin.min_ #[3, 3] 3 #[.int .i64 3, .int .i64 nn]).run Tryz.prog W1 = .ok (.int .i64 q) W1 := by rw [HQ.out]; simp [Builtin.min_, Builtin.min2]; omega
  go_wp2_with fail
  go_loopw [85, 14] (fun iv ov wr => ∃ (i : Nat) (A : Option Addr) (c : Nat), i ≤ m ∧ iv = .int .i64 i ∧ ov = .slice A (repR ⟨key, num, time⟩ i).length c ∧ Hid (OwnS wr 30 3 A c (repR ⟨key, num, time⟩ i).length ((repR ⟨key, num, time⟩ i).flatMap recCells)) ∧ Hid (∀ k, blk A = some k → W1.heap.size ≤ k) ∧ Hid (Below W1.heap.size W1 wr)) (fun iv _ _ => m - (intOf iv).toNat)
  case atStart => exact ⟨0, none, 0, Nat.zero_le _, rfl, rfl, OwnS.nil _ _ _, nofun, Below.refl _ _⟩
  case round =>
    clear n0 n2 n3 h10 h11 h12 h13 h1f r0 r1 r2 rf s0 s1 s2 s3 sf
    obtain ⟨i, A, c, hi, rfl, rfl, HO, HBL, HB⟩ := hrel
    have hV4 := HW.out.next HB.out
    obtain ⟨⟨n0, n2, n3⟩, ⟨h10, h11, h12, h13, h1f⟩, ⟨r0, r1, r2, rf⟩, ⟨_, _, _, _, s0, s1, s2, s3⟩, sf⟩ := hV4.cells
    by_cases hlt : i < m
    · have di : decide ((i : Int) < q) = true := decide_eq_true ((hqm i).2 hlt)
      have hlen := HRW.out i
      go_wp2_with fail
      refine (dpass_ok ⟨key, num, time⟩ wr (HR.out.1)).mono ?_
      rintro e w4 ⟨A2, c2, rfl, ho, hbl, hb4⟩
      have HO4 := Lib.hid (HO.out.keep (fun k hk => hb4.block k (HO.out.lt k hk)))
      have hsl := own_recs (F := fun _ => True) ho rfl (fun _ _ => trivial) (fun x hx => by
        have : x = ⟨key, num, time⟩ := by
          unfold passR at hx
          split at hx
          · cases hx
          · exact List.mem_singleton.1 hx
        rw [this]; exact HR.out)
      have HSRC := Lib.hid (src_recs hsl Tryz.underlying22)
      have hpl := passR_len ⟨key, num, time⟩
      have HB4 := Lib.hid (HB.out.trans (hb4.mono HB.out.size))
      have HSUC := Lib.hid (repR_succ ⟨key, num, time⟩ i)
      clear ho hbl hb4 hsl hV4 HO HB
      generalize passR ⟨key, num, time⟩ = pr at HSRC hpl HSUC ⊢
      go_wp2_with (at_builtin; refine wpList_append_S rfl _ _ 22 22 rfl 30 _ 3 32 Tryz.underlying22 info_recA rfl (by decide) A c _ _ rfl HO4.out _ rfl pr.length (pr.flatMap recCells) HSRC.out (by unfold maxLen; omega) (by omega) ?_)
      intro A' cap' w5 ho5 hg5 hat5
      have HB5 : Hid (Below W1.heap.size W1 w5) := (Frm.trans (F := fun _ => False) (Frm.ofBelow HB4.out) (Frm.ofGrown (F := fun k => W1.heap.size ≤ k) hg5 (fun k e => HBL.out k e)) (G := fun k => W1.heap.size ≤ k) (fun _ h => h.elim) (fun _ h => .inl h)).below (Nat.le_refl _) (fun _ h => h)
      have HBL5 : Hid (∀ k, blk A' = some k → W1.heap.size ≤ k) := fun k hk => by
        rcases hat5 with e | e
        · rw [e] at hk; exact HBL.out k hk
        · rw [e] at hk; injection hk with hk; subst hk; exact HB4.out.size
      have HO5 : Hid (OwnS w5 30 3 A' cap' (repR ⟨key, num, time⟩ (i + 1)).length ((repR ⟨key, num, time⟩ (i + 1)).flatMap recCells)) := by
        show OwnS _ _ _ _ _ _ _
        rw [HSUC.out, List.length_append, List.flatMap_append]; exact ho5
      have hlen5 : (repR ⟨key, num, time⟩ i).length + pr.length = (repR ⟨key, num, time⟩ (i + 1)).length := by rw [HSUC.out, List.length_append]
      clear ho5 hg5 hat5 HO4 HSRC HBL HB4 n0 n2 n3 h10 h11 h12 h13 h1f r0 r1 r2 rf s0 s1 s2 s3 sf
      rw [hlen5]
      go_wp2_with fail
      go_roundw
      case rel => exact ⟨i + 1, A', cap', by omega, by go_num, rfl, HO5, HBL5, HB5⟩
      case measure => simp [intOf]; omega
    · have di : decide ((i : Int) < q) = false := decide_eq_false (fun h => hlt ((hqm i).1 h))
      have him : i = m := by omega
      subst him
      have hV9 := HW.out.next HB.out
      have HLT := Lib.hid HW.out.lt3
      have HLW := Lib.hid HW.out.below.size
      have HLB := Lib.hid HW.out.lt1
      have HLB := Lib.hid HW.out.lt1
      clear n0 n2 n3 h10 h11 h12 h13 h1f r0 r1 r2 rf s0 s1 s2 s3 sf hV4 HW HB HRW
      obtain ⟨⟨n0, n2, n3⟩, ⟨h10, h11, h12, h13, h1f⟩, ⟨r0, r1, r2, rf⟩, ⟨_, _, _, _, s0, s1, s2, s3⟩, sf⟩ := hV9.cells
      have HW := Lib.hid hV9
      clear hV9
      go_upto_region 46 with (fail)
      go_region
      have hF := HW.out.fin HO.out HBL.out HLT.out HLW.out 0 (key) (ha) (hb)
      clear HW n0 n2 n3 h10 h11 h12 h13 h1f r0 r1 r2 rf s0 s1 s2 s3 sf HO HBL
      generalize ((((wr.setCell ⟨b3, 0, none⟩ _).setCell _ _).setCell _ _).setCell _ _).drew = W5 at hF ⊢
      obtain ⟨hh, h1, h2, h3⟩ := hF
      obtain ⟨s0, s1, s2, s3, sf⟩ := hh.cells
      have HX := Lib.hid (And.intro h1 (And.intro h2 h3))
      clear h1 h2 h3 hh
      go_wp2_with fail
      refine bodyPost_ret (v := .tuple #[.slice A (repR ⟨key, num, time⟩ i).length c, .agg #[.int .i64 0, .string (key), .int .i64 (ha), .int .i64 (hb)], .bool true]) (by simp [results, Tryz.results40, go_sem, s0, s1, s2, s3]) rfl ?_
      rw [HP.out, HU.out]
      exact ⟨A, c, rfl, HX.out⟩
set_option maxRecDepth 100000 in
set_option maxHeartbeats 1000000 in
theorem dapply_copy_new (n : Nod) (A0 : Option Addr) (c0 : Nat) (h : Hld) (r : Rec) (input : Int) (w : World) (hv : ErrVars w) (hsz : n.text.size ≤ maxLen) (hr : RecOk r) (hi : I64 h.a ∧ I64 h.b) (hk : n.kind = 5) (hi_n : I64 n.n) :
    Calls Tryz.prog 40 #[.agg #[.int .i64 n.kind, .slice A0 n.from_.length c0, .string n.text, .int .i64 n.n], hldV h, .bool false, recV r, .int .i64 input] w (AppPost (applyN n h false r input) w) := by
  obtain ⟨kind, from_, text, nn⟩ := n
  obtain ⟨hn, hkey, ha, hb⟩ := h
  obtain ⟨key, num, time⟩ := r
  simp only at hk hsz hi hi_n
  subst hk
  have HP : Hid (applyN ⟨5, from_, text, nn⟩ ⟨hn, hkey, ha, hb⟩ false ⟨key, num, time⟩ input = ⟨(List.replicate (min 3 nn).toNat (passR ⟨key, num, time⟩)).flatten, zeroH, false⟩) := rfl
  show Calls _ _ #[.agg #[.int .i64 5, .slice A0 from_.length c0, .string text, .int .i64 nn], .agg #[.int .i64 hn, .string hkey, .int .i64 ha, .int .i64 hb], .bool false, .agg #[.string key, .int .i64 num, .int .i64 time], .int .i64 input] w _
  have HR := Lib.hid hr
  have HV := Lib.hid hv
  have HI := Lib.hid hi
  clear hr hv hi
  go_enter Tryz.func40, Tryz.ntmps40
  go_upto_region 3 with (fail)
  go_region
  go_upto_region 6 with (fail)
  have hV := Vars.mk_ w (.int .i64 5) (.slice A0 from_.length c0) (.string text) (.int .i64 nn) ⟨0, key, 0, 0⟩ ⟨key, num, time⟩
  generalize ((((w.alloc _).alloc _).alloc _).alloc _).drew = W1 at hV ⊢
  generalize w.heap.size + 1 + 1 + 1 = b3 at hV ⊢
  generalize w.heap.size + 1 + 1 = b2 at hV ⊢
  generalize w.heap.size + 1 = b1 at hV ⊢
  generalize w.heap.size = b0 at hV ⊢
  obtain ⟨⟨n0, n2, n3⟩, ⟨h10, h11, h12, h13, h1f⟩, ⟨r0, r1, r2, rf⟩, ⟨_, _, _, _, s0, s1, s2, s3⟩, sf⟩ := hV.cells
  have HW := Lib.hid hV
  clear hV
  obtain ⟨q, hq⟩ : ∃ q : Int, q = min 3 nn := ⟨_, rfl⟩
  obtain ⟨m, hm⟩ : ∃ m : Nat, m = q.toNat := ⟨_, rfl⟩
  have HU : Hid ((List.replicate (min 3 nn).toNat (passR ⟨key, num, time⟩)).flatten = repR ⟨key, num, time⟩ m) := by show _ = _; rw [hm, hq]; rfl
  have hm3 : m ≤ 3 := by omega
  have hqm : ∀ i : Nat, (i : Int) < q ↔ i < m := by omega
  have HN := Lib.hid hi_n
  have HQ := Lib.hid hq
  clear hm hi_n hq
  have HRW := Lib.hid (repR_len ⟨key, num, time⟩)
  go_upto_region 20 with (fail)
  have hqv : (Builtin.min_ #[3, 3] 3 #[.int .i64 3, .int .i64 nn]).run Tryz.prog W1 = .ok (.int .i64 q) W1 := by rw [HQ.out]; simp [Builtin.min_, Builtin.min2]; omega
  go_wp2_with fail
  go_loopw [85, 14] (fun iv ov wr => ∃ (i : Nat) (A : Option Addr) (c : Nat), i ≤ m ∧ iv = .int .i64 i ∧ ov = .slice A (repR ⟨key, num, time⟩ i).length c ∧ Hid (OwnS wr 30 3 A c (repR ⟨key, num, time⟩ i).length ((repR ⟨key, num, time⟩ i).flatMap recCells)) ∧ Hid (∀ k, blk A = some k → W1.heap.size ≤ k) ∧ Hid (Below W1.heap.size W1 wr)) (fun iv _ _ => m - (intOf iv).toNat)
  case atStart => exact ⟨0, none, 0, Nat.zero_le _, rfl, rfl, OwnS.nil _ _ _, nofun, Below.refl _ _⟩
  case round =>
    clear n0 n2 n3 h10 h11 h12 h13 h1f r0 r1 r2 rf s0 s1 s2 s3 sf
    obtain ⟨i, A, c, hi, rfl, rfl, HO, HBL, HB⟩ := hrel
    have hV4 := HW.out.next HB.out
    obtain ⟨⟨n0, n2, n3⟩, ⟨h10, h11, h12, h13, h1f⟩, ⟨r0, r1, r2, rf⟩, ⟨_, _, _, _, s0, s1, s2, s3⟩, sf⟩ := hV4.cells
    by_cases hlt : i < m
    · have di : decide ((i : Int) < q) = true := decide_eq_true ((hqm i).2 hlt)
      have hlen := HRW.out i
      go_wp2_with fail
      refine (dpass_ok ⟨key, num, time⟩ wr (HR.out.1)).mono ?_
      rintro e w4 ⟨A2, c2, rfl, ho, hbl, hb4⟩
      have HO4 := Lib.hid (HO.out.keep (fun k hk => hb4.block k (HO.out.lt k hk)))
      have hsl := own_recs (F := fun _ => True) ho rfl (fun _ _ => trivial) (fun x hx => by
        have : x = ⟨key, num, time⟩ := by
          unfold passR at hx
          split at hx
          · cases hx
          · exact List.mem_singleton.1 hx
        rw [this]; exact HR.out)
      have HSRC := Lib.hid (src_recs hsl Tryz.underlying22)
      have hpl := passR_len ⟨key, num, time⟩
      have HB4 := Lib.hid (HB.out.trans (hb4.mono HB.out.size))
      have HSUC := Lib.hid (repR_succ ⟨key, num, time⟩ i)
      clear ho hbl hb4 hsl hV4 HO HB
      generalize passR ⟨key, num, time⟩ = pr at HSRC hpl HSUC ⊢
      go_wp2_with (at_builtin; refine wpList_append_S rfl _ _ 22 22 rfl 30 _ 3 32 Tryz.underlying22 info_recA rfl (by decide) A c _ _ rfl HO4.out _ rfl pr.length (pr.flatMap recCells) HSRC.out (by unfold maxLen; omega) (by omega) ?_)
      intro A' cap' w5 ho5 hg5 hat5
      have HB5 : Hid (Below W1.heap.size W1 w5) := (Frm.trans (F := fun _ => False) (Frm.ofBelow HB4.out) (Frm.ofGrown (F := fun k => W1.heap.size ≤ k) hg5 (fun k e => HBL.out k e)) (G := fun k => W1.heap.size ≤ k) (fun _ h => h.elim) (fun _ h => .inl h)).below (Nat.le_refl _) (fun _ h => h)
      have HBL5 : Hid (∀ k, blk A' = some k → W1.heap.size ≤ k) := fun k hk => by
        rcases hat5 with e | e
        · rw [e] at hk; exact HBL.out k hk
        · rw [e] at hk; injection hk with hk; subst hk; exact HB4.out.size
      have HO5 : Hid (OwnS w5 30 3 A' cap' (repR ⟨key, num, time⟩ (i + 1)).length ((repR ⟨key, num, time⟩ (i + 1)).flatMap recCells)) := by
        show OwnS _ _ _ _ _ _ _
        rw [HSUC.out, List.length_append, List.flatMap_append]; exact ho5
      have hlen5 : (repR ⟨key, num, time⟩ i).length + pr.length = (repR ⟨key, num, time⟩ (i + 1)).length := by rw [HSUC.out, List.length_append]
      clear ho5 hg5 hat5 HO4 HSRC HBL HB4 n0 n2 n3 h10 h11 h12 h13 h1f r0 r1 r2 rf s0 s1 s2 s3 sf
      rw [hlen5]
      go_wp2_with fail
      go_roundw
      case rel => exact ⟨i + 1, A', cap', by omega, by go_num, rfl, HO5, HBL5, HB5⟩
      case measure => simp [intOf]; omega
    · have di : decide ((i : Int) < q) = false := decide_eq_false (fun h => hlt ((hqm i).1 h))
      have him : i = m := by omega
      subst him
      have hV9 := HW.out.next HB.out
      have HLT := Lib.hid HW.out.lt3
      have HLW := Lib.hid HW.out.below.size
      have HLB := Lib.hid HW.out.lt1
      have HLB := Lib.hid HW.out.lt1
      clear n0 n2 n3 h10 h11 h12 h13 h1f r0 r1 r2 rf s0 s1 s2 s3 sf hV4 HW HB HRW
      obtain ⟨⟨n0, n2, n3⟩, ⟨h10, h11, h12, h13, h1f⟩, ⟨r0, r1, r2, rf⟩, ⟨_, _, _, _, s0, s1, s2, s3⟩, sf⟩ := hV9.cells
      have HW := Lib.hid hV9
      clear hV9
      go_upto_region 46 with (fail)
      have hV5 := HW.out.zero
      have ho5 : OwnS ((((wr.setCell ⟨b1, 0, none⟩ (.int .i64 0)).setCell ⟨b1, 1, none⟩ (.string ⟨#[]⟩)).setCell ⟨b1, 2, none⟩ (.int .i64 0)).setCell ⟨b1, 3, none⟩ (.int .i64 0)) 30 3 A c (repR ⟨key, num, time⟩ i).length ((repR ⟨key, num, time⟩ i).flatMap recCells) := HW.out.own_zero HO.out HBL.out HLB.out
      clear HW HO n0 n2 n3 h10 h11 h12 h13 h1f r0 r1 r2 rf s0 s1 s2 s3 sf
      generalize (((wr.setCell _ _).setCell _ _).setCell _ _).setCell _ _ = W6 at hV5 ho5 ⊢
      have HO := Lib.hid ho5
      clear ho5
      obtain ⟨⟨n0, n2, n3⟩, ⟨h10, h11, h12, h13, h1f⟩, ⟨r0, r1, r2, rf⟩, ⟨_, _, _, _, s0, s1, s2, s3⟩, sf⟩ := hV5.cells
      have HW := Lib.hid hV5
      clear hV5
      go_region
      have hF := HW.out.fin HO.out HBL.out HLT.out HLW.out 0 (⟨#[]⟩) (0) (0)
      clear HW n0 n2 n3 h10 h11 h12 h13 h1f r0 r1 r2 rf s0 s1 s2 s3 sf HO HBL
      generalize ((((W6.setCell ⟨b3, 0, none⟩ _).setCell _ _).setCell _ _).setCell _ _).drew = W5 at hF ⊢
      obtain ⟨hh, h1, h2, h3⟩ := hF
      obtain ⟨s0, s1, s2, s3, sf⟩ := hh.cells
      have HX := Lib.hid (And.intro h1 (And.intro h2 h3))
      clear h1 h2 h3 hh
      go_wp2_with fail
      refine bodyPost_ret (v := .tuple #[.slice A (repR ⟨key, num, time⟩ i).length c, .agg #[.int .i64 0, .string (⟨#[]⟩), .int .i64 (0), .int .i64 (0)], .bool false]) (by simp [results, Tryz.results40, go_sem, s0, s1, s2, s3]) rfl ?_
      rw [HP.out, HU.out]
      exact ⟨A, c, rfl, HX.out⟩
end Go.Proofs.YtcmhbhdiepkndaaGreatDoor

/-
  Package den: the contract of Apply at any node. Conditions: the node's text is a string's, the numbers are ints, the key is no longer than 40 bytes, the two variables of Atoi's errors hold errors, the table of powers of ten stands.
-/
namespace Go.Proofs.YtcmhbhdiepkndaaGreatDoor
open Go.RowKit Go.Shelf
set_option linter.unusedVariables false

/-- A record that flows. -/
def FlowR (r : Rec) : Prop := r.key.size ≤ 40 ∧ I64 r.num ∧ I64 r.time
theorem FlowR.ok {r : Rec} (h : FlowR r) : RecOk r := ⟨by unfold maxLen; have := h.1; omega, h.2.1, h.2.2⟩
theorem dapply_ok (n : Nod) (A0 : Option Addr) (c0 : Nat) (h : Hld) (has : Bool) (r : Rec) (input : Int) (w : World) (hv : ErrVars w) (hT : PowTab w) (hsz : n.text.size ≤ maxLen) (hn : I64 n.n) (hr : FlowR r) (hi : I64 h.a ∧ I64 h.b) (hin : I64_ input) :
    Calls Tryz.prog 40 #[.agg #[.int .i64 n.kind, .slice A0 n.from_.length c0, .string n.text, .int .i64 n.n], hldV h, .bool has, recV r, .int .i64 input] w (AppPost (applyN n h has r input) w) := by
  have hk := hr.1
  have hr := hr.ok
  by_cases h2 : n.kind = 2
  · cases has with
    | true => exact dapply_map_has n A0 c0 h r input w hv hsz hr hi h2
    | false => exact dapply_map_new n A0 c0 h r input w hv hsz hr hi h2
  by_cases h3 : n.kind = 3
  · by_cases hx : evalOf n.text r.num 0 = 0
    · cases has with
      | true => exact dapply_filtered_has n A0 c0 h r input w hv hsz hr hi h3 hx
      | false => exact dapply_filtered_new n A0 c0 h r input w hv hsz hr hi h3 hx
    · cases has with
      | true => exact dapply_filter_has n A0 c0 h r input w hv hsz hr hi h3 hx
      | false => exact dapply_filter_new n A0 c0 h r input w hv hsz hr hi h3 hx
  by_cases h4 : n.kind = 4
  · cases has with
    | true => exact dapply_sub_has n A0 c0 h r input w hv hsz hr hi h4 hT hk
    | false => exact dapply_sub_new n A0 c0 h r input w hv hsz hr hi h4 hT hk
  by_cases h5 : n.kind = 5
  · cases has with
    | true => exact dapply_copy_has n A0 c0 h r input w hv hsz hr hi h5 hn
    | false => exact dapply_copy_new n A0 c0 h r input w hv hsz hr hi h5 hn
  by_cases h6 : n.kind = 6
  · cases has with
    | true => exact dapply_union_has n A0 c0 h r input w hv hsz hr hi h6 hT hin hk
    | false => exact dapply_union_new n A0 c0 h r input w hv hsz hr hi h6 hT hin hk
  by_cases h7 : n.kind = 7
  · cases has with
    | true => exact dapply_fold_has n A0 c0 h r input w hv hsz hr hi h7
    | false => exact dapply_fold_new n A0 c0 h r input w hv hsz hr hi h7
  by_cases h8 : n.kind = 8
  · cases has with
    | true =>
      by_cases hx : n.n ≤ wrap64 (h.a + 1)
      · exact dapply_every_has n A0 c0 h r input w hv hsz hr hi h8 hx
      · exact dapply_wait_has n A0 c0 h r input w hv hsz hr hi h8 hx
    | false =>
      by_cases hx : n.n ≤ wrap64 (0 + 1)
      · exact dapply_every_new n A0 c0 h r input w hv hsz hr hi h8 hx
      · exact dapply_wait_new n A0 c0 h r input w hv hsz hr hi h8 hx
  by_cases h9 : n.kind = 9
  · cases has with
    | true => exact dapply_first_has n A0 c0 h r input w hv hsz hr hi h9
    | false => exact dapply_first_new n A0 c0 h r input w hv hsz hr hi h9
  have hj : ∀ j : Int, 2 ≤ j → j ≤ 9 → n.kind ≠ j := by omega
  cases has with
  | true => exact dapply_other_has n A0 c0 h r input w hv hsz hr hi hj
  | false => exact dapply_other_new n A0 c0 h r input w hv hsz hr hi hj

/-! ### What it makes stays within bounds -/
theorem i64_wrap (x : Int) : I64 (wrap64 x) := WalkArith.wf_i64 (by unfold wrap64; omega)
theorem i64_eval {s : ByteArray} {n st : Int} (hn : I64 n) (hs : I64 st) : I64 (evalOf s n st) := by
  have := evalOf_i64 (s := s) (i64_of_wf hn) (i64_of_wf hs)
  exact WalkArith.wf_i64 ⟨this.1, this.2⟩
theorem i64_zero : I64 0 := WalkArith.wf_i64 (by omega)
theorem i64_one : I64 1 := WalkArith.wf_i64 (by omega)
theorem passR_ok {r : Rec} (h1 : I64 r.num) (h2 : I64 r.time) : ∀ x ∈ passR r, FlowR x := by
  intro x hx
  unfold passR at hx
  split at hx
  · cases hx
  · rw [List.mem_singleton.1 hx]; exact ⟨by omega, h1, h2⟩
def DidOk (d : Did) : Prop := (∀ x ∈ d.out, FlowR x) ∧ I64 d.held.a ∧ I64 d.held.b
theorem DidOk.ends {l : List Rec} {h : Hld} {has : Bool} (hl : ∀ x ∈ l, FlowR x) (h1 : I64 h.a) (h2 : I64 h.b) : DidOk (ends_ l h has) := by
  refine ⟨hl, ?_⟩
  unfold ends_
  cases has with
  | true => exact ⟨h1, h2⟩
  | false => exact ⟨i64_zero, i64_zero⟩
theorem applyN_ok (n : Nod) (h : Hld) (has : Bool) (r : Rec) (input : Int) (hr : FlowR r) (hi : I64 h.a ∧ I64 h.b) : DidOk (applyN n h has r input) := by
  obtain ⟨_, r1, r2⟩ := hr
  obtain ⟨s, hs⟩ : ∃ s, s = begins h has r := ⟨_, rfl⟩
  have hsa : I64 s.a ∧ I64 s.b := by
    rw [hs]; unfold begins
    cases has with
    | true => exact hi
    | false => exact ⟨i64_zero, i64_zero⟩
  unfold applyN
  rw [← hs]
  simp only
  split
  · exact DidOk.ends (passR_ok (i64_eval r1 i64_zero) r2) hsa.1 hsa.2
  split
  · refine DidOk.ends ?_ hsa.1 hsa.2
    split
    · nofun
    · exact passR_ok r1 r2
  split
  · exact DidOk.ends (passR_ok r1 r2) hsa.1 hsa.2
  split
  · refine DidOk.ends ?_ hsa.1 hsa.2
    intro x hx
    obtain ⟨l, hl, hx⟩ := List.mem_flatten.1 hx
    rw [List.eq_of_mem_replicate hl] at hx
    exact passR_ok r1 r2 x hx
  split
  · exact DidOk.ends (passR_ok r1 r2) hsa.1 hsa.2
  split
  · exact DidOk.ends (passR_ok (i64_eval r1 hsa.1) r2) (i64_eval r1 hsa.1) hsa.2
  split
  · split
    · exact DidOk.ends (passR_ok (i64_wrap _) r2) i64_zero i64_zero
    · exact DidOk.ends nofun (i64_wrap _) (i64_wrap _)
  split
  · refine DidOk.ends ?_ i64_one hsa.2
    split
    · nofun
    · exact passR_ok r1 r2
  · exact DidOk.ends (passR_ok r1 r2) hsa.1 hsa.2
end Go.Proofs.YtcmhbhdiepkndaaGreatDoor

/-
  The laws of maps at one operation of a region that draws its order, over any program. No condition.
-/
namespace Go.Proofs.YtcmhbhdiepkndaaGreatDoor
open Go.RowKit Go.ChangeShapes Go.WideShapes Go.MapKept Go.ChangeMaps
set_option linter.unusedVariables false

section
variable {P : Program} {w : World} {ops : Array Oper} {o : Oper} {a : Act} {K : Act → World → Prop} {Q : Exit → Act → World → Prop} {E : Prop}
theorem step_lookup_M (hg : o.guard = none) (m x : Operand) (t : TypeId) (c : Bool) (hop : o.op = Op.lookup t m x c) (mv key v : Value) (hm : a.eval m = mv) (hx : a.eval x = key) (h : (Instr.lookup t mv key c).run P w = .ok v w)
    (hK : K (a.put o.dst v) w) : if Region.wanted o (yielded ops a.tmps) = true then Oper.wp P o a w K Q else E := by
  have hw : Region.wanted o (yielded ops a.tmps) = true := by simp [Region.wanted, hg]
  rw [if_pos hw]
  unfold Oper.wp
  simp [execOp, hop, hm, hx, h, Result.andThen]
  exact hK
theorem step_store_M (hg : o.guard = none) (m x v : Operand) (t : TypeId) (hop : o.op = Op.mapUpdate t m x v) (isK : Value → Prop) (b : Nat) (key val : Value) (hm : a.eval m = .map (some b)) (hx : a.eval x = key) (hv : a.eval v = val) (l' : List (Value × Value))
    (h : ∃ w', (Instr.mapUpdate t (.map (some b)) key val).run P w = .ok () w' ∧ MapAt isK w' b l' ∧ w.grownBy w' (some b) ∧ w'.heap.size = w.heap.size)
    (hK : ∀ w', MapAt isK w' b l' → w.grownBy w' (some b) → w'.heap.size = w.heap.size → K (a.put o.dst undef) w') :
    if Region.wanted o (yielded ops a.tmps) = true then Oper.wp P o a w K Q else E := by
  have hw : Region.wanted o (yielded ops a.tmps) = true := by simp [Region.wanted, hg]
  rw [if_pos hw]
  obtain ⟨w', hrun, r1, r2, r3⟩ := h
  unfold Oper.wp
  simp [execOp, hop, hm, hx, hv, hrun, Result.andThen]
  exact hK w' r1 r2 r3
theorem step_del_M (hg : o.guard = none) (m x : Operand) (t k : TypeId) (hop : o.op = Op.call { callee := Callee.builtin Builtin.delete, args := #[m, x], argTypes := #[t, k] }) (isK : Value → Prop) (b : Nat) (key : Value) (hm : a.eval m = .map (some b)) (hx : a.eval x = key) (l' : List (Value × Value))
    (h : ∃ w', (Builtin.delete_ #[t, k] o.type #[.map (some b), key]).run P w = .ok (.tuple #[]) w' ∧ MapAt isK w' b l' ∧ w.grownBy w' (some b) ∧ w'.heap.size = w.heap.size)
    (hK : ∀ w', MapAt isK w' b l' → w.grownBy w' (some b) → w'.heap.size = w.heap.size → K (a.put o.dst (.tuple #[])) w') :
    if Region.wanted o (yielded ops a.tmps) = true then Oper.wp P o a w K Q else E := by
  have hw : Region.wanted o (yielded ops a.tmps) = true := by simp [Region.wanted, hg]
  rw [if_pos hw]
  obtain ⟨w', hrun, r1, r2, r3⟩ := h
  unfold Oper.wp
  simp [execOp, hop, resolve, invoke, builtin, hm, hx, hrun, Result.andThen]
  exact hK w' r1 r2 r3
end
section
variable {P : Program} {w : World} {ops : Array Oper} {rest : List Oper} {o : Oper} {a : Act} {Q : Exit → Act → World → Prop}
theorem wpList_len_M (hg : o.guard = none) (m : Operand) (t : TypeId) (hop : o.op = Op.call { callee := Callee.builtin Builtin.len, args := #[m], argTypes := #[t] }) (k e : TypeId) (isK : Value → Prop) (ht : P.underlying t = some (.map k e)) (b : Nat) (l : List (Value × Value)) (hm : a.eval m = .map (some b)) (h : MapAt isK w b l)
    (hK : wpList P ops Q rest (a.put o.dst (.int .i64 (l.length : Int))) w) : wpList P ops Q (o :: rest) a w := by
  refine wpList_plain hg fun K' hK' => ?_
  have hrun := h.len (P := P) (ty := o.type) ht
  unfold Oper.wp
  simp [execOp, hop, resolve, invoke, builtin, hm, hrun, Result.andThen]
  exact hK' _ _ hK
end
end Go.Proofs.YtcmhbhdiepkndaaGreatDoor

/-
  Package den: what a record makes of a Sink's lines. Conditions: the flow lies in memory ('FlowAt'), there is room for a line.
-/
namespace Go.Proofs.YtcmhbhdiepkndaaGreatDoor
open Go.RowKit Go.ChangeShapes Go.WideShapes Go.Shelf
set_option linter.unusedVariables false

def fullV : Value := .iface 77 (.agg #[])
def Env (B : Nat) (w : World) : Prop := ∀ w', Below B w w' → ErrVars w' ∧ PowTab w'
theorem Env.flows {B : Nat} {w w' : World} (h : Env B w) (hf : Below B w w') : Env B w' := fun w2 h2 => h w2 (hf.trans h2)
/-- The parts of a flow, as a walk reads them. -/
theorem FlowAt.parts {C : FlowC} {L : List (List (ByteArray × RowI))} {w : World} {f : Flw} (h : FlowAt C L w f) {i : Nat} (hi : i < C.J.length) :
    w.cell? ⟨C.g, 0, none⟩ = some (.slice C.Aj C.J.length C.cj) ∧ w.cell? ⟨C.g, 1, none⟩ = some (.slice C.Au C.U.length C.cu) ∧ w.cell? ⟨C.g, 2, none⟩ = some (.slice (some ⟨C.bs, 0, none⟩) C.J.length C.cs) ∧
    w.cell? ⟨C.g, 3, none⟩ = some (.slice (some ⟨C.bg, 0, none⟩) C.J.length C.J.length) ∧ w.cell? ⟨C.g, 4, none⟩ = some (.slice (some ⟨C.bl, 0, none⟩) C.J.length C.cl) ∧
    w.cell? ⟨C.bs, i, none⟩ = some (.map (some (C.sb i))) ∧ w.cell? ⟨C.bl, i, none⟩ = some (.map (some (C.lb i))) ∧ w.frozen? ⟨C.bg, i, none⟩ = false := by
  obtain ⟨cs, hcs, hcs2⟩ := h.sts
  obtain ⟨cl, hcl, hcl2⟩ := h.lns
  refine ⟨(cell_of_row w C.g 0 _ _ _ h.obj).trans rfl, (cell_of_row w C.g 1 _ _ _ h.obj).trans rfl, (cell_of_row w C.g 2 _ _ _ h.obj).trans rfl, (cell_of_row w C.g 3 _ _ _ h.obj).trans rfl, (cell_of_row w C.g 4 _ _ _ h.obj).trans rfl,
    (cell_of_row w C.bs i _ _ _ hcs).trans (hcs2 i hi), (cell_of_row w C.bl i _ _ _ hcl).trans (hcl2 i hi), ?_⟩
  simp [World.frozen?, h.gv]
theorem info_intA : (Tryz.prog.info? 3).map (fun i => (i.zero, i.size, i.bytes)) = some (some (.int .i64 0), 1, 8) := by kernel_rfl
/-- A line more: all that the walk asks. -/
theorem FlowAt.lineAt {C : FlowC} (hC : C.Ok) {L : List (List (ByteArray × RowI))} {W : World} {f : Flw} (h : FlowAt C L W f) (hB : C.B ≤ W.heap.size) {u : Nat} (hu : u < C.J.length) (h12 : C.J.length ≤ 12) (hroom : Room C.J.length 1 f) (r : Rec) (hr : FlowR r) :
    ∃ old : RowI, OwnS W 3 1 old.A old.cap old.xs.length (old.xs.flatMap intC) ∧ old.xs.length + 1 ≤ 2000000 ∧
      (∀ W' : World, (∀ k, k < W.heap.size → W'.heap[k]? = W.heap[k]?) → (Instr.lookup 64 (.map (some (C.lb u))) (.string r.key) false).run Tryz.prog W' = .ok (.slice old.A old.xs.length old.cap) W') ∧
      ∀ (A' : Option Addr) (cap' : Nat) (w1 : World), OwnS w1 3 1 A' cap' (old.xs.length + 1) (old.xs.flatMap intC ++ [.int .i64 r.num]) → W.grownBy w1 (blk old.A) → (blk A' = blk old.A ∨ ∃ j, blk A' = some j ∧ W.heap.size ≤ j) →
        w1.cell? ⟨C.g, 4, none⟩ = some (.slice (some ⟨C.bl, 0, none⟩) C.J.length C.cl) ∧ w1.cell? ⟨C.bl, u, none⟩ = some (.map (some (C.lb u))) ∧ (∀ (k : Nat) (cs : Array Value) (t : TypeId) (fr : Nat × Nat), W.heap[k]? = some (.cells cs t fr) → t ≠ 3 → w1.heap[k]? = some (.cells cs t fr)) ∧
        ∃ w2, (Instr.mapUpdate 64 (.map (some (C.lb u))) (.string r.key) (.slice A' (old.xs.length + 1) cap')).run Tryz.prog w1 = .ok () w2 ∧ (∃ L', FlowAt C L' w2 { f with ln := f.ln.modify u fun m => addLine m r }) ∧ Flows C.B W w2 := by
  obtain ⟨m, hm⟩ : ∃ m, L[u]? = some m := ⟨_, List.getElem?_eq_getElem (by rw [h.Ln]; exact hu)⟩
  have hmi := h.lmap u m hm
  have hks : r.key.size ≤ maxLen := hr.ok.1
  obtain ⟨old, hold⟩ : ∃ old, old = (pget m r.key).getD noRow := ⟨_, rfl⟩
  have hat0 : blk old.A = none ∧ old = noRow ∨ (r.key, old) ∈ m := by
    by_cases hk : r.key ∈ pkeys m
    · obtain ⟨a, v, b, rfl, ha⟩ := split_pkey hk
      rw [pget_split ha] at hold
      right; rw [hold]; simp
    · rw [pget_none hk] at hold
      left; rw [hold]; exact ⟨rfl, rfl⟩
  have hown : OwnS W 3 1 old.A old.cap old.xs.length (old.xs.flatMap intC) := by
    rcases hat0 with ⟨_, e⟩ | e
    · rw [e]; exact OwnS.nil _ _ _
    · exact (h.rows u m _ hm e).1
  have hlen : old.xs.length + 1 ≤ 2000000 := by
    have hml : m.map lxs ∈ f.ln := by rw [h.ln]; exact List.mem_map.2 ⟨m, List.mem_of_getElem? hm, rfl⟩
    have := hroom.small h12 hml r.key
    rw [pget_lxs] at this
    rw [hold]
    cases hp : pget m r.key with
    | none => rw [hp] at this; simp [noRow]
    | some v => rw [hp] at this; simpa using this
  refine ⟨old, hown, hlen, fun W' hW' => ?_, fun A' cap' w1 ho hg hat => ?_⟩
  · have h1 : SMapAt W' (C.lb u) (m.map lp) := hmi.keep (hW' _ hmi.lt)
    have := h1.get (P := Tryz.prog) (t := 64) Tryz.underlying9 Tryz.underlying64 (z := rowV noRow) (by kernel_rfl) hks false
    rw [fgetD_lp, ← hold] at this
    exact this
  · have hblk : ∀ j, blk old.A = some j → (∃ cs, W.heap[j]? = some (.cells cs 3 (0, 0))) := fun j hj => OwnS.introw hown hj
    have hcl : ∀ (k : Nat) (cs : Array Value) (t : TypeId) (fr : Nat × Nat), W.heap[k]? = some (.cells cs t fr) → t ≠ 3 → w1.heap[k]? = some (.cells cs t fr) := fun k cs t fr hk ht => (hg.block k (block_lt hk) (fun e => by
      obtain ⟨cs', hc⟩ := hblk _ e.symm
      rw [hk] at hc; injection hc with hc; injection hc with _ hc; exact ht hc)).trans hk
    obtain ⟨cl, hcl0, hcl2⟩ := h.lns
    have hm1 : SMapAt w1 (C.lb u) (m.map lp) := hmi.keep (hg.block _ hmi.lt (fun e => by
      obtain ⟨cs', hc⟩ := hblk _ e.symm
      exact hmi.not_cells hc))
    obtain ⟨w2, hrun, hm2, hg2, _⟩ := hm1.set (P := Tryz.prog) (t := 64) Tryz.underlying9 Tryz.underlying64 hks (.slice A' (old.xs.length + 1) cap')
    have hres := FlowAt.line hC h hB hm (t := r.time) hr.2.1 hold ho hg hat hm2 hg2
    exact ⟨(cell_of_row w1 C.g 4 _ _ _ (hcl _ _ _ _ h.obj (by decide))).trans rfl, (cell_of_row w1 C.bl u _ _ _ (hcl _ _ _ _ hcl0 (by decide))).trans (hcl2 u hu), hcl, w2, hrun, ⟨_, hres.1⟩, hres.2⟩

set_option maxRecDepth 100000 in
set_option maxHeartbeats 2000000 in
theorem dget_sink (C : FlowC) (hC : C.Ok) (L : List (List (ByteArray × RowI))) (f : Flw) (w : World) (u : Nat) (r : Rec) (x : Int) (hF : FlowAt C L w f) (hB : C.B ≤ w.heap.size) (h12 : C.J.length ≤ 12) (hr : FlowR r) (n : Nod) (hn : C.J[u]? = some n) (hk : n.kind = 10) (hroom : Room C.J.length 1 f) :
    Calls Tryz.prog 30 #[.pointer (some ⟨C.g, 0, none⟩), .int .i64 (u : Int), recV r, .int .i64 x] w fun e w' => e = .returned .nilIface ∧ (∃ L', FlowAt C L' w' { f with ln := f.ln.modify u fun m => addLine m r }) ∧ Flows C.B w w' := by
  obtain ⟨hu, he⟩ := List.getElem?_eq_some_iff.1 hn
  obtain ⟨b, off, A', c', hAj, hFb, x0, x1, x2, x3, _⟩ := hF.job.nod_ hu
  rw [he] at x0 x1 x2 x3
  have hp := hF.parts hu
  obtain ⟨o0, o1, o2, o3, o4, o5, o6, _⟩ := hp
  rw [hAj] at o0
  have hcj := hF.job.1
  have hgl : C.g < w.heap.size := cell_lt o0
  have hbs : C.bs < w.heap.size := cell_lt o5
  have hbl : C.bl < w.heap.size := cell_lt o6
  have hbb : b < w.heap.size := by omega
  have HF := Lib.hid hF
  have HR := Lib.hid hr
  have HROOM := Lib.hid hroom
  clear hF hroom hn he hr
  obtain ⟨kind, from_, text, nn⟩ := n
  simp only at hk x0 x1 x2 x3
  subst hk
  obtain ⟨key, num, time⟩ := r
  show Calls _ _ #[_, _, .agg #[.string key, .int .i64 num, .int .i64 time], _] w _
  go_enter Tryz.func30, Tryz.ntmps30
  go_upto_region 3 with (fail)
  obtain ⟨W2, hW2⟩ : ∃ W2, W2 = (w.alloc (.cells #[.string key, .int .i64 num, .int .i64 time] 30)).alloc (.cells #[.int .i64 10, .slice A' from_.length c', .string text, .int .i64 nn] 28) := ⟨_, rfl⟩
  have hB2 : Below w.heap.size w W2 := by rw [hW2]; exact ((Below.refl _ _).alloc (Nat.le_refl _) _).alloc (by simp) _
  have hrb : W2.heap[w.heap.size]? = some (.cells #[.string key, .int .i64 num, .int .i64 time] 30 (0, 0)) := by rw [hW2]; exact (heap_alloc_old _ _ (by simp)).trans (heap_alloc_new _ _)
  have hF2 := HF.out.below hB2 hB
  have hz2 := hB2.size
  obtain ⟨old, hown, hlen, hlook, hput⟩ := FlowAt.lineAt hC hF2 (by omega) hu h12 HROOM.out ⟨key, num, time⟩ HR.out
  have hp := hF2.parts hu
  clear o0 o1 o2 o3 o4 o5 o6 x0 x1 x2 x3
  obtain ⟨_, _, _, _, o4, _, o6, _⟩ := hp
  have r0 : W2.cell? ⟨w.heap.size, 0, none⟩ = some (.string key) := (cell_of_row W2 _ 0 _ _ _ hrb).trans rfl
  have r1 : W2.cell? ⟨w.heap.size, 1, none⟩ = some (.int .i64 num) := (cell_of_row W2 _ 1 _ _ _ hrb).trans rfl
  have hrl := block_lt hrb
  have HFL : Hid (Flows C.B w W2) := Flows.ofBelow hB2
  have HRB := Lib.hid hrb
  rw [← hW2]
  clear hW2 hB2 hF2 HF HROOM hrb hFb hbb hAj
  generalize w.heap.size = rb at hgl hbs hbl hB hz2 r0 r1 hrl HRB ⊢
  obtain ⟨oA, oc, oxs⟩ := old
  simp only at hown hlen hlook hput
  obtain ⟨on, hon⟩ : ∃ on, on = oxs.length := ⟨_, rfl⟩
  rw [← hon] at hown hlen hlook hput
  clear hon
  have hgl2 : C.g < W2.heap.size := by omega
  have hbl2 : C.bl < W2.heap.size := by omega
  have l1 := hlook W2 (fun _ _ => rfl)
  have l2 := hlook W2.drew (fun _ _ => rfl)
  have l3 := hlook (W2.alloc (.cells #[.int .i64 num] 3)).drew (fun k hk => Below.heap_alloc _ _ _ hk)
  have HO := Lib.hid hown
  have HL := Lib.hid hput
  clear hlook hown hput
  have a4 : (W2.alloc (.cells #[.int .i64 num] 3)).drew.cell? ⟨C.g, 4, none⟩ = some (.slice (some ⟨C.bl, 0, none⟩) C.J.length C.cl) := (World.cell?_of_block (Below.heap_alloc W2 _ _ hgl2)).trans o4
  have a6 : (W2.alloc (.cells #[.int .i64 num] 3)).drew.cell? ⟨C.bl, u, none⟩ = some (.map (some (C.lb u))) := (World.cell?_of_block (Below.heap_alloc W2 _ _ hbl2)).trans o6
  have a0 : (W2.alloc (.cells #[.int .i64 num] 3)).drew.cell? ⟨rb, 0, none⟩ = some (.string key) := (World.cell?_of_block (Below.heap_alloc W2 _ _ hrl)).trans r0
  have a1 : (W2.alloc (.cells #[.int .i64 num] 3)).drew.cell? ⟨rb, 1, none⟩ = some (.int .i64 num) := (World.cell?_of_block (Below.heap_alloc W2 _ _ hrl)).trans r1
  go_region_held3 (fun W => W.cell? ⟨C.g, 4, none⟩ = some (.slice (some ⟨C.bl, 0, none⟩) C.J.length C.cl) ∧ W.cell? ⟨C.bl, u, none⟩ = some (.map (some (C.lb u))) ∧ W.cell? ⟨rb, 0, none⟩ = some (.string key) ∧ W.cell? ⟨rb, 1, none⟩ = some (.int .i64 num)) (first | exact ⟨o4, o6, r0, r1⟩ | exact ⟨a4, a6, a0, a1⟩ | exact ⟨p4, p6, p0, p1⟩ | exact ⟨q4, q6, q0, q1⟩)
    (first | (refine step_push_S (w0 := W2) rfl (.tmp 44) (.tmp 47) 26 rfl 3 _ 1 8 Tryz.underlying26 info_intA rfl (by decide) oA oc on _ rfl HO.out [.int .i64 num] rfl rfl (by simp [Value.oneCell']) (by unfold maxLen; omega) (by omega) ?_; intro A3 c3 w3 ho3 hg3 hat3; obtain ⟨p4, p6, pc, w4, hrun, hfin, hfl⟩ := HL.out A3 c3 w3 ho3 hg3 hat3; have pc0 := pc _ _ _ _ HRB.out (by decide); have p0 : w3.cell? ⟨rb, 0, none⟩ = some (.string key) := (cell_of_row w3 _ 0 _ _ _ pc0).trans rfl; have p1 : w3.cell? ⟨rb, 1, none⟩ = some (.int .i64 num) := (cell_of_row w3 _ 1 _ _ _ pc0).trans rfl; have qc := hfl.cells HRB.out (by decide); have q0 : w4.cell? ⟨rb, 0, none⟩ = some (.string key) := (cell_of_row w4 _ 0 _ _ _ qc).trans rfl; have q1 : w4.cell? ⟨rb, 1, none⟩ = some (.int .i64 num) := (cell_of_row w4 _ 1 _ _ _ qc).trans rfl; obtain ⟨L9, hF9⟩ := hfin; have hp9 := hF9.parts hu; have q4 := hp9.2.2.2.2.1; have q6 := hp9.2.2.2.2.2.2.1; have HX : Hid ((∃ L', FlowAt C L' w4 { f with ln := f.ln.modify u fun m => addLine m ⟨key, num, time⟩ }) ∧ Flows C.B W2 w4) := ⟨⟨L9, hF9⟩, hfl⟩; clear hfl pc pc0 qc ho3 hg3 hat3 hp9 hF9))
  all_goals
    go_wp2_with fail
    go_ret
    exact ⟨rfl, HX.out.1, HFL.out.trans HX.out.2⟩
end Go.Proofs.YtcmhbhdiepkndaaGreatDoor

/-
  Package den: what a record makes at a node that is no Sink, given what hand does one level below. Conditions: the flow lies in memory ('FlowAt'), there is room for lines.
-/
namespace Go.Proofs.YtcmhbhdiepkndaaGreatDoor
open Go.RowKit Go.ChangeShapes Go.WideShapes Go.Shelf
set_option linter.unusedVariables false

def HandPost (C : FlowC) (o : Option Flw) (w : World) (e : Ending) (w' : World) : Prop :=
  Flows C.B w w' ∧ (∀ f', o = some f' → e = .returned .nilIface ∧ ∃ L', FlowAt C L' w' f') ∧ (o = none → e = .returned fullV)
def HandAt (C : FlowC) (k : Nat) : Prop := ∀ (i : Nat) (r : Rec) (L : List (List (ByteArray × RowI))) (f : Flw) (w : World), i < C.J.length → C.J.length ≤ i + k → FlowR r → FlowAt C L w f → Env C.B w → C.B ≤ w.heap.size → Room C.J.length 0 f →
  Calls Tryz.prog 19 #[.pointer (some ⟨C.g, 0, none⟩), .int .i64 (i : Int), recV r] w (HandPost C (handF C.J C.U k i r f) w)

/-- A node's state is read. -/
theorem FlowAt.stateLook {C : FlowC} {L : List (List (ByteArray × RowI))} {W : World} {f : Flw} (h : FlowAt C L W f) {u : Nat} {m : List (ByteArray × Hld)} (hm : f.st[u]? = some m) {k : ByteArray} (hk : k.size ≤ maxLen) (W' : World) (hs : ∀ k, k < W.heap.size → W'.heap[k]? = W.heap[k]?) :
    (Instr.lookup 63 (.map (some (C.sb u))) (.string k) true).run Tryz.prog W' = .ok (.tuple #[hldV ((pget m k).getD zeroH), .bool (pget m k).isSome]) W' := by
  have h1 : SMapAt W' (C.sb u) (m.map hp) := (h.st u m hm).keep (hs _ (h.st u m hm).lt)
  have := h1.get (P := Tryz.prog) (t := 63) Tryz.underlying9 Tryz.underlying63 (z := hldV zeroH) (by kernel_rfl) hk true
  rw [fgetD_hp, fhas_hp] at this
  exact this
theorem FlowAt.oldOk {C : FlowC} {L : List (List (ByteArray × RowI))} {W : World} {f : Flw} (h : FlowAt C L W f) {u : Nat} {m : List (ByteArray × Hld)} (hm : f.st[u]? = some m) (k : ByteArray) : I64 ((pget m k).getD zeroH).a ∧ I64 ((pget m k).getD zeroH).b := by
  by_cases hk : k ∈ pkeys m
  · obtain ⟨a, v, b, e, ha⟩ := split_pkey hk
    rw [e, pget_split ha]
    exact h.stOk m (List.mem_of_getElem? hm) (k, v) (by rw [e]; simp)
  · rw [pget_none hk]; exact ⟨i64_zero, i64_zero⟩
/-- A node's state is written. -/
theorem FlowAt.statePut {C : FlowC} (hC : C.Ok) {L : List (List (ByteArray × RowI))} {W : World} {f : Flw} (h : FlowAt C L W f) {u : Nat} (hu : u < C.J.length) {k : ByteArray} (hk : k.size ≤ maxLen) {v : Hld} (hv : I64 v.a ∧ I64 v.b) :
    ∃ w2, (Instr.mapUpdate 63 (.map (some (C.sb u))) (.string k) (hldV v)).run Tryz.prog W = .ok () w2 ∧ FlowAt C L w2 { f with st := f.st.modify u fun m => pset m k v } ∧ Flows C.B W w2 := by
  obtain ⟨m, hm⟩ : ∃ m, f.st[u]? = some m := ⟨_, List.getElem?_eq_getElem (by rw [h.stn]; exact hu)⟩
  obtain ⟨w2, hrun, hm2, hg2, _⟩ := (h.st u m hm).set (P := Tryz.prog) (t := 63) Tryz.underlying9 Tryz.underlying63 hk (hldV v)
  refine ⟨w2, hrun, FlowAt.state hC h hm hv hm2 hg2, Flows.grown hg2 fun q hq => ?_⟩
  injection hq with hq
  subst hq
  obtain ⟨es, c, hb, _⟩ := h.st u m hm
  exact ⟨hC.sb u hu, .inl ⟨es, c, hb⟩⟩
theorem FlowAt.drew {C : FlowC} {L : List (List (ByteArray × RowI))} {w : World} {f : Flw} (h : FlowAt C L w f) (hB : C.B ≤ w.heap.size) : FlowAt C L w.drew f := h.keep (fun _ _ => rfl) hB
theorem OwnS.flows {B : Nat} {w w' : World} {e : TypeId} {size cap n : Nat} {A : Option Addr} {xs : List Value} (h : OwnS w e size A cap n xs) (hf : Flows B w w') (he : e ≠ 3) : OwnS w' e size A cap n xs := by
  refine h.keep fun k hk => ?_
  obtain ⟨_, _, _, h4⟩ := h
  rcases h4 with ⟨rfl, _⟩ | ⟨g, off, cur, rfl, hh, _⟩
  · cases hk
  · injection hk with hk; subst hk; exact (hf.cells hh he).trans hh.symm
/-- The records that a node hands on, one by one. -/
def outsF (C : FlowC) (k u : Nat) (xs : List Rec) (f : Flw) : Option Flw := xs.foldlM (fun f x => handF C.J C.U k u x f) f
theorem outsF_take (C : FlowC) (k u : Nat) (xs : List Rec) (f : Flw) {j : Nat} (hj : j < xs.length) : outsF C k u (xs.take (j + 1)) f = (outsF C k u (xs.take j) f).bind fun g => handF C.J C.U k u xs[j] g := by
  unfold outsF
  rw [List.take_succ_eq_append_getElem hj, List.foldlM_append]
  show _ >>= _ = _ >>= _
  congr 1
  funext g
  rw [List.foldlM_cons]
  show (handF C.J C.U k u xs[j] g >>= fun s' => some s') = _
  cases handF C.J C.U k u xs[j] g <;> rfl
theorem outsF_stop (C : FlowC) (k u : Nat) (xs : List Rec) (f : Flw) {j : Nat} (h : outsF C k u (xs.take j) f = none) : outsF C k u xs f = none := by
  unfold outsF at h ⊢
  have e : xs = xs.take j ++ xs.drop j := (List.take_append_drop j xs).symm
  rw [e, List.foldlM_append, h]
  rfl
theorem outsF_room {C : FlowC} (hU : C.U = usesAll C.J) (hJ : jobErr C.J = 0) {k u : Nat} {xs : List Rec} {f f' : Flw} (h : Room C.J.length 0 f) (e : outsF C k u xs f = some f') : Room C.J.length 0 f' :=
  foldM_room (g := fun x f => handF C.J C.U k u x f) (fun x f f' h e => by rw [hU] at e; exact hand_room hJ k 0 u x f f' h e) xs f f' h e

set_option maxRecDepth 100000 in
set_option maxHeartbeats 2000000 in
theorem dget_node (C : FlowC) (hC : C.Ok) (hJ : jobErr C.J = 0) (hU : C.U = usesAll C.J) (k : Nat) (hH : HandAt C k) (L : List (List (ByteArray × RowI))) (f : Flw) (w : World) (u : Nat) (r : Rec) (x : Nat) (hx : x ≤ 12) (hF : FlowAt C L w f) (hE : Env C.B w) (hB : C.B ≤ w.heap.size) (hr : FlowR r) (n : Nod) (hn : C.J[u]? = some n) (hk : n.kind ≠ 10) (hku : C.J.length ≤ u + k) (hroom : Room C.J.length 0 f) :
    Calls Tryz.prog 30 #[.pointer (some ⟨C.g, 0, none⟩), .int .i64 (u : Int), recV r, .int .i64 (x : Int)] w (HandPost C (getF C.J (handF C.J C.U k) u r x f) w) := by
  obtain ⟨hu, he⟩ := List.getElem?_eq_some_iff.1 hn
  obtain ⟨b, off, A', c', hAj, hFb, x0, x1, x2, x3, htx, hki, hni, _⟩ := hF.job.nod_ hu
  rw [he] at x0 x1 x2 x3 htx hki hni
  obtain ⟨m, hm⟩ : ∃ m, f.st[u]? = some m := ⟨_, List.getElem?_eq_getElem (by rw [hF.stn]; exact hu)⟩
  obtain ⟨old, hold⟩ : ∃ old, old = pget m r.key := ⟨_, rfl⟩
  obtain ⟨d, hd⟩ : ∃ d, d = applyN n (old.getD zeroH) old.isSome r x := ⟨_, rfl⟩
  obtain ⟨f1, hf1⟩ : ∃ f1 : Flw, f1 = (if d.has = true then { f with st := f.st.modify u fun m => pset m r.key d.held } else f) := ⟨_, rfl⟩
  have HG : Hid (getF C.J (handF C.J C.U k) u r x f = outsF C k u d.out f1) := by
    show _ = _
    unfold getF
    rw [hn]
    simp only
    rw [if_neg hk, hm, Option.getD_some, ← hold, ← hd, ← hf1]
    rfl
  have hio := hF.oldOk hm r.key
  rw [← hold] at hio
  have HD := Lib.hid (applyN_ok n (old.getD zeroH) old.isSome r x hr hio)
  rw [← hd] at HD
  have hp := hF.parts hu
  obtain ⟨o0, o1, o2, o3, o4, o5, o6, _⟩ := hp
  rw [hAj] at o0
  have hcj := hF.job.1
  have hgl : C.g < w.heap.size := cell_lt o0
  have hbs : C.bs < w.heap.size := cell_lt o5
  have hbb : b < w.heap.size := by omega
  have hkq : (n.kind == 10) = false := beq_eq_false_iff_ne.2 hk
  have HROOM := Lib.hid hroom
  have HBW := Lib.hid hB
  have HF := Lib.hid hF
  have HR := Lib.hid hr
  have HE := Lib.hid hE
  have HH := Lib.hid hH
  have HM := Lib.hid hm
  have HOLD := Lib.hid hold
  have HF1 := Lib.hid hf1
  have HDE := Lib.hid hd
  have HNB := Lib.hid (And.intro htx (And.intro hki (And.intro hni hio)))
  clear hF hroom hn he hr hE hH hm hold hf1 hd htx hki hni hio
  obtain ⟨kind, from_, text, nn⟩ := n
  simp only at hk hkq x0 x1 x2 x3
  obtain ⟨key, num, time⟩ := r
  show Calls _ _ #[_, _, .agg #[.string key, .int .i64 num, .int .i64 time], _] w _
  go_enter Tryz.func30, Tryz.ntmps30
  go_upto_region 5 with (fail)
  obtain ⟨W2, hW2⟩ : ∃ W2, W2 = (w.alloc (.cells #[.string key, .int .i64 num, .int .i64 time] 30)).alloc (.cells #[.int .i64 kind, .slice A' from_.length c', .string text, .int .i64 nn] 28) := ⟨_, rfl⟩
  have hB2 : Below w.heap.size w W2 := by rw [hW2]; exact ((Below.refl _ _).alloc (Nat.le_refl _) _).alloc (by simp) _
  have hrb : W2.heap[w.heap.size]? = some (.cells #[.string key, .int .i64 num, .int .i64 time] 30 (0, 0)) := by rw [hW2]; exact (heap_alloc_old _ _ (by simp)).trans (heap_alloc_new _ _)
  have hnb : W2.heap[w.heap.size + 1]? = some (.cells #[.int .i64 kind, .slice A' from_.length c', .string text, .int .i64 nn] 28 (0, 0)) := by
    rw [hW2, ← show (w.alloc (.cells #[.string key, .int .i64 num, .int .i64 time] 30)).heap.size = w.heap.size + 1 from by simp]; exact heap_alloc_new _ _
  have hF2 := HF.out.below hB2 hB
  have hz2 := hB2.size
  have hp := hF2.parts hu
  clear o0 o1 o2 o3 o4 o5 o6 x0 x1 x2 x3
  obtain ⟨_, _, o2, _, _, o5, _, _⟩ := hp
  have r0 : W2.cell? ⟨w.heap.size, 0, none⟩ = some (.string key) := (cell_of_row W2 _ 0 _ _ _ hrb).trans rfl
  have hrl := block_lt hrb
  have hnl := block_lt hnb
  have HFL : Hid (Flows C.B w W2) := Flows.ofBelow hB2
  have HRB := Lib.hid hrb
  have HNBL := Lib.hid hnb
  have HFW := Lib.hid hF2
  have hks : key.size ≤ maxLen := HR.out.ok.1
  have l0 := hF2.stateLook HM.out hks
  rw [← HOLD.out] at l0
  have hv0 : Hid (hldV (old.getD zeroH) = .agg #[.int .i64 (old.getD zeroH).node, .string (old.getD zeroH).key, .int .i64 (old.getD zeroH).a, .int .i64 (old.getD zeroH).b]) := rfl
  rw [hv0.out] at l0
  have HOV : Hid (old.getD zeroH = ⟨(old.getD zeroH).node, (old.getD zeroH).key, (old.getD zeroH).a, (old.getD zeroH).b⟩) := rfl
  rw [← hW2]
  clear hW2 hB2 hF2 HF hrb hnb hFb hbb hAj hv0
  generalize w.heap.size = wz at hgl hbs hB hz2 r0 hrl hnl HRB HNBL ⊢
  obtain ⟨og, hog⟩ : ∃ og, og = old.getD zeroH := ⟨_, rfl⟩
  obtain ⟨oi, hoi⟩ : ∃ oi, oi = old.isSome := ⟨_, rfl⟩
  rw [← hog, ← hoi] at l0 HDE
  rw [← hog] at HNB HOV
  have HOG := Lib.hid hog
  have HOI := Lib.hid hoi
  clear hog hoi
  obtain ⟨hn', hkk, ha', hb'⟩ := og
  simp only at l0
  have hgl2 : C.g < W2.heap.size := by omega
  have hbs2 : C.bs < W2.heap.size := by omega
  have l1 := l0 W2 (fun _ _ => rfl)
  have l2 := l0 W2.drew (fun _ _ => rfl)
  have l3 := l0 (W2.alloc (.cells #[.int .i64 0, .string ⟨#[]⟩, .int .i64 0, .int .i64 0] 92)).drew (fun k hk => Below.heap_alloc _ _ _ hk)
  clear l0
  go_cut [10, 11] from 49 to 61 (fun pv bv wx => pv = .pointer (some ⟨W2.heap.size, 0, none⟩) ∧ bv = .bool oi ∧ wx = (W2.alloc (.cells #[.int .i64 hn', .string hkk, .int .i64 ha', .int .i64 hb'] 92)).drew)
  case first =>
    go_region_held3 (fun W => W.cell? ⟨C.g, 2, none⟩ = some (.slice (some ⟨C.bs, 0, none⟩) C.J.length C.cs) ∧ W.cell? ⟨C.bs, u, none⟩ = some (.map (some (C.sb u))) ∧ W.cell? ⟨wz, 0, none⟩ = some (.string key)) (first | exact ⟨o2, o5, r0⟩ | exact ⟨(World.cell?_of_block (Below.heap_alloc W2 _ _ hgl2)).trans o2, (World.cell?_of_block (Below.heap_alloc W2 _ _ hbs2)).trans o5, (World.cell?_of_block (Below.heap_alloc W2 _ _ hrl)).trans r0⟩ | go_keep) (fail)
    all_goals
      go_wp2_with fail
      go_meet
      case rel => exact ⟨rfl, rfl, rfl⟩
  case rest =>
    obtain ⟨rfl, rfl, rfl⟩ := hcut
    clear l1 l2 l3 o2 o5 r0
    obtain ⟨W3, hW3⟩ : ∃ W3, W3 = (W2.alloc (.cells #[.int .i64 hn', .string hkk, .int .i64 ha', .int .i64 hb'] 92)).drew := ⟨_, rfl⟩
    have hB3 : Below W2.heap.size W2 W3 := by rw [hW3]; exact ((Below.refl _ _).alloc (Nat.le_refl _) _).drew
    have hhb : W3.heap[W2.heap.size]? = some (.cells #[.int .i64 hn', .string hkk, .int .i64 ha', .int .i64 hb'] 92 (0, 0)) := by rw [hW3]; exact heap_alloc_new W2 _
    have hrb3 := (hB3.block _ hrl).trans HRB.out
    have hnb3 := (hB3.block _ hnl).trans HNBL.out
    have r0 : W3.cell? ⟨wz, 0, none⟩ = some (.string key) := (cell_of_row W3 _ 0 _ _ _ hrb3).trans rfl
    have r1 : W3.cell? ⟨wz, 1, none⟩ = some (.int .i64 num) := (cell_of_row W3 _ 1 _ _ _ hrb3).trans rfl
    have r2 : W3.cell? ⟨wz, 2, none⟩ = some (.int .i64 time) := (cell_of_row W3 _ 2 _ _ _ hrb3).trans rfl
    have n0 : W3.cell? ⟨wz + 1, 0, none⟩ = some (.int .i64 kind) := (cell_of_row W3 _ 0 _ _ _ hnb3).trans rfl
    have n1 : W3.cell? ⟨wz + 1, 1, none⟩ = some (.slice A' from_.length c') := (cell_of_row W3 _ 1 _ _ _ hnb3).trans rfl
    have n2 : W3.cell? ⟨wz + 1, 2, none⟩ = some (.string text) := (cell_of_row W3 _ 2 _ _ _ hnb3).trans rfl
    have n3 : W3.cell? ⟨wz + 1, 3, none⟩ = some (.int .i64 nn) := (cell_of_row W3 _ 3 _ _ _ hnb3).trans rfl
    have h0 : W3.cell? ⟨W2.heap.size, 0, none⟩ = some (.int .i64 hn') := (cell_of_row W3 _ 0 _ _ _ hhb).trans rfl
    have h1 : W3.cell? ⟨W2.heap.size, 1, none⟩ = some (.string hkk) := (cell_of_row W3 _ 1 _ _ _ hhb).trans rfl
    have h2 : W3.cell? ⟨W2.heap.size, 2, none⟩ = some (.int .i64 ha') := (cell_of_row W3 _ 2 _ _ _ hhb).trans rfl
    have h3 : W3.cell? ⟨W2.heap.size, 3, none⟩ = some (.int .i64 hb') := (cell_of_row W3 _ 3 _ _ _ hhb).trans rfl
    have hE3 := HE.out W3 ((HFL.out.trans (Flows.ofBelow hB3)).below HBW.out)
    obtain ⟨htx, hki, hni, hio⟩ := HNB.out
    have hAP := dapply_ok ⟨kind, from_, text, nn⟩ A' c' ⟨hn', hkk, ha', hb'⟩ oi ⟨key, num, time⟩ x W3 hE3.1 hE3.2 htx hni HR.out hio ⟨by omega, by omega⟩
    rw [← HDE.out] at hAP
    have HAP := Lib.hid hAP
    have HHB := Lib.hid hhb
    have HB3 := Lib.hid hB3
    have hhl := block_lt hhb
    clear hAP hE3 htx hki hni hio hhb hrb3 hnb3
    rw [← hW3]
    clear hW3 hB3 HNBL
    go_wp2_with fail
    refine HAP.out.mono ?_
    rintro e W4 ⟨A, c, rfl, ho, hbl, hb4⟩
    have hnew : Below W2.heap.size W2 W4 := HB3.out.trans (hb4.mono HB3.out.size)
    have hhb4 := (hb4.block _ hhl).trans HHB.out
    obtain ⟨out, ⟨vn, vk, va, vb⟩, has⟩ := d
    have g0 : W4.cell? ⟨W2.heap.size, 0, none⟩ = some (.int .i64 hn') := (cell_of_row W4 _ 0 _ _ _ hhb4).trans rfl
    have g1 : W4.cell? ⟨W2.heap.size, 1, none⟩ = some (.string hkk) := (cell_of_row W4 _ 1 _ _ _ hhb4).trans rfl
    have g2 : W4.cell? ⟨W2.heap.size, 2, none⟩ = some (.int .i64 ha') := (cell_of_row W4 _ 2 _ _ _ hhb4).trans rfl
    have g3 : W4.cell? ⟨W2.heap.size, 3, none⟩ = some (.int .i64 hb') := (cell_of_row W4 _ 3 _ _ _ hhb4).trans rfl
    have gf : ∀ i, W4.frozen? ⟨W2.heap.size, i, none⟩ = false := fun i => by simp [World.frozen?, hhb4]
    obtain ⟨W5, hW5⟩ : ∃ W5, W5 = ((((W4.setCell ⟨W2.heap.size, 0, none⟩ (.int .i64 vn)).setCell ⟨W2.heap.size, 1, none⟩ (.string vk)).setCell ⟨W2.heap.size, 2, none⟩ (.int .i64 va)).setCell ⟨W2.heap.size, 3, none⟩ (.int .i64 vb)) := ⟨_, rfl⟩
    have hB5 : Below W2.heap.size W2 W5 := by
      rw [hW5]
      exact (((hnew.setCell (p := ⟨W2.heap.size, 0, none⟩) (Nat.le_refl _) _).setCell (p := ⟨W2.heap.size, 1, none⟩) (Nat.le_refl _) _).setCell (p := ⟨W2.heap.size, 2, none⟩) (Nat.le_refl _) _).setCell (p := ⟨W2.heap.size, 3, none⟩) (Nat.le_refl _) _
    have hh5 : W5.heap[W2.heap.size]? = some (.cells #[.int .i64 vn, .string vk, .int .i64 va, .int .i64 vb] 92 (0, 0)) := by
      rw [hW5]
      simp [World.setCell, Array.getElem?_modify, hhb4]
    have ho5 : OwnS W5 30 3 A c out.length (out.flatMap recCells) := by
      have hne : ∀ i, blk A ≠ some (⟨W2.heap.size, i, none⟩ : Addr).block := fun i e => by have := hbl _ e; simp at this; omega
      rw [hW5]
      exact (((ho.setFar (hne 0) _).setFar (hne 1) _).setFar (hne 2) _).setFar (hne 3) _
    have hrb5 := (hB5.block _ hrl).trans HRB.out
    have hF5 := HFW.out.below hB5 (by have := HFL.out.size; have := HBW.out; omega)
    have HO5 := Lib.hid ho5
    have HF5 := Lib.hid hF5
    have HFL5 := Lib.hid (HFL.out.trans (Flows.ofBelow hB5))
    have HRB5 := Lib.hid hrb5
    have HH5 := Lib.hid hh5
    obtain ⟨_, _, o2, _, _, o5, _, _⟩ := hF5.parts hu
    have r0' : W5.cell? ⟨wz, 0, none⟩ = some (.string key) := (cell_of_row W5 _ 0 _ _ _ hrb5).trans rfl
    have e0 : W5.cell? ⟨W2.heap.size, 0, none⟩ = some (.int .i64 vn) := (cell_of_row W5 _ 0 _ _ _ hh5).trans rfl
    have e1 : W5.cell? ⟨W2.heap.size, 1, none⟩ = some (.string vk) := (cell_of_row W5 _ 1 _ _ _ hh5).trans rfl
    have e2 : W5.cell? ⟨W2.heap.size, 2, none⟩ = some (.int .i64 va) := (cell_of_row W5 _ 2 _ _ _ hh5).trans rfl
    have e3 : W5.cell? ⟨W2.heap.size, 3, none⟩ = some (.int .i64 vb) := (cell_of_row W5 _ 3 _ _ _ hh5).trans rfl
    unfold hldV
    clear ho hbl hb4 hnew hhb4 hB5 hh5 ho5 hrb5 hF5 HAP HHB HB3 HRB HFW r0 r1 r2 n0 n1 n2 n3 h0 h1 h2 h3
    go_upto_region 7 with (fail)
    rw [← hW5]
    clear hW5 g0 g1 g2 g3 gf
    go_upto_if 72 with (fail)
    go_cut [] from 73 to 82 (fun wx => ∃ L', Hid (FlowAt C L' wx f1) ∧ Hid (OwnS wx 30 3 A c out.length (out.flatMap recCells)) ∧ Hid (Flows C.B w wx))
    case first =>
      cases has with
      | true =>
        have hBW5 : C.B ≤ W5.heap.size := by have := HFL5.out.size; have := HBW.out; omega
        obtain ⟨w6, hrun, hF6, hfl6⟩ := (HF5.out.drew hBW5).statePut hC hu hks (v := ⟨vn, vk, va, vb⟩) HD.out.2
        simp only [hldV] at hrun
        have hf1 : f1 = { f with st := f.st.modify u fun m => pset m key ⟨vn, vk, va, vb⟩ } := by rw [HF1.out]; rfl
        rw [← hf1] at hF6
        obtain ⟨_, _, q2, _, _, q5, _, _⟩ := hF6.parts hu
        have hfl6' : Flows C.B W5 w6 := (Flows.ofBelow (Below.refl _ _).drew).trans hfl6
        have q0 : w6.cell? ⟨wz, 0, none⟩ = some (.string key) := (cell_of_row w6 _ 0 _ _ _ (hfl6'.cells HRB5.out (by decide))).trans rfl
        have s6 := hfl6'.cells HH5.out (by decide)
        have q6 : w6.cell? ⟨W2.heap.size, 0, none⟩ = some (.int .i64 vn) := (cell_of_row w6 _ 0 _ _ _ s6).trans rfl
        have q7 : w6.cell? ⟨W2.heap.size, 1, none⟩ = some (.string vk) := (cell_of_row w6 _ 1 _ _ _ s6).trans rfl
        have q8 : w6.cell? ⟨W2.heap.size, 2, none⟩ = some (.int .i64 va) := (cell_of_row w6 _ 2 _ _ _ s6).trans rfl
        have q9 : w6.cell? ⟨W2.heap.size, 3, none⟩ = some (.int .i64 vb) := (cell_of_row w6 _ 3 _ _ _ s6).trans rfl
        have HX : Hid (FlowAt C L w6 f1 ∧ OwnS w6 30 3 A c out.length (out.flatMap recCells) ∧ Flows C.B w w6) := ⟨hF6, HO5.out.flows hfl6' (by decide), HFL5.out.trans hfl6'⟩
        clear hF6 hfl6 hfl6' hf1 s6
        go_wp2_with fail
        go_region_held3 (fun W => W.cell? ⟨C.g, 2, none⟩ = some (.slice (some ⟨C.bs, 0, none⟩) C.J.length C.cs) ∧ W.cell? ⟨C.bs, u, none⟩ = some (.map (some (C.sb u))) ∧ W.cell? ⟨wz, 0, none⟩ = some (.string key) ∧ W.cell? ⟨W2.heap.size, 0, none⟩ = some (.int .i64 vn) ∧ W.cell? ⟨W2.heap.size, 1, none⟩ = some (.string vk) ∧ W.cell? ⟨W2.heap.size, 2, none⟩ = some (.int .i64 va) ∧ W.cell? ⟨W2.heap.size, 3, none⟩ = some (.int .i64 vb)) (first | exact ⟨o2, o5, r0', e0, e1, e2, e3⟩ | exact ⟨q2, q5, q0, q6, q7, q8, q9⟩) (fail)
        all_goals
          go_wp2_with fail
          go_meet
          case rel => exact ⟨L, HX.out.1, HX.out.2.1, HX.out.2.2⟩
      | false =>
        have hf1 : f1 = f := by rw [HF1.out]; rfl
        have HF6 : Hid (FlowAt C L W5 f1) := by rw [hf1]; exact HF5
        clear hf1
        go_wp2_with fail
        go_meet
        case rel => exact ⟨L, HF6, HO5, HFL5⟩
    case rest =>
      obtain ⟨L6, HF6, HO6, HFL6⟩ := hcut
      have HR1 : Hid (Room C.J.length 0 f1) := by
        show Room _ _ _
        rw [HF1.out]
        split
        · exact HROOM.out.state _
        · exact HROOM.out
      clear HF5 HO5 HFL5 HRB5 HH5 o2 o5 r0' e0 e1 e2 e3 HFL
      go_wp2_with fail
      go_loopw [85] (fun jv wr => ∃ (j : Nat) (L' : List (List (ByteArray × RowI))) (fj : Flw), j ≤ out.length ∧ jv = .int .i64 j ∧ Hid (outsF C k u (out.take j) f1 = some fj) ∧ Hid (FlowAt C L' wr fj) ∧ Hid (OwnS wr 30 3 A c out.length (out.flatMap recCells)) ∧ Hid (Flows C.B w wr)) (fun jv _ => out.length - (intOf jv).toNat)
      case atStart => exact ⟨0, L6, f1, Nat.zero_le _, rfl, rfl, HF6, HO6, HFL6⟩
      case round =>
        clear HF6 HO6 HFL6
        obtain ⟨j, L', fj, hj, rfl, HS, HFj, HOj, HFLj⟩ := hrel
        by_cases hlt : j < out.length
        · have hsl := own_recs (F := fun _ => True) HOj.out rfl (fun _ _ => trivial) (fun x hx => (HD.out.1 x hx).ok)
          obtain ⟨b2, off2, hA2, _, y0, y1, y2, _⟩ := hsl.rec_ hlt
          have hcap := hsl.1
          have hle := hsl.le
          have HR2 := Lib.hid (HD.out.1 _ (List.getElem_mem hlt))
          have HNX := Lib.hid (outsF_take C k u out f1 hlt)
          clear hsl
          generalize out[j] = r2 at y0 y1 y2 HR2 HNX
          obtain ⟨key2, num2, time2⟩ := r2
          simp only at y0 y1 y2
          subst hA2
          go_wp2_with fail
          refine (HH.out u ⟨key2, num2, time2⟩ L' fj _ hu hku HR2.out (HFj.out.below ((Below.refl _ _).alloc (Nat.le_refl _) _) (by have := HFLj.out.size; have := HBW.out; omega)) (HE.out.flows ((HFLj.out.trans (Flows.ofBelow ((Below.refl _ _).alloc (Nat.le_refl _) _))).below HBW.out)) (by have := HFLj.out.size; have := HBW.out; simp; omega) (outsF_room hU hJ HR1.out HS.out)).mono ?_
          rintro e w7 ⟨hfl7, hsome, hnone⟩
          have hFL7 : Flows C.B w w7 := (HFLj.out.trans (Flows.ofBelow ((Below.refl _ _).alloc (Nat.le_refl _) _))).trans hfl7
          have hO7 := (HOj.out.keep (w' := wr.alloc (.cells #[.string key2, .int .i64 num2, .int .i64 time2] 30)) (fun q hq => Below.heap_alloc _ _ _ (HOj.out.lt q hq))).flows hfl7 (by decide)
          rw [HS.out] at HNX
          have hnx : outsF C k u (out.take (j + 1)) f1 = handF C.J C.U k u ⟨key2, num2, time2⟩ fj := HNX.out
          cases hres : handF C.J C.U k u ⟨key2, num2, time2⟩ fj with
          | none =>
            rw [hnone hres]
            rw [hres] at hnx
            have HN := Lib.hid (outsF_stop C k u out f1 hnx)
            have HF7 := Lib.hid hFL7
            clear hnx hres hsome hnone hfl7 hFL7 hO7 HOj HFLj HFj HNX HS
            unfold fullV
            go_wp2_with fail
            go_ret
            refine ⟨HF7.out, fun f' h => ?_, fun _ => rfl⟩
            have h2 : outsF C k u out f1 = some f' := HG.out.symm.trans h
            rw [HN.out] at h2; cases h2
          | some f2 =>
            obtain ⟨he, L2, hF2⟩ := hsome f2 hres
            subst he
            rw [hres] at hnx
            have HS2 := Lib.hid hnx
            have HF2 := Lib.hid hF2
            have HO2 := Lib.hid hO7
            have HFL2 := Lib.hid hFL7
            clear hnx hres hsome hnone hfl7 hFL7 hO7 HOj HFLj HFj HNX HS hF2
            go_wp2_with fail
            go_roundw
            case rel => exact ⟨j + 1, L2, f2, by omega, by go_num, HS2, HF2, HO2, HFL2⟩
            case measure => simp [intOf]; omega
        · have dj : decide (j < out.length) = false := decide_eq_false hlt
          have HS2 : Hid (outsF C k u out f1 = some fj) := by
            have h := HS.out
            rw [List.take_of_length_le (by omega)] at h
            exact h
          clear HS hj hlt
          go_wp2_with fail
          go_ret
          refine ⟨HFLj.out, fun f' h => ?_, fun h => ?_⟩
          · have h2 : outsF C k u out f1 = some f' := HG.out.symm.trans h
            rw [HS2.out] at h2; injection h2 with h2
            exact ⟨rfl, L', h2 ▸ HFj.out⟩
          · have h2 : outsF C k u out f1 = none := HG.out.symm.trans h
            rw [HS2.out] at h2; cases h2
end Go.Proofs.YtcmhbhdiepkndaaGreatDoor

/-
  Package den: the contract of hand, by induction on how many nodes follow. Conditions: the flow lies in memory ('FlowAt'), the job is right, there is room for lines.
-/
namespace Go.Proofs.YtcmhbhdiepkndaaGreatDoor
open Go.RowKit Go.ChangeShapes Go.WideShapes Go.Shelf
set_option linter.unusedVariables false

theorem dget_ok (C : FlowC) (hC : C.Ok) (hJ : jobErr C.J = 0) (hU : C.U = usesAll C.J) (k : Nat) (hH : HandAt C k) (L : List (List (ByteArray × RowI))) (f : Flw) (w : World) (u : Nat) (r : Rec) (x : Nat) (hx : x ≤ 12) (hF : FlowAt C L w f) (hE : Env C.B w) (hB : C.B ≤ w.heap.size) (hr : FlowR r) (hu : u < C.J.length) (hku : C.J.length ≤ u + k) (hroom : Room C.J.length 1 f) :
    Calls Tryz.prog 30 #[.pointer (some ⟨C.g, 0, none⟩), .int .i64 (u : Int), recV r, .int .i64 (x : Int)] w (HandPost C (getF C.J (handF C.J C.U k) u r x f) w) := by
  have hn : C.J[u]? = some C.J[u] := List.getElem?_eq_getElem hu
  by_cases hk : C.J[u].kind = 10
  · refine (dget_sink C hC L f w u r x hF hB (job_parts hJ).1 hr C.J[u] hn hk hroom).mono ?_
    rintro e w' ⟨rfl, ⟨L', hF'⟩, hfl⟩
    refine ⟨hfl, fun f' h => ⟨rfl, L', ?_⟩, fun h => ?_⟩
    · unfold getF at h
      rw [hn] at h
      simp only at h
      rw [if_pos hk] at h
      injection h with h
      rw [← h]; exact hF'
    · unfold getF at h
      rw [hn] at h
      simp only at h
      rw [if_pos hk] at h
      cases h
  · exact dget_node C hC hJ hU k hH L f w u r x hx hF hE hB hr C.J[u] hn hk hku (hroom.less (Nat.zero_le _))

/-- What has been handed to: all of the first a users, and x inputs of the next. -/
def preT (u : Nat) (fr : List Int) (i : Int) (x : Nat) : List (Nat × Nat) := ((fr.zipIdx.take x).filter fun p => p.1 == i).map fun p => (u, p.2)
def oneT (J : List Nod) (i : Int) (y : Int) : List (Nat × Nat) := ((((J[y.toNat]?.map (·.from_)).getD []).zipIdx).filter fun p => p.1 == i).map fun p => (y.toNat, p.2)
def allT (J : List Nod) (us : List Int) (i : Int) (a : Nat) : List (Nat × Nat) := (us.take a).flatMap (oneT J i)
theorem targets_all (J : List Nod) (i : Nat) {us : List Int} (hus : (usesAll J)[i]? = some us) : targets J (usesAll J) i = allT J us i us.length := by
  unfold targets allT
  rw [hus, List.take_length]
  rfl
theorem preT_zero (u : Nat) (fr : List Int) (i : Int) : preT u fr i 0 = [] := by simp [preT]
theorem preT_succ (u : Nat) (fr : List Int) (i : Int) {x : Nat} (hx : x < fr.length) : preT u fr i (x + 1) = preT u fr i x ++ (if fr[x] == i then [(u, x)] else []) := by
  unfold preT
  have hl : x < fr.zipIdx.length := by rw [List.length_zipIdx]; exact hx
  rw [List.take_succ_eq_append_getElem hl, List.filter_append, List.map_append]
  congr 1
  rw [List.getElem_zipIdx, Nat.zero_add]
  by_cases h : (fr[x] == i) = true
  · rw [if_pos h, List.filter_cons_of_pos (by exact h)]; rfl
  · rw [if_neg h, List.filter_cons_of_neg (by exact h)]; rfl
theorem preT_all {J : List Nod} {u : Nat} {n : Nod} (hn : J[u]? = some n) (i : Int) : preT u n.from_ i n.from_.length = oneT J i (u : Int) := by
  unfold preT oneT
  rw [List.take_of_length_le (by rw [List.length_zipIdx]; exact Nat.le_refl _), Int.toNat_natCast, hn]
  rfl
theorem allT_succ (J : List Nod) (us : List Int) (i : Int) {a : Nat} (ha : a < us.length) : allT J us i (a + 1) = allT J us i a ++ oneT J i us[a] := by
  unfold allT
  rw [List.take_succ_eq_append_getElem ha, List.flatMap_append]
  simp
theorem allT_len (J : List Nod) (us : List Int) (i : Int) (a : Nat) : (allT J us i a).length ≤ (allT J us i us.length).length := by
  unfold allT
  rw [List.take_length]
  conv => rhs; rw [← List.take_append_drop a us]
  rw [List.flatMap_append, List.length_append]
  omega
theorem preT_len (u : Nat) (fr : List Int) (i : Int) (x : Nat) : (preT u fr i x).length ≤ (preT u fr i fr.length).length := by
  unfold preT
  rw [List.take_of_length_le (l := fr.zipIdx) (i := fr.length) (by rw [List.length_zipIdx]; exact Nat.le_refl _), List.length_map, List.length_map]
  conv => rhs; rw [← List.take_append_drop x fr.zipIdx]
  rw [List.filter_append, List.length_append]
  omega
/-- The records handed to these. -/
def handsF (C : FlowC) (k : Nat) (r : Rec) (ts : List (Nat × Nat)) (f : Flw) : Option Flw := ts.foldlM (fun f p => getF C.J (handF C.J C.U k) p.1 r p.2 f) f
theorem handsF_app (C : FlowC) (k : Nat) (r : Rec) (a b : List (Nat × Nat)) (f : Flw) : handsF C k r (a ++ b) f = (handsF C k r a f).bind (handsF C k r b) := by
  unfold handsF
  rw [List.foldlM_append]
  rfl
theorem handsF_stop {C : FlowC} {k : Nat} {r : Rec} {a : List (Nat × Nat)} (b : List (Nat × Nat)) {f : Flw} (h : handsF C k r a f = none) : handsF C k r (a ++ b) f = none := by
  rw [handsF_app, h]; rfl
theorem handsF_one (C : FlowC) (k : Nat) (r : Rec) (p : Nat × Nat) (f : Flw) : handsF C k r [p] f = getF C.J (handF C.J C.U k) p.1 r p.2 f := by
  unfold handsF
  rw [List.foldlM_cons]
  cases getF C.J (handF C.J C.U k) p.1 r p.2 f <;> rfl
theorem handsF_room {C : FlowC} (hU : C.U = usesAll C.J) (hJ : jobErr C.J = 0) {k : Nat} {r : Rec} {ts : List (Nat × Nat)} {s : Nat} {f f' : Flw} (h : Room C.J.length (s + ts.length) f) (e : handsF C k r ts f = some f') : Room C.J.length s f' :=
  foldM_room1 (g := fun (p : Nat × Nat) f => getF C.J (handF C.J C.U k) p.1 r p.2 f) (fun s p f f' h e => get_room (fun s u x f f' h e => by rw [hU] at e; exact hand_room hJ k s u x f f' h e) s p.1 r p.2 f f' h e) ts s f f' h e

set_option maxRecDepth 100000 in
set_option maxHeartbeats 2000000 in
theorem dhand_step (C : FlowC) (hC : C.Ok) (hJ : jobErr C.J = 0) (hU0 : C.U = usesAll C.J) (k : Nat) (hH : HandAt C k) : HandAt C (k + 1) := by
  intro i r L f w hi hik hr hF hE hB hroom
  have HU := Lib.hid hU0
  clear hU0
  obtain ⟨c, hc⟩ : ∃ c, f.gv[i]? = some c := ⟨_, List.getElem?_eq_getElem (by rw [hF.gvn]; exact hi)⟩
  have hc0 := hroom.2.2.2 c (List.mem_of_getElem? hc)
  have hc2 := hroom.1.2 c (List.mem_of_getElem? hc)
  obtain ⟨us, hus⟩ : ∃ us, C.U[i]? = some us := ⟨_, by rw [HU.out]; unfold usesAll; rw [List.getElem?_map, List.getElem?_range hi]; rfl⟩
  have husl : i < C.U.length := get?_lt hus
  have huse : us = usesOf C.J (i : Int) := by
    rw [HU.out] at hus; unfold usesAll at hus
    rw [List.getElem?_map, List.getElem?_range hi] at hus
    injection hus with hus; exact hus.symm
  have HT : Hid (targets C.J C.U i = allT C.J us i us.length) := by show _ = _; rw [HU.out]; exact targets_all C.J i (by rw [← HU.out]; exact hus)
  have HHF : Hid (handF C.J C.U (k + 1) i r f = if 2000 < c + 1 then none else handsF C k r (allT C.J us i us.length) (bump i f)) := by
    show _ = _
    have hbu : bump i f = { f with gv := f.gv.set i (c + 1) } := by unfold bump; rw [hc]; rfl
    rw [← HT.out, hbu]
    unfold handF
    rw [hc]
    rfl
  have HMEM : Hid (∀ a (ha : a < us.length), ∃ u n, us[a] = ((u : Nat) : Int) ∧ C.J[u]? = some n ∧ i < u ∧ u < C.J.length ∧ n.from_.length ≤ 4) := fun a ha => by
    obtain ⟨u, n, e, hn, hc⟩ := uses_mem (J := C.J) (f := (i : Int)) (by rw [← huse]; exact List.getElem_mem ha)
    obtain ⟨hu, he⟩ := List.getElem?_eq_some_iff.1 hn
    have := job_from hJ hu (i : Int) (by rw [he]; rw [List.contains_iff_mem] at hc; exact hc)
    exact ⟨u, n, e, hn, by omega, hu, from_four hJ hn⟩
  have hp := hF.parts hi
  obtain ⟨o0, o1, o2, o3, o4, o5, o6, fz⟩ := hp
  have hgc := gv_cell hF hc
  have hgl : C.g < w.heap.size := cell_lt o0
  have hbgl : C.bg < w.heap.size := cell_lt hgc
  have HF := Lib.hid hF
  have HR := Lib.hid hr
  have HE := Lib.hid hE
  have HH := Lib.hid hH
  have HROOM := Lib.hid hroom
  have HC := Lib.hid hc
  have HBW := Lib.hid hB
  have HUS := Lib.hid hus
  have hw1 : IntKind.i64.wrap (c + 1) = c + 1 := IntWalk.i64_in _ (by omega)
  have hgb : C.g ≠ C.bg := fun e => by
    have h1 := hF.obj; rw [e, hF.gv] at h1; injection h1 with h1; injection h1 with _ h1; exact absurd h1 (by decide)
  clear hF hr hE hH hroom hc hus huse o2 o4 o5 o6
  obtain ⟨key, num, time⟩ := r
  show Calls _ _ #[_, _, .agg #[.string key, .int .i64 num, .int .i64 time]] w _
  go_enter Tryz.func19, Tryz.ntmps19
  go_upto_region 2 with (fail)
  obtain ⟨W2, hW2⟩ : ∃ W2, W2 = (w.setCell ⟨C.bg, i, none⟩ (.int .i64 (c + 1))).alloc (.cells #[.string key, .int .i64 num, .int .i64 time] 30) := ⟨_, rfl⟩
  have hszs : (w.setCell ⟨C.bg, i, none⟩ (.int .i64 (c + 1))).heap.size = w.heap.size := size_setCell _ _ _
  have hF2 : FlowAt C L W2 (bump i f) := by rw [hW2]; exact (FlowAt.bump hC HF.out HC.out).below ((Below.refl _ _).alloc (Nat.le_refl _) _) (by rw [hszs]; exact hB)
  have hrb : W2.heap[w.heap.size]? = some (.cells #[.string key, .int .i64 num, .int .i64 time] 30 (0, 0)) := by
    rw [hW2, ← hszs]; exact heap_alloc_new _ _
  have hfl2 : Flows C.B w W2 := by
    rw [hW2]
    exact ((Flows.refl C.B w).setCell (p := ⟨C.bg, i, none⟩) (.inl ⟨hC.bg, .inr ⟨_, HF.out.gv⟩⟩) _).trans (Flows.ofBelow ((Below.refl _ _).alloc (Nat.le_refl _) _))
  have HFL := Lib.hid hfl2
  have HF2 := Lib.hid hF2
  have HRB := Lib.hid hrb
  obtain ⟨p0, p1, p2, p3, _, _, _, _⟩ := hF2.parts hi
  have hc2' : W2.cell? ⟨C.bg, i, none⟩ = some (.int .i64 (c + 1)) := gv_cell hF2 (c := c + 1) (by
    show (f.gv.set i ((f.gv[i]?.getD 0) + 1))[i]? = _
    rw [HC.out, Option.getD_some, List.getElem?_set_self (get?_lt HC.out)])
  have hsl := hF2.uses.sl_ husl
  obtain ⟨bu, offu, Au', cu', hAu, hbul, hcu, hsu⟩ := hsl
  have hcap1 := hF2.uses.1
  have hcap2 := hsu.1
  have hle2 := hsu.le
  have hUi : C.U[i] = us := (List.getElem?_eq_some_iff.1 HUS.out).2
  rw [hUi] at hcu hsu hcap2 hle2
  rw [hAu] at p1
  have HSU := Lib.hid hsu
  rw [← hW2]
  clear hW2 hF2 hrb hfl2 hsu hszs o0 o1 o3 fz hgc hUi hAu HUS HF
  generalize w.heap.size = wz at hgl hbgl hB HRB ⊢
  by_cases hfull : 2000 < c + 1
  · have df : decide (2000 < c + 1) = true := decide_eq_true hfull
    have HN : Hid (handF C.J C.U (k + 1) i ⟨key, num, time⟩ f = none) := by show _ = _; rw [HHF.out, if_pos hfull]
    go_wp2_with fail
    go_ret
    refine ⟨HFL.out, fun f' h => ?_, fun _ => rfl⟩
    rw [HN.out] at h; cases h
  · have df : decide (2000 < c + 1) = false := decide_eq_false hfull
    have HN : Hid (handF C.J C.U (k + 1) i ⟨key, num, time⟩ f = handsF C k ⟨key, num, time⟩ (allT C.J us i us.length) (bump i f)) := by show _ = _; rw [HHF.out, if_neg hfull]
    have HR48 : Hid (Room C.J.length 48 (bump i f)) := by
      have h := HROOM.out.bump (i := i) (c := c) HC.out (by omega)
      exact h
    have HT48 : Hid ((allT C.J us i us.length).length ≤ 48) := by show _ ≤ _; rw [← HT.out, HU.out]; exact targets_le hJ hi
    have hB2 : C.B ≤ W2.heap.size := by have := HFL.out.size; have := HBW.out; omega
    have hzl := block_lt HRB.out
    clear HROOM HHF HC hc0 hc2 hw1
    go_wp2_with fail
    clear p0 p3 hc2'
    go_loopw [39] (fun av wr => ∃ (a : Nat) (L' : List (List (ByteArray × RowI))) (fa : Flw), a ≤ us.length ∧ av = .int .i64 a ∧ Hid (handsF C k ⟨key, num, time⟩ (allT C.J us i a) (bump i f) = some fa) ∧ Hid (FlowAt C L' wr fa) ∧ Hid (Flows C.B W2 wr)) (fun av _ => us.length - (intOf av).toNat)
    case atStart => exact ⟨0, L, bump i f, Nat.zero_le _, rfl, rfl, HF2, Flows.refl _ _⟩
    case round =>
      obtain ⟨a, L', fa, ha, rfl, HS, HFa, HFLa⟩ := hrel
      by_cases hlt : a < us.length
      · obtain ⟨u, n, hea, hn, hiu, hu, h4⟩ := HMEM.out a hlt
        obtain ⟨hu', he⟩ := List.getElem?_eq_some_iff.1 hn
        obtain ⟨bq, oq, rfl, _, cq, _⟩ := (HFLa.out.sl hB2 HSU.out).int_ hlt
        rw [hea] at cq
        obtain ⟨b, off, A3, c3, hAj, hFb, _, x1, _, _, _, _, _, hfr⟩ := HF2.out.job.nod_ hu
        rw [he] at x1 hfr
        have hcap3 := HF2.out.job.1
        have hcap4 := hfr.1
        have hle4 := hfr.le
        have HFR := Lib.hid hfr
        have y1 := ((HFLa.out.below hB2).cell (p := ⟨b, off + u * 4 + 1, none⟩) hFb).trans x1
        have hpa := HFa.out.parts hu
        obtain ⟨z0, _⟩ := hpa
        rw [hAj] at z0
        have HPA := Lib.hid (preT_all hn (i : Int))
        have HAS := Lib.hid (allT_succ C.J us i hlt)
        rw [hea] at HAS
        obtain ⟨kind, fr, text, nn⟩ := n
        simp only at x1 y1 hcap4 hle4 h4 HPA HFR
        clear hn he x1 hfr
        go_wp2_with fail
        go_loopw [52] (fun xv wx => ∃ (x : Nat) (L' : List (List (ByteArray × RowI))) (fx : Flw), x ≤ fr.length ∧ xv = .int .i64 x ∧ Hid (handsF C k ⟨key, num, time⟩ (allT C.J us i a ++ preT u fr i x) (bump i f) = some fx) ∧ Hid (FlowAt C L' wx fx) ∧ Hid (Flows C.B W2 wx)) (fun xv _ => fr.length - (intOf xv).toNat)
        case atStart => exact ⟨0, L', fa, Nat.zero_le _, rfl, by show _ = _; rw [preT_zero, List.append_nil]; exact HS.out, HFa, HFLa⟩
        case round =>
          clear y1 z0 cq HS HFa HFLa
          obtain ⟨x, Lx, fx, hx, rfl, HS, HFx, HFLx⟩ := hrel
          by_cases hlx : x < fr.length
          · obtain ⟨bf, of_, rfl, _, cf, _⟩ := (HFLx.out.sl hB2 HFR.out).int_ hlx
            have HPS := Lib.hid (preT_succ u fr i hlx)
            have HLN : Hid ((allT C.J us i a ++ preT u fr i (x + 1)).length ≤ 48) := by
              show _ ≤ _
              rw [List.length_append]
              have h1 := preT_len u fr i (x + 1)
              rw [HPA.out] at h1
              have h2 := allT_len C.J us i (a + 1)
              rw [HAS.out, List.length_append] at h2
              have := HT48.out
              omega
            generalize fr[x] = v at cf HPS
            cases hv : (v == (i : Int)) with
            | true =>
              have hv1 : v = (i : Int) := by simpa using hv
              have hv2 : (v != (i : Int)) = false := by simp [hv1]
              rw [hv, if_pos rfl] at HPS
              have hrz := HFLx.out.cells HRB.out (by decide)
              have r0 : wr.cell? ⟨wz, 0, none⟩ = some (.string key) := (cell_of_row wr _ 0 _ _ _ hrz).trans rfl
              have r1 : wr.cell? ⟨wz, 1, none⟩ = some (.int .i64 num) := (cell_of_row wr _ 1 _ _ _ hrz).trans rfl
              have r2 : wr.cell? ⟨wz, 2, none⟩ = some (.int .i64 time) := (cell_of_row wr _ 2 _ _ _ hrz).trans rfl
              have HG := Lib.hid (dget_ok C hC hJ HU.out k HH.out Lx fx wr u ⟨key, num, time⟩ x (by omega) HFx.out (HE.out.flows ((HFL.out.trans HFLx.out).below HBW.out)) (by have := HFLx.out.size; omega) HR.out hu (by omega)
                (handsF_room HU.out hJ (s := 1) (HR48.out.less (by
                  have := HLN.out
                  rw [HPS.out, List.length_append, List.length_append, List.length_singleton] at this
                  rw [List.length_append]; omega)) HS.out))
              have HNX : Hid (handsF C k ⟨key, num, time⟩ (allT C.J us i a ++ preT u fr i (x + 1)) (bump i f) = getF C.J (handF C.J C.U k) u ⟨key, num, time⟩ x fx) := by
                show _ = _
                rw [HPS.out, ← List.append_assoc, handsF_app, HS.out]
                show handsF C k _ [(u, x)] fx = _
                rw [handsF_one]
              clear hrz
              go_wp2_with fail
              refine HG.out.mono ?_
              rintro e w7 ⟨hfl7, hsome, hnone⟩
              have HFL7 := Lib.hid (HFLx.out.trans hfl7)
              cases hres : getF C.J (handF C.J C.U k) u ⟨key, num, time⟩ x fx with
              | none =>
                rw [hnone hres]
                have HN9 : Hid (handF C.J C.U (k + 1) i ⟨key, num, time⟩ f = none) := by
                  show _ = _
                  have h1 : handsF C k ⟨key, num, time⟩ (allT C.J us i (a + 1)) (bump i f) = none := by
                    rw [HAS.out, ← HPA.out]
                    have e : preT u fr i fr.length = preT u fr i (x + 1) ++ (preT u fr i fr.length).drop (preT u fr i (x + 1)).length := by
                      have hpre : preT u fr i (x + 1) <+: preT u fr i fr.length := by
                        unfold preT
                        rw [List.take_of_length_le (l := fr.zipIdx) (i := fr.length) (by rw [List.length_zipIdx]; exact Nat.le_refl _)]
                        exact ((List.take_prefix (x + 1) fr.zipIdx).filter _).map _
                      obtain ⟨t, ht⟩ := hpre
                      rw [← ht, List.drop_left]
                    rw [e, ← List.append_assoc]
                    exact handsF_stop _ (by rw [HNX.out, hres])
                  rw [HN.out]
                  have e2 : allT C.J us i us.length = allT C.J us i (a + 1) ++ (us.drop (a + 1)).flatMap (oneT C.J i) := by
                    unfold allT
                    rw [List.take_length, ← List.flatMap_append, List.take_append_drop]
                  rw [e2]
                  exact handsF_stop _ h1
                have HF7 := Lib.hid (HFL.out.trans HFL7.out)
                clear hres hsome hnone hfl7 HFL7 HNX HS HFx HFLx HG HN HT HT48 HPA HAS HPS HLN
                unfold fullV
                go_wp2_with fail
                go_ret
                refine ⟨HF7.out, fun f' h => ?_, fun _ => rfl⟩
                rw [HN9.out] at h; cases h
              | some f2 =>
                obtain ⟨he, L2, hF2'⟩ := hsome f2 hres
                subst he
                have HS2 : Hid (handsF C k ⟨key, num, time⟩ (allT C.J us i a ++ preT u fr i (x + 1)) (bump i f) = some f2) := by show _ = _; rw [HNX.out, hres]
                have HF3 := Lib.hid hF2'
                clear hres hsome hnone hfl7 hF2' HNX HS HFx HFLx HG r0 r1 r2 cf
                go_wp2_with fail
                go_roundw
                case rel => exact ⟨x + 1, L2, f2, by omega, by go_num, HS2, HF3, HFL7⟩
                case measure => simp [intOf]; omega
            | false =>
              have hv1 : ¬ v = (i : Int) := by simpa using hv
              have hv2 : (v != (i : Int)) = true := by simp [hv1]
              rw [hv] at HPS
              have HS2 : Hid (handsF C k ⟨key, num, time⟩ (allT C.J us i a ++ preT u fr i (x + 1)) (bump i f) = some fx) := by
                show _ = _
                rw [HPS.out]
                simp only [Bool.false_eq_true, if_false, List.append_nil]
                exact HS.out
              clear HS HPS
              go_wp2_with fail
              go_roundw
              case rel => exact ⟨x + 1, Lx, fx, by omega, by go_num, HS2, HFx, HFLx⟩
              case measure => simp [intOf]; omega
          · have dx : decide (x < fr.length) = false := decide_eq_false hlx
            have HS2 : Hid (handsF C k ⟨key, num, time⟩ (allT C.J us i (a + 1)) (bump i f) = some fx) := by
              show _ = _
              rw [HAS.out, ← HPA.out, show fr.length = x from by omega]; exact HS.out
            clear HS HAS HPA hx hlx
            go_wp2_with fail
            refine ⟨⟨a + 1, Lx, fx, by omega, by go_num, HS2, HFx, HFLx⟩, ?_⟩
            simp [intOf]; omega
      · have da : decide (a < us.length) = false := decide_eq_false hlt
        have HS2 : Hid (handF C.J C.U (k + 1) i ⟨key, num, time⟩ f = some fa) := by
          show _ = _
          rw [HN.out, show us.length = a from by omega]; exact HS.out
        clear HS HN HT HT48 HMEM ha hlt
        go_wp2_with fail
        go_ret
        refine ⟨HFL.out.trans HFLa.out, fun f' h => ?_, fun h => ?_⟩
        · rw [HS2.out] at h; injection h with h
          exact ⟨rfl, L', h ▸ HFa.out⟩
        · rw [HS2.out] at h; cases h
theorem dhand_ok (C : FlowC) (hC : C.Ok) (hJ : jobErr C.J = 0) (hU : C.U = usesAll C.J) : ∀ k, HandAt C k := by
  intro k
  induction k with
  | zero => intro i r L f w h1 h2; omega
  | succ k ih => exact dhand_step C hC hJ hU k ih
end Go.Proofs.YtcmhbhdiepkndaaGreatDoor

/-
  Package den: a flow as All makes it, node by node (printed by denmake.py). No condition: definitions and lemmas.
-/
namespace Go.Proofs.YtcmhbhdiepkndaaGreatDoor
open Go.RowKit Go.ChangeShapes Go.WideShapes
set_option linter.unusedVariables false

def mv (b : Nat) : Value := .map (some b)
structure MkAt (B : Nat) (W4 : World) (n : Nat) (vJ vU : Value) (wr : World) (sl ll : List Nat) (vs vl : Value) : Prop where
  obj : wr.heap[B + 1]? = some (.cells #[vJ, vU, vs, .slice (some ⟨B, 0, none⟩) n n, vl] 61 (0, 0))
  gv : wr.heap[B]? = some (.cells ((List.replicate n (0 : Int)).flatMap intC).toArray 3 (0, 0))
  rs : wr.ownsRow B 63 1 vs sl.length (sl.map mv)
  rl : wr.ownsRow B 64 1 vl ll.length (ll.map mv)
  ms : ∀ b, b ∈ sl ∨ b ∈ ll → B ≤ b ∧ SMapAt wr b []
  nd : (sl ++ ll).Nodup
  bel : Below B W4 wr
theorem ownsRow_keep {w w' : World} {base : Nat} {e : TypeId} {size n : Nat} {v : Value} {xs : List Value} (h : w.ownsRow base e size v n xs) (hk : ∀ k, v.ownBlock = some k → w'.heap[k]? = w.heap[k]?) : w'.ownsRow base e size v n xs := by
  obtain ⟨h1, h2⟩ := h
  refine ⟨h1, ?_⟩
  rcases h2 with h2 | ⟨g, cap, cur, rfl, hb, hh, r⟩
  · exact .inl h2
  · exact .inr ⟨g, cap, cur, rfl, hb, (hk g rfl).trans hh, r⟩
theorem madeCells_int (n : Nat) : madeCells #[.int .i64 0] n = ((List.replicate n (0 : Int)).flatMap intC).toArray := by
  apply Array.ext'
  rw [toList_madeCells_one]
  induction n with
  | zero => rfl
  | succ n ih => rw [List.replicate_succ, List.replicate_succ, List.flatMap_cons, ih]; rfl
theorem MkAt.start {W4 : World} {n : Nat} {vJ vU : Value} : MkAt W4.heap.size W4 n vJ vU ((W4.alloc (.cells (madeCells #[.int .i64 0] n) 3)).alloc (.cells #[vJ, vU, .slice none 0 0, .slice (some ⟨W4.heap.size, 0, none⟩) n n, .slice none 0 0] 61)) [] [] (.slice none 0 0) (.slice none 0 0) := by
  refine ⟨?_, ?_, World.ownsRow_nil _ _ _ _, World.ownsRow_nil _ _ _ _, by simp, by simp, ((Below.refl _ _).alloc (Nat.le_refl _) _).alloc (by simp) _⟩
  · rw [← show (W4.alloc (.cells (madeCells #[.int .i64 0] n) 3)).heap.size = W4.heap.size + 1 from by simp]; exact heap_alloc_new _ _
  · rw [← madeCells_int]; exact (heap_alloc_old _ _ (by simp)).trans (heap_alloc_new _ _)
theorem MkAt.addS {B : Nat} {W4 : World} {n : Nat} {vJ vU : Value} {wr : World} {sl ll : List Nat} {vs vl : Value} (h : MkAt B W4 n vJ vU wr sl ll vs vl) {v' : Value} {w' : World}
    (hown : w'.ownsRow B 63 1 v' (sl.length + 1) (sl.map mv ++ [mv wr.heap.size])) (hg : (wr.alloc (.map #[] 0)).grownBy w' vs.ownBlock) (hat : v'.ownBlock = vs.ownBlock ∨ ∃ g, v'.ownBlock = some g ∧ wr.heap.size < g) :
    w'.heap[B + 1]? = some (.cells #[vJ, vU, vs, .slice (some ⟨B, 0, none⟩) n n, vl] 61 (0, 0)) ∧ MkAt B W4 n vJ vU (w'.setCell ⟨B + 1, 2, none⟩ v') (sl ++ [wr.heap.size]) ll v' vl := by
  have hlt := block_lt h.obj
  have hsz : (wr.alloc (.map #[] 0)).heap.size = wr.heap.size + 1 := by simp
  have hkind : ∀ k, vs.ownBlock = some k → k < wr.heap.size ∧ ∃ cur, wr.heap[k]? = some (.cells cur 63 (0, 0)) := fun k hk => by
    rcases ownBlock_cases h.rs with e | ⟨g, cur, e, hgl, hh⟩
    · rw [e] at hk; cases hk
    · rw [e] at hk; injection hk with hk; subst hk; exact ⟨hgl, cur, hh⟩
  have hold : ∀ k, k < wr.heap.size → vs.ownBlock ≠ some k → w'.heap[k]? = wr.heap[k]? := fun k hk hne => (hg.block k (by rw [hsz]; omega) (fun e => hne e.symm)).trans (heap_alloc_old _ _ hk)
  have hcell : ∀ (k : Nat) (cs : Array Value) (t : TypeId) (fr : Nat × Nat), wr.heap[k]? = some (.cells cs t fr) → t ≠ 63 → w'.heap[k]? = some (.cells cs t fr) := fun k cs t fr hk ht => (hold k (block_lt hk) (fun e => by
    obtain ⟨_, cur, hc⟩ := hkind k e
    rw [hk] at hc; injection hc with hc; injection hc with _ hc; exact ht hc)).trans hk
  have hmap : ∀ b, SMapAt wr b [] → w'.heap[b]? = wr.heap[b]? := fun b hb => hold b hb.lt (fun e => by
    obtain ⟨_, cur, hc⟩ := hkind b e
    exact hb.not_cells hc)
  have hset : ∀ k, k ≠ B + 1 → (w'.setCell ⟨B + 1, 2, none⟩ v').heap[k]? = w'.heap[k]? := fun k hk => Below.heap_setCell _ _ _ _ (by simpa using hk)
  have hobj := hcell _ _ _ _ h.obj (by decide)
  have hnb : v'.ownBlock ≠ some (B + 1) := fun e => by
    rcases hat with e2 | ⟨g, e2, hg2⟩
    · rw [e2] at e
      obtain ⟨_, cur, hc⟩ := hkind _ e
      rw [h.obj] at hc; injection hc with hc; injection hc with _ hc; exact absurd hc (by decide)
    · rw [e2] at e; injection e with e; omega
  have hne2 : ∀ k, vl.ownBlock = some k → k ≠ B + 1 ∧ w'.heap[k]? = wr.heap[k]? := fun k hk => by
    rcases ownBlock_cases h.rl with e | ⟨g, cur, e, hgl, hh⟩
    · rw [e] at hk; cases hk
    · rw [e] at hk; injection hk with hk; subst hk
      refine ⟨fun e2 => ?_, (hcell _ _ _ _ hh (by decide)).trans hh.symm⟩
      rw [e2, h.obj] at hh; injection hh with hh; injection hh with _ hh; exact absurd hh (by decide)
  have hnew : SMapAt w' wr.heap.size [] := (SMapAt.made wr).keep (hg.block _ (by rw [hsz]; omega) (fun e => by have := (hkind _ e.symm).1; omega))
  have hmne : ∀ b, SMapAt w' b [] → b ≠ B + 1 := fun b hb e => by rw [e] at hb; exact hb.not_cells hobj
  refine ⟨hobj, ?_, (hset B (by omega)).trans (hcell _ _ _ _ h.gv (by decide)), by rw [List.length_append, List.map_append]; exact ownsRow_keep hown fun k hk => hset k (fun e => hnb (e ▸ hk)), ownsRow_keep h.rl fun k hk => (hset k (hne2 k hk).1).trans (hne2 k hk).2, fun b hb => ?_, ?_, ?_⟩
  · simp [World.setCell, Array.getElem?_modify, hobj]
  · have hcase : b = wr.heap.size ∨ (b ∈ sl ∨ b ∈ ll) := by
      rcases hb with hb | hb
      · rcases List.mem_append.1 hb with hb | hb
        · exact .inr (.inl hb)
        · exact .inl (List.mem_singleton.1 hb)
      · exact .inr (.inr hb)
    rcases hcase with e | hb2
    · subst e
      exact ⟨by omega, hnew.keep (hset _ (hmne _ hnew))⟩
    · obtain ⟨h1, h2⟩ := h.ms b hb2
      have h3 : SMapAt w' b [] := h2.keep (hmap b h2)
      exact ⟨h1, h3.keep (hset _ (hmne _ h3))⟩
  · have hfresh : wr.heap.size ∉ sl ++ ll := fun hm => by
      have := (h.ms _ (List.mem_append.1 hm)).2.lt
      omega
    rw [List.append_assoc]
    exact (List.perm_middle (l₁ := sl) (a := wr.heap.size) (l₂ := ll)).nodup_iff.2 (List.nodup_cons.2 ⟨hfresh, h.nd⟩)
  · refine Below.setCell ?_ (by show B ≤ B + 1; omega) v'
    exact (h.bel.alloc (by omega) _).grown hg (by rw [hsz]; omega) (fun k hk => by rcases h.rs.2 with ⟨e, _⟩ | ⟨g, cap, cur, e, hb, _⟩; rw [e] at hk; cases hk; rw [e] at hk; injection hk with hk; subst hk; exact hb)
theorem MkAt.addL {B : Nat} {W4 : World} {n : Nat} {vJ vU : Value} {wr : World} {sl ll : List Nat} {vs vl : Value} (h : MkAt B W4 n vJ vU wr sl ll vs vl) {v' : Value} {w' : World}
    (hown : w'.ownsRow B 64 1 v' (ll.length + 1) (ll.map mv ++ [mv wr.heap.size])) (hg : (wr.alloc (.map #[] 0)).grownBy w' vl.ownBlock) (hat : v'.ownBlock = vl.ownBlock ∨ ∃ g, v'.ownBlock = some g ∧ wr.heap.size < g) :
    w'.heap[B + 1]? = some (.cells #[vJ, vU, vs, .slice (some ⟨B, 0, none⟩) n n, vl] 61 (0, 0)) ∧ MkAt B W4 n vJ vU (w'.setCell ⟨B + 1, 4, none⟩ v') sl (ll ++ [wr.heap.size]) vs v' := by
  have hlt := block_lt h.obj
  have hsz : (wr.alloc (.map #[] 0)).heap.size = wr.heap.size + 1 := by simp
  have hkind : ∀ k, vl.ownBlock = some k → k < wr.heap.size ∧ ∃ cur, wr.heap[k]? = some (.cells cur 64 (0, 0)) := fun k hk => by
    rcases ownBlock_cases h.rl with e | ⟨g, cur, e, hgl, hh⟩
    · rw [e] at hk; cases hk
    · rw [e] at hk; injection hk with hk; subst hk; exact ⟨hgl, cur, hh⟩
  have hold : ∀ k, k < wr.heap.size → vl.ownBlock ≠ some k → w'.heap[k]? = wr.heap[k]? := fun k hk hne => (hg.block k (by rw [hsz]; omega) (fun e => hne e.symm)).trans (heap_alloc_old _ _ hk)
  have hcell : ∀ (k : Nat) (cs : Array Value) (t : TypeId) (fr : Nat × Nat), wr.heap[k]? = some (.cells cs t fr) → t ≠ 64 → w'.heap[k]? = some (.cells cs t fr) := fun k cs t fr hk ht => (hold k (block_lt hk) (fun e => by
    obtain ⟨_, cur, hc⟩ := hkind k e
    rw [hk] at hc; injection hc with hc; injection hc with _ hc; exact ht hc)).trans hk
  have hmap : ∀ b, SMapAt wr b [] → w'.heap[b]? = wr.heap[b]? := fun b hb => hold b hb.lt (fun e => by
    obtain ⟨_, cur, hc⟩ := hkind b e
    exact hb.not_cells hc)
  have hset : ∀ k, k ≠ B + 1 → (w'.setCell ⟨B + 1, 4, none⟩ v').heap[k]? = w'.heap[k]? := fun k hk => Below.heap_setCell _ _ _ _ (by simpa using hk)
  have hobj := hcell _ _ _ _ h.obj (by decide)
  have hnb : v'.ownBlock ≠ some (B + 1) := fun e => by
    rcases hat with e2 | ⟨g, e2, hg2⟩
    · rw [e2] at e
      obtain ⟨_, cur, hc⟩ := hkind _ e
      rw [h.obj] at hc; injection hc with hc; injection hc with _ hc; exact absurd hc (by decide)
    · rw [e2] at e; injection e with e; omega
  have hne2 : ∀ k, vs.ownBlock = some k → k ≠ B + 1 ∧ w'.heap[k]? = wr.heap[k]? := fun k hk => by
    rcases ownBlock_cases h.rs with e | ⟨g, cur, e, hgl, hh⟩
    · rw [e] at hk; cases hk
    · rw [e] at hk; injection hk with hk; subst hk
      refine ⟨fun e2 => ?_, (hcell _ _ _ _ hh (by decide)).trans hh.symm⟩
      rw [e2, h.obj] at hh; injection hh with hh; injection hh with _ hh; exact absurd hh (by decide)
  have hnew : SMapAt w' wr.heap.size [] := (SMapAt.made wr).keep (hg.block _ (by rw [hsz]; omega) (fun e => by have := (hkind _ e.symm).1; omega))
  have hmne : ∀ b, SMapAt w' b [] → b ≠ B + 1 := fun b hb e => by rw [e] at hb; exact hb.not_cells hobj
  refine ⟨hobj, ?_, (hset B (by omega)).trans (hcell _ _ _ _ h.gv (by decide)), ownsRow_keep h.rs fun k hk => (hset k (hne2 k hk).1).trans (hne2 k hk).2, by rw [List.length_append, List.map_append]; exact ownsRow_keep hown fun k hk => hset k (fun e => hnb (e ▸ hk)), fun b hb => ?_, ?_, ?_⟩
  · simp [World.setCell, Array.getElem?_modify, hobj]
  · have hcase : b = wr.heap.size ∨ (b ∈ sl ∨ b ∈ ll) := by
      rcases hb with hb | hb
      · exact .inr (.inl hb)
      · rcases List.mem_append.1 hb with hb | hb
        · exact .inr (.inr hb)
        · exact .inl (List.mem_singleton.1 hb)
    rcases hcase with e | hb2
    · subst e
      exact ⟨by omega, hnew.keep (hset _ (hmne _ hnew))⟩
    · obtain ⟨h1, h2⟩ := h.ms b hb2
      have h3 : SMapAt w' b [] := h2.keep (hmap b h2)
      exact ⟨h1, h3.keep (hset _ (hmne _ h3))⟩
  · have hfresh : wr.heap.size ∉ sl ++ ll := fun hm => by
      have := (h.ms _ (List.mem_append.1 hm)).2.lt
      omega
    rw [← List.append_assoc]
    exact (List.perm_append_comm (l₁ := sl ++ ll) (l₂ := [wr.heap.size])).nodup_iff.2 (List.nodup_cons.2 ⟨hfresh, h.nd⟩)
  · refine Below.setCell ?_ (by show B ≤ B + 1; omega) v'
    exact (h.bel.alloc (by omega) _).grown hg (by rw [hsz]; omega) (fun k hk => by rcases h.rl.2 with ⟨e, _⟩ | ⟨g, cap, cur, e, hb, _⟩; rw [e] at hk; cases hk; rw [e] at hk; injection hk with hk; subst hk; exact hb)
theorem getD_at (l : List Nat) {i : Nat} (hi : i < l.length) : l.getD i 0 = l[i] := by rw [List.getD_eq_getElem?_getD, List.getElem?_eq_getElem hi]; rfl
theorem nodup_at {l : List Nat} (h : l.Nodup) {i j : Nat} (hi : i < l.length) (hj : j < l.length) (e : l.getD i 0 = l.getD j 0) : i = j := by
  rw [getD_at l hi, getD_at l hj] at e
  exact (List.getElem_inj h).1 e
/-- All made: the flow. -/
def mkC (B : Nat) (J : List Nod) (U : List (List Int)) (Aj : Option Addr) (cj : Nat) (Au : Option Addr) (cu : Nat) (bs cs bl cl : Nat) (sl ll : List Nat) : FlowC := ⟨B, B + 1, J, U, Aj, cj, Au, cu, bs, cs, B, bl, cl, fun i => sl.getD i 0, fun i => ll.getD i 0⟩
theorem MkAt.flow {B : Nat} {W4 : World} {J : List Nod} {U : List (List Int)} {Aj Au : Option Addr} {cj cu : Nat} {wr : World} {sl ll : List Nat} {vs vl : Value} (h : MkAt B W4 J.length (.slice Aj J.length cj) (.slice Au U.length cu) wr sl ll vs vl) (hB : B = W4.heap.size)
    (hs : sl.length = J.length) (hl : ll.length = J.length) (hpos : 0 < J.length) (hJ : SlA nodE (· < B) W4 Aj cj J) (hU : SlA (slE (intE .i64)) (· < B) W4 Au cu U) :
    ∃ bs cs bl cl, (mkC B J U Aj cj Au cu bs cs bl cl sl ll).Ok ∧ FlowAt (mkC B J U Aj cj Au cu bs cs bl cl sl ll) (List.replicate J.length []) wr (flow0 J.length) := by
  obtain ⟨hs1, hs2⟩ := h.rs
  obtain ⟨hl1, hl2⟩ := h.rl
  rcases hs2 with ⟨_, h0⟩ | ⟨bs, cs, curs, rfl, _, hhs, _, _, hcs, hts⟩
  · omega
  rcases hl2 with ⟨_, h0⟩ | ⟨bl, cl, curl, rfl, _, hhl, _, _, hcl, htl⟩
  · omega
  have hnd := List.nodup_append.1 h.nd
  have hcell : ∀ (cur : Array Value) (l : List Nat), cur.toList.take (l.length * 1) = l.map mv → ∀ i, i < l.length → cur[i]? = some (.map (some (l.getD i 0))) := fun cur l e i hi => by
    have h1 : (cur.toList.take (l.length * 1))[i]? = (l.map mv)[i]? := by rw [e]
    rw [List.getElem?_take, if_pos (by omega), List.getElem?_map, List.getElem?_eq_getElem hi] at h1
    rw [getD_at l hi]
    simpa [mv] using h1
  have hmem : ∀ (l : List Nat) (i : Nat), i < l.length → l.getD i 0 ∈ l := fun l i hi => by rw [getD_at l hi]; exact List.getElem_mem hi
  have hlt : Same (· < B) W4 wr := fun k hk => h.bel.block k hk
  refine ⟨bs, cs, bl, cl, ⟨Nat.le_refl _, fun i hi => ?_, fun i hi => ?_, fun i j hi hj e => ?_, fun i j hi hj e => ?_, fun i j hi hj e => ?_⟩, ?_⟩
  · exact (h.ms _ (.inl (hmem sl i (by rw [hs]; exact hi)))).1
  · exact (h.ms _ (.inr (hmem ll i (by rw [hl]; exact hi)))).1
  · exact nodup_at hnd.1 (by rw [hs]; exact hi) (by rw [hs]; exact hj) e
  · exact nodup_at hnd.2.1 (by rw [hl]; exact hi) (by rw [hl]; exact hj) e
  · exact hnd.2.2 _ (hmem sl i (by rw [hs]; exact hi)) _ (hmem ll j (by rw [hl]; exact hj)) e
  · have hrep : ∀ {α : Type} (i : Nat) (m : List α), (List.replicate J.length ([] : List α))[i]? = some m → i < J.length ∧ m = [] := fun i m hm => by
      rw [List.getElem?_replicate] at hm
      split at hm
      · rename_i hi; injection hm with hm; exact ⟨hi, hm.symm⟩
      · cases hm
    refine ⟨by have := h.obj; rw [hs, hl] at this; exact this, hJ.keep hlt, hU.keep hlt, ⟨curs, hhs, fun i hi => hcell curs sl hts i (by rw [hs]; exact hi)⟩, ⟨curl, hhl, fun i hi => hcell curl ll htl i (by rw [hl]; exact hi)⟩, h.gv, by simp [flow0, mkC], by simp [flow0, mkC], fun i m hm => ?_, by simp [mkC], by simp [flow0], fun i m hm => ?_, fun i m p hm hp => ?_, fun i j m m' p q k hm hm' hp => ?_, fun m hm p hp => ?_, fun m hm p hp => ?_⟩
    · obtain ⟨hi, rfl⟩ := hrep i m hm
      exact (h.ms _ (.inl (hmem sl i (by rw [hs]; exact hi)))).2
    · obtain ⟨hi, rfl⟩ := hrep i m hm
      exact (h.ms _ (.inr (hmem ll i (by rw [hl]; exact hi)))).2
    · obtain ⟨_, rfl⟩ := hrep i m hm; cases hp
    · obtain ⟨_, rfl⟩ := hrep i m hm; cases hp
    · rw [List.eq_of_mem_replicate (show m ∈ List.replicate _ _ from hm)] at hp; cases hp
    · rw [List.eq_of_mem_replicate (show m ∈ List.replicate _ _ from hm)] at hp; cases hp
end Go.Proofs.YtcmhbhdiepkndaaGreatDoor

/-
  slices.SortFunc at structs, over any program: what an owned row holds behind it; and contracts of cmp.Compare at int and string, and of cmp.Or at two ints. Condition: fewer than 2^62 elements.
-/
namespace Go.Proofs.YtcmhbhdiepkndaaGreatDoor
open Go.RowKit Go.ChangeShapes Go.WideShapes Go.Shelf
open Go.Sort hiding Below
set_option linter.unusedVariables false

theorem grow_of_below {W w' : World} (hb : Below W.heap.size W w') (hd : W.drawn ≤ w'.drawn) : ∃ q os', w' = grow (W.drewN q) os' := by
  refine ⟨w'.drawn - W.drawn, w'.heap.extract W.heap.size w'.heap.size, ?_⟩
  have hh : w'.heap = W.heap ++ w'.heap.extract W.heap.size w'.heap.size := by
    apply Array.ext_getElem?
    intro i
    rw [Array.getElem?_append]
    split
    · rename_i h; exact hb.block i h
    · rename_i h
      rw [Array.getElem?_extract]
      have hs := hb.size
      split
      · congr 1; omega
      · rw [Array.getElem?_eq_none (by omega)]
  obtain ⟨h', t', d', o', u'⟩ := w'
  have e1 := hb.os; have e2 := hb.tape; have e3 := hb.output
  simp only at e1 e2 e3 hd hh
  unfold grow
  have e4 : (W.drewN (d' - W.drawn)).drawn = d' := by show W.drawn + (d' - W.drawn) = d'; omega
  subst e1; subst e2; subst e3
  congr 1
  exact e4.symm

/-- The closure: it answers cf, and makes blocks at most. -/
def CmpOk {α : Type} (P : Program) (g : Nat) (enc : α → List Value) (cf : α → α → Int) : Prop := ∀ (x y : α) (W : World),
  Calls P g #[.agg (enc x).toArray, .agg (enc y).toArray] W fun e w' => e = .returned (.int .i64 (cf x y)) ∧ Below W.heap.size W w' ∧ W.drawn ≤ w'.drawn

section
variable {P : Program} {ρ : Ren} {α : Type} [Inhabited α]
theorem flatK_toList (enc : α → List Value) (k : Nat) (hk : ∀ x, (enc x).length = k) (hk0 : 0 < k) (d : Array α) : (flatK enc k d).toList = d.toList.flatMap enc := by
  have key : ∀ l : List α, (l.flatMap enc).length = l.length * k := fun l => by
    induction l with
    | nil => simp
    | cons x l ih => rw [List.flatMap_cons, List.length_append, hk, ih, List.length_cons, Nat.succ_mul, Nat.add_comm]
  have hl : (d.toList.flatMap enc).length = d.size * k := by rw [key, Array.length_toList]
  apply List.ext_getElem?
  intro t
  by_cases ht : t < d.size * k
  · have h1 : t / k < d.toList.length := by rw [Array.length_toList]; exact Nat.div_lt_of_lt_mul (by rw [Nat.mul_comm]; exact ht)
    have h2 := flat_get enc k hk d.toList (i := t / k) (j := t % k) (List.getElem?_eq_getElem h1) (Nat.mod_lt _ hk0)
    rw [Nat.div_add_mod'] at h2
    rw [h2, Array.getElem?_toList, Array.getElem?_eq_getElem (by rw [size_flatK]; exact ht)]
    have h3 := get_flatK enc k d t ht
    rw [getElem!_pos _ _ (by rw [size_flatK]; exact ht)] at h3
    have h4 : d[t / k]! = d.toList[t / k] := by rw [getElem!_pos _ _ (by simpa using h1)]; simp
    rw [h3, h4, getElem!_pos _ _ (by rw [hk]; exact Nat.mod_lt _ hk0), List.getElem?_eq_getElem (by rw [hk]; exact Nat.mod_lt _ hk0)]
  · rw [List.getElem?_eq_none (by rw [Array.length_toList, size_flatK]; omega), List.getElem?_eq_none (by rw [hl]; omega)]

theorem sort_any (L : SlLaysF0.n6 P ρ) (k : Nat) (hk0 : 0 < k) (aE : ∀ w, (isAgg (ρ.t 24)).run P w = .ok true w) (zE : ∀ w, (Go.sizeOf (ρ.t 24)).run P w = .ok k w) (enc : α → List Value) (hk : ∀ x, (enc x).length = k) (h1 : ∀ x, ∀ v ∈ enc x, v.oneCell' = true)
    (cf : α → α → Int) (hO : SWO (ltOf cf)) (g : Nat) (eg : ∀ args w, (callFunc g args).run P w = .ok (.enter g args) w) (hc : CmpOk P g enc cf) (e : TypeId) (A : Option Addr) (cap : Nat) (l : List α) (w : World)
    (ho : OwnS w e k A cap l.length (l.flatMap enc)) (hsz : l.length < 4611686018427387904) :
    Calls P (ρ.f 6) #[.slice A l.length cap, .func (.func g) #[] #[]] w fun e' w' => e' = .returned (.tuple #[]) ∧ ∃ l' : List α, l'.Perm l ∧ l'.Pairwise (fun a b => ltOf cf b a = false) ∧ OwnS w' e k A cap l.length (l'.flatMap enc) ∧ w.grownBy w' (blk A) := by
  by_cases h0 : l = []
  · subst h0
    refine (AnyF.slices_SortFunc_none L A cap _ w).mono fun e' w' ⟨he, hw⟩ => ?_
    subst hw
    exact ⟨he, [], List.Perm.refl _, .nil, ho, ⟨rfl, rfl, rfl, Nat.le_refl _, fun _ _ _ => rfl⟩⟩
  · obtain ⟨gb, off, rfl, hlt, hcells⟩ := ho.head (List.length_pos_iff.2 h0) hk0
    obtain ⟨hol, hoc, hom, hor⟩ := ho
    rcases hor with ⟨hA, _⟩ | ⟨g', off', cur, hA, hh, hcs, hr⟩
    · cases hA
    · injection hA with hA; injection hA with hA1 hA2; subst hA1; subst hA2
      have hF : (flatK enc k l.toArray).toList = l.flatMap enc := flatK_toList enc k hk hk0 l.toArray
      have hsF : (flatK enc k l.toArray).size = l.length * k := by rw [size_flatK]; simp
      have hH : HoldsK enc k w gb off l.toArray := by
        intro j hj
        have hjl : j < (l.flatMap enc).length := by rw [← hF, Array.length_toList]; exact hj
        refine ⟨?_, ?_⟩
        · have h2 := hcells j ((l.flatMap enc)[j]) (List.getElem?_eq_getElem hjl)
          rw [h2, getElem!_pos (flatK enc k l.toArray) j hj]
          simp only [id]
          congr 1
          rw [← Array.getElem_toList]
          simp only [hF]
        · simp [World.frozen?, hh]
      have hcl : CmpLays P g #[] enc k cf gb off l.toArray.size w := fun m os dk _ x y => (hc x y _).mono fun e' w' ⟨he, hb, hd⟩ => ⟨he, grow_of_below hb hd⟩
      have hcon := AnyQ.slices_SortFunc L k aE zE enc hk h1 cf hO g #[] gb off cap l.toArray w eg hcl hH hlt (by simpa using hsz)
      rw [List.size_toArray] at hcon
      refine hcon.mono fun e' w' ⟨he, d', n, os, hp, hs, hw⟩ => ⟨he, d'.toList, ?_, ?_, ?_, ?_⟩
      · have h2 := hp.2.2
        have hds : d'.size = l.length := by rw [hp.1]; simp
        have e1 : d'.extract 0 l.length = d' := by rw [← hds]; simp
        have e2 : l.toArray.extract 0 l.length = l.toArray := by
          have := @Array.extract_size _ l.toArray
          rwa [List.size_toArray] at this
        rw [e1, e2] at h2
        exact h2
      · rw [List.pairwise_iff_getElem]
        intro i j hi hj hij
        have hds : d'.size = l.length := by rw [hp.1]; simp
        have h2 := hs i j (Nat.zero_le _) hij (by rw [← hds]; simpa using hj)
        rw [getElem!_pos _ _ (by simpa using hj), getElem!_pos _ _ (by simpa using hi)] at h2
        simpa using h2
      · have hds : d'.size = l.length := by rw [hp.1]; simp
        have hF' : (flatK enc k d').toList = d'.toList.flatMap enc := flatK_toList enc k hk hk0 d'
        have hsF' : (flatK enc k d').size = l.length * k := by rw [size_flatK, hds]
        have hw2 : w'.heap[gb]? = some (.cells (putCells id off (flatK enc k d') cur) e (0, 0)) := by
          rw [hw]
          unfold sortWorldK putRowK putRow
          rw [heap_grow_old _ _ (by simp [mapBlock]; exact hlt)]
          simp [mapBlock, Array.getElem?_modify, hh, onCells]
        refine ⟨by rw [← hF', Array.length_toList, hsF'], hoc, hom, .inr ⟨gb, off, _, rfl, hw2, by simp [putCells]; exact hcs, ?_⟩⟩
        intro j u hj
        rw [← hF', Array.getElem?_toList] at hj
        have hjl : j < (flatK enc k d').size := (Array.getElem?_eq_some_iff.1 hj).1
        have hjc : off + j < cur.size := by
          have : l.length * k ≤ cap * k := Nat.mul_le_mul_right _ hoc
          omega
        unfold putCells
        rw [Array.getElem?_mapIdx, Array.getElem?_eq_getElem hjc]
        simp only [Option.map_some]
        rw [if_pos ⟨by omega, by omega⟩, Nat.add_sub_cancel_left, getElem!_pos (flatK enc k d') j hjl]
        rw [Array.getElem?_eq_getElem hjl] at hj
        exact hj
      · rw [hw]
        unfold sortWorldK putRowK putRow
        refine ⟨rfl, rfl, rfl, by simp [mapBlock, grow], fun i hi hne => ?_⟩
        rw [heap_grow_old _ _ (by simp [mapBlock]; exact hi)]
        have : gb ≠ i := fun e => hne (by rw [e]; rfl)
        simp [mapBlock, Array.getElem?_modify, this]
end

/-! ### cmp -/
def cmpI (x y : Int) : Int := if x < y then -1 else if y < x then 1 else 0
def cmpS (x y : ByteArray) : Int := if ltStr x.data.toList y.data.toList then -1 else if ltStr y.data.toList x.data.toList then 1 else 0
def orI (x y : Int) : Int := if x = 0 then y else x
theorem cmpI_lt {x y : Int} (h : x < y) : cmpI x y = -1 := by unfold cmpI; rw [if_pos h]
theorem cmpI_gt {x y : Int} (h : y < x) : cmpI x y = 1 := by unfold cmpI; rw [if_neg (by omega), if_pos h]
theorem cmpI_eq (x : Int) : cmpI x x = 0 := by unfold cmpI; rw [if_neg (by omega), if_neg (by omega)]
theorem cmpS_lt {x y : ByteArray} (h : ltStr x.data.toList y.data.toList = true) : cmpS x y = -1 := by unfold cmpS; rw [if_pos h]
theorem cmpS_gt {x y : ByteArray} (h : ltStr x.data.toList y.data.toList = false) (h' : ltStr y.data.toList x.data.toList = true) : cmpS x y = 1 := by unfold cmpS; rw [if_neg (by rw [h]; decide), if_pos h']
theorem cmpS_eq {x y : ByteArray} (h : ltStr x.data.toList y.data.toList = false) (h' : ltStr y.data.toList x.data.toList = false) : cmpS x y = 0 := by unfold cmpS; rw [if_neg (by rw [h]; decide), if_neg (by rw [h']; decide)]
theorem orI_ne {x : Int} (y : Int) (h : x ≠ 0) : orI x y = x := by unfold orI; rw [if_neg h]
theorem orI_eq {x : Int} (y : Int) (h : x = 0) : orI x y = y := by unfold orI; rw [if_pos h]
end Go.Proofs.YtcmhbhdiepkndaaGreatDoor
