/-
  Several texts of this claim in one, in build order; each begins with its own remark, which says what it proves and under which conditions.
-/
import Derived.Test.YtfndhfekbbbliaaGreatDoorPackD
import Derived.Test.YtfndhfekbbbliaaGreatDoorPackA
import Derived.Deep.CutRange
import Derived.Test.YtfndhfekbbbliaaGreatDoorPackB

/-
  The reference's reader: one, at any text; all methods by induction; Parse. Conditions: the text takes at most 120 bytes, the depth is at most 20 (Parse: none).
-/
namespace Go.Proofs.YtfndhfekbbbliaaGreatDoor
open Go.RowKit Go.ChangeShapes Go.WideShapes
set_option linter.unusedVariables false

theorem pref_no {l : List UInt8} {t : ByteArray} (h : ∀ r, l ≠ t.data.toList ++ r) : Lib.hasPrefix l t.data.toList = false := by
  cases hb : Lib.hasPrefix l t.data.toList with
  | false => rfl
  | true =>
    obtain ⟨r, e⟩ := List.isPrefixOf_iff_prefix.1 hb
    exact absurd e.symm (h r)
theorem headR_ne {l : List UInt8} {x : UInt8} (h0 : x ≠ 0) (h : ∀ r, l ≠ x :: r) : (headR l == (x.toNat : Int)) = false :=
  headR_no (ops := [x]) (fun y r e hy => h r (by rw [e, List.mem_singleton.1 hy])) (by simp) h0
theorem one_num {W : Reads} {d : Nat} {l : List UInt8} (h1 : ∀ r, l ≠ 109 :: 105 :: 110 :: 40 :: r) (h2 : ∀ r, l ≠ 109 :: 97 :: 120 :: 40 :: r) (h3 : ∀ r, l ≠ 110 :: r) (h4 : ∀ r, l ≠ 115 :: r) (h5 : ∀ r, l ≠ 40 :: r) : oneRd W d l = numRd l := by
  unfold oneRd
  split
  · exact absurd rfl (h1 _)
  · exact absurd rfl (h2 _)
  · exact absurd rfl (h3 _)
  · exact absurd rfl (h4 _)
  · exact absurd rfl (h5 _)
  · rfl
theorem pone_reads {W : Reads} {m : Nat} (hS : ∀ d, Short (W d)) (hW : PReadsLt 35 W m) : PReadsAs 176 (oneRd W) m := by
  intro R s l d w h hs hd hm
  by_cases h1 : ∃ r, l = 109 :: 105 :: 110 :: 40 :: r
  · obtain ⟨r, hr⟩ := h1
    have := pone_two hS hW R s l r 109 d w h hs hd hm (.inl ⟨rfl, hr⟩)
    have e : oneRd W d l = deepRd d l.length (twoRd W 109 (d + 1) r) := by rw [hr]; rfl
    rw [e]; exact this
  by_cases h2 : ∃ r, l = 109 :: 97 :: 120 :: 40 :: r
  · obtain ⟨r, hr⟩ := h2
    have := pone_two hS hW R s l r 77 d w h hs hd hm (.inr ⟨rfl, hr⟩)
    have e : oneRd W d l = deepRd d l.length (twoRd W 77 (d + 1) r) := by rw [hr]; rfl
    rw [e]; exact this
  by_cases h3 : ∃ r, l = 110 :: r
  · obtain ⟨r, rfl⟩ := h3
    exact pone_name (W := W) R s r true d w h hs hd
  by_cases h4 : ∃ r, l = 115 :: r
  · obtain ⟨r, rfl⟩ := h4
    exact pone_name (W := W) R s r false d w h hs hd
  by_cases h5 : ∃ r, l = 40 :: r
  · obtain ⟨r, rfl⟩ := h5
    exact pone_brk hW R s r d w h hs hd (by simp only [List.length_cons] at hm; omega)
  have e : oneRd W d l = numRd l := one_num (fun r e => h1 ⟨r, e⟩) (fun r e => h2 ⟨r, e⟩) (fun r e => h3 ⟨r, e⟩) (fun r e => h4 ⟨r, e⟩) (fun r e => h5 ⟨r, e⟩)
  rw [e]
  exact pone_num R s l d w h hs hd (pref_no fun r e => h1 ⟨r, e⟩) (pref_no fun r e => h2 ⟨r, e⟩) (headR_ne (by decide) fun r e => h3 ⟨r, e⟩) (headR_ne (by decide) fun r e => h4 ⟨r, e⟩) (headR_ne (by decide) fun r e => h5 ⟨r, e⟩)
theorem pstep_reads {W : Reads} {m : Nat} (hS : ∀ d, Short (W d)) (hW : PReadsLt 35 W m) : PReadsAs 35 (wholeStep W) m := by
  have h4 := prow4_as (pless_reads (pone_reads hS hW))
  have h3 : PRowAs 3 (mulRd W) m := prow_loop (ops := [42, 47, 37]) (.inr ⟨rfl, rfl, rfl⟩) (fun d => less_short hS d) h4
  have h2 : PRowAs 2 (addRd W) m := prow_loop (ops := [43, 45]) (.inl ⟨rfl, rfl, rfl⟩) (fun d => row_short (less_short hS d) _) h3
  exact pwhole_reads hS (pcmp_reads hS h2) hW
theorem pwhole_all (k : Nat) : PReadsAs 35 (wholeRd k) k := by
  induction k with
  | zero => exact pstep_reads (bad_short 2) fun R s l d w _ _ _ h => absurd h (Nat.not_lt_zero _)
  | succ k ih => exact pstep_reads (whole_short k) fun R s l d w h1 h2 h3 h4 => ih R s l d w h1 h2 h3 (by omega)
/-- What Parse gives. -/
def PParse (w : World) (r : Parsed) (e : Ending) (w' : World) : Prop := Below w.heap.size w w' ∧ match r with
  | .tree t => ∃ o n A c, e = .returned (.tuple #[.agg #[.int .i64 o, .int .i64 n, .slice A c c], .int .i64 0, .int .i64 0]) ∧ TreeAt (fun k => w.heap.size ≤ k ∧ k < w'.heap.size) w' (.agg #[.int .i64 o, .int .i64 n, .slice A c c]) t
  | .fault a j => e = .returned (.tuple #[.agg #[.int .i64 0, .int .i64 0, .slice none 0 0], .int .i64 (a : Int), .int .i64 j]) ∧ j ≠ 0
theorem below_frmR {w w2 w3 : World} {R : Nat} (hb : Below w.heap.size w w2) (hf : Frm (· = R) w2 w3) (hR : w.heap.size ≤ R) : Below w.heap.size w w3 :=
  hb.trans ⟨hf.os, hf.tape, hf.output, hf.size, fun k hk => hf.block k (Nat.lt_of_lt_of_le hk hb.size) (by omega)⟩
set_option maxRecDepth 100000 in
theorem pparse_long (s : ByteArray) (w : World) (hs : 120 < s.size) : Calls Tryz.prog 9 #[.string s] w (PParse w (parseT s.data.toList)) := by
  have e : parseT s.data.toList = .fault 0 4 := by unfold parseT; rw [if_pos (by simpa using hs)]
  rw [e]
  have d1 : decide ((120 : Int) < (s.size : Int)) = true := decide_eq_true (by omega)
  have hend : Below w.heap.size w (w.alloc (.cells #[.int .i64 0, .int .i64 0, .slice none 0 0] 24)) := (Below.refl _ _).alloc (Nat.le_refl _) _
  have HE := Lib.hid hend
  have hv := RTVar.new w (.int .i64 0) (.int .i64 0) (.slice none 0 0)
  obtain ⟨q0, q1, q2, _⟩ := hv.cells
  clear e hend hv
  go_enter Tryz.func9, Tryz.ntmps9
  go_wp2_with fail
  refine ⟨rfl, .tuple #[.agg #[.int .i64 0, .int .i64 0, .slice none 0 0], .int .i64 0, .int .i64 4], ?_, HE.out, rfl, by decide⟩
  simp only [results, Tryz.results9]
  simp [go_sem, q0, q1, q2]
def rparsedOf (n : Nat) (r : Rd) : Parsed := match r with
  | .ok t [] => .tree t
  | .ok _ (_ :: r) => .fault (n - (r.length + 1)) 2
  | .bad k e => .fault (n - k) e
theorem rparse_of (l : List UInt8) (h : l.length ≤ 120) : parseT l = rparsedOf l.length (wholeRd l.length 0 l) := by
  unfold parseT rparsedOf; rw [if_neg (by omega)]
  rfl
set_option maxRecDepth 100000 in
set_option maxHeartbeats 8000000 in
theorem pparse_short (s : ByteArray) (w : World) (hs : s.size ≤ 120) : Calls Tryz.prog 9 #[.string s] w (PParse w (parseT s.data.toList)) := by
  obtain ⟨r0, hr0⟩ : ∃ r0, r0 = parseT s.data.toList := ⟨_, rfl⟩
  obtain ⟨r1, hr1⟩ : ∃ r1, r1 = wholeRd s.size 0 s.data.toList := ⟨_, rfl⟩
  rw [← hr0]
  have hlen : s.data.toList.length = s.size := Array.length_toList
  have e0 : r0 = rparsedOf s.size r1 := by rw [hr0, hr1, rparse_of _ (by omega), hlen]
  have HR0 := Lib.hid e0
  have HR1 := Lib.hid hr1
  have d1 : decide ((120 : Int) < (s.size : Int)) = false := decide_eq_false (by omega)
  obtain ⟨w2, hw2⟩ : ∃ w2, w2 = (w.alloc (.cells #[.int .i64 0, .int .i64 0, .slice none 0 0] 24)).alloc (.cells #[.string s, .int .i64 0, .int .i64 0, .int .i64 0, .int .i64 0] 81) := ⟨_, rfl⟩
  have hR : w2.heap[w.heap.size + 1]? = some (.cells #[.string s, .int .i64 0, .int .i64 0, .int .i64 0, .int .i64 0] 81 (0, 0)) := by
    rw [hw2]
    have := heap_alloc_new (w.alloc (.cells #[.int .i64 0, .int .i64 0, .slice none 0 0] 24)) (.cells #[.string s, .int .i64 0, .int .i64 0, .int .i64 0, .int .i64 0] 81)
    simpa using this
  have hv2 : RTVar w2 w.heap.size (.int .i64 0) (.int .i64 0) (.slice none 0 0) := by
    rw [hw2]
    exact (heap_alloc_old _ _ (by simp)).trans (RTVar.new _ _ _ _)
  have hb2 : Below w.heap.size w w2 := by rw [hw2]; exact ((Below.refl _ _).alloc (Nat.le_refl _) _).alloc (by simp) _
  obtain ⟨R, hRe⟩ : ∃ R, R = w.heap.size + 1 := ⟨_, rfl⟩
  rw [← hRe] at hR
  have hPL : PL w2 R s s.data.toList 0 := ⟨by omega, by rw [hlen, Nat.sub_self]; rfl, 0, by rw [hlen, Nat.sub_self]; exact hR⟩
  have HCALL := Lib.hid (pwhole_all s.size R s s.data.toList 0 w2 hPL hs (by omega) (by omega))
  rw [← HR1.out] at HCALL
  have HV2 := Lib.hid hv2
  have HB2 := Lib.hid hb2
  have HW2 := Lib.hid hw2
  have HRE := Lib.hid hRe
  clear hr0 hr1 e0 hlen hR hv2 hb2 hw2 hPL hRe
  go_enter Tryz.func9, Tryz.ntmps9
  go_wp2_with fail
  rw [← HRE.out, ← HW2.out]
  refine HCALL.out.mono ?_
  intro e w3 hr
  obtain ⟨o, n, A, c, rfl, hf, hst⟩ := hr.form
  have hkR : w.heap.size ≠ R := by have := HRE.out; omega
  have hv3 := HV2.out.frm hf hkR
  have HV3 := Lib.hid hv3
  have HB3 := Lib.hid (below_frmR HB2.out hf (by have := HRE.out; omega))
  have hlt3 : w.heap.size < w3.heap.size := block_lt hv3
  have hR3 : R < w3.heap.size := by
    rcases hst with ⟨t, l, h1, ht, hp⟩ | ⟨k, j, h1, hp⟩
    · exact hp.lt
    · obtain ⟨_, _, _, _, _, _, g5⟩ := hp; exact g5.lt
  have hsz2 : w.heap.size < w2.heap.size := block_lt HV2.out
  have hz : ∀ ob, RTVar (w3.alloc ob) w.heap.size (.int .i64 0) (.int .i64 0) (.slice none 0 0) := fun ob => (heap_alloc_old _ _ hlt3).trans hv3
  have z0 := fun ob => (hz ob).cells.1
  have z1 := fun ob => (hz ob).cells.2.1
  have z2 := fun ob => (hz ob).cells.2.2.1
  have z3 := fun ob => (hz ob).cells.2.2.2
  have HZ := Lib.hid hz
  have hb4 : Below w.heap.size w (w3.alloc (.cells #[.int .i64 o, .int .i64 n, .slice A c c] 24)) := HB3.out.alloc (Nat.le_of_lt hlt3) _
  have HB4 := Lib.hid hb4
  rcases hst with ⟨t, l, h1, ht, hp⟩ | ⟨k, j, h1, hp⟩
  · cases l with
    | nil =>
      have HE : Hid (r0 = .tree t) := by show _ = _; rw [HR0.out, h1]; rfl
      obtain ⟨wr, hpa⟩ := hp.2.2
      have e : s.size - ([] : List UInt8).length = s.size := Nat.sub_zero _
      rw [e] at hpa
      obtain ⟨c0, c1, c2, c3, c4, cf⟩ := hpa.cells
      have ht4 : TreeAt (fun k => w.heap.size ≤ k ∧ k < (rset (w3.alloc (.cells #[.int .i64 o, .int .i64 n, .slice A c c] 24)) w.heap.size (.int .i64 o) (.int .i64 n) (.slice A c c)).heap.size) (rset (w3.alloc (.cells #[.int .i64 o, .int .i64 n, .slice A c c] 24)) w.heap.size (.int .i64 o) (.int .i64 n) (.slice A c c)) (.agg #[.int .i64 o, .int .i64 n, .slice A c c]) t :=
        ((ht.keep fun k hk => heap_alloc_old _ _ hk.2).keep fun k hk => rset_far _ (by have := hk.1; omega) _ _ _).more fun k hk => ⟨by have := hk.1; omega, by rw [rset_size]; simp; have := hk.2; omega⟩
      have hb5 : Below w.heap.size w (rset (w3.alloc (.cells #[.int .i64 o, .int .i64 n, .slice A c c] 24)) w.heap.size (.int .i64 o) (.int .i64 n) (.slice A c c)) := ((hb4.setCell (Nat.le_refl _) _).setCell (Nat.le_refl _) _).setCell (Nat.le_refl _) _
      have HEND := Lib.hid (And.intro hb5 ht4)
      obtain ⟨q0, q1, q2, _⟩ := ((hz (.cells #[.int .i64 o, .int .i64 n, .slice A c c] 24)).put (.int .i64 o) (.int .i64 n) (.slice A c c)).cells
      have HQ := Lib.hid (And.intro q0 (And.intro q1 q2))
      clear hr hf hv3 ht hp hpa h1 ht4 hb5 hb4 hz q0 q1 q2 HR0 HR1 hsz2 hlt3 HCALL
      go_wp2_with fail
      obtain ⟨q0, q1, q2⟩ := HQ.out
      simp only [rset] at q0 q1 q2
      refine ⟨rfl, .tuple #[.agg #[.int .i64 o, .int .i64 n, .slice A c c], .int .i64 0, .int .i64 0], ?_, ?_⟩
      · simp only [results, Tryz.results9]
        simp [go_sem, q0, q1, q2]
      · rw [HE.out]
        exact ⟨HEND.out.1, o, n, A, c, rfl, HEND.out.2⟩
    | cons x r =>
      have HE : Hid (r0 = .fault (s.size - (r.length + 1)) 2) := by show _ = _; rw [HR0.out, h1]; rfl
      obtain ⟨wr, hpa⟩ := hp.2.2
      have hlen : r.length + 1 ≤ s.size := by have := hp.1; simpa using this
      obtain ⟨k, hk⟩ : ∃ k, k = r.length + 1 := ⟨_, rfl⟩
      have e : (x :: r : List UInt8).length = k := hk.symm
      rw [e] at hpa
      have d2 : decide (((s.size - k : Nat) : Int) < (s.size : Int)) = true := decide_eq_true (by omega)
      obtain ⟨p, hpk⟩ : ∃ p, p = s.size - k := ⟨_, rfl⟩
      rw [← hpk] at hpa d2
      have hps : p < s.size := by omega
      have h4 : PAt (w3.alloc (.cells #[.int .i64 o, .int .i64 n, .slice A c c] 24)) R s p 0 wr 0 := hpa.keep (heap_alloc_old _ _ hR3)
      have hv4 := hz (.cells #[.int .i64 o, .int .i64 n, .slice A c c] 24)
      obtain ⟨c0, c1, c2, c3, c4, cf⟩ := hpa.cells
      have HPK := Lib.hid hpk
      have HE2 : Hid (r0 = .fault (s.size - k) 2) := by show _ = _; rw [hk]; exact HE.out
      have HSZ : Hid (w.heap.size < (w3.alloc (.cells #[.int .i64 o, .int .i64 n, .slice A c c] 24)).heap.size) := block_lt hv4
      clear hr hf hv3 h1 hb4 hz HR0 HR1 hsz2 hlt3 HCALL z0 z1 z2 z3 HZ HV3 HB3 hp ht hpa hk e hpk hlen HE
      go_wp2_with fail
      refine (pfail_ok R p 0 s p 2 wr _ h4).mono ?_
      rintro e w5 ⟨rfl, hp5, hf5⟩
      have HB5 := Lib.hid (below_frmR HB4.out hf5 (by have := HRE.out; omega))
      have hv5 := RTVar.frm hv4 hf5 hkR
      clear hv4 h4 HB4 hf5 c0 c1 c2 c3 c4 cf hR3 d2
      obtain ⟨c0, c1, c2, c3, c4, cf⟩ := hp5.cells
      go_upto_region 8 with (fail)
      obtain ⟨z0, z1, z2, zf⟩ := hv5.cells
      have k3 : ∀ x y z, (rset w5 w.heap.size x y z).cell? ⟨R, 3, none⟩ = some (.int .i64 (p : Int)) := fun x y z => (World.cell?_of_block (a := ⟨R, 3, none⟩) (rset_far _ (Ne.symm hkR) _ _ _)).trans c3
      have k4 : ∀ x y z, (rset w5 w.heap.size x y z).cell? ⟨R, 4, none⟩ = some (.int .i64 2) := fun x y z => (World.cell?_of_block (a := ⟨R, 4, none⟩) (rset_far _ (Ne.symm hkR) _ _ _)).trans c4
      simp only [rset] at k3 k4
      go_region_held3 (fun W => W.cell? ⟨R, 3, none⟩ = some (.int .i64 (p : Int)) ∧ W.cell? ⟨R, 4, none⟩ = some (.int .i64 2)) (first | exact ⟨c3, c4⟩ | exact ⟨k3 _ _ _, k4 _ _ _⟩ | go_keep) (fail)
      have HEND : Hid (Below w.heap.size w (rset w5 w.heap.size (.int .i64 0) (.int .i64 0) (.slice none 0 0)).drew) := (((HB5.out.setCell (Nat.le_refl _) _).setCell (Nat.le_refl _) _).setCell (Nat.le_refl _) _).drew
      obtain ⟨q0, q1, q2, _⟩ := (hv5.put (.int .i64 0) (.int .i64 0) (.slice none 0 0)).cells
      have HQ : Hid ((rset w5 w.heap.size (.int .i64 0) (.int .i64 0) (.slice none 0 0)).drew.cell? ⟨w.heap.size, 0, none⟩ = some (.int .i64 0) ∧ (rset w5 w.heap.size (.int .i64 0) (.int .i64 0) (.slice none 0 0)).drew.cell? ⟨w.heap.size, 1, none⟩ = some (.int .i64 0) ∧ (rset w5 w.heap.size (.int .i64 0) (.int .i64 0) (.slice none 0 0)).drew.cell? ⟨w.heap.size, 2, none⟩ = some (.slice none 0 0)) := ⟨q0, q1, q2⟩
      clear k3 k4 q0 q1 q2 c0 c1 c2 c3 c4 cf z0 z1 z2 zf hv5 hp5 HB5
      go_wp2_with fail
      obtain ⟨q0, q1, q2⟩ := HQ.out
      simp only [rset] at q0 q1 q2
      refine ⟨rfl, .tuple #[.agg #[.int .i64 0, .int .i64 0, .slice none 0 0], .int .i64 (p : Int), .int .i64 2], ?_, ?_⟩
      · simp only [results, Tryz.results9]
        simp [go_sem, q0, q1, q2]
      · rw [HE2.out]; exact ⟨HEND.out, by rw [HPK.out], by decide⟩
  · have HE : Hid (r0 = .fault (s.size - k) j) := by show _ = _; rw [HR0.out, h1]; rfl
    obtain ⟨p, d', g1, g2, g3, g4, g5⟩ := hp
    have d0 : (j == 0) = false := beq_eq_false_iff_ne.2 g4
    have h4 : PAt (w3.alloc (.cells #[.int .i64 o, .int .i64 n, .slice A c c] 24)) R s p d' (s.size - k : Nat) j := g5.keep (heap_alloc_old _ _ hR3)
    have hv4 := hz (.cells #[.int .i64 o, .int .i64 n, .slice A c c] 24)
    have HJ := Lib.hid g4
    clear hr hf hv3 g1 g2 g3 g4 h1 hb4 hz HR0 HR1 hsz2 hlt3 HCALL z0 z1 z2 z3 HZ HV3 HB3
    obtain ⟨c0, c1, c2, c3, c4, cf⟩ := g5.cells
    go_upto_region 8 with (fail)
    clear c0 c1 c2 c3 c4 cf g5
    generalize w3.alloc (.cells #[.int .i64 o, .int .i64 n, .slice A c c] 24) = W4 at *
    obtain ⟨c0, c1, c2, c3, c4, cf⟩ := h4.cells
    obtain ⟨z0, z1, z2, zf⟩ := hv4.cells
    have k3 : ∀ x y z, (rset W4 w.heap.size x y z).cell? ⟨R, 3, none⟩ = some (.int .i64 (s.size - k : Nat)) := fun x y z => (World.cell?_of_block (a := ⟨R, 3, none⟩) (rset_far _ (Ne.symm hkR) _ _ _)).trans c3
    have k4 : ∀ x y z, (rset W4 w.heap.size x y z).cell? ⟨R, 4, none⟩ = some (.int .i64 j) := fun x y z => (World.cell?_of_block (a := ⟨R, 4, none⟩) (rset_far _ (Ne.symm hkR) _ _ _)).trans c4
    simp only [rset] at k3 k4
    go_region_held3 (fun W => W.cell? ⟨R, 3, none⟩ = some (.int .i64 (s.size - k : Nat)) ∧ W.cell? ⟨R, 4, none⟩ = some (.int .i64 j)) (first | exact ⟨c3, c4⟩ | exact ⟨k3 _ _ _, k4 _ _ _⟩ | go_keep) (fail)
    have HEND : Hid (Below w.heap.size w (rset W4 w.heap.size (.int .i64 0) (.int .i64 0) (.slice none 0 0)).drew) := (((HB4.out.setCell (Nat.le_refl _) _).setCell (Nat.le_refl _) _).setCell (Nat.le_refl _) _).drew
    obtain ⟨q0, q1, q2, _⟩ := (hv4.put (.int .i64 0) (.int .i64 0) (.slice none 0 0)).cells
    have HQ : Hid ((rset W4 w.heap.size (.int .i64 0) (.int .i64 0) (.slice none 0 0)).drew.cell? ⟨w.heap.size, 0, none⟩ = some (.int .i64 0) ∧ (rset W4 w.heap.size (.int .i64 0) (.int .i64 0) (.slice none 0 0)).drew.cell? ⟨w.heap.size, 1, none⟩ = some (.int .i64 0) ∧ (rset W4 w.heap.size (.int .i64 0) (.int .i64 0) (.slice none 0 0)).drew.cell? ⟨w.heap.size, 2, none⟩ = some (.slice none 0 0)) := ⟨q0, q1, q2⟩
    clear k3 k4 q0 q1 q2 c0 c1 c2 c3 c4 cf z0 z1 z2 zf hv4 h4 HB4
    go_wp2_with fail
    obtain ⟨q0, q1, q2⟩ := HQ.out
    simp only [rset] at q0 q1 q2
    refine ⟨rfl, .tuple #[.agg #[.int .i64 0, .int .i64 0, .slice none 0 0], .int .i64 (s.size - k : Nat), .int .i64 j], ?_, ?_⟩
    · simp only [results, Tryz.results9]
      simp [go_sem, q0, q1, q2]
    · rw [HE.out]; exact ⟨HEND.out, rfl, HJ.out⟩
theorem pparse_ok (s : ByteArray) (w : World) : Calls Tryz.prog 9 #[.string s] w (PParse w (parseT s.data.toList)) := by
  rcases Nat.lt_or_ge 120 s.size with h | h
  · exact pparse_long s w h
  · exact pparse_short s w h
end Go.Proofs.YtfndhfekbbbliaaGreatDoor

/-
  The reference's Texted, Counted, Node. Conditions: where the job lies.
-/
namespace Go.Proofs.YtfndhfekbbbliaaGreatDoor
open Go.RowKit Go.ChangeShapes Go.WideShapes
set_option linter.unusedVariables false

theorem rtexted_ok (k : Int) (w : World) : Calls Tryz.prog 49 #[.int .i64 k] w fun e w' => e = .returned (.bool (texted k)) ∧ w = w' := by
  go_enter Tryz.func49, Tryz.ntmps49
  by_cases h2 : k = 2
  · subst h2
    go_wp2
    go_ret
    exact ⟨rfl, rfl⟩
  by_cases h3 : k = 3
  · subst h3
    go_wp2
    go_ret
    exact ⟨rfl, rfl⟩
  by_cases h4 : k = 4
  · subst h4
    go_wp2
    go_ret
    exact ⟨rfl, rfl⟩
  have e2 : (k == 2) = false := by simp [h2]
  have e3 : (k == 3) = false := by simp [h3]
  have e4 : (k == 4) = false := by simp [h4]
  have HT : Hid (texted k = (k == 7)) := by simp [Hid, texted, h2, h3, h4]
  clear h2 h3 h4
  go_wp2
  go_ret
  exact ⟨by rw [HT.out]; rfl, rfl⟩
theorem rcounted_ok (k : Int) (w : World) : Calls Tryz.prog 50 #[.int .i64 k] w fun e w' => e = .returned (.bool (counted k)) ∧ w = w' := by
  go_enter Tryz.func50, Tryz.ntmps50
  by_cases h2 : k = 1
  · subst h2
    go_wp2
    go_ret
    exact ⟨rfl, rfl⟩
  by_cases h3 : k = 5
  · subst h3
    go_wp2
    go_ret
    exact ⟨rfl, rfl⟩
  have e2 : (k == 1) = false := by simp [h2]
  have e3 : (k == 5) = false := by simp [h3]
  have HT : Hid (counted k = (k == 8)) := by simp [Hid, counted, h2, h3]
  clear h2 h3
  go_wp2
  go_ret
  exact ⟨by rw [HT.out]; rfl, rfl⟩
/-- What is checked of a node ahead of its inputs' being. -/
def rnodeBody (n : Nod) : Int :=
  if (n.text.size ≠ 0 ∧ texted n.kind = false) ∨ (n.n ≠ 0 ∧ counted n.kind = false) then 3
  else if n.n < numLow n.kind ∨ numHigh n.kind < n.n then 1
  else if texted n.kind then textErr n.text.data.toList
  else 0
theorem rnodeErr_eq (l : List Nod) (i : Nat) (n : Nod) : nodeErr l i n =
  if n.kind < 1 ∨ 10 < n.kind then 1
  else if (n.from_.length : Int) < inLow n.kind ∨ inHigh n.kind < (n.from_.length : Int) then 3
  else if fromErr l i n.from_ ≠ 0 then fromErr l i n.from_
  else rnodeBody n := rfl
theorem rfrom_cons (l : List Nod) (i : Nat) (f : Int) (r : List Int) : fromErr l i (f :: r) = if f < 0 ∨ (i : Int) ≤ f then 1 else if (l[f.toNat]?.map (·.kind)) = some 10 then 7 else fromErr l i r := rfl
theorem rsize_of_nil {s : ByteArray} (h : s.toList = []) : s.size = 0 := by
  rw [ByteArray.toList_eq] at h
  have : s.data.toList.length = s.size := by simp
  rw [h] at this
  exact this.symm
theorem rempty_of_size {s : ByteArray} (h : s.size = 0) : s = ⟨#[]⟩ := by
  apply ByteArray.ext
  exact Array.eq_empty_of_size_eq_zero h
set_option maxRecDepth 100000 in
set_option maxHeartbeats 8000000 in
theorem rnode_ok (F : Nat → Prop) (A : Option Addr) (c : Nat) (l : List Nod) (i : Nat) (hi : i < l.length) (w : World) (hl : SlA nodE F w A c l) (hF : ∀ k, F k → k < w.heap.size) :
    Calls Tryz.prog 16 #[.slice A l.length c, .int .i64 i] w fun e w' => e = .returned (.int .i64 (nodeErr l i l[i])) ∧ Below w.heap.size w w' := by
  obtain ⟨b, off, A', c', rfl, hFb, x0, x1, x2, x3, htm, hki, hni, hfr⟩ := hl.nod_ hi
  have hbw := hF b hFb
  have HL := Lib.hid hl
  have HFR := Lib.hid hfr
  have hll := hl.le
  have hfl := hfr.le
  have bk := bounds_i64 hki
  have bn := bounds_i64 hni
  have HEQ := Lib.hid (rnodeErr_eq l i l[i])
  clear hl hfr hki hni
  generalize hn : l[i] = nd at x0 x1 x2 x3 htm HFR hfl bk bn HEQ ⊢
  clear hn
  obtain ⟨kind, from_, text, nn⟩ := nd
  simp only at x0 x1 x2 x3 htm HFR hfl bk bn HEQ ⊢
  by_cases hk : kind < 1 ∨ 10 < kind
  · rw [if_pos hk] at HEQ
    rcases hk with hk | hk
    · have d1 : decide (kind < 1) = true := decide_eq_true hk
      go_enter Tryz.func16, Tryz.ntmps16
      go_wp2_with fail
      go_ret
      exact ⟨by rw [HEQ.out]; rfl, (Below.refl _ _).alloc (Nat.le_refl _) _⟩
    · have d1 : decide (kind < 1) = false := decide_eq_false (by omega)
      have d2 : decide (10 < kind) = true := decide_eq_true hk
      go_enter Tryz.func16, Tryz.ntmps16
      go_wp2_with fail
      go_ret
      exact ⟨by rw [HEQ.out]; rfl, (Below.refl _ _).alloc (Nat.le_refl _) _⟩
  rw [if_neg hk] at HEQ
  have hk1 : 1 ≤ kind := by omega
  have hk2 : kind ≤ 10 := by omega
  have d1 : decide (kind < 1) = false := decide_eq_false (by omega)
  have d2 : decide (10 < kind) = false := decide_eq_false (by omega)
  clear hk
  obtain ⟨W1, hW1⟩ : ∃ W1, W1 = w.alloc (.cells #[.int .i64 kind, .slice A' from_.length c', .string text, .int .i64 nn] 40) := ⟨_, rfl⟩
  have hb1 : Below w.heap.size w W1 := by rw [hW1]; exact (Below.refl _ _).alloc (Nat.le_refl _) _
  have hv1 : W1.heap[w.heap.size]? = some (.cells #[.int .i64 kind, .slice A' from_.length c', .string text, .int .i64 nn] 40 (0, 0)) := by rw [hW1]; exact heap_alloc_new _ _
  have v0 : W1.cell? ⟨w.heap.size, 0, none⟩ = some (.int .i64 kind) := (cell_of_row W1 _ 0 _ _ _ hv1).trans rfl
  have v1 : W1.cell? ⟨w.heap.size, 1, none⟩ = some (.slice A' from_.length c') := (cell_of_row W1 _ 1 _ _ _ hv1).trans rfl
  have v2 : W1.cell? ⟨w.heap.size, 2, none⟩ = some (.string text) := (cell_of_row W1 _ 2 _ _ _ hv1).trans rfl
  have v3 : W1.cell? ⟨w.heap.size, 3, none⟩ = some (.int .i64 nn) := (cell_of_row W1 _ 3 _ _ _ hv1).trans rfl
  have HL1 := Lib.hid (HL.out.keep (fun j hj => hb1.block j (hF j hj)))
  have HF1 := Lib.hid (HFR.out.keep (fun j hj => hb1.block j (hF j hj)))
  have HB1 := Lib.hid hb1
  clear hb1 hv1 HL HFR
  go_enter Tryz.func16, Tryz.ntmps16
  go_upto_region 2 with (fail)
  rw [← hW1]
  clear hW1 x0 x1 x2 x3
  go_upto_region 5 with (fail)
  clear d1 d2
  obtain ⟨m, hm⟩ : ∃ m, m = from_.length := ⟨_, rfl⟩
  rw [← hm] at v1 ⊢
  have HM0 := Lib.hid hm
  clear hm
  go_cut [61] from 28 to 61 (fun bv wx => ∃ B : Bool, bv = .bool B ∧ W1 = wx ∧ Hid (B = true ↔ ((from_.length : Int) < inLow kind ∨ inHigh kind < (from_.length : Int))))
  case first =>
    clear hfl
    by_cases h1 : kind = 1
    · subst h1
      by_cases h0 : m = 0
      · subst h0
        go_wp2_with fail
        go_meet
        case rel => exact ⟨false, rfl, rfl, by have e := List.length_eq_zero_iff.1 HM0.out.symm; simp [Hid, inLow, inHigh, e]⟩
      · have e1 : ((m : Int) != 0) = true := by simp [h0]
        go_wp2_with fail
        go_meet
        case rel => exact ⟨true, by first | rfl | rw [e1], rfl, by have := HM0.out; simp [Hid, inLow, inHigh]; omega⟩
    by_cases h6 : kind = 6
    · subst h6
      by_cases h0 : (m : Int) < 1
      · have e1 : decide ((m : Int) < 1) = true := decide_eq_true h0
        go_wp2_with fail
        go_meet
        case rel => exact ⟨true, by first | rfl | rw [e1], rfl, by have := HM0.out; simp [Hid, inLow, inHigh]; omega⟩
      · have e1 : decide ((m : Int) < 1) = false := decide_eq_false h0
        by_cases h4 : 4 < (m : Int)
        · have e2 : decide (4 < (m : Int)) = true := decide_eq_true h4
          go_wp2_with fail
          go_meet
          case rel => exact ⟨true, by first | rfl | rw [e2], rfl, by have := HM0.out; simp [Hid, inLow, inHigh]; omega⟩
        · have e2 : decide (4 < (m : Int)) = false := decide_eq_false h4
          go_wp2_with fail
          go_meet
          case rel => exact ⟨false, by first | rfl | rw [e2], rfl, by have := HM0.out; simp [Hid, inLow, inHigh]; omega⟩
    have e1 : (kind == 1) = false := by simp [h1]
    have e2 : (kind != 1) = true := by simp [h1]
    have e3 : (kind == 6) = false := by simp [h6]
    have e4 : (kind != 6) = true := by simp [h6]
    have hin : inLow kind = 1 ∧ inHigh kind = 1 := by simp [inLow, inHigh, h1, h6]
    have HIN := Lib.hid hin
    clear hin h1 h6
    by_cases h0 : m = 1
    · subst h0
      go_wp2_with fail
      go_meet
      case rel => exact ⟨false, rfl, rfl, by show _ ↔ _; rw [HIN.out.1, HIN.out.2]; have := HM0.out; simp; omega⟩
    · have e5 : ((m : Int) != 1) = true := by simp; omega
      have HM := Lib.hid h0
      clear h0
      go_wp2_with fail
      go_meet
      case rel => exact ⟨true, by first | rfl | rw [e5], rfl, by show _ ↔ _; rw [HIN.out.1, HIN.out.2]; have := HM.out; have := HM0.out; simp; omega⟩
  case rest =>
    obtain ⟨B, rfl, rfl, hB⟩ := hcut
    have hm := HM0.out
    clear HM0
    subst hm
    cases B with
    | true =>
      rw [if_pos (hB.out.1 rfl)] at HEQ
      clear hB
      go_wp2_with fail
      go_ret
      exact ⟨by rw [HEQ.out]; rfl, HB1.out⟩
    | false =>
      rw [if_neg (fun h => by have := hB.out.2 h; cases this)] at HEQ
      clear hB
      go_wp2_with fail
      go_loop [7] (fun jv => ∃ j : Nat, j ≤ from_.length ∧ jv = .int .i64 j ∧ Hid (fromErr l i (from_.drop j) = fromErr l i from_)) (fun jv => from_.length - (intOf jv).toNat)
      case atStart => exact ⟨0, Nat.zero_le _, rfl, rfl⟩
      case round =>
        obtain ⟨j, hj, rfl, HJ⟩ := hrel
        by_cases hlt : j < from_.length
        · obtain ⟨bf, of_, rfl, _, hcf, _⟩ := HF1.out.int_ hlt
          have hdr : from_.drop j = from_[j] :: from_.drop (j + 1) := List.drop_eq_getElem_cons hlt
          have HJ2 : Hid (fromErr l i from_ = if from_[j] < 0 ∨ (i : Int) ≤ from_[j] then 1 else if (l[from_[j].toNat]?.map (·.kind)) = some 10 then 7 else fromErr l i (from_.drop (j + 1))) := by
            show _ = _
            rw [← HJ.out, hdr, rfrom_cons]
          generalize from_[j] = f at hcf HJ2
          clear hdr HJ
          by_cases hf : f < 0 ∨ (i : Int) ≤ f
          · rw [if_pos hf] at HJ2
            have HE : Hid (nodeErr l i ⟨kind, from_, text, nn⟩ = 1) := by show _ = _; rw [HEQ.out, HJ2.out]; rfl
            rcases hf with hf | hf
            · have e1 : decide (f < 0) = true := decide_eq_true hf
              go_wp2_with fail
              go_ret
              exact ⟨by rw [HE.out]; rfl, HB1.out⟩
            · have e1 : decide (f < 0) = false := decide_eq_false (by omega)
              have e2 : decide ((i : Int) ≤ f) = true := decide_eq_true hf
              go_wp2_with fail
              go_ret
              exact ⟨by rw [HE.out]; rfl, HB1.out⟩
          · rw [if_neg hf] at HJ2
            obtain ⟨fn, rfl⟩ : ∃ fn : Nat, f = fn := ⟨f.toNat, by omega⟩
            have hfi : fn < i := by omega
            have hfl2 : fn < l.length := by omega
            obtain ⟨bl, ol, A2, c2, hAl, _, y0, _, _, _, _, _, _, _⟩ := HL1.out.nod_ hfl2
            injection hAl with hAl
            injection hAl with hA1 hA2
            subst hA1; subst hA2
            obtain ⟨fk, hfk⟩ : ∃ fk, l[fn].kind = fk := ⟨_, rfl⟩
            have HJ2b : Hid (fromErr l i from_ = if fk = 10 then 7 else fromErr l i (from_.drop (j + 1))) := by
              show _ = _
              rw [HJ2.out, Int.toNat_natCast, List.getElem?_eq_getElem hfl2, ← hfk]
              by_cases h : l[fn].kind = 10 <;> simp [h]
            rw [hfk] at y0
            clear hfk HJ2
            by_cases h10 : fk = 10
            · subst h10
              have HE : Hid (nodeErr l i ⟨kind, from_, text, nn⟩ = 7) := by show _ = _; rw [HEQ.out, HJ2b.out]; rfl
              go_wp2_with fail
              go_ret
              exact ⟨by rw [HE.out]; rfl, HB1.out⟩
            · have e10 : (fk == 10) = false := by simp [h10]
              have HJ3 : Hid (fromErr l i (from_.drop (j + 1)) = fromErr l i from_) := by
                show _ = _
                rw [HJ2b.out, if_neg h10]
              clear h10 HJ2b hf
              go_wp2_with fail
              go_round
              case rel => exact ⟨j + 1, by omega, by go_num, HJ3⟩
              case measure => simp [intOf]; omega
        · have dj : decide (j < from_.length) = false := decide_eq_false hlt
          have HJ0 : Hid (fromErr l i from_ = 0) := by
            show _ = _
            rw [← HJ.out, List.drop_eq_nil_of_le (by omega)]; rfl
          rw [if_neg (by rw [HJ0.out]; simp)] at HEQ
          clear HJ HJ0 hj hlt
          go_wp2_with fail
          refine (rtexted_ok kind W1).mono ?_
          rintro e w3 ⟨rfl, rfl⟩
          go_wp2_with fail
          refine (rcounted_ok kind W1).mono ?_
          rintro e w3 ⟨rfl, rfl⟩
          obtain ⟨bt, hbt⟩ : ∃ bt, bt = texted kind := ⟨_, rfl⟩
          obtain ⟨bc, hbc⟩ : ∃ bc, bc = counted kind := ⟨_, rfl⟩
          rw [← hbt, ← hbc]
          have HBT := Lib.hid hbt
          have HBC := Lib.hid hbc
          clear hbt hbc
          go_upto_region 16 with (fail)
          go_cut [113] from 98 to 113 (fun bv wx => ∃ B : Bool, bv = .bool B ∧ W1 = wx ∧ Hid (B = true ↔ ((text.size ≠ 0 ∧ bt = false) ∨ (nn ≠ 0 ∧ bc = false))))
          case first =>
            by_cases ht : text.size = 0
            · have hte : text = ⟨#[]⟩ := rempty_of_size ht
              subst hte
              by_cases hn0 : nn = 0
              · subst hn0
                go_wp2_with fail
                go_meet
                case rel => exact ⟨false, rfl, rfl, by simp [Hid, ByteArray.size]⟩
              · have e1 : (nn != 0) = true := by simp [hn0]
                have e2 : (nn == 0) = false := by simp [hn0]
                have HN := Lib.hid hn0
                clear hn0
                cases bc
                all_goals
                  go_wp2_with fail
                  go_meet
                  case rel => exact ⟨_, rfl, rfl, by have := HN.out; simp [Hid, ByteArray.size, this]⟩
            · have hn1 : ¬ text.toList = [] := fun e => ht (rsize_of_nil e)
              have hn2 : (!text.toList.isEmpty) = true := by simp [hn1]
              cases bt with
              | false =>
                go_wp2_with fail
                go_meet
                case rel => exact ⟨true, rfl, rfl, by simp [Hid, ht]⟩
              | true =>
                by_cases hn0 : nn = 0
                · subst hn0
                  go_wp2_with fail
                  go_meet
                  case rel => exact ⟨false, rfl, rfl, by simp [Hid]⟩
                · have e1 : (nn != 0) = true := by simp [hn0]
                  have e2 : (nn == 0) = false := by simp [hn0]
                  have HN := Lib.hid hn0
                  clear hn0
                  cases bc
                  all_goals
                    go_wp2_with fail
                    go_meet
                    case rel => exact ⟨_, rfl, rfl, by have := HN.out; simp [Hid, this]⟩
          case rest =>
            obtain ⟨B, rfl, rfl, hB⟩ := hcut
            cases B with
            | true =>
              have hBB := hB.out.1 rfl
              rw [HBT.out, HBC.out] at hBB
              have HE : Hid (nodeErr l i ⟨kind, from_, text, nn⟩ = 3) := by show _ = _; rw [HEQ.out]; unfold rnodeBody; rw [if_pos hBB]
              clear hBB hB
              go_wp2_with fail
              go_ret
              exact ⟨by rw [HE.out]; rfl, HB1.out⟩
            | false =>
              have hBB : ¬ ((text.size ≠ 0 ∧ texted kind = false) ∨ (nn ≠ 0 ∧ counted kind = false)) := fun h => by rw [← HBT.out, ← HBC.out] at h; have := hB.out.2 h; cases this
              have HQ : Hid (nodeErr l i ⟨kind, from_, text, nn⟩ = if nn < numLow kind ∨ numHigh kind < nn then 1 else if texted kind = true then textErr text.data.toList else 0) := by
                show _ = _
                rw [HEQ.out]; unfold rnodeBody
                rw [if_neg hBB]
              have hnc : counted kind = false → nn = 0 := fun h => by
                refine Classical.byContradiction fun h2 => hBB (.inr ⟨h2, h⟩)
              have HNC := Lib.hid hnc
              clear hB HEQ hBB hnc
              go_upto_region 18 with (fail)
              go_cut [156] from 114 to 156 (fun bv wx => ∃ B : Bool, bv = .bool B ∧ W1 = wx ∧ Hid (B = true ↔ (nn < numLow kind ∨ numHigh kind < nn)))
              case first =>
                by_cases h1 : kind = 1
                · subst h1
                  by_cases h0 : nn < 1
                  · have e1 : decide (nn < 1) = true := decide_eq_true h0
                    go_wp2_with fail
                    go_meet
                    case rel => exact ⟨true, by first | rfl | rw [e1], rfl, by simp [Hid, numLow, numHigh]; omega⟩
                  · have e1 : decide (nn < 1) = false := decide_eq_false h0
                    by_cases h4 : 8 < nn
                    · have e2 : decide (8 < nn) = true := decide_eq_true h4
                      go_wp2_with fail
                      go_meet
                      case rel => exact ⟨true, by first | rfl | rw [e2], rfl, by simp [Hid, numLow, numHigh]; omega⟩
                    · have e2 : decide (8 < nn) = false := decide_eq_false h4
                      go_wp2_with fail
                      go_meet
                      case rel => exact ⟨false, by first | rfl | rw [e2], rfl, by simp [Hid, numLow, numHigh]; omega⟩
                by_cases h5 : kind = 5
                · subst h5
                  by_cases h0 : nn < 0
                  · have e1 : decide (nn < 0) = true := decide_eq_true h0
                    go_wp2_with fail
                    go_meet
                    case rel => exact ⟨true, by first | rfl | rw [e1], rfl, by simp [Hid, numLow, numHigh]; omega⟩
                  · have e1 : decide (nn < 0) = false := decide_eq_false h0
                    by_cases h4 : 3 < nn
                    · have e2 : decide (3 < nn) = true := decide_eq_true h4
                      go_wp2_with fail
                      go_meet
                      case rel => exact ⟨true, by first | rfl | rw [e2], rfl, by simp [Hid, numLow, numHigh]; omega⟩
                    · have e2 : decide (3 < nn) = false := decide_eq_false h4
                      go_wp2_with fail
                      go_meet
                      case rel => exact ⟨false, by first | rfl | rw [e2], rfl, by simp [Hid, numLow, numHigh]; omega⟩
                by_cases h8 : kind = 8
                · subst h8
                  by_cases h0 : nn < 1
                  · have e1 : decide (nn < 1) = true := decide_eq_true h0
                    go_wp2_with fail
                    go_meet
                    case rel => exact ⟨true, by first | rfl | rw [e1], rfl, by simp [Hid, numLow, numHigh]; omega⟩
                  · have e1 : decide (nn < 1) = false := decide_eq_false h0
                    by_cases h4 : 400 < nn
                    · have e2 : decide (400 < nn) = true := decide_eq_true h4
                      go_wp2_with fail
                      go_meet
                      case rel => exact ⟨true, by first | rfl | rw [e2], rfl, by simp [Hid, numLow, numHigh]; omega⟩
                    · have e2 : decide (400 < nn) = false := decide_eq_false h4
                      go_wp2_with fail
                      go_meet
                      case rel => exact ⟨false, by first | rfl | rw [e2], rfl, by simp [Hid, numLow, numHigh]; omega⟩
                have e1 : (kind == 1) = false := by simp [h1]
                have e2 : (kind == 5) = false := by simp [h5]
                have e3 : (kind == 8) = false := by simp [h8]
                have hcf : counted kind = false := by simp [counted, h1, h5, h8]
                have hn0 : nn = 0 := HNC.out hcf
                have hnl : numLow kind = 0 ∧ numHigh kind = 0 := by simp [numLow, numHigh, h1, h5, h8]
                have HNL := Lib.hid hnl
                have HN0 := Lib.hid hn0
                clear hnl h1 h5 h8 hn0 hcf
                go_wp2_with fail
                go_meet
                case rel => exact ⟨false, rfl, rfl, by show _ ↔ _; rw [HNL.out.1, HNL.out.2, HN0.out]; simp⟩
              case rest =>
                obtain ⟨B, rfl, rfl, hB⟩ := hcut
                cases B with
                | true =>
                  rw [if_pos (hB.out.1 rfl)] at HQ
                  clear hB
                  go_wp2_with fail
                  go_ret
                  exact ⟨by rw [HQ.out]; rfl, HB1.out⟩
                | false =>
                  rw [if_neg (fun h => by have := hB.out.2 h; cases this)] at HQ
                  clear hB
                  cases bt with
                  | false =>
                    rw [← HBT.out] at HQ
                    go_wp2_with fail
                    go_ret
                    exact ⟨by rw [HQ.out]; rfl, HB1.out⟩
                  | true =>
                    rw [← HBT.out] at HQ
                    go_wp2_with fail
                    refine (pparse_ok text W1).mono ?_
                    rintro e w5 ⟨hb5, hpr⟩
                    have HB5 := Lib.hid (HB1.out.trans (hb5.mono HB1.out.size))
                    clear hb5
                    cases hp : parseT text.data.toList with
                    | tree t =>
                      rw [hp] at hpr
                      obtain ⟨o, n, A, c, rfl, _⟩ := hpr
                      have HE : Hid (nodeErr l i ⟨kind, from_, text, nn⟩ = 0) := by show _ = _; rw [HQ.out]; unfold textErr; rw [hp]; rfl
                      clear hp
                      go_wp2_with fail
                      go_ret
                      exact ⟨by rw [HE.out]; rfl, HB5.out.alloc HB5.out.size _⟩
                    | fault a j =>
                      rw [hp] at hpr
                      obtain ⟨rfl, _⟩ := hpr
                      have HE : Hid (nodeErr l i ⟨kind, from_, text, nn⟩ = j) := by show _ = _; rw [HQ.out]; unfold textErr; rw [hp]; rfl
                      clear hp
                      go_wp2_with fail
                      go_ret
                      exact ⟨by rw [HE.out]; rfl, HB5.out.alloc HB5.out.size _⟩
end Go.Proofs.YtfndhfekbbbliaaGreatDoor

/-
  Quotients and what is left, plain, by signs: what the reference's whole numbers give is the operator's value. No condition but that the divisor is not 0.
-/
namespace Go.Proofs.YtfndhfekbbbliaaGreatDoor
open Go.RowKit
set_option linter.unusedVariables false

theorem wrap64_of {x : Int} (h : I64s x) : wrap64 x = x := by unfold wrap64; have := h.1; have := h.2; omega
theorem opVal_zero {op : UInt8} (h : op = 47 ∨ op = 37) (a : Int) : opVal op a 0 = 0 := by
  rcases h with rfl | rfl
  · unfold opVal; rw [if_neg (by decide), if_neg (by decide), if_neg (by decide), if_neg (by decide), if_neg (by decide), if_neg (by decide), if_neg (by decide), if_neg (by decide), if_pos rfl]
  · unfold opVal; rw [if_neg (by decide), if_neg (by decide), if_neg (by decide), if_neg (by decide), if_neg (by decide), if_neg (by decide), if_neg (by decide), if_neg (by decide), if_pos rfl]
theorem op47 {a b : Int} (h0 : b ≠ 0) : opVal 47 a b = if b = -1 then wrap64 (-a) else a.tdiv b := by
  unfold opVal
  rw [if_neg (by decide), if_neg (by decide), if_neg (by decide), if_neg (by decide), if_neg (by decide), if_neg (by decide), if_neg (by decide), if_neg (by decide), if_neg h0]
  split
  · rw [if_neg (by decide)]
  · rw [if_pos rfl]
theorem op37 {a b : Int} (h0 : b ≠ 0) : opVal 37 a b = if b = -1 then 0 else a.tmod b := by
  unfold opVal
  rw [if_neg (by decide), if_neg (by decide), if_neg (by decide), if_neg (by decide), if_neg (by decide), if_neg (by decide), if_neg (by decide), if_neg (by decide), if_neg h0]
  split
  · rw [if_pos rfl]
  · rw [if_neg (by decide)]
theorem tdiv_signs (a b : Int) : a.tdiv b = if (decide (a < 0) != decide (b < 0)) = true then -((a.natAbs / b.natAbs : Nat) : Int) else ((a.natAbs / b.natAbs : Nat) : Int) := by
  by_cases ha : a < 0
  · obtain ⟨m, rfl⟩ : ∃ m : Nat, a = -(m : Int) := ⟨a.natAbs, by omega⟩
    by_cases hb : b < 0
    · obtain ⟨k, rfl⟩ : ∃ k : Nat, b = -(k : Int) := ⟨b.natAbs, by omega⟩
      rw [decide_eq_true ha, decide_eq_true hb, if_neg (by decide), Int.natAbs_neg, Int.natAbs_neg, Int.natAbs_natCast, Int.natAbs_natCast, Int.tdiv_neg, Int.neg_tdiv, Int.neg_neg]; rfl
    · obtain ⟨k, rfl⟩ : ∃ k : Nat, b = (k : Int) := ⟨b.natAbs, by omega⟩
      rw [decide_eq_true ha, decide_eq_false hb, if_pos (by decide), Int.natAbs_neg, Int.natAbs_natCast, Int.natAbs_natCast, Int.neg_tdiv]; rfl
  · obtain ⟨m, rfl⟩ : ∃ m : Nat, a = (m : Int) := ⟨a.natAbs, by omega⟩
    by_cases hb : b < 0
    · obtain ⟨k, rfl⟩ : ∃ k : Nat, b = -(k : Int) := ⟨b.natAbs, by omega⟩
      rw [decide_eq_false ha, decide_eq_true hb, if_pos (by decide), Int.natAbs_neg, Int.natAbs_natCast, Int.natAbs_natCast, Int.tdiv_neg]; rfl
    · obtain ⟨k, rfl⟩ : ∃ k : Nat, b = (k : Int) := ⟨b.natAbs, by omega⟩
      rw [decide_eq_false ha, decide_eq_false hb, if_neg (by decide), Int.natAbs_natCast, Int.natAbs_natCast]; rfl
/-- The quotient. -/
theorem quo_val {a b : Int} (ha : I64s a) (hb : I64s b) (h0 : b ≠ 0) {Q : Nat} (hQ : Q = a.natAbs / b.natAbs) {f : Bool} (hf : f = ((decide (a < 0) != decide (b < 0)) && decide (0 < Q))) :
    (f = true → Q ≤ 9223372036854775808) ∧ Q ≤ 9223372036854775808 ∧ opVal 47 a b = (if (decide (Q < 9223372036854775808) || f) = true then (if f = true then -(Q : Int) else (Q : Int)) else a) := by
  obtain ⟨ha1, ha2⟩ := ha
  have hQa : Q ≤ a.natAbs := by rw [hQ]; exact Nat.div_le_self _ _
  have hqb : Q ≤ 9223372036854775808 := by omega
  refine ⟨fun _ => hqb, hqb, ?_⟩
  have hts := tdiv_signs a b
  rw [← hQ] at hts
  have hbase : a.tdiv b = if f = true then -(Q : Int) else (Q : Int) := by
    rw [hts, hf]
    by_cases hs : (decide (a < 0) != decide (b < 0)) = true
    · rw [if_pos hs, hs, Bool.true_and]
      by_cases hq0 : 0 < Q
      · rw [decide_eq_true hq0, if_pos rfl]
      · rw [decide_eq_false hq0, if_neg (by decide)]; omega
    · rw [if_neg hs]
      have : (decide (a < 0) != decide (b < 0)) = false := by simpa using hs
      rw [this, Bool.false_and, if_neg (by decide)]
  rw [op47 h0]
  by_cases hc : (decide (Q < 9223372036854775808) || f) = true
  · rw [if_pos hc, ← hbase]
    by_cases h1 : b = -1
    · rw [if_pos h1, h1]
      have e : a.tdiv (-1) = -a := by rw [Int.tdiv_neg, Int.tdiv_one]
      rw [e]
      refine wrap64_of ⟨by omega, ?_⟩
      rw [h1, e] at hbase
      rw [hbase]
      cases f with
      | true => rw [if_pos rfl]; omega
      | false =>
        rw [Bool.or_false, decide_eq_true_eq] at hc
        rw [if_neg (by decide)]; omega
    · rw [if_neg h1]
  · rw [if_neg hc]
    have hc2 : Q = 9223372036854775808 ∧ f = false := by
      rw [Bool.or_eq_true, decide_eq_true_eq, not_or] at hc
      exact ⟨by omega, by simpa using hc.2⟩
    have ham : a = -9223372036854775808 := by omega
    have hb1 : b.natAbs = 1 := by
      rcases Nat.lt_or_ge 1 b.natAbs with h7 | h7
      · have : a.natAbs / b.natAbs < a.natAbs := Nat.div_lt_self (by omega) h7
        omega
      · omega
    have hbm : b = -1 := by
      rcases Int.natAbs_eq b with h | h
      · rw [hb1] at h
        rw [hc2.2, hc2.1, ham, h] at hf
        exfalso
        revert hf; decide
      · rw [hb1] at h; exact h
    rw [if_pos hbm, ham]
    unfold wrap64; omega
theorem opVal_i64s_47 {a b : Int} (ha : I64s a) (hb : I64s b) (h0 : b ≠ 0) : I64s (opVal 47 a b) := by
  obtain ⟨Q, hQ⟩ : ∃ Q, Q = a.natAbs / b.natAbs := ⟨_, rfl⟩
  obtain ⟨f, hf⟩ : ∃ f, f = ((decide (a < 0) != decide (b < 0)) && decide (0 < Q)) := ⟨_, rfl⟩
  obtain ⟨q1, q2, q3⟩ := quo_val ha hb h0 hQ hf
  rw [q3]
  cases f with
  | true => rw [Bool.or_true, if_pos rfl, if_pos rfl]; exact ⟨by omega, by omega⟩
  | false =>
    by_cases hq : Q < 9223372036854775808
    · rw [decide_eq_true hq, Bool.true_or, if_pos rfl, if_neg (by decide)]; exact ⟨by omega, by omega⟩
    · rw [decide_eq_false hq, Bool.false_or, if_neg (by decide)]; exact ha
theorem tmod_signs (a b : Int) : a.tmod b = if a < 0 then -((a.natAbs % b.natAbs : Nat) : Int) else ((a.natAbs % b.natAbs : Nat) : Int) := by
  have hb : a.tmod b = a.tmod (b.natAbs : Int) := by
    rcases Int.natAbs_eq b with h | h
    · rw [← h]
    · conv => lhs; rw [h]
      rw [Int.tmod_neg]
  rw [hb]
  by_cases ha : a < 0
  · obtain ⟨m, rfl⟩ : ∃ m : Nat, a = -(m : Int) := ⟨a.natAbs, by omega⟩
    rw [if_pos ha, Int.natAbs_neg, Int.natAbs_natCast, Int.neg_tmod]; rfl
  · obtain ⟨m, rfl⟩ : ∃ m : Nat, a = (m : Int) := ⟨a.natAbs, by omega⟩
    rw [if_neg ha, Int.natAbs_natCast]; rfl
/-- What is left. -/
theorem rem_val {a b : Int} (ha : I64s a) (hb : I64s b) (h0 : b ≠ 0) {R : Nat} (hR : R = a.natAbs % b.natAbs) {f : Bool} (hf : f = (decide (a < 0) && decide (0 < R))) :
    (f = true → R ≤ 9223372036854775808) ∧ R ≤ 9223372036854775808 ∧ opVal 37 a b = (if (decide (R < 9223372036854775808) || f) = true then (if f = true then -(R : Int) else (R : Int)) else a) := by
  obtain ⟨hb1, hb2⟩ := hb
  have hlt : R < b.natAbs := by rw [hR]; exact Nat.mod_lt _ (by omega)
  have hR2 : R < 9223372036854775808 := by omega
  refine ⟨fun _ => by omega, by omega, ?_⟩
  have hts := tmod_signs a b
  rw [← hR] at hts
  rw [decide_eq_true hR2, Bool.true_or, if_pos rfl, op37 h0]
  have hbase : a.tmod b = if f = true then -(R : Int) else (R : Int) := by
    rw [hts, hf]
    by_cases hs : a < 0
    · rw [if_pos hs, decide_eq_true hs, Bool.true_and]
      by_cases hq0 : 0 < R
      · rw [decide_eq_true hq0, if_pos rfl]
      · rw [decide_eq_false hq0, if_neg (by decide)]; omega
    · rw [if_neg hs, decide_eq_false hs, Bool.false_and, if_neg (by decide)]
  rw [← hbase]
  by_cases h1 : b = -1
  · rw [if_pos h1, hts]
    have : R = 0 := by rw [h1] at hlt; simp at hlt; exact hlt
    rw [this]; split <;> rfl
  · rw [if_neg h1]
theorem opVal_i64s_37 {a b : Int} (ha : I64s a) (hb : I64s b) (h0 : b ≠ 0) : I64s (opVal 37 a b) := by
  have hlt : a.natAbs % b.natAbs < b.natAbs := Nat.mod_lt _ (by omega)
  rw [op37 h0]
  split
  · exact ⟨by omega, by omega⟩
  · rw [tmod_signs]
    obtain ⟨hb1, hb2⟩ := hb
    generalize a.natAbs % b.natAbs = R at hlt ⊢
    split <;> exact ⟨by omega, by omega⟩
end Go.Proofs.YtfndhfekbbbliaaGreatDoor

/-
  The reference's Value at a tree of two operands, operator by operator (printed by refval.py). Conditions: n and s are ints.
-/
namespace Go.Proofs.YtfndhfekbbbliaaGreatDoor
open Go.RowKit Go.ChangeShapes Go.WideShapes
set_option linter.unusedVariables false

set_option maxRecDepth 100000 in
set_option maxHeartbeats 1000000 in
theorem value_bin_43 (x y : Tr) (ix : ValueOk x) (iy : ValueOk y) : ValueOk (.bin 43 x y) := by
  intro v n s w h hn hs
  cases h with
  | @bin b o nn ss o' n' s' _ _ _ hop hb h0 h1 h2 hx h3 h4 h5 hy =>
    change Calls _ _ #[.agg #[.int .i64 43, .int .i64 0, .slice (some ⟨b, 0, none⟩) 2 2], .int .i64 n, .int .i64 s] w _
    obtain ⟨W1, hW1⟩ : ∃ W1, W1 = w.alloc (.cells #[.int .i64 43, .int .i64 0, .slice (some ⟨b, 0, none⟩) 2 2] 24) := ⟨_, rfl⟩
    have hb1 : Below w.heap.size w W1 := by rw [hW1]; exact (Below.refl _ _).alloc (Nat.le_refl _) _
    have g1 := heap_alloc_new w (.cells #[.int .i64 43, .int .i64 0, .slice (some ⟨b, 0, none⟩) 2 2] 24)
    rw [← hW1] at g1
    have HX := Lib.hid (ix _ n s W1 (hx.under hb1) hn hs)
    have HYY : Hid (∀ W, Below w.heap.size w W → Calls Tryz.prog 13 #[.agg #[o', n', s'], .int .i64 n, .int .i64 s] W (ValuePost y n s W)) := fun W hW => iy _ n s W (hy.under hW) hn hs
    have HC : Hid (∀ W, Below w.heap.size w W → W.cell? ⟨b, 3, none⟩ = some o' ∧ W.cell? ⟨b, 4, none⟩ = some n' ∧ W.cell? ⟨b, 5, none⟩ = some s') := fun W hW =>
      ⟨(hW.cell (p := ⟨b, 3, none⟩) hb).trans h3, (hW.cell (p := ⟨b, 4, none⟩) hb).trans h4, (hW.cell (p := ⟨b, 5, none⟩) hb).trans h5⟩
    have HB1 := Lib.hid hb1
    have y0 := cell_of_row W1 w.heap.size 0 _ _ _ g1
    have y2 := cell_of_row W1 w.heap.size 2 _ _ _ g1
    simp at y0 y2
    have hl1 := block_lt g1
    have HW := Lib.hid hW1
    have HY := Lib.hid (And.intro y0 y2)
    clear hx hy hn hs hb1 hW1 g1 ix iy h3 h4 h5 y0 y2 hop
    go_enter Tryz.func13, Tryz.ntmps13
    go_wp2_with fail
    rw [← HW.out]
    clear HW h0 h1 h2
    refine HX.out.mono ?_
    rintro e w2 ⟨rfl, hx2, hb2⟩
    have u0 := (hb2.cell (p := ⟨w.heap.size, 0, none⟩) hl1).trans HY.out.1
    have u2 := (hb2.cell (p := ⟨w.heap.size, 2, none⟩) hl1).trans HY.out.2
    have hl2 : w.heap.size < w2.heap.size := Nat.lt_of_lt_of_le hl1 hb2.size
    have hB2 := HB1.out.trans (hb2.mono HB1.out.size)
    have HB2 := Lib.hid hB2
    have HYC := Lib.hid (HYY.out w2 hB2)
    obtain ⟨p0, p1, p2⟩ := HC.out w2 hB2
    have HV0 : Hid ((Tr.bin 43 x y).val n s = opVal 43 (x.val n s) (y.val n s)) := rfl
    generalize x.val n s = xv at hx2 HV0
    clear HX HB1 hb2 HY HYY HC hB2
    have hx3 := hx2.1
    have hx4 := hx2.2
    clear hx2
    go_wp2_with fail
    refine HYC.out.mono ?_
    rintro e w3 ⟨rfl, hy2, hb3⟩
    have v0 := (hb3.cell (p := ⟨w.heap.size, 0, none⟩) hl2).trans u0
    have HB3 := Lib.hid (HB2.out.trans (hb3.mono HB2.out.size))
    have hz3 := HB3.out.size
    have hl3 : w.heap.size < w3.heap.size := Nat.lt_of_lt_of_le hl2 hb3.size
    generalize y.val n s = yv at hy2 HV0
    clear HYC hb3 u0 u2 p0 p1 p2 HB2
    have hy3 := hy2.1
    have hy4 := hy2.2
    clear hy2
    have HV : Hid ((Tr.bin 43 x y).val n s = wrap64 (xv + yv)) := by show _ = _; rw [HV0.out]; unfold opVal; rw [if_neg (by decide)]; rw [if_neg (by decide)]; rw [if_pos rfl]
    clear HV0
    go_wp2_with fail
    go_ret
    exact ⟨by rw [HV.out]; rfl, by rw [HV.out]; exact wrap_i64s _, HB3.out⟩
set_option maxRecDepth 100000 in
set_option maxHeartbeats 1000000 in
theorem value_bin_45 (x y : Tr) (ix : ValueOk x) (iy : ValueOk y) : ValueOk (.bin 45 x y) := by
  intro v n s w h hn hs
  cases h with
  | @bin b o nn ss o' n' s' _ _ _ hop hb h0 h1 h2 hx h3 h4 h5 hy =>
    change Calls _ _ #[.agg #[.int .i64 45, .int .i64 0, .slice (some ⟨b, 0, none⟩) 2 2], .int .i64 n, .int .i64 s] w _
    obtain ⟨W1, hW1⟩ : ∃ W1, W1 = w.alloc (.cells #[.int .i64 45, .int .i64 0, .slice (some ⟨b, 0, none⟩) 2 2] 24) := ⟨_, rfl⟩
    have hb1 : Below w.heap.size w W1 := by rw [hW1]; exact (Below.refl _ _).alloc (Nat.le_refl _) _
    have g1 := heap_alloc_new w (.cells #[.int .i64 45, .int .i64 0, .slice (some ⟨b, 0, none⟩) 2 2] 24)
    rw [← hW1] at g1
    have HX := Lib.hid (ix _ n s W1 (hx.under hb1) hn hs)
    have HYY : Hid (∀ W, Below w.heap.size w W → Calls Tryz.prog 13 #[.agg #[o', n', s'], .int .i64 n, .int .i64 s] W (ValuePost y n s W)) := fun W hW => iy _ n s W (hy.under hW) hn hs
    have HC : Hid (∀ W, Below w.heap.size w W → W.cell? ⟨b, 3, none⟩ = some o' ∧ W.cell? ⟨b, 4, none⟩ = some n' ∧ W.cell? ⟨b, 5, none⟩ = some s') := fun W hW =>
      ⟨(hW.cell (p := ⟨b, 3, none⟩) hb).trans h3, (hW.cell (p := ⟨b, 4, none⟩) hb).trans h4, (hW.cell (p := ⟨b, 5, none⟩) hb).trans h5⟩
    have HB1 := Lib.hid hb1
    have y0 := cell_of_row W1 w.heap.size 0 _ _ _ g1
    have y2 := cell_of_row W1 w.heap.size 2 _ _ _ g1
    simp at y0 y2
    have hl1 := block_lt g1
    have HW := Lib.hid hW1
    have HY := Lib.hid (And.intro y0 y2)
    clear hx hy hn hs hb1 hW1 g1 ix iy h3 h4 h5 y0 y2 hop
    go_enter Tryz.func13, Tryz.ntmps13
    go_wp2_with fail
    rw [← HW.out]
    clear HW h0 h1 h2
    refine HX.out.mono ?_
    rintro e w2 ⟨rfl, hx2, hb2⟩
    have u0 := (hb2.cell (p := ⟨w.heap.size, 0, none⟩) hl1).trans HY.out.1
    have u2 := (hb2.cell (p := ⟨w.heap.size, 2, none⟩) hl1).trans HY.out.2
    have hl2 : w.heap.size < w2.heap.size := Nat.lt_of_lt_of_le hl1 hb2.size
    have hB2 := HB1.out.trans (hb2.mono HB1.out.size)
    have HB2 := Lib.hid hB2
    have HYC := Lib.hid (HYY.out w2 hB2)
    obtain ⟨p0, p1, p2⟩ := HC.out w2 hB2
    have HV0 : Hid ((Tr.bin 45 x y).val n s = opVal 45 (x.val n s) (y.val n s)) := rfl
    generalize x.val n s = xv at hx2 HV0
    clear HX HB1 hb2 HY HYY HC hB2
    have hx3 := hx2.1
    have hx4 := hx2.2
    clear hx2
    go_wp2_with fail
    refine HYC.out.mono ?_
    rintro e w3 ⟨rfl, hy2, hb3⟩
    have v0 := (hb3.cell (p := ⟨w.heap.size, 0, none⟩) hl2).trans u0
    have HB3 := Lib.hid (HB2.out.trans (hb3.mono HB2.out.size))
    have hz3 := HB3.out.size
    have hl3 : w.heap.size < w3.heap.size := Nat.lt_of_lt_of_le hl2 hb3.size
    generalize y.val n s = yv at hy2 HV0
    clear HYC hb3 u0 u2 p0 p1 p2 HB2
    have hy3 := hy2.1
    have hy4 := hy2.2
    clear hy2
    have HV : Hid ((Tr.bin 45 x y).val n s = wrap64 (xv - yv)) := by show _ = _; rw [HV0.out]; unfold opVal; rw [if_neg (by decide)]; rw [if_neg (by decide)]; rw [if_neg (by decide)]; rw [if_pos rfl]
    clear HV0
    go_wp2_with fail
    go_ret
    exact ⟨by rw [HV.out]; rfl, by rw [HV.out]; exact wrap_i64s _, HB3.out⟩
set_option maxRecDepth 100000 in
set_option maxHeartbeats 1000000 in
theorem value_bin_42 (x y : Tr) (ix : ValueOk x) (iy : ValueOk y) : ValueOk (.bin 42 x y) := by
  intro v n s w h hn hs
  cases h with
  | @bin b o nn ss o' n' s' _ _ _ hop hb h0 h1 h2 hx h3 h4 h5 hy =>
    change Calls _ _ #[.agg #[.int .i64 42, .int .i64 0, .slice (some ⟨b, 0, none⟩) 2 2], .int .i64 n, .int .i64 s] w _
    obtain ⟨W1, hW1⟩ : ∃ W1, W1 = w.alloc (.cells #[.int .i64 42, .int .i64 0, .slice (some ⟨b, 0, none⟩) 2 2] 24) := ⟨_, rfl⟩
    have hb1 : Below w.heap.size w W1 := by rw [hW1]; exact (Below.refl _ _).alloc (Nat.le_refl _) _
    have g1 := heap_alloc_new w (.cells #[.int .i64 42, .int .i64 0, .slice (some ⟨b, 0, none⟩) 2 2] 24)
    rw [← hW1] at g1
    have HX := Lib.hid (ix _ n s W1 (hx.under hb1) hn hs)
    have HYY : Hid (∀ W, Below w.heap.size w W → Calls Tryz.prog 13 #[.agg #[o', n', s'], .int .i64 n, .int .i64 s] W (ValuePost y n s W)) := fun W hW => iy _ n s W (hy.under hW) hn hs
    have HC : Hid (∀ W, Below w.heap.size w W → W.cell? ⟨b, 3, none⟩ = some o' ∧ W.cell? ⟨b, 4, none⟩ = some n' ∧ W.cell? ⟨b, 5, none⟩ = some s') := fun W hW =>
      ⟨(hW.cell (p := ⟨b, 3, none⟩) hb).trans h3, (hW.cell (p := ⟨b, 4, none⟩) hb).trans h4, (hW.cell (p := ⟨b, 5, none⟩) hb).trans h5⟩
    have HB1 := Lib.hid hb1
    have y0 := cell_of_row W1 w.heap.size 0 _ _ _ g1
    have y2 := cell_of_row W1 w.heap.size 2 _ _ _ g1
    simp at y0 y2
    have hl1 := block_lt g1
    have HW := Lib.hid hW1
    have HY := Lib.hid (And.intro y0 y2)
    clear hx hy hn hs hb1 hW1 g1 ix iy h3 h4 h5 y0 y2 hop
    go_enter Tryz.func13, Tryz.ntmps13
    go_wp2_with fail
    rw [← HW.out]
    clear HW h0 h1 h2
    refine HX.out.mono ?_
    rintro e w2 ⟨rfl, hx2, hb2⟩
    have u0 := (hb2.cell (p := ⟨w.heap.size, 0, none⟩) hl1).trans HY.out.1
    have u2 := (hb2.cell (p := ⟨w.heap.size, 2, none⟩) hl1).trans HY.out.2
    have hl2 : w.heap.size < w2.heap.size := Nat.lt_of_lt_of_le hl1 hb2.size
    have hB2 := HB1.out.trans (hb2.mono HB1.out.size)
    have HB2 := Lib.hid hB2
    have HYC := Lib.hid (HYY.out w2 hB2)
    obtain ⟨p0, p1, p2⟩ := HC.out w2 hB2
    have HV0 : Hid ((Tr.bin 42 x y).val n s = opVal 42 (x.val n s) (y.val n s)) := rfl
    generalize x.val n s = xv at hx2 HV0
    clear HX HB1 hb2 HY HYY HC hB2
    have hx3 := hx2.1
    have hx4 := hx2.2
    clear hx2
    go_wp2_with fail
    refine HYC.out.mono ?_
    rintro e w3 ⟨rfl, hy2, hb3⟩
    have v0 := (hb3.cell (p := ⟨w.heap.size, 0, none⟩) hl2).trans u0
    have HB3 := Lib.hid (HB2.out.trans (hb3.mono HB2.out.size))
    have hz3 := HB3.out.size
    have hl3 : w.heap.size < w3.heap.size := Nat.lt_of_lt_of_le hl2 hb3.size
    generalize y.val n s = yv at hy2 HV0
    clear HYC hb3 u0 u2 p0 p1 p2 HB2
    have hy3 := hy2.1
    have hy4 := hy2.2
    clear hy2
    have HV : Hid ((Tr.bin 42 x y).val n s = wrap64 (xv * yv)) := by show _ = _; rw [HV0.out]; unfold opVal; rw [if_neg (by decide)]; rw [if_neg (by decide)]; rw [if_neg (by decide)]; rw [if_neg (by decide)]; rw [if_pos rfl]
    clear HV0
    go_wp2_with fail
    go_ret
    exact ⟨by rw [HV.out]; rfl, by rw [HV.out]; exact wrap_i64s _, HB3.out⟩
set_option maxRecDepth 100000 in
set_option maxHeartbeats 1000000 in
theorem value_bin_109 (x y : Tr) (ix : ValueOk x) (iy : ValueOk y) : ValueOk (.bin 109 x y) := by
  intro v n s w h hn hs
  cases h with
  | @bin b o nn ss o' n' s' _ _ _ hop hb h0 h1 h2 hx h3 h4 h5 hy =>
    change Calls _ _ #[.agg #[.int .i64 109, .int .i64 0, .slice (some ⟨b, 0, none⟩) 2 2], .int .i64 n, .int .i64 s] w _
    obtain ⟨W1, hW1⟩ : ∃ W1, W1 = w.alloc (.cells #[.int .i64 109, .int .i64 0, .slice (some ⟨b, 0, none⟩) 2 2] 24) := ⟨_, rfl⟩
    have hb1 : Below w.heap.size w W1 := by rw [hW1]; exact (Below.refl _ _).alloc (Nat.le_refl _) _
    have g1 := heap_alloc_new w (.cells #[.int .i64 109, .int .i64 0, .slice (some ⟨b, 0, none⟩) 2 2] 24)
    rw [← hW1] at g1
    have HX := Lib.hid (ix _ n s W1 (hx.under hb1) hn hs)
    have HYY : Hid (∀ W, Below w.heap.size w W → Calls Tryz.prog 13 #[.agg #[o', n', s'], .int .i64 n, .int .i64 s] W (ValuePost y n s W)) := fun W hW => iy _ n s W (hy.under hW) hn hs
    have HC : Hid (∀ W, Below w.heap.size w W → W.cell? ⟨b, 3, none⟩ = some o' ∧ W.cell? ⟨b, 4, none⟩ = some n' ∧ W.cell? ⟨b, 5, none⟩ = some s') := fun W hW =>
      ⟨(hW.cell (p := ⟨b, 3, none⟩) hb).trans h3, (hW.cell (p := ⟨b, 4, none⟩) hb).trans h4, (hW.cell (p := ⟨b, 5, none⟩) hb).trans h5⟩
    have HB1 := Lib.hid hb1
    have y0 := cell_of_row W1 w.heap.size 0 _ _ _ g1
    have y2 := cell_of_row W1 w.heap.size 2 _ _ _ g1
    simp at y0 y2
    have hl1 := block_lt g1
    have HW := Lib.hid hW1
    have HY := Lib.hid (And.intro y0 y2)
    clear hx hy hn hs hb1 hW1 g1 ix iy h3 h4 h5 y0 y2 hop
    go_enter Tryz.func13, Tryz.ntmps13
    go_wp2_with fail
    rw [← HW.out]
    clear HW h0 h1 h2
    refine HX.out.mono ?_
    rintro e w2 ⟨rfl, hx2, hb2⟩
    have u0 := (hb2.cell (p := ⟨w.heap.size, 0, none⟩) hl1).trans HY.out.1
    have u2 := (hb2.cell (p := ⟨w.heap.size, 2, none⟩) hl1).trans HY.out.2
    have hl2 : w.heap.size < w2.heap.size := Nat.lt_of_lt_of_le hl1 hb2.size
    have hB2 := HB1.out.trans (hb2.mono HB1.out.size)
    have HB2 := Lib.hid hB2
    have HYC := Lib.hid (HYY.out w2 hB2)
    obtain ⟨p0, p1, p2⟩ := HC.out w2 hB2
    have HV0 : Hid ((Tr.bin 109 x y).val n s = opVal 109 (x.val n s) (y.val n s)) := rfl
    generalize x.val n s = xv at hx2 HV0
    clear HX HB1 hb2 HY HYY HC hB2
    have hx3 := hx2.1
    have hx4 := hx2.2
    clear hx2
    go_wp2_with fail
    refine HYC.out.mono ?_
    rintro e w3 ⟨rfl, hy2, hb3⟩
    have v0 := (hb3.cell (p := ⟨w.heap.size, 0, none⟩) hl2).trans u0
    have HB3 := Lib.hid (HB2.out.trans (hb3.mono HB2.out.size))
    have hz3 := HB3.out.size
    have hl3 : w.heap.size < w3.heap.size := Nat.lt_of_lt_of_le hl2 hb3.size
    generalize y.val n s = yv at hy2 HV0
    clear HYC hb3 u0 u2 p0 p1 p2 HB2
    have hy3 := hy2.1
    have hy4 := hy2.2
    clear hy2
    by_cases hc : xv < yv
    · have HV : Hid ((Tr.bin 109 x y).val n s = xv) := by show _ = _; rw [HV0.out]; unfold opVal; rw [if_pos rfl]; exact Int.min_eq_left (by omega)
      have dc : decide (xv < yv) = true := by exact decide_eq_true hc
      clear HV0
      go_wp2_with fail
      go_ret
      exact ⟨by rw [HV.out]; rfl, by rw [HV.out]; exact ⟨by omega, by omega⟩, HB3.out⟩
    · have HV : Hid ((Tr.bin 109 x y).val n s = yv) := by show _ = _; rw [HV0.out]; unfold opVal; rw [if_pos rfl]; exact Int.min_eq_right (by omega)
      have dc : decide (xv < yv) = false := by exact decide_eq_false hc
      clear HV0
      go_wp2_with fail
      go_ret
      exact ⟨by rw [HV.out]; rfl, by rw [HV.out]; exact ⟨by omega, by omega⟩, HB3.out⟩
set_option maxRecDepth 100000 in
set_option maxHeartbeats 1000000 in
theorem value_bin_77 (x y : Tr) (ix : ValueOk x) (iy : ValueOk y) : ValueOk (.bin 77 x y) := by
  intro v n s w h hn hs
  cases h with
  | @bin b o nn ss o' n' s' _ _ _ hop hb h0 h1 h2 hx h3 h4 h5 hy =>
    change Calls _ _ #[.agg #[.int .i64 77, .int .i64 0, .slice (some ⟨b, 0, none⟩) 2 2], .int .i64 n, .int .i64 s] w _
    obtain ⟨W1, hW1⟩ : ∃ W1, W1 = w.alloc (.cells #[.int .i64 77, .int .i64 0, .slice (some ⟨b, 0, none⟩) 2 2] 24) := ⟨_, rfl⟩
    have hb1 : Below w.heap.size w W1 := by rw [hW1]; exact (Below.refl _ _).alloc (Nat.le_refl _) _
    have g1 := heap_alloc_new w (.cells #[.int .i64 77, .int .i64 0, .slice (some ⟨b, 0, none⟩) 2 2] 24)
    rw [← hW1] at g1
    have HX := Lib.hid (ix _ n s W1 (hx.under hb1) hn hs)
    have HYY : Hid (∀ W, Below w.heap.size w W → Calls Tryz.prog 13 #[.agg #[o', n', s'], .int .i64 n, .int .i64 s] W (ValuePost y n s W)) := fun W hW => iy _ n s W (hy.under hW) hn hs
    have HC : Hid (∀ W, Below w.heap.size w W → W.cell? ⟨b, 3, none⟩ = some o' ∧ W.cell? ⟨b, 4, none⟩ = some n' ∧ W.cell? ⟨b, 5, none⟩ = some s') := fun W hW =>
      ⟨(hW.cell (p := ⟨b, 3, none⟩) hb).trans h3, (hW.cell (p := ⟨b, 4, none⟩) hb).trans h4, (hW.cell (p := ⟨b, 5, none⟩) hb).trans h5⟩
    have HB1 := Lib.hid hb1
    have y0 := cell_of_row W1 w.heap.size 0 _ _ _ g1
    have y2 := cell_of_row W1 w.heap.size 2 _ _ _ g1
    simp at y0 y2
    have hl1 := block_lt g1
    have HW := Lib.hid hW1
    have HY := Lib.hid (And.intro y0 y2)
    clear hx hy hn hs hb1 hW1 g1 ix iy h3 h4 h5 y0 y2 hop
    go_enter Tryz.func13, Tryz.ntmps13
    go_wp2_with fail
    rw [← HW.out]
    clear HW h0 h1 h2
    refine HX.out.mono ?_
    rintro e w2 ⟨rfl, hx2, hb2⟩
    have u0 := (hb2.cell (p := ⟨w.heap.size, 0, none⟩) hl1).trans HY.out.1
    have u2 := (hb2.cell (p := ⟨w.heap.size, 2, none⟩) hl1).trans HY.out.2
    have hl2 : w.heap.size < w2.heap.size := Nat.lt_of_lt_of_le hl1 hb2.size
    have hB2 := HB1.out.trans (hb2.mono HB1.out.size)
    have HB2 := Lib.hid hB2
    have HYC := Lib.hid (HYY.out w2 hB2)
    obtain ⟨p0, p1, p2⟩ := HC.out w2 hB2
    have HV0 : Hid ((Tr.bin 77 x y).val n s = opVal 77 (x.val n s) (y.val n s)) := rfl
    generalize x.val n s = xv at hx2 HV0
    clear HX HB1 hb2 HY HYY HC hB2
    have hx3 := hx2.1
    have hx4 := hx2.2
    clear hx2
    go_wp2_with fail
    refine HYC.out.mono ?_
    rintro e w3 ⟨rfl, hy2, hb3⟩
    have v0 := (hb3.cell (p := ⟨w.heap.size, 0, none⟩) hl2).trans u0
    have HB3 := Lib.hid (HB2.out.trans (hb3.mono HB2.out.size))
    have hz3 := HB3.out.size
    have hl3 : w.heap.size < w3.heap.size := Nat.lt_of_lt_of_le hl2 hb3.size
    generalize y.val n s = yv at hy2 HV0
    clear HYC hb3 u0 u2 p0 p1 p2 HB2
    have hy3 := hy2.1
    have hy4 := hy2.2
    clear hy2
    by_cases hc : yv < xv
    · have HV : Hid ((Tr.bin 77 x y).val n s = xv) := by show _ = _; rw [HV0.out]; unfold opVal; rw [if_neg (by decide)]; rw [if_pos rfl]; exact Int.max_eq_left (by omega)
      have dc : decide (yv < xv) = true := by exact decide_eq_true hc
      clear HV0
      go_wp2_with fail
      go_ret
      exact ⟨by rw [HV.out]; rfl, by rw [HV.out]; exact ⟨by omega, by omega⟩, HB3.out⟩
    · have HV : Hid ((Tr.bin 77 x y).val n s = yv) := by show _ = _; rw [HV0.out]; unfold opVal; rw [if_neg (by decide)]; rw [if_pos rfl]; exact Int.max_eq_right (by omega)
      have dc : decide (yv < xv) = false := by exact decide_eq_false hc
      clear HV0
      go_wp2_with fail
      go_ret
      exact ⟨by rw [HV.out]; rfl, by rw [HV.out]; exact ⟨by omega, by omega⟩, HB3.out⟩
set_option maxRecDepth 100000 in
set_option maxHeartbeats 1000000 in
theorem value_bin_60 (x y : Tr) (ix : ValueOk x) (iy : ValueOk y) : ValueOk (.bin 60 x y) := by
  intro v n s w h hn hs
  cases h with
  | @bin b o nn ss o' n' s' _ _ _ hop hb h0 h1 h2 hx h3 h4 h5 hy =>
    change Calls _ _ #[.agg #[.int .i64 60, .int .i64 0, .slice (some ⟨b, 0, none⟩) 2 2], .int .i64 n, .int .i64 s] w _
    obtain ⟨W1, hW1⟩ : ∃ W1, W1 = w.alloc (.cells #[.int .i64 60, .int .i64 0, .slice (some ⟨b, 0, none⟩) 2 2] 24) := ⟨_, rfl⟩
    have hb1 : Below w.heap.size w W1 := by rw [hW1]; exact (Below.refl _ _).alloc (Nat.le_refl _) _
    have g1 := heap_alloc_new w (.cells #[.int .i64 60, .int .i64 0, .slice (some ⟨b, 0, none⟩) 2 2] 24)
    rw [← hW1] at g1
    have HX := Lib.hid (ix _ n s W1 (hx.under hb1) hn hs)
    have HYY : Hid (∀ W, Below w.heap.size w W → Calls Tryz.prog 13 #[.agg #[o', n', s'], .int .i64 n, .int .i64 s] W (ValuePost y n s W)) := fun W hW => iy _ n s W (hy.under hW) hn hs
    have HC : Hid (∀ W, Below w.heap.size w W → W.cell? ⟨b, 3, none⟩ = some o' ∧ W.cell? ⟨b, 4, none⟩ = some n' ∧ W.cell? ⟨b, 5, none⟩ = some s') := fun W hW =>
      ⟨(hW.cell (p := ⟨b, 3, none⟩) hb).trans h3, (hW.cell (p := ⟨b, 4, none⟩) hb).trans h4, (hW.cell (p := ⟨b, 5, none⟩) hb).trans h5⟩
    have HB1 := Lib.hid hb1
    have y0 := cell_of_row W1 w.heap.size 0 _ _ _ g1
    have y2 := cell_of_row W1 w.heap.size 2 _ _ _ g1
    simp at y0 y2
    have hl1 := block_lt g1
    have HW := Lib.hid hW1
    have HY := Lib.hid (And.intro y0 y2)
    clear hx hy hn hs hb1 hW1 g1 ix iy h3 h4 h5 y0 y2 hop
    go_enter Tryz.func13, Tryz.ntmps13
    go_wp2_with fail
    rw [← HW.out]
    clear HW h0 h1 h2
    refine HX.out.mono ?_
    rintro e w2 ⟨rfl, hx2, hb2⟩
    have u0 := (hb2.cell (p := ⟨w.heap.size, 0, none⟩) hl1).trans HY.out.1
    have u2 := (hb2.cell (p := ⟨w.heap.size, 2, none⟩) hl1).trans HY.out.2
    have hl2 : w.heap.size < w2.heap.size := Nat.lt_of_lt_of_le hl1 hb2.size
    have hB2 := HB1.out.trans (hb2.mono HB1.out.size)
    have HB2 := Lib.hid hB2
    have HYC := Lib.hid (HYY.out w2 hB2)
    obtain ⟨p0, p1, p2⟩ := HC.out w2 hB2
    have HV0 : Hid ((Tr.bin 60 x y).val n s = opVal 60 (x.val n s) (y.val n s)) := rfl
    generalize x.val n s = xv at hx2 HV0
    clear HX HB1 hb2 HY HYY HC hB2
    have hx3 := hx2.1
    have hx4 := hx2.2
    clear hx2
    go_wp2_with fail
    refine HYC.out.mono ?_
    rintro e w3 ⟨rfl, hy2, hb3⟩
    have v0 := (hb3.cell (p := ⟨w.heap.size, 0, none⟩) hl2).trans u0
    have HB3 := Lib.hid (HB2.out.trans (hb3.mono HB2.out.size))
    have hz3 := HB3.out.size
    have hl3 : w.heap.size < w3.heap.size := Nat.lt_of_lt_of_le hl2 hb3.size
    generalize y.val n s = yv at hy2 HV0
    clear HYC hb3 u0 u2 p0 p1 p2 HB2
    have hy3 := hy2.1
    have hy4 := hy2.2
    clear hy2
    by_cases hc : xv < yv
    · have HV : Hid ((Tr.bin 60 x y).val n s = 1) := by show _ = _; rw [HV0.out]; unfold opVal; rw [if_neg (by decide)]; rw [if_neg (by decide)]; rw [if_neg (by decide)]; rw [if_neg (by decide)]; rw [if_neg (by decide)]; rw [if_neg (by decide)]; rw [if_pos rfl]; rw [decide_eq_true hc]; rfl
      have dc : decide (xv < yv) = true := by exact decide_eq_true hc
      clear HV0
      go_wp2_with fail
      go_ret
      exact ⟨by rw [HV.out]; rfl, by rw [HV.out]; exact ⟨by omega, by omega⟩, HB3.out⟩
    · have HV : Hid ((Tr.bin 60 x y).val n s = 0) := by show _ = _; rw [HV0.out]; unfold opVal; rw [if_neg (by decide)]; rw [if_neg (by decide)]; rw [if_neg (by decide)]; rw [if_neg (by decide)]; rw [if_neg (by decide)]; rw [if_neg (by decide)]; rw [if_pos rfl]; rw [decide_eq_false hc]; rfl
      have dc : decide (xv < yv) = false := by exact decide_eq_false hc
      clear HV0
      go_wp2_with fail
      go_ret
      exact ⟨by rw [HV.out]; rfl, by rw [HV.out]; exact ⟨by omega, by omega⟩, HB3.out⟩
set_option maxRecDepth 100000 in
set_option maxHeartbeats 1000000 in
theorem value_bin_62 (x y : Tr) (ix : ValueOk x) (iy : ValueOk y) : ValueOk (.bin 62 x y) := by
  intro v n s w h hn hs
  cases h with
  | @bin b o nn ss o' n' s' _ _ _ hop hb h0 h1 h2 hx h3 h4 h5 hy =>
    change Calls _ _ #[.agg #[.int .i64 62, .int .i64 0, .slice (some ⟨b, 0, none⟩) 2 2], .int .i64 n, .int .i64 s] w _
    obtain ⟨W1, hW1⟩ : ∃ W1, W1 = w.alloc (.cells #[.int .i64 62, .int .i64 0, .slice (some ⟨b, 0, none⟩) 2 2] 24) := ⟨_, rfl⟩
    have hb1 : Below w.heap.size w W1 := by rw [hW1]; exact (Below.refl _ _).alloc (Nat.le_refl _) _
    have g1 := heap_alloc_new w (.cells #[.int .i64 62, .int .i64 0, .slice (some ⟨b, 0, none⟩) 2 2] 24)
    rw [← hW1] at g1
    have HX := Lib.hid (ix _ n s W1 (hx.under hb1) hn hs)
    have HYY : Hid (∀ W, Below w.heap.size w W → Calls Tryz.prog 13 #[.agg #[o', n', s'], .int .i64 n, .int .i64 s] W (ValuePost y n s W)) := fun W hW => iy _ n s W (hy.under hW) hn hs
    have HC : Hid (∀ W, Below w.heap.size w W → W.cell? ⟨b, 3, none⟩ = some o' ∧ W.cell? ⟨b, 4, none⟩ = some n' ∧ W.cell? ⟨b, 5, none⟩ = some s') := fun W hW =>
      ⟨(hW.cell (p := ⟨b, 3, none⟩) hb).trans h3, (hW.cell (p := ⟨b, 4, none⟩) hb).trans h4, (hW.cell (p := ⟨b, 5, none⟩) hb).trans h5⟩
    have HB1 := Lib.hid hb1
    have y0 := cell_of_row W1 w.heap.size 0 _ _ _ g1
    have y2 := cell_of_row W1 w.heap.size 2 _ _ _ g1
    simp at y0 y2
    have hl1 := block_lt g1
    have HW := Lib.hid hW1
    have HY := Lib.hid (And.intro y0 y2)
    clear hx hy hn hs hb1 hW1 g1 ix iy h3 h4 h5 y0 y2 hop
    go_enter Tryz.func13, Tryz.ntmps13
    go_wp2_with fail
    rw [← HW.out]
    clear HW h0 h1 h2
    refine HX.out.mono ?_
    rintro e w2 ⟨rfl, hx2, hb2⟩
    have u0 := (hb2.cell (p := ⟨w.heap.size, 0, none⟩) hl1).trans HY.out.1
    have u2 := (hb2.cell (p := ⟨w.heap.size, 2, none⟩) hl1).trans HY.out.2
    have hl2 : w.heap.size < w2.heap.size := Nat.lt_of_lt_of_le hl1 hb2.size
    have hB2 := HB1.out.trans (hb2.mono HB1.out.size)
    have HB2 := Lib.hid hB2
    have HYC := Lib.hid (HYY.out w2 hB2)
    obtain ⟨p0, p1, p2⟩ := HC.out w2 hB2
    have HV0 : Hid ((Tr.bin 62 x y).val n s = opVal 62 (x.val n s) (y.val n s)) := rfl
    generalize x.val n s = xv at hx2 HV0
    clear HX HB1 hb2 HY HYY HC hB2
    have hx3 := hx2.1
    have hx4 := hx2.2
    clear hx2
    go_wp2_with fail
    refine HYC.out.mono ?_
    rintro e w3 ⟨rfl, hy2, hb3⟩
    have v0 := (hb3.cell (p := ⟨w.heap.size, 0, none⟩) hl2).trans u0
    have HB3 := Lib.hid (HB2.out.trans (hb3.mono HB2.out.size))
    have hz3 := HB3.out.size
    have hl3 : w.heap.size < w3.heap.size := Nat.lt_of_lt_of_le hl2 hb3.size
    generalize y.val n s = yv at hy2 HV0
    clear HYC hb3 u0 u2 p0 p1 p2 HB2
    have hy3 := hy2.1
    have hy4 := hy2.2
    clear hy2
    by_cases hc : yv < xv
    · have HV : Hid ((Tr.bin 62 x y).val n s = 1) := by show _ = _; rw [HV0.out]; unfold opVal; rw [if_neg (by decide)]; rw [if_neg (by decide)]; rw [if_neg (by decide)]; rw [if_neg (by decide)]; rw [if_neg (by decide)]; rw [if_neg (by decide)]; rw [if_neg (by decide)]; rw [if_pos rfl]; rw [decide_eq_true hc]; rfl
      have dc : decide (yv < xv) = true := by exact decide_eq_true hc
      clear HV0
      go_wp2_with fail
      go_ret
      exact ⟨by rw [HV.out]; rfl, by rw [HV.out]; exact ⟨by omega, by omega⟩, HB3.out⟩
    · have HV : Hid ((Tr.bin 62 x y).val n s = 0) := by show _ = _; rw [HV0.out]; unfold opVal; rw [if_neg (by decide)]; rw [if_neg (by decide)]; rw [if_neg (by decide)]; rw [if_neg (by decide)]; rw [if_neg (by decide)]; rw [if_neg (by decide)]; rw [if_neg (by decide)]; rw [if_pos rfl]; rw [decide_eq_false hc]; rfl
      have dc : decide (yv < xv) = false := by exact decide_eq_false hc
      clear HV0
      go_wp2_with fail
      go_ret
      exact ⟨by rw [HV.out]; rfl, by rw [HV.out]; exact ⟨by omega, by omega⟩, HB3.out⟩
set_option maxRecDepth 100000 in
set_option maxHeartbeats 1000000 in
theorem value_bin_61 (x y : Tr) (ix : ValueOk x) (iy : ValueOk y) : ValueOk (.bin 61 x y) := by
  intro v n s w h hn hs
  cases h with
  | @bin b o nn ss o' n' s' _ _ _ hop hb h0 h1 h2 hx h3 h4 h5 hy =>
    change Calls _ _ #[.agg #[.int .i64 61, .int .i64 0, .slice (some ⟨b, 0, none⟩) 2 2], .int .i64 n, .int .i64 s] w _
    obtain ⟨W1, hW1⟩ : ∃ W1, W1 = w.alloc (.cells #[.int .i64 61, .int .i64 0, .slice (some ⟨b, 0, none⟩) 2 2] 24) := ⟨_, rfl⟩
    have hb1 : Below w.heap.size w W1 := by rw [hW1]; exact (Below.refl _ _).alloc (Nat.le_refl _) _
    have g1 := heap_alloc_new w (.cells #[.int .i64 61, .int .i64 0, .slice (some ⟨b, 0, none⟩) 2 2] 24)
    rw [← hW1] at g1
    have HX := Lib.hid (ix _ n s W1 (hx.under hb1) hn hs)
    have HYY : Hid (∀ W, Below w.heap.size w W → Calls Tryz.prog 13 #[.agg #[o', n', s'], .int .i64 n, .int .i64 s] W (ValuePost y n s W)) := fun W hW => iy _ n s W (hy.under hW) hn hs
    have HC : Hid (∀ W, Below w.heap.size w W → W.cell? ⟨b, 3, none⟩ = some o' ∧ W.cell? ⟨b, 4, none⟩ = some n' ∧ W.cell? ⟨b, 5, none⟩ = some s') := fun W hW =>
      ⟨(hW.cell (p := ⟨b, 3, none⟩) hb).trans h3, (hW.cell (p := ⟨b, 4, none⟩) hb).trans h4, (hW.cell (p := ⟨b, 5, none⟩) hb).trans h5⟩
    have HB1 := Lib.hid hb1
    have y0 := cell_of_row W1 w.heap.size 0 _ _ _ g1
    have y2 := cell_of_row W1 w.heap.size 2 _ _ _ g1
    simp at y0 y2
    have hl1 := block_lt g1
    have HW := Lib.hid hW1
    have HY := Lib.hid (And.intro y0 y2)
    clear hx hy hn hs hb1 hW1 g1 ix iy h3 h4 h5 y0 y2 hop
    go_enter Tryz.func13, Tryz.ntmps13
    go_wp2_with fail
    rw [← HW.out]
    clear HW h0 h1 h2
    refine HX.out.mono ?_
    rintro e w2 ⟨rfl, hx2, hb2⟩
    have u0 := (hb2.cell (p := ⟨w.heap.size, 0, none⟩) hl1).trans HY.out.1
    have u2 := (hb2.cell (p := ⟨w.heap.size, 2, none⟩) hl1).trans HY.out.2
    have hl2 : w.heap.size < w2.heap.size := Nat.lt_of_lt_of_le hl1 hb2.size
    have hB2 := HB1.out.trans (hb2.mono HB1.out.size)
    have HB2 := Lib.hid hB2
    have HYC := Lib.hid (HYY.out w2 hB2)
    obtain ⟨p0, p1, p2⟩ := HC.out w2 hB2
    have HV0 : Hid ((Tr.bin 61 x y).val n s = opVal 61 (x.val n s) (y.val n s)) := rfl
    generalize x.val n s = xv at hx2 HV0
    clear HX HB1 hb2 HY HYY HC hB2
    have hx3 := hx2.1
    have hx4 := hx2.2
    clear hx2
    go_wp2_with fail
    refine HYC.out.mono ?_
    rintro e w3 ⟨rfl, hy2, hb3⟩
    have v0 := (hb3.cell (p := ⟨w.heap.size, 0, none⟩) hl2).trans u0
    have HB3 := Lib.hid (HB2.out.trans (hb3.mono HB2.out.size))
    have hz3 := HB3.out.size
    have hl3 : w.heap.size < w3.heap.size := Nat.lt_of_lt_of_le hl2 hb3.size
    generalize y.val n s = yv at hy2 HV0
    clear HYC hb3 u0 u2 p0 p1 p2 HB2
    have hy3 := hy2.1
    have hy4 := hy2.2
    clear hy2
    by_cases hc : xv = yv
    · have HV : Hid ((Tr.bin 61 x y).val n s = 1) := by show _ = _; rw [HV0.out]; unfold opVal; rw [if_neg (by decide)]; rw [if_neg (by decide)]; rw [if_neg (by decide)]; rw [if_neg (by decide)]; rw [if_neg (by decide)]; rw [if_pos rfl]; rw [beq_iff_eq.2 hc]; rfl
      have dc : (xv == yv) = true := by exact beq_iff_eq.2 hc
      clear HV0
      go_wp2_with fail
      go_ret
      exact ⟨by rw [HV.out]; rfl, by rw [HV.out]; exact ⟨by omega, by omega⟩, HB3.out⟩
    · have HV : Hid ((Tr.bin 61 x y).val n s = 0) := by show _ = _; rw [HV0.out]; unfold opVal; rw [if_neg (by decide)]; rw [if_neg (by decide)]; rw [if_neg (by decide)]; rw [if_neg (by decide)]; rw [if_neg (by decide)]; rw [if_pos rfl]; rw [beq_eq_false_iff_ne.2 hc]; rfl
      have dc : (xv == yv) = false := by exact beq_eq_false_iff_ne.2 hc
      clear HV0
      go_wp2_with fail
      go_ret
      exact ⟨by rw [HV.out]; rfl, by rw [HV.out]; exact ⟨by omega, by omega⟩, HB3.out⟩
end Go.Proofs.YtfndhfekbbbliaaGreatDoor

/-
  The reference's Value at a quotient (printed by refval.py). Conditions: n and s are ints.
-/
namespace Go.Proofs.YtfndhfekbbbliaaGreatDoor
open Go.RowKit Go.ChangeShapes Go.WideShapes
set_option linter.unusedVariables false

set_option maxRecDepth 100000 in
set_option maxHeartbeats 1000000 in
theorem value_bin_47 (x y : Tr) (ix : ValueOk x) (iy : ValueOk y) : ValueOk (.bin 47 x y) := by
  intro v n s w h hn hs
  cases h with
  | @bin b o nn ss o' n' s' _ _ _ hop hb h0 h1 h2 hx h3 h4 h5 hy =>
    change Calls _ _ #[.agg #[.int .i64 47, .int .i64 0, .slice (some ⟨b, 0, none⟩) 2 2], .int .i64 n, .int .i64 s] w _
    obtain ⟨W1, hW1⟩ : ∃ W1, W1 = w.alloc (.cells #[.int .i64 47, .int .i64 0, .slice (some ⟨b, 0, none⟩) 2 2] 24) := ⟨_, rfl⟩
    have hb1 : Below w.heap.size w W1 := by rw [hW1]; exact (Below.refl _ _).alloc (Nat.le_refl _) _
    have g1 := heap_alloc_new w (.cells #[.int .i64 47, .int .i64 0, .slice (some ⟨b, 0, none⟩) 2 2] 24)
    rw [← hW1] at g1
    have HX := Lib.hid (ix _ n s W1 (hx.under hb1) hn hs)
    have HYY : Hid (∀ W, Below w.heap.size w W → Calls Tryz.prog 13 #[.agg #[o', n', s'], .int .i64 n, .int .i64 s] W (ValuePost y n s W)) := fun W hW => iy _ n s W (hy.under hW) hn hs
    have HC : Hid (∀ W, Below w.heap.size w W → W.cell? ⟨b, 3, none⟩ = some o' ∧ W.cell? ⟨b, 4, none⟩ = some n' ∧ W.cell? ⟨b, 5, none⟩ = some s') := fun W hW =>
      ⟨(hW.cell (p := ⟨b, 3, none⟩) hb).trans h3, (hW.cell (p := ⟨b, 4, none⟩) hb).trans h4, (hW.cell (p := ⟨b, 5, none⟩) hb).trans h5⟩
    have HB1 := Lib.hid hb1
    have y0 := cell_of_row W1 w.heap.size 0 _ _ _ g1
    have y2 := cell_of_row W1 w.heap.size 2 _ _ _ g1
    simp at y0 y2
    have hl1 := block_lt g1
    have HW := Lib.hid hW1
    have HY := Lib.hid (And.intro y0 y2)
    clear hx hy hn hs hb1 hW1 g1 ix iy h3 h4 h5 y0 y2 hop
    go_enter Tryz.func13, Tryz.ntmps13
    go_wp2_with fail
    rw [← HW.out]
    clear HW h0 h1 h2
    refine HX.out.mono ?_
    rintro e w2 ⟨rfl, hx2, hb2⟩
    have u0 := (hb2.cell (p := ⟨w.heap.size, 0, none⟩) hl1).trans HY.out.1
    have u2 := (hb2.cell (p := ⟨w.heap.size, 2, none⟩) hl1).trans HY.out.2
    have hl2 : w.heap.size < w2.heap.size := Nat.lt_of_lt_of_le hl1 hb2.size
    have hB2 := HB1.out.trans (hb2.mono HB1.out.size)
    have HB2 := Lib.hid hB2
    have HYC := Lib.hid (HYY.out w2 hB2)
    obtain ⟨p0, p1, p2⟩ := HC.out w2 hB2
    have HV0 : Hid ((Tr.bin 47 x y).val n s = opVal 47 (x.val n s) (y.val n s)) := rfl
    generalize x.val n s = xv at hx2 HV0
    clear HX HB1 hb2 HY HYY HC hB2
    have hx3 := hx2.1
    have hx4 := hx2.2
    clear hx2
    go_wp2_with fail
    refine HYC.out.mono ?_
    rintro e w3 ⟨rfl, hy2, hb3⟩
    have v0 := (hb3.cell (p := ⟨w.heap.size, 0, none⟩) hl2).trans u0
    have HB3 := Lib.hid (HB2.out.trans (hb3.mono HB2.out.size))
    have hz3 := HB3.out.size
    have hl3 : w.heap.size < w3.heap.size := Nat.lt_of_lt_of_le hl2 hb3.size
    generalize y.val n s = yv at hy2 HV0
    clear HYC hb3 u0 u2 p0 p1 p2 HB2
    have hy3 := hy2.1
    have hy4 := hy2.2
    clear hy2
    by_cases h0 : yv = 0
    · subst h0
      have HV : Hid ((Tr.bin 47 x y).val n s = 0) := by show _ = _; rw [HV0.out]; exact opVal_zero (by decide) xv
      clear HV0
      go_wp2_with fail
      go_ret
      exact ⟨by rw [HV.out]; rfl, by rw [HV.out]; exact ⟨by omega, by omega⟩, HB3.out⟩
    · have d0 : (yv == 0) = false := by rw [beq_eq_false_iff_ne]; exact h0
      have hVn : yv.natAbs ≠ 0 := by omega
      have HNX := Lib.hid (fun W => newInt_ok xv W ⟨hx3, hx4⟩)
      have HNY := Lib.hid (fun W => newInt_ok yv W ⟨hy3, hy4⟩)
      have HI3 := Lib.hid (new_objQ w3)
      have HB4 : Hid (Below w3.heap.size w3 (w3.alloc (.cells #[.bool false, .slice none 0 0] 98))) := (Below.refl _ _).alloc (Nat.le_refl _) _
      have hz4 : (w3.alloc (.cells #[.bool false, .slice none 0 0] 98)).heap.size = w3.heap.size + 1 := by simp
      go_wp2_with fail
      generalize w3.alloc (.cells #[.bool false, .slice none 0 0] 98) = w4 at HI3 HB4 hz4 ⊢
      refine (HNX.out w4).mono ?_
      rintro e w5 ⟨g1, rfl, hg1, hb5⟩
      have HG1 := Lib.hid hg1
      have HB5 := Lib.hid hb5
      have HI5 := Lib.hid (HI3.out.frm (Frm.ofBelow (F := fun _ => False) hb5) id)
      clear hg1 hb5 HI3
      go_wp2_with fail
      refine (HNY.out w5).mono ?_
      rintro e w6 ⟨g2, rfl, hg2, hb6⟩
      have HQ := Lib.hid (quo_ok w3.heap.size g1 g2 (decide (xv < 0)) (decide (yv < 0)) xv.natAbs yv.natAbs w6 (HI5.out.frm (Frm.ofBelow (F := fun _ => False) hb6) id) (HG1.out.below hb6) hg2 (by omega) hVn)
      have hB6 : Below w3.heap.size w3 w6 := HB4.out.trans ((HB5.out.trans (hb6.mono HB5.out.size)).mono HB4.out.size)
      have HB6 := Lib.hid hB6
      have hz6 := hB6.size
      clear hg2 hb6 hB6 HG1 HB4 HB5 HI5
      go_wp2_with fail
      refine HQ.out.mono ?_
      rintro e w7 ⟨rfl, hq, hf7⟩
      have v7 := (World.cell?_of_block (a := ⟨w.heap.size, 0, none⟩) (hf7.block w.heap.size (by omega) (by omega))).trans ((HB6.out.cell (p := ⟨w.heap.size, 0, none⟩) hl3).trans v0)
      have HB7 : Hid (Below w.heap.size w w7) := HB3.out.trans ((HB6.out.trans (hf7.below (by omega) (fun k hk => by omega))).mono HB3.out.size)
      have hl7 : w.heap.size < w7.heap.size := by have := hf7.size; omega
      have HQQ := Lib.hid hq
      clear hq hf7 HQ HB6 v0
      obtain ⟨Q, hQe⟩ : ∃ Q, Q = xv.natAbs / yv.natAbs := ⟨_, rfl⟩
      rw [← hQe] at HQQ
      obtain ⟨f, hfe⟩ : ∃ f, f = ((decide (xv < 0) != decide (yv < 0)) && decide (0 < Q)) := ⟨_, rfl⟩
      rw [← hfe] at HQQ
      obtain ⟨q1, q2, q3⟩ := quo_val ⟨hx3, hx4⟩ ⟨hy3, hy4⟩ h0 hQe hfe
      clear hQe hfe
      have HV := Lib.hid (HV0.out.trans q3)
      have HIS := Lib.hid (isInt64_ok w3.heap.size _ _ w7 HQQ.out q1)
      have HI64 := Lib.hid (fun h => int64_ok w3.heap.size _ _ w7 HQQ.out q2 h)
      have HOP : Hid (I64s (opVal 47 xv yv)) := opVal_i64s_47 ⟨hx3, hx4⟩ ⟨hy3, hy4⟩ h0
      rw [← HV0.out] at HOP
      clear HV0 q1 q2 q3
      by_cases hlt : Q < 9223372036854775808
      · rw [decide_eq_true hlt, Bool.true_or] at HIS HV
        rw [if_pos rfl] at HV
        have HI := Lib.hid (HI64.out (fun _ => hlt))
        obtain ⟨r, hr⟩ : ∃ r : Int, r = if f = true then -(Q : Int) else (Q : Int) := ⟨_, rfl⟩
        rw [← hr] at HV HI
        clear HI64 HQQ hr
        go_wp2_with fail
        refine HIS.out.mono ?_
        rintro e w8 ⟨rfl, rfl⟩
        clear HIS
        go_wp2_with fail
        refine HI.out.mono ?_
        rintro e w8 ⟨rfl, rfl⟩
        clear HI
        go_wp2_with fail
        go_ret
        exact ⟨by rw [HV.out]; rfl, HOP.out, HB7.out⟩
      · rw [decide_eq_false hlt, Bool.false_or] at HIS HV
        cases f with
        | true =>
          rw [if_pos rfl, if_pos rfl] at HV
          have HI := Lib.hid (HI64.out (fun h => by cases h))
          rw [if_pos rfl] at HI
          clear HI64 HQQ
          go_wp2_with fail
          refine HIS.out.mono ?_
          rintro e w8 ⟨rfl, rfl⟩
          clear HIS
          go_wp2_with fail
          refine HI.out.mono ?_
          rintro e w8 ⟨rfl, rfl⟩
          clear HI
          go_wp2_with fail
          go_ret
          exact ⟨by rw [HV.out]; rfl, HOP.out, HB7.out⟩
        | false =>
          rw [if_neg (by decide)] at HV
          clear HI64 HQQ
          go_wp2_with fail
          refine HIS.out.mono ?_
          rintro e w8 ⟨rfl, rfl⟩
          clear HIS
          go_wp2_with fail
          go_ret
          exact ⟨by rw [HV.out]; rfl, HOP.out, HB7.out⟩
set_option maxRecDepth 100000 in
set_option maxHeartbeats 1000000 in
theorem value_bin_37 (x y : Tr) (ix : ValueOk x) (iy : ValueOk y) : ValueOk (.bin 37 x y) := by
  intro v n s w h hn hs
  cases h with
  | @bin b o nn ss o' n' s' _ _ _ hop hb h0 h1 h2 hx h3 h4 h5 hy =>
    change Calls _ _ #[.agg #[.int .i64 37, .int .i64 0, .slice (some ⟨b, 0, none⟩) 2 2], .int .i64 n, .int .i64 s] w _
    obtain ⟨W1, hW1⟩ : ∃ W1, W1 = w.alloc (.cells #[.int .i64 37, .int .i64 0, .slice (some ⟨b, 0, none⟩) 2 2] 24) := ⟨_, rfl⟩
    have hb1 : Below w.heap.size w W1 := by rw [hW1]; exact (Below.refl _ _).alloc (Nat.le_refl _) _
    have g1 := heap_alloc_new w (.cells #[.int .i64 37, .int .i64 0, .slice (some ⟨b, 0, none⟩) 2 2] 24)
    rw [← hW1] at g1
    have HX := Lib.hid (ix _ n s W1 (hx.under hb1) hn hs)
    have HYY : Hid (∀ W, Below w.heap.size w W → Calls Tryz.prog 13 #[.agg #[o', n', s'], .int .i64 n, .int .i64 s] W (ValuePost y n s W)) := fun W hW => iy _ n s W (hy.under hW) hn hs
    have HC : Hid (∀ W, Below w.heap.size w W → W.cell? ⟨b, 3, none⟩ = some o' ∧ W.cell? ⟨b, 4, none⟩ = some n' ∧ W.cell? ⟨b, 5, none⟩ = some s') := fun W hW =>
      ⟨(hW.cell (p := ⟨b, 3, none⟩) hb).trans h3, (hW.cell (p := ⟨b, 4, none⟩) hb).trans h4, (hW.cell (p := ⟨b, 5, none⟩) hb).trans h5⟩
    have HB1 := Lib.hid hb1
    have y0 := cell_of_row W1 w.heap.size 0 _ _ _ g1
    have y2 := cell_of_row W1 w.heap.size 2 _ _ _ g1
    simp at y0 y2
    have hl1 := block_lt g1
    have HW := Lib.hid hW1
    have HY := Lib.hid (And.intro y0 y2)
    clear hx hy hn hs hb1 hW1 g1 ix iy h3 h4 h5 y0 y2 hop
    go_enter Tryz.func13, Tryz.ntmps13
    go_wp2_with fail
    rw [← HW.out]
    clear HW h0 h1 h2
    refine HX.out.mono ?_
    rintro e w2 ⟨rfl, hx2, hb2⟩
    have u0 := (hb2.cell (p := ⟨w.heap.size, 0, none⟩) hl1).trans HY.out.1
    have u2 := (hb2.cell (p := ⟨w.heap.size, 2, none⟩) hl1).trans HY.out.2
    have hl2 : w.heap.size < w2.heap.size := Nat.lt_of_lt_of_le hl1 hb2.size
    have hB2 := HB1.out.trans (hb2.mono HB1.out.size)
    have HB2 := Lib.hid hB2
    have HYC := Lib.hid (HYY.out w2 hB2)
    obtain ⟨p0, p1, p2⟩ := HC.out w2 hB2
    have HV0 : Hid ((Tr.bin 37 x y).val n s = opVal 37 (x.val n s) (y.val n s)) := rfl
    generalize x.val n s = xv at hx2 HV0
    clear HX HB1 hb2 HY HYY HC hB2
    have hx3 := hx2.1
    have hx4 := hx2.2
    clear hx2
    go_wp2_with fail
    refine HYC.out.mono ?_
    rintro e w3 ⟨rfl, hy2, hb3⟩
    have v0 := (hb3.cell (p := ⟨w.heap.size, 0, none⟩) hl2).trans u0
    have HB3 := Lib.hid (HB2.out.trans (hb3.mono HB2.out.size))
    have hz3 := HB3.out.size
    have hl3 : w.heap.size < w3.heap.size := Nat.lt_of_lt_of_le hl2 hb3.size
    generalize y.val n s = yv at hy2 HV0
    clear HYC hb3 u0 u2 p0 p1 p2 HB2
    have hy3 := hy2.1
    have hy4 := hy2.2
    clear hy2
    by_cases h0 : yv = 0
    · subst h0
      have HV : Hid ((Tr.bin 37 x y).val n s = 0) := by show _ = _; rw [HV0.out]; exact opVal_zero (by decide) xv
      clear HV0
      go_wp2_with fail
      go_ret
      exact ⟨by rw [HV.out]; rfl, by rw [HV.out]; exact ⟨by omega, by omega⟩, HB3.out⟩
    · have d0 : (yv == 0) = false := by rw [beq_eq_false_iff_ne]; exact h0
      have hVn : yv.natAbs ≠ 0 := by omega
      have HNX := Lib.hid (fun W => newInt_ok xv W ⟨hx3, hx4⟩)
      have HNY := Lib.hid (fun W => newInt_ok yv W ⟨hy3, hy4⟩)
      have HI3 := Lib.hid (new_objQ w3)
      have HB4 : Hid (Below w3.heap.size w3 (w3.alloc (.cells #[.bool false, .slice none 0 0] 98))) := (Below.refl _ _).alloc (Nat.le_refl _) _
      have hz4 : (w3.alloc (.cells #[.bool false, .slice none 0 0] 98)).heap.size = w3.heap.size + 1 := by simp
      go_wp2_with fail
      generalize w3.alloc (.cells #[.bool false, .slice none 0 0] 98) = w4 at HI3 HB4 hz4 ⊢
      refine (HNX.out w4).mono ?_
      rintro e w5 ⟨g1, rfl, hg1, hb5⟩
      have HG1 := Lib.hid hg1
      have HB5 := Lib.hid hb5
      have HI5 := Lib.hid (HI3.out.frm (Frm.ofBelow (F := fun _ => False) hb5) id)
      clear hg1 hb5 HI3
      go_wp2_with fail
      refine (HNY.out w5).mono ?_
      rintro e w6 ⟨g2, rfl, hg2, hb6⟩
      have HQ := Lib.hid (quo_ok w3.heap.size g1 g2 (decide (xv < 0)) (decide (yv < 0)) xv.natAbs yv.natAbs w6 (HI5.out.frm (Frm.ofBelow (F := fun _ => False) hb6) id) (HG1.out.below hb6) hg2 (by omega) hVn)
      have hB6 : Below w3.heap.size w3 w6 := HB4.out.trans ((HB5.out.trans (hb6.mono HB5.out.size)).mono HB4.out.size)
      have HB6 := Lib.hid hB6
      have hz6 := hB6.size
      clear hg2 hb6 hB6 HG1 HB4 HB5 HI5
      go_wp2_with fail
      refine HQ.out.mono ?_
      rintro e w7 ⟨rfl, hq, hf7⟩
      have v7 := (World.cell?_of_block (a := ⟨w.heap.size, 0, none⟩) (hf7.block w.heap.size (by omega) (by omega))).trans ((HB6.out.cell (p := ⟨w.heap.size, 0, none⟩) hl3).trans v0)
      have HB7 : Hid (Below w.heap.size w w7) := HB3.out.trans ((HB6.out.trans (hf7.below (by omega) (fun k hk => by omega))).mono HB3.out.size)
      have hl7 : w.heap.size < w7.heap.size := by have := hf7.size; omega
      have HQQ := Lib.hid hq
      clear hq hf7 HQ HB6 v0
      have HI8 := Lib.hid (new_objQ w7)
      have HB8 : Hid (Below w7.heap.size w7 (w7.alloc (.cells #[.bool false, .slice none 0 0] 98))) := (Below.refl _ _).alloc (Nat.le_refl _) _
      have hz8 : (w7.alloc (.cells #[.bool false, .slice none 0 0] 98)).heap.size = w7.heap.size + 1 := by simp
      clear HQQ hz4 hz6
      go_wp2_with fail
      generalize w7.alloc (.cells #[.bool false, .slice none 0 0] 98) = w8 at HI8 HB8 hz8 ⊢
      refine (HNX.out w8).mono ?_
      rintro e w9 ⟨g3, rfl, hg3, hb9⟩
      have HG3 := Lib.hid hg3
      have HB9 := Lib.hid hb9
      have HI9 := Lib.hid (HI8.out.frm (Frm.ofBelow (F := fun _ => False) hb9) id)
      clear hg3 hb9 HI8
      go_wp2_with fail
      refine (HNY.out w9).mono ?_
      rintro e w10 ⟨g4, rfl, hg4, hb10⟩
      have HQ := Lib.hid (rem_ok w7.heap.size g3 g4 (decide (xv < 0)) (decide (yv < 0)) xv.natAbs yv.natAbs w10 (HI9.out.frm (Frm.ofBelow (F := fun _ => False) hb10) id) (HG3.out.below hb10) hg4 (by omega) hVn)
      have hB10 : Below w7.heap.size w7 w10 := HB8.out.trans ((HB9.out.trans (hb10.mono HB9.out.size)).mono HB8.out.size)
      have HB10 := Lib.hid hB10
      have hz10 := hB10.size
      clear hg4 hb10 hB10 HG3 HB8 HB9 HI9
      go_wp2_with fail
      refine HQ.out.mono ?_
      rintro e w11 ⟨rfl, hq, hf11⟩
      have HB11 : Hid (Below w.heap.size w w11) := HB7.out.trans ((HB10.out.trans (hf11.below (by omega) (fun k hk => by omega))).mono HB7.out.size)
      have HQQ := Lib.hid hq
      clear hq hf11 HQ HB10 v7
      obtain ⟨Q, hQe⟩ : ∃ Q, Q = xv.natAbs % yv.natAbs := ⟨_, rfl⟩
      rw [← hQe] at HQQ
      obtain ⟨f, hfe⟩ : ∃ f, f = (decide (xv < 0) && decide (0 < Q)) := ⟨_, rfl⟩
      rw [← hfe] at HQQ
      obtain ⟨q1, q2, q3⟩ := rem_val ⟨hx3, hx4⟩ ⟨hy3, hy4⟩ h0 hQe hfe
      clear hQe hfe
      have HV := Lib.hid (HV0.out.trans q3)
      have HIS := Lib.hid (isInt64_ok w7.heap.size _ _ w11 HQQ.out q1)
      have HI64 := Lib.hid (fun h => int64_ok w7.heap.size _ _ w11 HQQ.out q2 h)
      have HOP : Hid (I64s (opVal 37 xv yv)) := opVal_i64s_37 ⟨hx3, hx4⟩ ⟨hy3, hy4⟩ h0
      rw [← HV0.out] at HOP
      clear HV0 q1 q2 q3
      by_cases hlt : Q < 9223372036854775808
      · rw [decide_eq_true hlt, Bool.true_or] at HIS HV
        rw [if_pos rfl] at HV
        have HI := Lib.hid (HI64.out (fun _ => hlt))
        obtain ⟨r, hr⟩ : ∃ r : Int, r = if f = true then -(Q : Int) else (Q : Int) := ⟨_, rfl⟩
        rw [← hr] at HV HI
        clear HI64 HQQ hr
        go_wp2_with fail
        refine HIS.out.mono ?_
        rintro e w8 ⟨rfl, rfl⟩
        clear HIS
        go_wp2_with fail
        refine HI.out.mono ?_
        rintro e w8 ⟨rfl, rfl⟩
        clear HI
        go_wp2_with fail
        go_ret
        exact ⟨by rw [HV.out]; rfl, HOP.out, HB11.out⟩
      · rw [decide_eq_false hlt, Bool.false_or] at HIS HV
        cases f with
        | true =>
          rw [if_pos rfl, if_pos rfl] at HV
          have HI := Lib.hid (HI64.out (fun h => by cases h))
          rw [if_pos rfl] at HI
          clear HI64 HQQ
          go_wp2_with fail
          refine HIS.out.mono ?_
          rintro e w8 ⟨rfl, rfl⟩
          clear HIS
          go_wp2_with fail
          refine HI.out.mono ?_
          rintro e w8 ⟨rfl, rfl⟩
          clear HI
          go_wp2_with fail
          go_ret
          exact ⟨by rw [HV.out]; rfl, HOP.out, HB11.out⟩
        | false =>
          rw [if_neg (by decide)] at HV
          clear HI64 HQQ
          go_wp2_with fail
          refine HIS.out.mono ?_
          rintro e w8 ⟨rfl, rfl⟩
          clear HIS
          go_wp2_with fail
          go_ret
          exact ⟨by rw [HV.out]; rfl, HOP.out, HB11.out⟩
theorem value_bin (op : UInt8) (hop : op ∈ binOps) (x y : Tr) (ix : ValueOk x) (iy : ValueOk y) : ValueOk (.bin op x y) := by
  simp only [binOps, List.mem_cons, List.not_mem_nil, or_false] at hop
  rcases hop with rfl | rfl | rfl | rfl | rfl | rfl | rfl | rfl | rfl | rfl
  · exact value_bin_109 x y ix iy
  · exact value_bin_77 x y ix iy
  · exact value_bin_43 x y ix iy
  · exact value_bin_45 x y ix iy
  · exact value_bin_42 x y ix iy
  · exact value_bin_61 x y ix iy
  · exact value_bin_60 x y ix iy
  · exact value_bin_62 x y ix iy
  · exact value_bin_47 x y ix iy
  · exact value_bin_37 x y ix iy
/-- The reference's Value, at any tree. -/
theorem value_ok : ∀ t : Tr, ValueOk t
  | .num k => value_num k
  | .nam x => value_nam x
  | .neg a => value_neg a (value_ok a)
  | .sel x y z => value_sel x y z (value_ok x) (value_ok y) (value_ok z)
  | .bin op x y => fun v n s w h hn hs => by
    have hop : op ∈ binOps := by cases h; assumption
    exact value_bin op hop x y (value_ok x) (value_ok y) v n s w h hn hs
end Go.Proofs.YtfndhfekbbbliaaGreatDoor

/-
  Jobs, plain: who uses whom, input by input. No condition: plain definitions and lemmas.
-/
namespace Go.Proofs.YtfndhfekbbbliaaGreatDoor
open Go.RowKit
set_option linter.unusedVariables false

/-- The first k inputs of node i, told in the rows. -/
def upk (rows : List (List Int)) (i : Nat) (fs : List Int) : Nat → List (List Int)
  | 0 => rows
  | k + 1 => match fs[k]? with
    | none => upk rows i fs k
    | some f => if (fs.take k).contains f = true then upk rows i fs k else (upk rows i fs k).modify f.toNat (· ++ [(i : Int)])
def upn (l : List Nod) : Nat → List (List Int)
  | 0 => List.replicate l.length []
  | i + 1 => match l[i]? with
    | none => upn l i
    | some n => upk (upn l i) i n.from_ n.from_.length
theorem upk_length (rows : List (List Int)) (i : Nat) (fs : List Int) (k : Nat) : (upk rows i fs k).length = rows.length := by
  induction k with
  | zero => rfl
  | succ k ih =>
    unfold upk
    split
    · exact ih
    · split
      · exact ih
      · rw [List.length_modify]; exact ih
theorem upn_length (l : List Nod) (i : Nat) : (upn l i).length = l.length := by
  induction i with
  | zero => simp [upn]
  | succ i ih =>
    unfold upn
    split
    · exact ih
    · rw [upk_length]; exact ih
theorem upk_get (rows : List (List Int)) (i : Nat) (fs : List Int) (hfs : ∀ f ∈ fs, 0 ≤ f) (k : Nat) (hk : k ≤ fs.length) (j : Nat) : (upk rows i fs k)[j]? = (rows[j]?).map fun r => r ++ if (fs.take k).contains (j : Int) = true then [(i : Int)] else [] := by
  induction k with
  | zero => simp [upk]
  | succ k ih =>
    have hlt : k < fs.length := by omega
    have ih := ih (by omega)
    unfold upk
    rw [List.getElem?_eq_getElem hlt]
    have ht : fs.take (k + 1) = fs.take k ++ [fs[k]] := List.take_succ_eq_append_getElem hlt
    have hct : ∀ x : Int, (fs.take (k + 1)).contains x = ((fs.take k).contains x || x == fs[k]) := fun x => by
      rw [Bool.eq_iff_iff, Bool.or_eq_true, beq_iff_eq, List.contains_iff_mem, List.contains_iff_mem, ht, List.mem_append, List.mem_singleton]
    have h0 := hfs fs[k] (List.getElem_mem hlt)
    simp only
    by_cases hc : (fs.take k).contains fs[k] = true
    · rw [if_pos hc, ih]
      congr 1
      funext r
      rw [hct]
      by_cases hj : (j : Int) = fs[k]
      · rw [hj, hc]; rfl
      · rw [show ((j : Int) == fs[k]) = false from by simp [hj], Bool.or_false]
    · rw [if_neg hc, List.getElem?_modify, ih]
      cases rows[j]? with
      | none => rfl
      | some r =>
        show some ((fun a => if fs[k].toNat = j then a ++ [(i : Int)] else a) _) = some _
        rw [hct]
        simp only []
        by_cases hj : (j : Int) = fs[k]
        · have hj2 : fs[k].toNat = j := by omega
          have hcf : (fs.take k).contains fs[k] = false := by simpa using hc
          rw [hj, hcf, if_pos hj2]
          simp
        · have hj2 : ¬ fs[k].toNat = j := by omega
          rw [show ((j : Int) == fs[k]) = false from by simp [hj], Bool.or_false, if_neg hj2]
theorem uses_take (l : List Nod) (f : Int) {i : Nat} (hi : i < l.length) : usesOf (l.take (i + 1)) f = usesOf (l.take i) f ++ if l[i].from_.contains f = true then [(i : Int)] else [] := by
  rw [List.take_succ_eq_append_getElem hi]
  unfold usesOf
  rw [List.zipIdx_append, List.filter_append, List.map_append]
  congr 1
  have e : 0 + (List.take i l).length = i := by rw [List.length_take]; omega
  by_cases h : l[i].from_.contains f = true
  · rw [if_pos h]
    simp only [List.zipIdx_cons, List.zipIdx_nil, List.filter_cons, h, if_true, List.filter_nil, List.map_cons, List.map_nil, e]
  · rw [if_neg h]
    simp only [List.zipIdx_cons, List.zipIdx_nil, List.filter_cons, h, List.filter_nil]
    rfl
theorem upn_get (l : List Nod) (hf : ∀ n ∈ l, ∀ f ∈ n.from_, 0 ≤ f) (i : Nat) (hi : i ≤ l.length) (j : Nat) (hj : j < l.length) : (upn l i)[j]? = some (usesOf (l.take i) (j : Int)) := by
  induction i with
  | zero => simp [upn, usesOf, hj]
  | succ i ih =>
    have hlt : i < l.length := by omega
    unfold upn
    rw [List.getElem?_eq_getElem hlt]
    simp only
    rw [upk_get _ _ _ (hf _ (List.getElem_mem hlt)) _ (Nat.le_refl _), ih (by omega), uses_take l _ hlt, List.take_length]
    rfl
theorem upn_all (l : List Nod) (hf : ∀ n ∈ l, ∀ f ∈ n.from_, 0 ≤ f) : upn l l.length = usesAll l := by
  apply List.ext_getElem?
  intro j
  rcases Nat.lt_or_ge j l.length with hj | hj
  · rw [upn_get l hf _ (Nat.le_refl _) j hj, List.take_length]
    unfold usesAll
    rw [List.getElem?_map, List.getElem?_range hj]; rfl
  · rw [List.getElem?_eq_none (by rw [upn_length]; exact hj), List.getElem?_eq_none (by unfold usesAll; simp; exact hj)]
/-- Of a job that is right: whom a node has ahead. -/
theorem from_zero {l : List Nod} {i : Nat} {fs : List Int} (h : fromErr l i fs = 0) : ∀ f ∈ fs, 0 ≤ f ∧ f < i := by
  induction fs with
  | nil => nofun
  | cons f fs ih =>
    unfold fromErr at h
    split at h
    · cases h
    · rename_i h1
      split at h
      · cases h
      · intro g hg
        rcases List.mem_cons.1 hg with rfl | hg
        · omega
        · exact ih h g hg
theorem node_zero {l : List Nod} {i : Nat} {n : Nod} (h : nodeErr l i n = 0) : ∀ f ∈ n.from_, 0 ≤ f ∧ f < i := by
  unfold nodeErr at h
  split at h
  · cases h
  · split at h
    · cases h
    · split at h
      · rename_i h1; exact absurd h h1
      · rename_i h1
        exact from_zero (by simpa using h1)
theorem nodes_zero {l : List Nod} : ∀ (s : List Nod) (i : Nat), nodesErr l i s = 0 → ∀ j (hj : j < s.length), nodeErr l (i + j) s[j] = 0 := by
  intro s
  induction s with
  | nil => intro i _ j hj; cases hj
  | cons n s ih =>
    intro i h j hj
    rw [nodes_cons] at h
    split at h
    · rename_i h1; exact absurd h h1
    · rename_i h1
      cases j with
      | zero => simpa using h1
      | succ j =>
        have := ih (i + 1) h j (by simpa using hj)
        rw [show i + (j + 1) = i + 1 + j from by omega]
        exact this
theorem job_from {l : List Nod} (h : jobErr l = 0) {i : Nat} (hi : i < l.length) : ∀ f ∈ l[i].from_, 0 ≤ f ∧ f < i := by
  have h1 := nodes_zero l 0 (job_parts h).2.1 i hi
  rw [Nat.zero_add] at h1
  exact node_zero h1
theorem job_from_pos {l : List Nod} (h : jobErr l = 0) : ∀ n ∈ l, ∀ f ∈ n.from_, 0 ≤ f := fun n hn f hf => by
  obtain ⟨i, hi, rfl⟩ := List.mem_iff_getElem.1 hn
  exact (job_from h hi f hf).1
theorem upk_mem {rows : List (List Int)} {i : Nat} {fs : List Int} {N : Nat} (hi : i < N) (hr : ∀ r ∈ rows, ∀ x ∈ r, 0 ≤ x ∧ x < N) (k : Nat) : ∀ r ∈ upk rows i fs k, ∀ x ∈ r, 0 ≤ x ∧ x < N := by
  induction k with
  | zero => exact hr
  | succ k ih =>
    unfold upk
    split
    · exact ih
    · split
      · exact ih
      · intro r hrm x hx
        obtain ⟨j, hj⟩ := List.getElem?_of_mem hrm
        rw [List.getElem?_modify] at hj
        cases hs : (upk rows i fs k)[j]? with
        | none => rw [hs] at hj; simp at hj
        | some r0 =>
          rw [hs] at hj
          simp at hj
          have h0 := ih r0 (List.mem_of_getElem? hs)
          split at hj
          · subst hj
            rcases List.mem_append.1 hx with hx | hx
            · exact h0 x hx
            · simp at hx; omega
          · subst hj; exact h0 x hx
theorem upk_rowlen {rows : List (List Int)} {i : Nat} {fs : List Int} {m : Nat} (hr : ∀ r ∈ rows, r.length ≤ m) (hfs : ∀ f ∈ fs, 0 ≤ f) (k : Nat) (hk : k ≤ fs.length) : ∀ r ∈ upk rows i fs k, r.length ≤ m + 1 := by
  intro r hrm
  obtain ⟨j, hj⟩ := List.getElem?_of_mem hrm
  rw [upk_get rows i fs hfs k hk] at hj
  cases hs : rows[j]? with
  | none => rw [hs] at hj; cases hj
  | some r0 =>
    rw [hs] at hj
    simp only [Option.map_some, Option.some.injEq] at hj
    subst hj
    have := hr r0 (List.mem_of_getElem? hs)
    split <;> simp <;> omega
theorem upn_mem {l : List Nod} {i : Nat} (hi : i ≤ l.length) : ∀ r ∈ upn l i, ∀ x ∈ r, 0 ≤ x ∧ x < l.length := by
  induction i with
  | zero => intro r hr x hx; simp [upn] at hr; rw [hr.2] at hx; cases hx
  | succ i ih =>
    unfold upn
    split
    · exact ih (by omega)
    · exact upk_mem (N := l.length) (by omega) (ih (by omega)) _
theorem upn_rowlen {l : List Nod} (hf : ∀ n ∈ l, ∀ f ∈ n.from_, 0 ≤ f) {i : Nat} (hi : i ≤ l.length) : ∀ r ∈ upn l i, r.length ≤ i := by
  induction i with
  | zero => intro r hr; simp [upn] at hr; rw [hr.2]; simp
  | succ i ih =>
    have hlt : i < l.length := by omega
    unfold upn
    rw [List.getElem?_eq_getElem hlt]
    exact upk_rowlen (ih (by omega)) (hf _ (List.getElem_mem hlt)) _ (Nat.le_refl _)
end Go.Proofs.YtfndhfekbbbliaaGreatDoor
