/-
  Package audit: the contract of Merge where the lines, one behind the other, are right. Conditions: where the lines lie.
-/
import Derived.Test.YthpgkcfkpglkdaaAudConcat
import Derived.Test.YthpgkcfkpglkdaaMapStep
import Derived.Deep.RegionHeld3
namespace Go.Proofs.Ythpgkcfkpglkdaa
open Go.RowKit Go.ChangeShapes Go.WideShapes
set_option linter.unusedVariables false

theorem info_intM : (Try.prog.info? 3).map (fun i => (i.zero, i.size, i.bytes)) = some (some (.int .i64 0), 1, 8) := by kernel_rfl
theorem src_intsM {F : Nat → Prop} {w : World} {A : Option Addr} {c : Nat} {l : List Int} (h : SlA (intE .i64) F w A c l) : Src Try.prog 1 27 (.slice A l.length c) l.length (l.flatMap intC) w :=
  Src.of_sl (P := Try.prog) (E := intE .i64) (tx := 27) h Try.underlying27 intC (fun cs x hx => hx.1) (fun _ => rfl) (fun x u hu => by simp [intC] at hu; subst hu; rfl)
theorem ints_wf {F : Nat → Prop} {w : World} {A : Option Addr} {c : Nat} {l : List Int} (h : SlA (intE .i64) F w A c l) : ∀ x ∈ l, (Lit.int .i64 x).wf = true := fun x hx => by
  obtain ⟨i, hi, rfl⟩ := List.mem_iff_getElem.1 hx
  obtain ⟨_, _, _, _, _, h2⟩ := h.int_ hi
  exact h2
/-- The lines so far, by their keys. -/
structure MgAt (b : Nat) (w : World) (ps : List LineR) (l : List Lin) : Prop where
  map : SMapAt w b (ps.map lp)
  rows : ∀ p ∈ ps, p.2.At w
  is : ps.map linOf = l
theorem MgAt.below {b : Nat} {w w' : World} {ps : List LineR} {l : List Lin} (h : MgAt b w ps l) (hb : Below w.heap.size w w') : MgAt b w' ps l :=
  ⟨h.map.keep (hb.block b h.map.lt), fun p hp => OwnS.keep (h.rows p hp) fun k hk => hb.block k ((h.rows p hp).lt k hk), h.is⟩
theorem MgAt.keys {b : Nat} {w : World} {ps : List LineR} {l : List Lin} (h : MgAt b w ps l) : skeys (ps.map lp) = l.map (·.key) := by
  rw [← h.is]
  unfold skeys
  rw [List.map_map, List.map_map]; rfl
/-- A line more. -/
theorem MgAt.add {b : Nat} {w w3 w4 : World} {ps : List LineR} {l : List Lin} {x : Lin} (h : MgAt b w ps l) (hx : x.key ∉ l.map (·.key)) (hk : x.key.size ≤ maxLen) {A : Option Addr} {c : Nat} (ho : OwnS w3 3 1 A c x.nums.length (x.nums.flatMap intC)) (hg : w.grownBy w3 none) (hA : ∀ k, blk A = some k → w.heap.size ≤ k) (hm : SMapAt w4 b (fset (ps.map lp) x.key (.slice A x.nums.length c))) (hg4 : w3.grownBy w4 (some b)) : MgAt b w4 (ps ++ [(x.key, ⟨A, c, x.nums⟩)]) (l ++ [x]) := by
  have hnk : x.key ∉ skeys (ps.map lp) := by rw [h.keys]; exact hx
  have hm3 : SMapAt w3 b (ps.map lp) := h.map.keep (hg.block b h.map.lt (by simp))
  have hrow : ∀ {A : Option Addr} {c n : Nat} {xs : List Value}, OwnS w3 3 1 A c n xs → OwnS w4 3 1 A c n xs := fun {A c n xs} ho => ho.grown hg4 fun k hk e => by
    obtain ⟨cur, hc⟩ := ho.block hk
    injection e with e
    subst e
    exact hm3.not_cells hc
  refine ⟨?_, fun p hp => ?_, ?_⟩
  · rw [fset_none hnk] at hm
    rw [List.map_append]
    exact hm
  · rcases List.mem_append.1 hp with hp | hp
    · exact hrow (OwnS.grown (h.rows p hp) hg fun k hk => by simp)
    · rw [List.mem_singleton.1 hp]; exact hrow ho
  · rw [List.map_append, h.is]; rfl
def MergePost (l : List Lin) (w : World) (e : Ending) (w' : World) : Prop := (∃ A' c', e = .returned (.tuple #[.slice A' l.length c', .nilIface]) ∧ SlA linE (· < w'.heap.size) w' A' c' l) ∧ Below w.heap.size w w'
theorem lines_back {ps q : List LineR} (hp : q.Perm ps) (hs : q.Pairwise fun a b => kLess a.1 b.1) (hk : (ps.map (·.1)).Pairwise kLess) : q = ps := by
  refine List.Perm.eq_of_pairwise (le := fun a b : LineR => kLess a.1 b.1) (fun a b _ _ h1 h2 => absurd (kLess_trans h1 h2) (kLess_irrefl _)) hs (List.pairwise_map.1 hk) hp
set_option maxRecDepth 100000 in
set_option maxHeartbeats 4000000 in
theorem amerge_ok (F G : Nat → Prop) (A B : Option Addr) (c d : Nat) (l m : List Lin) (w : World) (hl : SlA linE F w A c l) (hF : ∀ k, F k → k < w.heap.size) (hm : SlA linE G w B d m) (hG : ∀ k, G k → k < w.heap.size) (ha : AOk l) (hb : AOk m) (hab : AOk (l ++ m)) :
    Calls Try.prog 6 #[.slice A l.length c, .slice B m.length d] w (MergePost (l ++ m) w) := by
  have HC := Lib.hid (aboth_ok F G A B c d l m w hl hF hm hG ha hb)
  have HL : Hid (∀ W, Below w.heap.size w W → SlA linE F W A c l) := fun W h => hl.keep fun k hk => h.block k (hF k hk)
  have HM : Hid (∀ W, Below w.heap.size w W → SlA linE G W B d m) := fun W h => hm.keep fun k hk => h.block k (hG k hk)
  have HF := Lib.hid hF
  have HG := Lib.hid hG
  have HAB := Lib.hid hab
  have hl4 := ha.len
  have hm4 := hb.len
  have hab4 := hab.len
  have hmm := @run_makeMap Try.prog
  clear hl hF hm hG ha hb hab
  obtain ⟨L, hL⟩ : ∃ L, L = l ++ m := ⟨_, rfl⟩
  rw [← hL] at hab4 HAB ⊢
  have HLE := Lib.hid hL
  clear hL
  go_enter Try.func6, Try.ntmps6
  go_wp2_with fail
  refine HC.out.mono ?_
  rintro e w1 ⟨rfl, b1⟩
  have B1 := Lib.hid b1
  clear b1 HC
  go_upto_region 5 with (fail)
  obtain ⟨W2, hW2⟩ : ∃ W2, W2 = (w1.alloc (.map #[] 0)).alloc (.cells #[.slice A l.length c, .slice B m.length d] 22) := ⟨_, rfl⟩
  have hbx : Below w1.heap.size w1 W2 := by rw [hW2]; exact ((Below.refl _ _).alloc (Nat.le_refl _) _).alloc (by simp) _
  have hgb : W2.heap[w1.heap.size + 1]? = some (.cells #[.slice A l.length c, .slice B m.length d] 22 (0, 0)) := by
    rw [hW2]
    have := heap_alloc_new (w1.alloc (.map #[] 0)) (.cells #[.slice A l.length c, .slice B m.length d] 22)
    simpa using this
  have hm0 : SMapAt W2 w1.heap.size [] := by
    rw [hW2]
    exact (SMapAt.made w1).keep (Below.heap_alloc _ _ _ (by simp))
  have hbw : Below w.heap.size w W2 := B1.out.trans (hbx.mono B1.out.size)
  have HCC := Lib.hid (aconcat_ok F G A B c d (w1.heap.size + 1) l m W2 (HL.out W2 hbw) (fun k hk => Nat.lt_of_lt_of_le (HF.out k hk) hbw.size) (HM.out W2 hbw) (fun k hk => Nat.lt_of_lt_of_le (HG.out k hk) hbw.size) hl4 hm4 (block_lt hgb) ((cell_of_row W2 _ 0 _ _ _ hgb).trans rfl) ((cell_of_row W2 _ 1 _ _ _ hgb).trans rfl))
  unfold ConcatPost at HCC
  rw [← HLE.out] at HCC
  have HM0 : Hid (MgAt w1.heap.size W2 [] []) := ⟨hm0, nofun, rfl⟩
  have HBW := Lib.hid hbw
  have HBL := Lib.hid hm0.lt
  clear hbx hgb hm0 hbw
  obtain ⟨mb, hmb⟩ : ∃ mb, mb = w1.heap.size := ⟨_, rfl⟩
  rw [← hmb] at HCC HM0 HBL
  have HMB := Lib.hid hmb
  clear hmb
  have HCC2 : Hid (Calls Try.prog 12 #[.slice (some ⟨w1.heap.size + 1, 0, none⟩) 2 2] ((w1.alloc (.map #[] 0)).alloc (.cells #[.slice A l.length c, .slice B m.length d] 22)) fun e w' => (∃ A' c', e = .returned (.slice A' L.length c') ∧ SlA linE (fun k => (F k ∨ G k ∨ W2.heap.size ≤ k) ∧ k < w'.heap.size) w' A' c' L) ∧ Below W2.heap.size W2 w') := by rw [← hW2, ← HMB.out]; exact HCC.out
  clear HCC
  go_wp2_with fail
  refine HCC2.out.mono ?_
  rintro e w3 ⟨⟨A3, c3, rfl, hs3⟩, b3⟩
  rw [← HMB.out]
  have HS3 : Hid (SlA linE (fun k => (k < mb ∨ mb < k) ∧ k < w3.heap.size) w3 A3 c3 L) := hs3.more fun k hk => ⟨by
    have h1 := HBL.out
    have h2 := B1.out.size
    have h3 := HMB.out
    rcases hk.1 with h | h | h
    · have := HF.out k h; omega
    · have := HG.out k h; omega
    · omega, hk.2⟩
  have B3 : Hid (Below w.heap.size w w3) := HBW.out.trans (b3.mono HBW.out.size)
  have HM3 := Lib.hid (HM0.out.below b3)
  have hmb3 : mb < w3.heap.size := Nat.lt_of_lt_of_le HBL.out b3.size
  have HMB3 : Hid (w.heap.size ≤ mb) := by rw [HMB.out]; exact B1.out.size
  have HMB4 := Lib.hid hmb3
  clear hs3 b3 HCC2 HM0 hW2 hmm hmb3
  obtain ⟨Ln, hLn⟩ : ∃ Ln, Ln = L.length := ⟨_, rfl⟩
  rw [← hLn] at hab4
  have HLN := Lib.hid hLn
  rw [← hLn]
  clear hLn
  go_wp2_with fail
  go_loopw [23] (fun iv wr => ∃ (i : Nat) (ps : List LineR), i ≤ Ln ∧ iv = .int .i64 i ∧ Hid (MgAt mb wr ps (L.take i)) ∧ Hid (Frm (· = mb) w3 wr)) (fun iv _ => Ln - (intOf iv).toNat)
  case atStart => exact ⟨0, [], Nat.zero_le _, rfl, HM3, Frm.refl _ _⟩
  case round =>
    obtain ⟨i, ps, hi, rfl, HMG, HFR⟩ := hrel
    have hbr : Below w.heap.size w wr := B3.out.trans (HFR.out.below B3.out.size fun k hk => by rw [hk]; exact HMB3.out)
    by_cases hlt : i < Ln
    · have hiL : i < L.length := by rw [← HLN.out]; exact hlt
      have hlr := HS3.out.keep (w' := wr) fun k hk => HFR.out.block k hk.2 (by have := hk.1; omega)
      obtain ⟨b, off, A5, c5, rfl, hFb, x0, x1, hks, hx⟩ := hlr.lin_ hiL
      have hzr := HFR.out.size
      have hbl : b < wr.heap.size := Nat.lt_of_lt_of_le hFb.2 hzr
      have hcap := HS3.out.1
      rw [← HLN.out] at hcap
      have htk : L.take (i + 1) = L.take i ++ [L[i]] := List.take_succ_eq_append_getElem hiL
      have hnew : L[i].key ∉ (L.take i).map (·.key) := fun hm => by
        obtain ⟨x, hx, e⟩ := List.mem_map.1 hm
        obtain ⟨j, hj, rfl⟩ := List.mem_iff_getElem.1 hx
        rw [List.length_take] at hj
        rw [List.getElem_take] at e
        exact kLess_ne (HAB.out.at_ hiL (by omega)) e
      have hn4 := HAB.out.nums _ (List.getElem_mem hiL)
      have HWF := Lib.hid (ints_wf hx)
      have HX : Hid (∀ W, Below wr.heap.size wr W → SlA (intE .i64) (fun k => (k < mb ∨ mb < k) ∧ k < w3.heap.size) W A5 c5 L[i].nums) := fun W h => hx.keep fun k hk => h.block k (Nat.lt_of_lt_of_le hk.2 hzr)
      obtain ⟨x, hxe⟩ : ∃ x, x = L[i] := ⟨_, rfl⟩
      rw [← hxe] at x0 x1 hks htk hnew hn4 HX HWF
      have HTK := Lib.hid htk
      have HNEW := Lib.hid hnew
      clear hx hlr htk hnew hxe hFb
      obtain ⟨key, nums⟩ := x
      simp only at x0 x1 hks hn4 HNEW HX HWF
      obtain ⟨W4, hW4⟩ : ∃ W4, W4 = wr.alloc (.cells #[.string key, .slice A5 nums.length c5] 29) := ⟨_, rfl⟩
      have hb4 : Below wr.heap.size wr W4 := by rw [hW4]; exact (Below.refl _ _).alloc (Nat.le_refl _) _
      have hxb : W4.heap[wr.heap.size]? = some (.cells #[.string key, .slice A5 nums.length c5] 29 (0, 0)) := by rw [hW4]; exact heap_alloc_new _ _
      have hmg4 := HMG.out.below hb4
      have hxl := block_lt hxb
      have y0 : W4.cell? ⟨wr.heap.size, 0, none⟩ = some (.string key) := (cell_of_row W4 _ 0 _ _ _ hxb).trans rfl
      have y1 : W4.cell? ⟨wr.heap.size, 1, none⟩ = some (.slice A5 nums.length c5) := (cell_of_row W4 _ 1 _ _ _ hxb).trans rfl
      have hmap := hmg4.map
      have hlk : ∀ W : World, (∀ k, k < W4.heap.size → W.heap[k]? = W4.heap[k]?) → (Instr.lookup 40 (.map (some mb)) (.string key) false).run Try.prog W = .ok (.slice none 0 0) W := fun W hW => by
        have h1 : SMapAt W mb (ps.map lp) := hmap.keep (hW _ hmap.lt)
        have h2 := h1.get (P := Try.prog) (t := 40) Try.underlying9 Try.underlying40 (z := .slice none 0 0) (by kernel_rfl) hks false
        rw [fgetD_none _ (by rw [HMG.out.keys]; exact HNEW.out)] at h2
        exact h2
      have l1 := hlk W4 (fun _ _ => rfl)
      have l2 := hlk W4.drew (fun _ _ => rfl)
      have HSRC : Hid (Src Try.prog 1 27 (.slice A5 nums.length c5) nums.length (nums.flatMap intC) W4.drew) := src_intsM (HX.out W4.drew hb4.drew)
      have HMG4 := Lib.hid hmg4
      have HB4 := Lib.hid hb4
      have HXB := Lib.hid hxb
      have HKS := Lib.hid hks
      clear hlk hmap hmg4 hb4 hxb hks HX HMG
      go_upto_region 8 with (fail)
      rw [← hW4]
      clear hW4 x0 x1
      obtain ⟨xb, hxbe⟩ : ∃ xb, xb = wr.heap.size := ⟨_, rfl⟩
      rw [← hxbe] at HB4 HXB y0 y1 hxl ⊢
      have HXBE := Lib.hid hxbe
      have HXM : Hid (xb ≠ mb) := fun e => by have := HMB4.out; rw [← e, hxbe] at this; omega
      clear hxbe
      obtain ⟨nn, hnn⟩ : ∃ nn, nn = nums.length := ⟨_, rfl⟩
      rw [← hnn] at y1 hn4 HSRC HXB
      have HNN := Lib.hid hnn
      clear hnn
      go_region_held3 (fun W => W.cell? ⟨xb, 0, none⟩ = some (.string key) ∧ W.cell? ⟨xb, 1, none⟩ = some (.slice A5 nn c5)) (first | exact ⟨y0, y1⟩ | exact ⟨p0, p1⟩ | exact ⟨q0, q1⟩)
        (first | (refine step_append_S (w := W4.drew) rfl (.tmp 33) (.tmp 35) 27 27 rfl 3 _ 1 8 Try.underlying27 info_intM rfl (by decide) none 0 0 [] rfl (OwnS.nil _ _ _) (.slice A5 nn c5) rfl nn (nums.flatMap intC) HSRC.out (by unfold maxLen; omega) (by omega) ?_; intro A6 c6 w6 ho6 hg6 hat6; rw [Nat.zero_add, List.nil_append] at ho6; have hg7 : W4.grownBy w6 none := ⟨hg6.os, hg6.tape, hg6.output, hg6.size, hg6.block⟩; obtain ⟨w8, hrun, hm8, hg8, hz8⟩ := (HMG4.out.map.keep (hg7.block _ HMG4.out.map.lt (by simp))).set (P := Try.prog) (t := 40) Try.underlying9 Try.underlying40 HKS.out (.slice A6 nn c6); rw [Nat.zero_add]; have p0 : w6.cell? ⟨xb, 0, none⟩ = some (.string key) := (World.cell?_of_block (a := ⟨xb, 0, none⟩) (hg7.block xb hxl (by simp))).trans y0; have p1 : w6.cell? ⟨xb, 1, none⟩ = some (.slice A5 nn c5) := (World.cell?_of_block (a := ⟨xb, 1, none⟩) (hg7.block xb hxl (by simp))).trans y1; have hxne : xb ≠ mb := HXM.out; have q0 : w8.cell? ⟨xb, 0, none⟩ = some (.string key) := (World.cell?_of_block (a := ⟨xb, 0, none⟩) (hg8.block xb (Nat.lt_of_lt_of_le hxl hg7.size) (by simpa using hxne))).trans p0; have q1 : w8.cell? ⟨xb, 1, none⟩ = some (.slice A5 nn c5) := (World.cell?_of_block (a := ⟨xb, 1, none⟩) (hg8.block xb (Nat.lt_of_lt_of_le hxl hg7.size) (by simpa using hxne))).trans p1; have HX8 : Hid (OwnS w6 3 1 A6 c6 nn (nums.flatMap intC) ∧ W4.grownBy w6 none ∧ (blk A6 = blk none ∨ blk A6 = some W4.heap.size) ∧ SMapAt w8 mb (fset (ps.map lp) key (.slice A6 nn c6)) ∧ w6.grownBy w8 (some mb)) := ⟨ho6, hg7, hat6, hm8, hg8⟩; clear ho6 hg6 hg7 hat6 hm8 hg8 hz8 hxne))
      all_goals
        have hadd : MgAt mb w8 (ps ++ [(key, ⟨A6, c6, nums⟩)]) (L.take (i + 1)) := by
          obtain ⟨k1, k2, k3, k4, k5⟩ := HX8.out
          rw [HTK.out]
          rw [HNN.out] at k1 k4
          exact HMG4.out.add (x := ⟨key, nums⟩) HNEW.out HKS.out k1 k2 (fun k hk => by
            rcases k3 with h | h
            · rw [h] at hk; cases hk
            · rw [h] at hk; injection hk with hk; exact Nat.le_of_eq hk) k4 k5
        have hfr : Frm (· = mb) w3 w8 := by
          obtain ⟨k1, k2, k3, k4, k5⟩ := HX8.out
          have f1 : Frm (· = mb) wr W4 := Frm.ofBelow (by rw [← HXBE.out]; exact HB4.out)
          have f2 : Frm (· = mb) W4 w6 := Frm.ofGrown k2 fun k e => by cases e
          have f3 : Frm (· = mb) w6 w8 := Frm.ofGrown k5 fun k e => by injection e with e; exact e.symm
          exact HFR.out.trans (f1.trans (f2.trans f3 (fun _ h => h) (fun _ h => .inl h)) (fun _ h => h) (fun _ h => .inl h)) (fun _ h => h) (fun _ h => .inl h)
        have HADD := Lib.hid hadd
        have HFR2 := Lib.hid hfr
        clear hadd hfr HX8 HFR
        go_wp2_with fail
        go_roundw
        case rel => exact ⟨i + 1, _, by omega, by go_num, HADD, HFR2⟩
        case measure => simp [intOf]; omega
    · have di : decide (i < Ln) = false := decide_eq_false hlt
      have htk : L.take i = L := List.take_of_length_le (by rw [← HLN.out]; omega)
      rw [htk] at HMG
      have hpk : ps.map (·.1) = L.map (·.key) := by
        rw [← HMG.out.is, List.map_map]; rfl
      have hpl : ps.length = Ln := by
        have := congrArg List.length hpk
        rw [List.length_map, List.length_map, ← HLN.out] at this
        exact this
      have HLX := Lib.hid (lines_any mb ps wr HMG.out.map (by omega))
      have HPK : Hid ((ps.map (·.1)).Pairwise kLess) := by show List.Pairwise _ _; rw [hpk]; exact HAB.out.keys
      have HBR := Lib.hid hbr
      have HWFL : Hid (∀ p ∈ ps, p.1.size ≤ maxLen ∧ ∀ x ∈ p.2.xs, (Lit.int .i64 x).wf = true) := fun p hp => by
        obtain ⟨j, hj, rfl⟩ := List.mem_iff_getElem.1 hp
        have hjL : j < L.length := by rw [← HLN.out]; omega
        have e : linOf ps[j] = L[j] := by
          have h1 : (ps.map linOf)[j]? = some L[j] := by rw [HMG.out.is]; exact List.getElem?_eq_getElem hjL
          rw [List.getElem?_map, List.getElem?_eq_getElem hj] at h1
          exact Option.some.inj h1
        obtain ⟨_, _, _, _, _, _, _, _, hks, hx⟩ := HS3.out.lin_ hjL
        have e1 : ps[j].1 = L[j].key := congrArg Lin.key e
        have e2 : ps[j].2.xs = L[j].nums := congrArg Lin.nums e
        rw [e1, e2]
        exact ⟨hks, ints_wf hx⟩
      clear htk hpk hpl hlt hbr
      go_wp2_with fail
      refine HLX.out.mono ?_
      rintro e w5 ⟨A6, c6, q, rfl, hq1, hq2, hq3, b5⟩
      obtain rfl : q = ps := lines_back hq1 hq2 HPK.out
      have hout : SlA linE (· < w5.heap.size) w5 A6 c6 L := by
        have h1 := raw_lin (hq3.more (F' := (· < w5.heap.size)) fun k hk => hk.2) fun p hp => by
          have ho := OwnS.keep (HMG.out.rows p hp) fun k hk => b5.block k ((HMG.out.rows p hp).lt k hk)
          exact ⟨OwnS.sl (E := intE .i64) intC (fun _ => rfl) ho rfl (fun k e => ho.lt k e) (fun x hx => ⟨rfl, (HWFL.out p hp).2 x hx⟩), (HWFL.out p hp).1⟩
        rw [HMG.out.is] at h1
        exact h1
      have HOUT := Lib.hid hout
      have B5 : Hid (Below w.heap.size w w5) := HBR.out.trans (b5.mono HBR.out.size)
      have HCK := Lib.hid (acheck_ok _ A6 c6 L w5 hout (fun _ h => h))
      have hql : q.length = Ln := by
        have := congrArg List.length HMG.out.is
        rw [List.length_map, ← HLN.out] at this; exact this
      rw [hql]
      rw [← HLN.out] at HCK
      clear hq1 hq2 hq3 b5 hout HLX hql
      go_wp2_with fail
      refine HCK.out.mono ?_
      rintro e w6 ⟨h6, b6⟩
      obtain ⟨rfl, _⟩ := h6.resolve_right fun h => h.2 HAB.out
      have HOUT6 : Hid (SlA linE (· < w6.heap.size) w6 A6 c6 L) := (HOUT.out.keep fun k hk => b6.block k hk).more fun k hk => Nat.lt_of_lt_of_le hk b6.size
      have B6 : Hid (Below w.heap.size w w6) := B5.out.trans (b6.mono B5.out.size)
      clear h6 b6 HCK
      go_wp2_with fail
      go_ret2
      exact ⟨⟨A6, c6, by rw [← HLN.out]; rfl, HOUT6.out⟩, B6.out⟩
end Go.Proofs.Ythpgkcfkpglkdaa
