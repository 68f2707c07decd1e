/-
  The statements' own whole numbers: Xor, of numbers that are not below 0. No condition.
-/
import Derived.Test.YtbhapjipledioaaDoorBigX
import Derived.Test.YtbhapjipledioaaDoorBigMul
import Derived.Test.YtbhapjipledioaaDoorOf
import Derived.StillTailTactics
namespace Go.Proofs.YtbhapjipledioaaDoor
open Go.RowKit Go.ChangeShapes Go.WideShapes
set_option linter.unusedVariables false

theorem xor_words (x y a b : Nat) (hx : x < 4294967296) (hy : y < 4294967296) : (x ^^^ y) + 4294967296 * (a ^^^ b) = (x + 4294967296 * a) ^^^ (y + 4294967296 * b) := by
  have e : ∀ p q : Nat, p + 4294967296 * q = 2 ^ 32 * q + p := fun p q => by omega
  have h1 : x ^^^ y < 2 ^ 32 := Nat.xor_lt_two_pow (by simpa using hx) (by simpa using hy)
  rw [e, e, e]
  apply Nat.eq_of_testBit_eq
  intro j
  rw [Nat.testBit_xor, Nat.testBit_two_pow_mul_add _ h1, Nat.testBit_two_pow_mul_add _ (by simpa using hx), Nat.testBit_two_pow_mul_add _ (by simpa using hy)]
  split <;> rw [Nat.testBit_xor]
theorem wVal_xor : ∀ {a b : List Nat}, a.length = b.length → (∀ x ∈ a, x < 4294967296) → (∀ x ∈ b, x < 4294967296) → wVal (List.zipWith (· ^^^ ·) a b) = wVal a ^^^ wVal b
  | [], [], _, _, _ => rfl
  | x :: a, y :: b, h, ha, hb => by
    rw [List.zipWith_cons_cons, wVal, wVal, wVal, wVal_xor (by simpa using h) (fun z hz => ha z (List.mem_cons_of_mem _ hz)) (fun z hz => hb z (List.mem_cons_of_mem _ hz))]
    exact xor_words x y _ _ (ha x List.mem_cons_self) (hb y List.mem_cons_self)
  | [], _ :: _, h, _, _ => by simp at h
  | _ :: _, [], h, _, _ => by simp at h
theorem wVal_pad (l : List Nat) (k : Nat) : wVal (l ++ List.replicate k 0) = wVal l := by
  have h := wVal_take (l := l ++ List.replicate k 0) l.length (by rw [List.drop_left]; intro x hx; exact List.eq_of_mem_replicate hx)
  rw [List.take_left] at h
  exact h.symm
theorem u32_size : (Tryd.prog.info? 29).map (·.size) = some 1 := by kernel_rfl
set_option maxRecDepth 100000 in
theorem low_ok (g V n : Nat) (w : World) (h : BigAt w g false V) (hV : V < 4294967296 ^ n) (hn : n ≤ 1000) :
    Calls Tryd.prog 15 #[.pointer (some ⟨g, 0, none⟩), .int .i64 n] w fun e w' => ∃ L : List Nat, e = .returned (.slice (some ⟨w.heap.size, 0, none⟩) n n) ∧ L.length = n ∧ wVal L = V ∧ RowW w w' w.heap.size L := by
  obtain ⟨A, m, c, hb, hw, _⟩ := h.words
  have x0 := cell_of_row w g 0 _ _ _ hb
  have x1 := cell_of_row w g 1 _ _ _ hb
  simp at x0 x1
  have hgl := block_lt hb
  have hmn := hw.len (k := n) hV
  obtain ⟨l, hl, _, hs, hv, _⟩ := hw
  have wl := words_lt hs
  have hmk : ∀ u : World, (Instr.makeSlice 38 (.int .i64 (n : Int)) (.int .i64 (n : Int))).run Tryd.prog u = .ok (.slice (some ⟨u.heap.size, 0, none⟩) n n) (u.alloc (.cells (madeCells #[.int .u32 0] n) 29)) := fun u =>
    run_make_row' (P := Tryd.prog) 38 29 (.int .u32 0) 4 Tryd.underlying38 u32_info rfl .i64 .i64 n (by omega) (by omega) u
  have HL : Hid (l.length = m ∧ wVal l = V ∧ ∀ x ∈ l, x < 4294967296) := ⟨hl, hv, wl⟩
  have HS := Lib.hid hs
  have hcm : m ≤ c := by rw [← hl]; exact hs.1
  clear h hb hs hl hv wl hV
  obtain ⟨W1, hW1⟩ : ∃ W1, W1 = w.alloc (.cells (madeCells #[.int .u32 0] n) 29) := ⟨_, rfl⟩
  have hb1 : Below w.heap.size w W1 := by rw [hW1]; exact (Below.refl _ _).alloc (Nat.le_refl _) _
  have hg1 : W1.heap[w.heap.size]? = some (.cells ((List.replicate n 0).map u32v).toArray 29 (0, 0)) := by rw [hW1]; exact w_made w n
  have z0 := (hb1.cell (p := ⟨g, 0, none⟩) hgl).trans x0
  have z1 := (hb1.cell (p := ⟨g, 1, none⟩) hgl).trans x1
  have HW := Lib.hid hW1
  have HB1 := Lib.hid hb1
  have HG1 := Lib.hid hg1
  have HSR : Hid (∀ j v, (l.map u32v)[j]? = some v → 0 < l.length → ∃ ad, A = some ad ∧ W1.cell? (ad.add j) = some v) := fun j v hj hp => by
    rw [List.getElem?_map] at hj
    cases hx : l[j]? with
    | none => rw [hx] at hj; cases hj
    | some x =>
      rw [hx] at hj
      injection hj with hj
      subst hj
      have hjl : j < l.length := (List.getElem?_eq_some_iff.1 hx).1
      have hxe : l[j] = x := (List.getElem?_eq_some_iff.1 hx).2
      obtain ⟨b, off, rfl, hbb, hc, _⟩ := HS.out.u32_ hjl
      refine ⟨_, rfl, ?_⟩
      rw [add_plain, ← hxe]
      exact (HB1.out.cell (p := ⟨b, off + j, none⟩) hbb).trans hc
  clear hb1 hg1 hW1
  go_enter Tryd.func15, Tryd.ntmps15
  go_upto_region 2 with (fail)
  rw [← HW.out]
  obtain ⟨hln, hlv, hlw⟩ := HL.out
  have HCS : Hid ((l.map u32v).length = m ∧ ∀ v ∈ l.map u32v, v.oneCell' = true) := ⟨by rw [List.length_map]; exact hln, fun v hv => by obtain ⟨x, _, rfl⟩ := List.mem_map.1 hv; rfl⟩
  have HSP : Hid (splice ((List.replicate n 0).map u32v) 0 (l.map u32v) = (l ++ List.replicate (n - m) 0).map u32v) := by
    show _ = _
    unfold splice
    rw [List.take_zero, List.nil_append, Nat.zero_add, List.map_append, List.length_map, hln]
    congr 1
    rw [← List.map_drop, List.drop_replicate]
  have HPD : Hid ((l ++ List.replicate (n - m) 0).length = n ∧ wVal (l ++ List.replicate (n - m) 0) = V ∧ ∀ x ∈ l ++ List.replicate (n - m) 0, x < 4294967296) := by
    refine ⟨by rw [List.length_append, List.length_replicate, hln]; omega, by rw [wVal_pad]; exact hlv, fun x hx => ?_⟩
    rcases List.mem_append.1 hx with hx | hx
    · exact hlw x hx
    · rw [List.eq_of_mem_replicate hx]; omega
  have HLN := Lib.hid hln
  clear hln hlv hlw
  generalize l.map u32v = cs at HSR HCS HSP
  generalize l ++ List.replicate (n - m) 0 = L at HSP HPD
  go_wp2_with (refine wpList_copy_splice (w := W1) rfl (.tmp 10) (.tmp 14) 38 38 rfl 29 Tryd.underlying38 u32_size (some ⟨w.heap.size, 0, none⟩) A n n m c rfl rfl w.heap.size 0 ((List.replicate n 0).map u32v) 29 HG1.out cs ?_ ?_ ?_ ?_ w.heap.size w HB1.out (Nat.le_refl _) ?_)
  · rw [HCS.out.1]; exact (Nat.min_eq_left hmn).symm
  · intro hp
    have hp2 : 0 < l.length := by rw [HLN.out, ← HCS.out.1]; exact hp
    cases A with
    | none =>
      obtain ⟨v, hv⟩ : ∃ v, cs[0]? = some v := ⟨cs[0], List.getElem?_eq_getElem hp⟩
      obtain ⟨ad, e, _⟩ := HSR.out 0 v hv hp2
      cases e
    | some a =>
      refine ⟨a, rfl, fun j v hj => ?_⟩
      obtain ⟨ad, e, h⟩ := HSR.out j v hj hp2
      injection e with e
      subst e
      exact h
  · rw [HCS.out.1]; simp; omega
  · exact HCS.out.2
  · intro w2 hg2 hb2
    have HR : Hid (RowW w w2 w.heap.size L) := ⟨by
      have h := hg2.out
      rw [show List.replicate n (u32v 0) = (List.replicate n 0).map u32v by simp, HSP.out] at h
      exact h, HPD.out.2.2, hb2, Nat.le_refl _⟩
    have y0 := (hb2.cell (p := ⟨g, 0, none⟩) hgl).trans x0
    clear hg2 hb2 HCS HSP HSR z0 z1
    go_wp2_with fail
    go_ret
    exact ⟨L, rfl, HPD.out.1, HPD.out.2.1, HR.out⟩

set_option maxRecDepth 100000 in
theorem of_ok (gz n : Nat) (w w0 : World) (L : List Nat) (g : Nat) (hz : IntObj w gz) (hr : RowW w0 w g L) (hl : L.length = n) (hn : n ≤ 1000) (hn1 : 1 ≤ n) (hlast : L.getD (n - 1) 0 < 2147483648) :
    Calls Tryd.prog 16 #[.pointer (some ⟨gz, 0, none⟩), .slice (some ⟨g, 0, none⟩) n n] w fun e w' => e = .returned (.pointer (some ⟨gz, 0, none⟩)) ∧ BigAt w' gz false (wVal L) ∧ Frm (· = gz) w w' := by
  have hn2 : n - 1 < L.length := by omega
  obtain ⟨z0, f0⟩ := hr.cell hn2
  rw [getD_get hn2] at hlast
  have hsl := hr.sl (by omega)
  have HT := Lib.hid (trim_ok _ _ _ _ w hsl)
  rw [hl] at HT
  obtain ⟨p, hp⟩ : ∃ p, p = n - 1 := ⟨_, rfl⟩
  have hpi : (n : Int) - 1 = (p : Int) := by omega
  have hpn : p < n := by omega
  have HW := Lib.hid (fun k hk ht => WordsAt.of_trim (n := k) (hk : k ≤ L.length) (ht : TrimOf L k) hsl (by omega))
  rw [hl] at HW
  have HG := Lib.hid (fun A k c V h => give_at gz false A k c V w hz h)
  simp only [← hp] at z0 hlast
  generalize L[p] = x at z0 hlast
  have hx : ((x : Int) / 2147483648 == 1) = false := by rw [beq_eq_false_iff_ne]; omega
  clear hsl hp f0 hz hr
  go_enter Tryd.func16, Tryd.ntmps16
  go_wp2_with fail
  refine HT.out.mono ?_
  rintro e w2 ⟨k, rfl, hk, ht, rfl⟩
  have hwk := (HW.out k hk ht).more (F' := (· < w.heap.size)) fun b hb => hb.2
  have HG2 := Lib.hid (HG.out _ _ _ _ hwk)
  clear hk ht hwk HW HG HT
  go_wp2_with fail
  refine HG2.out.mono ?_
  rintro e w3 ⟨rfl, h2, _, h4⟩
  have HR : Hid (BigAt w3 gz false (wVal L) ∧ Frm (· = gz) w w3) := ⟨by simpa using h2, h4⟩
  clear h2 h4 HG2
  go_wp2_with fail
  go_ret
  exact ⟨rfl, HR.out⟩
theorem RowW.later {w W W' : World} {g : Nat} {l : List Nat} (h : RowW w W g l) (hb : Below W.heap.size W W') : RowW w W' g l :=
  ⟨(hb.block g (block_lt h.blk)).trans h.blk, h.words, h.below.trans (hb.mono h.below.size), h.base⟩
theorem RowW.from_ {w0 w W : World} {g : Nat} {l : List Nat} (h : RowW w W g l) (hb : Below w0.heap.size w0 w) : RowW w0 W g l :=
  ⟨h.blk, h.words, hb.trans (h.below.mono hb.size), Nat.le_trans hb.size h.base⟩
theorem RowW.drew {w W : World} {g : Nat} {l : List Nat} (h : RowW w W g l) : RowW w W.drew g l := ⟨h.blk, h.words, h.below.drew, h.base⟩
theorem RowW.far {w W : World} {g g2 : Nat} {l : List Nat} (h : RowW w W g l) {p : Nat} (hne : g ≠ g2) (hg2 : w.heap.size ≤ g2) (u : Value) : RowW w (W.setCell ⟨g2, p, none⟩ u) g l :=
  ⟨(Below.heap_setCell _ _ _ _ hne).trans h.blk, h.words, h.below.setCell hg2 _, h.base⟩
/-- The first i words turned. -/
def xorAt (a b : List Nat) (i : Nat) : List Nat := (List.zipWith (· ^^^ ·) a b).take i ++ a.drop i
theorem xorAt_zero (a b : List Nat) : xorAt a b 0 = a := by unfold xorAt; simp
theorem xorAt_end (a b : List Nat) (h : a.length = b.length) : xorAt a b a.length = List.zipWith (· ^^^ ·) a b := by
  unfold xorAt
  rw [List.drop_eq_nil_of_le (Nat.le_refl _), List.append_nil, List.take_of_length_le (by rw [List.length_zipWith]; omega)]
theorem xorAt_len (a b : List Nat) (h : a.length = b.length) (i : Nat) : (xorAt a b i).length = a.length := by
  unfold xorAt
  rw [List.length_append, List.length_take, List.length_drop, List.length_zipWith]; omega
theorem xorAt_get (a b : List Nat) (h : a.length = b.length) {i : Nat} (hi : i < a.length) : (xorAt a b i)[i]? = some a[i] := by
  unfold xorAt
  have hl : ((List.zipWith (· ^^^ ·) a b).take i).length = i := by rw [List.length_take, List.length_zipWith]; omega
  rw [List.getElem?_append_right (by omega), hl, Nat.sub_self, List.getElem?_drop, Nat.add_zero, List.getElem?_eq_getElem hi]
theorem xorAt_set (a b : List Nat) (h : a.length = b.length) {i : Nat} (hi : i < a.length) : (xorAt a b i).set i (a[i] ^^^ b[i]'(by omega)) = xorAt a b (i + 1) := by
  unfold xorAt
  have hz : i < (List.zipWith (· ^^^ ·) a b).length := by rw [List.length_zipWith]; omega
  have hl : ((List.zipWith (· ^^^ ·) a b).take i).length = i := by rw [List.length_take]; omega
  rw [List.set_append_right _ _ (by omega), hl, Nat.sub_self, List.drop_eq_getElem_cons hi, List.set_cons_zero, List.take_succ_eq_append_getElem hz, List.append_assoc]
  congr 1
  rw [List.getElem_zipWith]; rfl
set_option maxRecDepth 100000 in
set_option maxHeartbeats 1000000 in
theorem xorN_ok (gz gx gy U V : Nat) (w : World) (hz : IntObj w gz) (hx : BigAt w gx false U) (hy : BigAt w gy false V) (hU : U < 4294967296 ^ 100) (hV : V < 4294967296 ^ 100) :
    Calls Tryd.prog 9 #[.pointer (some ⟨gz, 0, none⟩), .pointer (some ⟨gx, 0, none⟩), .pointer (some ⟨gy, 0, none⟩)] w fun e w' =>
      e = .returned (.pointer (some ⟨gz, 0, none⟩)) ∧ BigAt w' gz false (U ^^^ V) ∧ Frm (· = gz) w w' := by
  obtain ⟨Ax, nx, cx, bx, wx, _⟩ := hx.words
  obtain ⟨Ay, ny, cy, by_, wy, _⟩ := hy.words
  have x1 := cell_of_row w gx 1 _ _ _ bx
  have y1 := cell_of_row w gy 1 _ _ _ by_
  simp at x1 y1
  have hnx := wx.len (k := 100) hU
  have hny := wy.len (k := 100) hV
  have hUn : U < 4294967296 ^ nx := by
    obtain ⟨l, h1, _, h3, h4, _⟩ := wx
    rw [← h4, ← h1]; exact wVal_lt (words_lt h3)
  have hVn : V < 4294967296 ^ ny := by
    obtain ⟨l, h1, _, h3, h4, _⟩ := wy
    rw [← h4, ← h1]; exact wVal_lt (words_lt h3)
  obtain ⟨N, hN⟩ : ∃ N, N = max nx ny + 1 := ⟨_, rfl⟩
  have hN1 : 1 ≤ N := by omega
  have hN101 : N ≤ 101 := by omega
  have hUN : U < 4294967296 ^ (N - 1) := Nat.lt_of_lt_of_le hUn (Nat.pow_le_pow_right (by decide) (by omega))
  have hVN : V < 4294967296 ^ (N - 1) := Nat.lt_of_lt_of_le hVn (Nat.pow_le_pow_right (by decide) (by omega))
  have hp : 4294967296 ^ (N - 1) ≤ 4294967296 ^ N := Nat.pow_le_pow_right (by decide) (by omega)
  have HLX := Lib.hid (fun W (h : BigAt W gx false U) => low_ok gx U N W h (Nat.lt_of_lt_of_le hUN hp) (by omega))
  have HLY := Lib.hid (fun W (h : BigAt W gy false V) => low_ok gy V N W h (Nat.lt_of_lt_of_le hVN hp) (by omega))
  have hmx : (if nx < ny then (ny : Int) else (nx : Int)) + 1 = (N : Int) := by split <;> omega
  have HX := Lib.hid hx
  have HY := Lib.hid hy
  have HIZ := Lib.hid (fun W (hb : Below w.heap.size w W) => hz.frm (Frm.ofBelow (F := fun _ => False) hb) id)
  have HUV : Hid (U < 4294967296 ^ (N - 1) ∧ V < 4294967296 ^ (N - 1)) := ⟨hUN, hVN⟩
  clear hx hy hz bx by_ wx wy hU hV hUn hVn hUN hVN hp hN
  go_enter Tryd.func9, Tryd.ntmps9
  go_upto_region 1 with (fail)
  go_region
  generalize (if nx < ny then (ny : Int) else (nx : Int)) = mx at hmx ⊢
  have hbd : Below w.heap.size w w.drew := (Below.refl _ _).drew
  have HL1 := Lib.hid (HLX.out w.drew (HX.out.below hbd))
  have HY1 := Lib.hid (HY.out.below hbd)
  have HB1 := Lib.hid hbd
  clear x1 y1 hmx hbd HX HY HLX
  generalize w.drew = w1 at HL1 HY1 HB1 ⊢
  go_wp2_with fail
  refine HL1.out.mono ?_
  rintro e w2 ⟨La, rfl, hla, hva, hra⟩
  have HL2 := Lib.hid (HLY.out w2 (HY1.out.below hra.below))
  have HB2 := Lib.hid (HB1.out.trans (hra.below.mono HB1.out.size))
  have HRA := Lib.hid (hra.from_ HB1.out)
  have hga := block_lt hra.blk
  generalize w1.heap.size = ga at HRA hga ⊢
  clear hra HL1 HY1 HB1 HLY
  go_wp2_with fail
  refine HL2.out.mono ?_
  rintro e w3 ⟨Lb, rfl, hlb, hvb, hrb⟩
  have HRA3 := Lib.hid (HRA.out.later hrb.below)
  have HRB3 := Lib.hid (hrb.from_ HB2.out)
  have HB3 := Lib.hid (HB2.out.trans (hrb.below.mono HB2.out.size))
  have hgb := block_lt hrb.blk
  have hgab : ga ≠ w2.heap.size := by omega
  generalize w2.heap.size = gb at HRB3 hgb hgab ⊢
  have hab : La.length = Lb.length := by omega
  have HWA : Hid (∀ x ∈ La, x < 4294967296) := HRA3.out.words
  have HLA := Lib.hid hla
  have HLB := Lib.hid hlb
  have HVV : Hid (wVal La = U ∧ wVal Lb = V) := ⟨hva, hvb⟩
  have HAB := Lib.hid hab
  clear hrb HL2 HB2 HRA hla hlb hva hvb hab
  go_wp2_with fail
  go_loopw [10] (fun iv wx => ∃ i : Nat, i ≤ N ∧ iv = .int .i64 i ∧ Hid (RowW w wx ga (xorAt La Lb i)) ∧ Hid (RowW w wx gb Lb)) (fun iv _ => N - (intOf iv).toNat)
  case atStart => exact ⟨0, Nat.zero_le _, rfl, (by rw [xorAt_zero]; exact HRA3.out), HRB3⟩
  case round =>
    clear HRA3 HRB3 HB3
    obtain ⟨i, hi, rfl, HRA, HRB⟩ := hrel
    by_cases hin : i < N
    · have hia : i < La.length := by have := HLA.out; omega
      have hib : i < Lb.length := by have := HLB.out; omega
      have hix : i < (xorAt La Lb i).length := by rw [xorAt_len La Lb HAB.out]; exact hia
      obtain ⟨za, fa⟩ := HRA.out.cell hix
      obtain ⟨zb, _⟩ := HRB.out.cell hib
      have hxa := xorAt_get La Lb HAB.out hia
      rw [List.getElem?_eq_getElem hix] at hxa
      rw [Option.some.inj hxa] at za
      have hxs := xorAt_set La Lb HAB.out hia
      have hax : La[i] < 4294967296 := by
        have := HRA.out.words _ (List.getElem_mem hix)
        rw [Option.some.inj hxa] at this; exact this
      have hbx := HRB.out.words _ (List.getElem_mem hib)
      generalize La[i] = x at za hxs hax hxa
      generalize Lb[i] = y at zb hxs hbx
      have hxor := u32_xor_nat x y hax hbx
      have hxb : x ^^^ y < 4294967296 := by
        have := Nat.xor_lt_two_pow (n := 32) (x := x) (y := y) (by simpa using hax) (by simpa using hbx)
        simpa using this
      obtain ⟨z, hzz⟩ : ∃ z, z = x ^^^ y := ⟨_, rfl⟩
      rw [← hzz] at hxor hxs hxb
      have HRA2 : Hid (RowW w (wr.setCell ⟨ga, i, none⟩ (.int .u32 (z : Int))).drew ga (xorAt La Lb (i + 1))) := by
        show RowW _ _ _ _
        rw [← hxs]; exact (HRA.out.set hxb).drew
      have HRB2 : Hid (RowW w (wr.setCell ⟨ga, i, none⟩ (.int .u32 (z : Int))).drew gb Lb) := (HRB.out.far (fun e => hgab e.symm) HRA.out.base _).drew
      clear hxa hxs hzz HRA HRB hix hia hib hax hbx
      go_upto_region 6 with (fail)
      refine wp_region_still_tail 10 (by kernel_rfl) (by kernel_rfl) ?_
      simp only [List.take_succ_cons, List.take_zero, List.drop_succ_cons, List.drop_zero]
      change wpStill _ _ wr.drew _ _ _
      repeat still_step
      refine wpStill_nil ?_
      change wpList _ _ _ _ _ wr.drew
      go_wp2_with fail
      refine ⟨⟨i + 1, by omega, by go_num, HRA2, HRB2⟩, ?_⟩
      simp [intOf]; omega
    · have din : decide (i < N) = false := decide_eq_false hin
      have hie : i = N := by omega
      subst hie
      have hrow := HRA.out
      rw [← HLA.out, xorAt_end La Lb HAB.out] at hrow
      have wa : ∀ x ∈ La, x < 4294967296 := HWA.out
      have wb : ∀ x ∈ Lb, x < 4294967296 := HRB.out.words
      have hval : wVal (List.zipWith (· ^^^ ·) La Lb) = U ^^^ V := by rw [wVal_xor HAB.out wa wb, HVV.out.1, HVV.out.2]
      have htop : ∀ (l : List Nat) (X : Nat), l.length = i → wVal l = X → X < 4294967296 ^ (i - 1) → l.getD (i - 1) 0 = 0 := fun l X h1 h2 h3 => by
        rw [getD_get (by omega)]
        refine Classical.byContradiction fun h0 => ?_
        have := wVal_ge (l := l) (k := i - 1) (x := l[i - 1]'(by omega)) (List.getElem?_eq_getElem (by omega)) h0
        omega
      have hlast : (List.zipWith (· ^^^ ·) La Lb).getD (i - 1) 0 < 2147483648 := by
        have h1 := htop La U HLA.out HVV.out.1 HUV.out.1
        have h2 := htop Lb V HLB.out HVV.out.2 HUV.out.2
        rw [getD_get (by have := HLA.out; omega)] at h1
        rw [getD_get (by have := HLB.out; omega)] at h2
        rw [getD_get (by rw [List.length_zipWith]; have := HLA.out; have := HLB.out; omega), List.getElem_zipWith, h1, h2]
        decide
      have HO := Lib.hid (of_ok gz i wr w _ ga (HIZ.out wr HRA.out.below) hrow (by rw [List.length_zipWith, HLA.out, HLB.out]; omega) (by omega) hN1 hlast)
      have HVL := Lib.hid hval
      have HBR := Lib.hid HRA.out.below
      clear hrow wa wb hval htop hlast HRA HRB
      go_wp2_with fail
      refine HO.out.mono ?_
      rintro e w5 ⟨rfl, h5, hf5⟩
      have HR : Hid (BigAt w5 gz false (U ^^^ V) ∧ Frm (· = gz) w w5) := ⟨by rw [← HVL.out]; exact h5, frm_two HBR.out hf5⟩
      clear h5 hf5 HO HVL HBR
      go_wp2_with fail
      go_ret
      exact ⟨rfl, HR.out⟩
end Go.Proofs.YtbhapjipledioaaDoor
