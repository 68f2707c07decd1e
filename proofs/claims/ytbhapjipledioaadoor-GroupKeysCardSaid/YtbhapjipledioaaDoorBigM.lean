/-
  The statements' own whole numbers: the product of two rows of words. No condition.
-/
import Derived.Test.YtbhapjipledioaaDoorBigB
namespace Go.Proofs.YtbhapjipledioaaDoor
open Go.RowKit Go.ChangeShapes Go.WideShapes
set_option linter.unusedVariables false

theorem wVal_set : ∀ (l : List Nat) (p v : Nat) (hp : p < l.length), wVal (l.set p v) + l[p] * 4294967296 ^ p = wVal l + v * 4294967296 ^ p
  | [], p, v, hp => by simp at hp
  | a :: l, 0, v, _ => by simp only [List.set_cons_zero, wVal, List.getElem_cons_zero, Nat.pow_zero, Nat.mul_one]; omega
  | a :: l, p + 1, v, hp => by
    have h := wVal_set l p v (by simpa using hp)
    simp only [List.set_cons_succ, wVal, List.getElem_cons_succ, Nat.pow_succ]
    have e1 : ∀ x : Nat, x * (4294967296 ^ p * 4294967296) = 4294967296 * (x * 4294967296 ^ p) := fun x => by rw [Nat.mul_comm (4294967296 ^ p), ← Nat.mul_assoc, Nat.mul_comm x, Nat.mul_assoc]
    rw [e1, e1]
    omega
theorem wVal_zeros (n : Nat) : wVal (List.replicate n 0) = 0 := wVal_zero fun x hx => List.eq_of_mem_replicate hx
/-- A row of words as a block. -/
def wCells (l : List Nat) : Array Value := (l.map u32v).toArray
theorem w_made (w : World) (n : Nat) : (w.alloc (.cells (madeCells #[.int .u32 0] n) 29)).heap[w.heap.size]? = some (.cells (wCells (List.replicate n 0)) 29 (0, 0)) := by
  rw [heap_alloc_new w _]
  congr 2
  apply Array.ext'
  rw [toList_madeCells_one]
  simp [wCells, u32v]
theorem w_set (l : List Nat) (p x : Nat) : (wCells l).setIfInBounds p (u32v x) = wCells (l.set p x) := by
  unfold wCells
  apply Array.ext'
  rw [Array.toList_setIfInBounds, List.map_set]
/-- The row of a call's own, of so many words. -/
structure RowW (w W : World) (g : Nat) (l : List Nat) : Prop where
  blk : W.heap[g]? = some (.cells (wCells l) 29 (0, 0))
  words : ∀ x ∈ l, x < 4294967296
  below : Below w.heap.size w W
  base : w.heap.size ≤ g
theorem RowW.cell {w W : World} {g : Nat} {l : List Nat} (h : RowW w W g l) {p : Nat} (hp : p < l.length) : W.cell? ⟨g, p, none⟩ = some (.int .u32 (l[p] : Int)) ∧ W.frozen? ⟨g, p, none⟩ = false := by
  refine ⟨?_, by simp [World.frozen?, h.blk]⟩
  rw [cell_of_row W g p _ _ _ h.blk]
  unfold wCells
  rw [List.getElem?_toArray, List.getElem?_map, List.getElem?_eq_getElem hp]
  rfl
theorem RowW.set {w W : World} {g : Nat} {l : List Nat} (h : RowW w W g l) {p x : Nat} (hx : x < 4294967296) : RowW w (W.setCell ⟨g, p, none⟩ (.int .u32 (x : Int))) g (l.set p x) := by
  refine ⟨?_, fun y hy => ?_, h.below.setCell h.base _, h.base⟩
  · rw [show (W.setCell ⟨g, p, none⟩ (.int .u32 (x : Int))).heap[g]? = some (.cells ((wCells l).setIfInBounds p (u32v x)) 29 (0, 0)) by simp [World.setCell, Array.getElem?_modify, h.blk, u32v], w_set]
  · rcases List.mem_or_eq_of_mem_set hy with hy | hy
    · exact h.words y hy
    · rw [hy]; exact hx
theorem RowW.drewN {w W : World} {g : Nat} {l : List Nat} (h : RowW w W g l) (q : Nat) : RowW w (W.drewN q) g l := ⟨h.blk, h.words, bdrewN h.below q, h.base⟩
theorem RowW.sl {w W : World} {g : Nat} {l : List Nat} (h : RowW w W g l) (hl : l.length ≤ 1000) : SlA u32E (fun k => w.heap.size ≤ k ∧ k < W.heap.size) W (some ⟨g, 0, none⟩) l.length l :=
  ws_sl l h.blk (by simp [wCells]; intros; rfl) ⟨h.base, block_lt h.blk⟩ h.words (by unfold maxLen; omega)

/-! ### What the loops hold -/
/-- Ahead of round i, j of the inner loop: R the row, c what is carried. -/
structure MulAt (la lb : List Nat) (i j : Nat) (c : Nat) (R : List Nat) : Prop where
  len : R.length = la.length + lb.length
  val : wVal R + c * 4294967296 ^ (i + j) = wVal (la.take i) * wVal lb + 4294967296 ^ i * (la.getD i 0 * wVal (lb.take j))
  zero : ∀ p, i + lb.length ≤ p → R.getD p 0 = 0
  carry : c < 4294967296
theorem take_getD {l : List Nat} {i : Nat} (h : i < l.length) : wVal (l.take (i + 1)) = wVal (l.take i) + l.getD i 0 * 4294967296 ^ i := by
  rw [wVal_split (l.take (i + 1)) i (by rw [List.length_take]; omega), List.take_take, Nat.min_eq_left (by omega)]
  have : (l.take (i + 1)).drop i = [l.getD i 0] := by
    rw [List.drop_take, List.drop_eq_getElem_cons h, show i + 1 - i = 1 by omega, List.take_succ_cons, List.take_zero, List.getD_eq_getElem?_getD, List.getElem?_eq_getElem h]; rfl
  rw [this]
  simp only [wVal]
  rw [Nat.mul_zero, Nat.add_zero, Nat.mul_comm]
theorem getD_get {l : List Nat} {i : Nat} (h : i < l.length) : l.getD i 0 = l[i] := by
  rw [List.getD_eq_getElem?_getD, List.getElem?_eq_getElem h]; rfl
theorem mul_fin {X W0 r P t c Y : Nat} (ab : Nat) (ht : t = c + (ab + r)) (h1 : X + r * P = W0 + t % 4294967296 * P) {Y0 : Nat} (h2 : W0 + c * P = Y + Y0) : X + t / 4294967296 * (4294967296 * P) = Y + (Y0 + ab * P) := by
  have e4 : (t % 4294967296) * P + (t / 4294967296) * (4294967296 * P) = t * P := by
    rw [← Nat.mul_assoc, ← Nat.add_mul]
    congr 1
    rw [Nat.mul_comm, Nat.add_comm]
    exact Nat.div_add_mod t 4294967296
  have e5 : t * P = c * P + (ab * P + r * P) := by rw [ht, Nat.add_mul, Nat.add_mul]
  generalize (t % 4294967296) * P = a1 at h1 e4
  generalize (t / 4294967296) * (4294967296 * P) = a2 at e4 ⊢
  generalize t * P = a3 at e4 e5
  generalize c * P = a4 at e5 h2
  generalize ab * P = a5 at e5 ⊢
  generalize r * P = a6 at e5 h1
  omega
theorem mul_e2 (Bi a x y Bj : Nat) : Bi * (a * (x + y * Bj)) = Bi * (a * x) + a * y * (Bi * Bj) := by
  rw [Nat.mul_add, Nat.mul_add]
  congr 1
  rw [← Nat.mul_assoc a, Nat.mul_left_comm]
theorem mul_e3 (x a Bi v : Nat) : (x + a * Bi) * v = x * v + Bi * (a * v) := by
  rw [Nat.add_mul, Nat.mul_comm a, Nat.mul_assoc]
theorem MulAt.step {la lb R : List Nat} {i j c t : Nat} (h : MulAt la lb i j c R) (hi : i < la.length) (hj : j < lb.length) (ha : la.getD i 0 < 4294967296) (hb : lb.getD j 0 < 4294967296) (hr : R.getD (i + j) 0 < 4294967296)
    (ht : t = c + (la.getD i 0 * lb.getD j 0 + R.getD (i + j) 0)) : t < 18446744073709551616 ∧ MulAt la lb i (j + 1) (t / 4294967296) (R.set (i + j) (t % 4294967296)) := by
  have hpr : la.getD i 0 * lb.getD j 0 ≤ 4294967295 * 4294967295 := Nat.mul_le_mul (by omega) (by omega)
  have htb : t < 18446744073709551616 := by have := h.carry; omega
  refine ⟨htb, by rw [List.length_set]; exact h.len, ?_, fun p hp => ?_, by omega⟩
  · have hp : i + j < R.length := by rw [h.len]; omega
    have h1 := wVal_set R (i + j) (t % 4294967296) hp
    rw [← getD_get hp] at h1
    have h2 := h.val
    rw [take_getD hj]
    have e1 : 4294967296 ^ (i + (j + 1)) = 4294967296 * 4294967296 ^ (i + j) := by rw [show i + (j + 1) = (i + j) + 1 by omega, Nat.pow_succ, Nat.mul_comm]
    rw [e1, mul_e2, ← Nat.pow_add]
    generalize 4294967296 ^ (i + j) = P at h1 h2 ⊢
    exact mul_fin (la.getD i 0 * lb.getD j 0) ht h1 h2
  · rw [List.getD_eq_getElem?_getD, List.getElem?_set_ne (by omega), ← List.getD_eq_getElem?_getD]
    exact h.zero p hp
theorem MulAt.next {la lb R : List Nat} {i c : Nat} (h : MulAt la lb i lb.length c R) (hi : i < la.length) : MulAt la lb (i + 1) 0 0 (R.set (i + lb.length) c) := by
  have hp : i + lb.length < R.length := by rw [h.len]; omega
  refine ⟨by rw [List.length_set]; exact h.len, ?_, fun p hp2 => ?_, by omega⟩
  · have h1 := wVal_set R (i + lb.length) c hp
    rw [← getD_get hp, h.zero _ (Nat.le_refl _)] at h1
    have h2 := h.val
    rw [List.take_length] at h2
    rw [take_getD hi, List.take_zero]
    rw [mul_e3]
    generalize 4294967296 ^ (i + lb.length) = P at h1 h2
    generalize 4294967296 ^ i = Q at h2 ⊢
    rw [show wVal [] = 0 from rfl, Nat.zero_mul, Nat.mul_zero, Nat.mul_zero, Nat.add_zero, Nat.add_zero]
    rw [Nat.zero_mul, Nat.add_zero] at h1
    exact h1.trans h2
  · rw [List.getD_eq_getElem?_getD, List.getElem?_set_ne (by omega), ← List.getD_eq_getElem?_getD]
    exact h.zero p (by omega)
theorem MulAt.start (la lb : List Nat) : MulAt la lb 0 0 0 (List.replicate (la.length + lb.length) 0) :=
  ⟨by simp, by simp [wVal_zeros, wVal], fun p _ => by rw [List.getD_eq_getElem?_getD, List.getElem?_replicate]; split <;> rfl, by omega⟩
theorem MulAt.begin {la lb R : List Nat} {i c : Nat} (h : MulAt la lb i 0 c R) (h0 : c = 0) : MulAt la lb i 0 0 R := by subst h0; exact h
theorem MulAt.end_ {la lb R : List Nat} {c : Nat} (h : MulAt la lb la.length 0 c R) (h0 : c = 0) : wVal R = wVal la * wVal lb := by
  have := h.val
  rw [List.take_length, h0, List.take_zero] at this
  simpa [wVal] using this
set_option maxRecDepth 100000 in
set_option maxHeartbeats 2000000 in
theorem mul_ok (F G : Nat → Prop) (A B : Option Addr) (n m c d U V : Nat) (w : World) (ha : WordsAt w F A n c U) (hb : WordsAt w G B m d V) (hF : ∀ k, F k → k < w.heap.size) (hG : ∀ k, G k → k < w.heap.size) (hn : n + m ≤ 1000) :
    Calls Tryd.prog 18 #[.slice A n c, .slice B m d] w fun e w' => ∃ A' n' c', e = .returned (.slice A' n' c') ∧ WordsAt w' (fun k => w.heap.size ≤ k ∧ k < w'.heap.size) A' n' c' (U * V) ∧ Below w.heap.size w w' := by
  have hza := ha.zero
  have hzb := hb.zero
  obtain ⟨la, hla, _, sa, va, _⟩ := ha
  obtain ⟨lb, hlb, _, sb, vb, _⟩ := hb
  have wa := words_lt sa
  have wb := words_lt sb
  have hca := sa.1
  have hcb := sb.1
  have HA := Lib.hid sa
  have HB := Lib.hid sb
  have HF := Lib.hid hF
  have HG := Lib.hid hG
  rw [hla] at hca
  rw [hlb] at hcb
  clear sa sb hF hG
  by_cases hn0 : n = 0
  · have hU := hza.2 hn0
    subst hn0
    have HR : Hid (U * V = 0) := by show _ = _; rw [hU, Nat.zero_mul]
    clear hza hzb va vb wa wb HA HB HF HG hU hla hlb
    go_enter Tryd.func18, Tryd.ntmps18
    go_wp2_with fail
    go_ret
    rw [HR.out]
    exact ⟨none, 0, 0, rfl, WordsAt.nil _ _, Below.refl _ _⟩
  · by_cases hm0 : m = 0
    · have hV := hzb.2 hm0
      subst hm0
      have HR : Hid (U * V = 0) := by show _ = _; rw [hV, Nat.mul_zero]
      clear hza hzb va vb wa wb HA HB HF HG hV hla hlb
      go_enter Tryd.func18, Tryd.ntmps18
      go_wp2_with fail
      go_ret
      rw [HR.out]
      exact ⟨none, 0, 0, rfl, WordsAt.nil _ _, Below.refl _ _⟩
    · have HUV : Hid (wVal la * wVal lb = U * V) := by show _ = _; rw [va, vb]
      have HWA := Lib.hid wa
      have HWB := Lib.hid wb
      have HLA := Lib.hid hla
      have HLB := Lib.hid hlb
      clear hza hzb va vb wa wb hla hlb
      have dn : ((n : Int) == 0) = false := by rw [beq_eq_false_iff_ne]; omega
      have dm : ((m : Int) == 0) = false := by rw [beq_eq_false_iff_ne]; omega
      have hmk : ∀ u : World, (Instr.makeSlice 38 (.int .i64 ((n : Int) + (m : Int))) (.int .i64 ((n : Int) + (m : Int)))).run Tryd.prog u = .ok (.slice (some ⟨u.heap.size, 0, none⟩) (n + m) (n + m)) (u.alloc (.cells (madeCells #[.int .u32 0] (n + m)) 29)) := fun u => by
        rw [show (n : Int) + (m : Int) = ((n + m : Nat) : Int) by omega]
        exact run_make_row' (P := Tryd.prog) 38 29 (.int .u32 0) 4 Tryd.underlying38 u32_info rfl .i64 .i64 (n + m) (by omega) (by omega) u
      have HS : Hid (MulAt la lb 0 0 0 (List.replicate (n + m) 0)) := by have h := MulAt.start la lb; rw [HLA.out, HLB.out] at h; exact h
      have HR0 : Hid (RowW w (w.alloc (.cells (madeCells #[.int .u32 0] (n + m)) 29)) w.heap.size (List.replicate (n + m) 0)) :=
        ⟨w_made w (n + m), fun x hx => by rw [List.eq_of_mem_replicate hx]; omega, (Below.refl _ _).alloc (Nat.le_refl _) _, Nat.le_refl _⟩
      go_enter Tryd.func18, Tryd.ntmps18
      go_wp2_with fail
      go_loopw [6] (fun iv wx => ∃ (i : Nat) (R : List Nat), i ≤ n ∧ iv = .int .i64 i ∧ Hid (MulAt la lb i 0 0 R) ∧ Hid (RowW w wx w.heap.size R)) (fun iv _ => n - (intOf iv).toNat)
      case atStart => exact ⟨0, _, Nat.zero_le _, rfl, HS, HR0⟩
      case round =>
        clear HS HR0
        obtain ⟨i, R, hi, rfl, HM, HR⟩ := hrel
        by_cases hin : i < n
        · go_wp2_with fail
          go_loopw [7, 8] (fun cv jv wx => ∃ (j cc : Nat) (R : List Nat), j ≤ m ∧ jv = .int .i64 j ∧ cv = .int .u64 (cc : Int) ∧ cc < 4294967296 ∧ Hid (MulAt la lb i j cc R) ∧ Hid (RowW w wx w.heap.size R)) (fun _ jv _ => m - (intOf jv).toNat)
          case atStart => exact ⟨0, 0, R, Nat.zero_le _, rfl, rfl, by omega, HM, HR⟩
          case round =>
            clear HM HR R
            obtain ⟨j, cc, R, hj, rfl, rfl, hcc, HM, HR⟩ := hrel
            by_cases hjm : j < m
            · have hil : i < la.length := by have := HLA.out; omega
              have hjl : j < lb.length := by have := HLB.out; omega
              obtain ⟨bA, oA, rfl, hbA, a0, ha0⟩ := HA.out.u32_ hil
              obtain ⟨bB, oB, rfl, hbB, b0, hb0⟩ := HB.out.u32_ hjl
              have za := (HR.out.below.cell (p := ⟨bA, oA + i, none⟩) (HF.out _ hbA)).trans a0
              have zb := (HR.out.below.cell (p := ⟨bB, oB + j, none⟩) (HG.out _ hbB)).trans b0
              have hRl : i + j < R.length := by have h1 := HM.out.len; have h2 := HLA.out; have h3 := HLB.out; omega
              obtain ⟨zr, fr⟩ := HR.out.cell hRl
              have hr0 := HR.out.words _ (List.getElem_mem hRl)
              have hst := HM.out.step (t := cc + (la.getD i 0 * lb.getD j 0 + R.getD (i + j) 0)) hil hjl (by rw [getD_get hil]; exact ha0) (by rw [getD_get hjl]; exact hb0) (by rw [getD_get hRl]; exact hr0) rfl
              rw [getD_get hil, getD_get hjl, getD_get hRl] at hst
              obtain ⟨p, hp⟩ : ∃ p, p = i + j := ⟨_, rfl⟩
              have hpi : (i : Int) + (j : Int) = (p : Int) := by omega
              have hpw : IntKind.i64.wrap ((i : Int) + (j : Int)) = (p : Int) := by rw [hpi]; exact IntWalk.i64_in _ (by omega)
              have hpn : p < n + m := by omega
              simp only [← hp] at zr fr hr0 hst
              have hab : la[i] * lb[j] < 18446744073709551616 := by
                have : la[i] * lb[j] ≤ 4294967295 * 4294967295 := Nat.mul_le_mul (by omega) (by omega)
                omega
              generalize la[i] = x at za ha0 hst hab
              generalize lb[j] = y at zb hb0 hst hab
              generalize R[p] = r at zr hr0 hst
              clear hp
              obtain ⟨ab, hab2⟩ : ∃ ab, ab = x * y := ⟨_, rfl⟩
              have hm1 : IntKind.u64.wrap ((x : Int) * (y : Int)) = (ab : Int) := by
                rw [show (x : Int) * (y : Int) = (ab : Int) by rw [hab2]; exact (Int.natCast_mul x y).symm]
                show (ab : Int) % 18446744073709551616 = _; omega
              rw [← hab2] at hst hab
              clear hab2
              have htb := hst.1
              obtain ⟨s, hs⟩ : ∃ s, s = ab + r := ⟨_, rfl⟩
              have hm2 : IntKind.u64.wrap ((ab : Int) + (r : Int)) = (s : Int) := by
                show ((ab : Int) + (r : Int)) % 18446744073709551616 = _; omega
              rw [← hs] at hst htb
              obtain ⟨t, ht⟩ : ∃ t, t = cc + s := ⟨_, rfl⟩
              have hm3 : IntKind.u64.wrap ((cc : Int) + (s : Int)) = (t : Int) := by
                show ((cc : Int) + (s : Int)) % 18446744073709551616 = _; omega
              rw [← ht] at hst htb
              have HM2 := Lib.hid hst.2
              have HR2 := Lib.hid (fun q => (HR.out.drewN q).set (p := p) (x := t % 4294967296) (Nat.mod_lt _ (by decide)))
              clear hst hs ht HM a0 b0 hRl
              go_upto_region 11 with (fail)
              go_quiet (fail)
              go_wp2_with fail
              go_roundw
              case rel => exact ⟨j + 1, t / 4294967296, R.set p (t % 4294967296), by omega, by go_num, rfl, by omega, HM2, HR2.out _⟩
              case measure => simp [intOf]; omega
            · have djm : decide (j < m) = false := decide_eq_false hjm
              have hjme : j = m := by omega
              subst hjme
              have hRl : i + j < R.length := by have h1 := HM.out.len; have h2 := HLA.out; have h3 := HLB.out; omega
              obtain ⟨zr, fr⟩ := HR.out.cell hRl
              have HMN : Hid (MulAt la lb (i + 1) 0 0 (R.set (i + j) cc)) := by
                have h1 := HM.out
                have h3 := HLB.out
                rw [← h3] at h1 ⊢
                exact h1.next (by have h2 := HLA.out; omega)
              obtain ⟨p, hp⟩ : ∃ p, p = i + j := ⟨_, rfl⟩
              have hpi : (i : Int) + (j : Int) = (p : Int) := by omega
              have hpn : p < n + j := by omega
              simp only [← hp] at zr fr HMN
              have HR2 := Lib.hid (HR.out.set (p := p) (x := cc) hcc)
              generalize R[p] = r at zr
              clear hp
              clear HM HR
              go_wp2_with fail
              refine ⟨⟨i + 1, R.set p cc, by omega, by go_num, HMN, HR2⟩, ?_⟩
              simp [intOf]; omega
        · have din : decide (i < n) = false := decide_eq_false hin
          have hie : i = n := by omega
          subst hie
          have hval : wVal R = U * V := by
            have h1 := HM.out
            rw [← HLA.out] at h1
            exact (h1.end_ rfl).trans HUV.out
          have hRl : R.length = i + m := by rw [HM.out.len, HLA.out, HLB.out]
          have hsl := HR.out.sl (by omega)
          have HT := Lib.hid (trim_ok _ _ _ _ wr hsl)
          rw [hRl] at HT
          have HS := Lib.hid hsl
          have HV := Lib.hid hval
          have HRL := Lib.hid hRl
          clear hsl hval hRl HM
          go_wp2_with fail
          refine HT.out.mono ?_
          rintro e w2 ⟨k, rfl, hk, ht, rfl⟩
          have HRR : Hid (WordsAt wr (fun k => w.heap.size ≤ k ∧ k < wr.heap.size) (some ⟨w.heap.size, 0, none⟩) k (i + m) (U * V)) := by
            have h1 := WordsAt.of_trim (by rw [HRL.out]; exact hk) ht HS.out (by rw [HRL.out]; exact hn)
            rw [HV.out, HRL.out] at h1
            exact h1
          have HBB := Lib.hid HR.out.below
          clear hk ht HT HS HV HRL HR
          go_wp2_with fail
          go_ret
          exact ⟨_, k, _, rfl, HRR.out, HBB.out⟩
end Go.Proofs.YtbhapjipledioaaDoor
