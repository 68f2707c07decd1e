/-
  Several texts of this claim in one, in build order; each begins with its own remark, which says what it proves and under which conditions.
-/
import Derived.Test.YtfndhfekbbbliaaGreatDoorPackJ
import Derived.Test.YtfndhfekbbbliaaGreatDoorPackA
import Derived.Test.YtfndhfekbbbliaaGreatDoorPackK
import Derived.Deep.RegionHeld3
import Derived.Test.YtfndhfekbbbliaaGreatDoorPackD
import Derived.Deep.CutRange
import Derived.Test.YtfndhfekbbbliaaGreatDoorPackE

/-
  The statements' own whole numbers: the product of two rows of words. No condition.
-/
namespace Go.Proofs.YtfndhfekbbbliaaGreatDoor
open Go.RowKit Go.ChangeShapes Go.WideShapes
set_option linter.unusedVariables false
theorem wVal_set : ∀ (l : List Nat) (p v : Nat) (hp : p < l.length), wVal (l.set p v) + l[p] * 4294967296 ^ p = wVal l + v * 4294967296 ^ p
 | [], p, v, hp => by simp at hp
 | a :: l, 0, v, _ => by simp only [List.set_cons_zero, wVal, List.getElem_cons_zero, Nat.pow_zero, Nat.mul_one]; omega
 | a :: l, p + 1, v, hp => by
  have h := wVal_set l p v (by simpa using hp)
  simp only [List.set_cons_succ, wVal, List.getElem_cons_succ, Nat.pow_succ]
  have e1 : ∀ x : Nat, x * (4294967296 ^ p * 4294967296) = 4294967296 * (x * 4294967296 ^ p) := fun x => by rw [Nat.mul_comm (4294967296 ^ p), ← Nat.mul_assoc, Nat.mul_comm x, Nat.mul_assoc]
  rw [e1, e1]
  omega
theorem wVal_zeros (n : Nat) : wVal (List.replicate n 0) = 0 := wVal_zero fun x hx => List.eq_of_mem_replicate hx
def wCells (l : List Nat) : Array Value := (l.map u32v).toArray
theorem w_made (w : World) (n : Nat) : (w.alloc (.cells (madeCells #[.int .u32 0] n) 202)).heap[w.heap.size]? = some (.cells (wCells (List.replicate n 0)) 202 (0, 0)) := by
 rw [heap_alloc_new w _]
 congr 2
 apply Array.ext'
 rw [toList_madeCells_one]
 simp [wCells, u32v]
theorem w_set (l : List Nat) (p x : Nat) : (wCells l).setIfInBounds p (u32v x) = wCells (l.set p x) := by
 unfold wCells
 apply Array.ext'
 rw [Array.toList_setIfInBounds, List.map_set]
structure RowW (w W : World) (g : Nat) (l : List Nat) : Prop where
 blk : W.heap[g]? = some (.cells (wCells l) 202 (0, 0))
 words : ∀ x ∈ l, x < 4294967296
 below : Below w.heap.size w W
 base : w.heap.size ≤ g
theorem RowW.cell {w W : World} {g : Nat} {l : List Nat} (h : RowW w W g l) {p : Nat} (hp : p < l.length) : W.cell? ⟨g, p, none⟩ = some (.int .u32 (l[p] : Int)) ∧ W.frozen? ⟨g, p, none⟩ = false := by
 refine ⟨?_, by simp [World.frozen?, h.blk]⟩
 rw [cell_of_row W g p _ _ _ h.blk]
 unfold wCells
 rw [List.getElem?_toArray, List.getElem?_map, List.getElem?_eq_getElem hp]
 rfl
theorem RowW.set {w W : World} {g : Nat} {l : List Nat} (h : RowW w W g l) {p x : Nat} (hx : x < 4294967296) : RowW w (W.setCell ⟨g, p, none⟩ (.int .u32 (x : Int))) g (l.set p x) := by
 refine ⟨?_, fun y hy => ?_, h.below.setCell h.base _, h.base⟩
 ·rw [show (W.setCell ⟨g, p, none⟩ (.int .u32 (x : Int))).heap[g]? = some (.cells ((wCells l).setIfInBounds p (u32v x)) 202 (0, 0)) by simp [World.setCell, Array.getElem?_modify, h.blk, u32v], w_set]
 ·rcases List.mem_or_eq_of_mem_set hy with hy | hy
  ·exact h.words y hy
  ·rw [hy]; exact hx
theorem RowW.drewN {w W : World} {g : Nat} {l : List Nat} (h : RowW w W g l) (q : Nat) : RowW w (W.drewN q) g l := ⟨h.blk, h.words, bdrewN h.below q, h.base⟩
theorem RowW.sl {w W : World} {g : Nat} {l : List Nat} (h : RowW w W g l) (hl : l.length ≤ 1000) : SlA u32E (fun k => w.heap.size ≤ k ∧ k < W.heap.size) W (some ⟨g, 0, none⟩) l.length l :=
 ws_sl l h.blk (by simp [wCells]; intros; rfl) ⟨h.base, block_lt h.blk⟩ h.words (by unfold maxLen; omega)
structure MulAt (la lb : List Nat) (i j : Nat) (c : Nat) (R : List Nat) : Prop where
 len : R.length = la.length + lb.length
 val : wVal R + c * 4294967296 ^ (i + j) = wVal (la.take i) * wVal lb + 4294967296 ^ i * (la.getD i 0 * wVal (lb.take j))
 zero : ∀ p, i + lb.length ≤ p → R.getD p 0 = 0
 carry : c < 4294967296
theorem take_getD {l : List Nat} {i : Nat} (h : i < l.length) : wVal (l.take (i + 1)) = wVal (l.take i) + l.getD i 0 * 4294967296 ^ i := by
 rw [wVal_split (l.take (i + 1)) i (by rw [List.length_take]; omega), List.take_take, Nat.min_eq_left (by omega)]
 have : (l.take (i + 1)).drop i = [l.getD i 0] := by
  rw [List.drop_take, List.drop_eq_getElem_cons h, show i + 1 - i = 1 by omega, List.take_succ_cons, List.take_zero, List.getD_eq_getElem?_getD, List.getElem?_eq_getElem h]; rfl
 rw [this]
 simp only [wVal]
 rw [Nat.mul_zero, Nat.add_zero, Nat.mul_comm]
theorem getD_get {l : List Nat} {i : Nat} (h : i < l.length) : l.getD i 0 = l[i] := by
 rw [List.getD_eq_getElem?_getD, List.getElem?_eq_getElem h]; rfl
theorem mul_fin {X W0 r P t c Y : Nat} (ab : Nat) (ht : t = c + (ab + r)) (h1 : X + r * P = W0 + t % 4294967296 * P) {Y0 : Nat} (h2 : W0 + c * P = Y + Y0) : X + t / 4294967296 * (4294967296 * P) = Y + (Y0 + ab * P) := by
 have e4 : (t % 4294967296) * P + (t / 4294967296) * (4294967296 * P) = t * P := by
  rw [← Nat.mul_assoc, ← Nat.add_mul]
  congr 1
  rw [Nat.mul_comm, Nat.add_comm]
  exact Nat.div_add_mod t 4294967296
 have e5 : t * P = c * P + (ab * P + r * P) := by rw [ht, Nat.add_mul, Nat.add_mul]
 generalize (t % 4294967296) * P = a1 at h1 e4
 generalize (t / 4294967296) * (4294967296 * P) = a2 at e4 ⊢
 generalize t * P = a3 at e4 e5
 generalize c * P = a4 at e5 h2
 generalize ab * P = a5 at e5 ⊢
 generalize r * P = a6 at e5 h1
 omega
theorem mul_e2 (Bi a x y Bj : Nat) : Bi * (a * (x + y * Bj)) = Bi * (a * x) + a * y * (Bi * Bj) := by
 rw [Nat.mul_add, Nat.mul_add]
 congr 1
 rw [← Nat.mul_assoc a, Nat.mul_left_comm]
theorem mul_e3 (x a Bi v : Nat) : (x + a * Bi) * v = x * v + Bi * (a * v) := by
 rw [Nat.add_mul, Nat.mul_comm a, Nat.mul_assoc]
theorem MulAt.step {la lb R : List Nat} {i j c t : Nat} (h : MulAt la lb i j c R) (hi : i < la.length) (hj : j < lb.length) (ha : la.getD i 0 < 4294967296) (hb : lb.getD j 0 < 4294967296) (hr : R.getD (i + j) 0 < 4294967296)
  (ht : t = c + (la.getD i 0 * lb.getD j 0 + R.getD (i + j) 0)) : t < 18446744073709551616 ∧ MulAt la lb i (j + 1) (t / 4294967296) (R.set (i + j) (t % 4294967296)) := by
 have hpr : la.getD i 0 * lb.getD j 0 ≤ 4294967295 * 4294967295 := Nat.mul_le_mul (by omega) (by omega)
 have htb : t < 18446744073709551616 := by have := h.carry; omega
 refine ⟨htb, by rw [List.length_set]; exact h.len, ?_, fun p hp => ?_, by omega⟩
 ·have hp : i + j < R.length := by rw [h.len]; omega
  have h1 := wVal_set R (i + j) (t % 4294967296) hp
  rw [← getD_get hp] at h1
  have h2 := h.val
  rw [take_getD hj]
  have e1 : 4294967296 ^ (i + (j + 1)) = 4294967296 * 4294967296 ^ (i + j) := by rw [show i + (j + 1) = (i + j) + 1 by omega, Nat.pow_succ, Nat.mul_comm]
  rw [e1, mul_e2, ← Nat.pow_add]
  generalize 4294967296 ^ (i + j) = P at h1 h2 ⊢
  exact mul_fin (la.getD i 0 * lb.getD j 0) ht h1 h2
 ·rw [List.getD_eq_getElem?_getD, List.getElem?_set_ne (by omega), ← List.getD_eq_getElem?_getD]
  exact h.zero p hp
theorem MulAt.next {la lb R : List Nat} {i c : Nat} (h : MulAt la lb i lb.length c R) (hi : i < la.length) : MulAt la lb (i + 1) 0 0 (R.set (i + lb.length) c) := by
 have hp : i + lb.length < R.length := by rw [h.len]; omega
 refine ⟨by rw [List.length_set]; exact h.len, ?_, fun p hp2 => ?_, by omega⟩
 ·have h1 := wVal_set R (i + lb.length) c hp
  rw [← getD_get hp, h.zero _ (Nat.le_refl _)] at h1
  have h2 := h.val
  rw [List.take_length] at h2
  rw [take_getD hi, List.take_zero]
  rw [mul_e3]
  generalize 4294967296 ^ (i + lb.length) = P at h1 h2
  generalize 4294967296 ^ i = Q at h2 ⊢
  rw [show wVal [] = 0 from rfl, Nat.zero_mul, Nat.mul_zero, Nat.mul_zero, Nat.add_zero, Nat.add_zero]
  rw [Nat.zero_mul, Nat.add_zero] at h1
  exact h1.trans h2
 ·rw [List.getD_eq_getElem?_getD, List.getElem?_set_ne (by omega), ← List.getD_eq_getElem?_getD]
  exact h.zero p (by omega)
theorem MulAt.start (la lb : List Nat) : MulAt la lb 0 0 0 (List.replicate (la.length + lb.length) 0) :=
 ⟨by simp, by simp [wVal_zeros, wVal], fun p _ => by rw [List.getD_eq_getElem?_getD, List.getElem?_replicate]; split <;> rfl, by omega⟩
theorem MulAt.end_ {la lb R : List Nat} {c : Nat} (h : MulAt la lb la.length 0 c R) (h0 : c = 0) : wVal R = wVal la * wVal lb := by
 have := h.val
 rw [List.take_length, h0, List.take_zero] at this
 simpa [wVal] using this
set_option maxRecDepth 100000 in
set_option maxHeartbeats 2000000 in
theorem mul_ok (F G : Nat → Prop) (A B : Option Addr) (n m c d U V : Nat) (w : World) (ha : WordsAt w F A n c U) (hb : WordsAt w G B m d V) (hF : ∀ k, F k → k < w.heap.size) (hG : ∀ k, G k → k < w.heap.size) (hn : n + m ≤ 1000) :
  Calls Tryz.prog 212 #[.slice A n c, .slice B m d] w fun e w' => ∃ A' n' c', e = .returned (.slice A' n' c') ∧ WordsAt w' (fun k => w.heap.size ≤ k ∧ k < w'.heap.size) A' n' c' (U * V) ∧ Below w.heap.size w w' := by
 have hza := ha.zero
 have hzb := hb.zero
 obtain ⟨la, hla, _, sa, va, _⟩ := ha
 obtain ⟨lb, hlb, _, sb, vb, _⟩ := hb
 have wa := words_lt sa
 have wb := words_lt sb
 have hca := sa.1
 have hcb := sb.1
 have HA := Lib.hid sa
 have HB := Lib.hid sb
 have HF := Lib.hid hF
 have HG := Lib.hid hG
 rw [hla] at hca
 rw [hlb] at hcb
 clear sa sb hF hG
 by_cases hn0 : n = 0
 ·have hU := hza.2 hn0
  subst hn0
  have HR : Hid (U * V = 0) := by show _ = _; rw [hU, Nat.zero_mul]
  clear hza hzb va vb wa wb HA HB HF HG hU hla hlb
  go_enter Tryz.func212, Tryz.ntmps212
  go_wp2_with fail
  go_ret
  rw [HR.out]
  exact ⟨none, 0, 0, rfl, WordsAt.nil _ _, Below.refl _ _⟩
 ·by_cases hm0 : m = 0
  ·have hV := hzb.2 hm0
   subst hm0
   have HR : Hid (U * V = 0) := by show _ = _; rw [hV, Nat.mul_zero]
   clear hza hzb va vb wa wb HA HB HF HG hV hla hlb
   go_enter Tryz.func212, Tryz.ntmps212
   go_wp2_with fail
   go_ret
   rw [HR.out]
   exact ⟨none, 0, 0, rfl, WordsAt.nil _ _, Below.refl _ _⟩
  ·have HUV : Hid (wVal la * wVal lb = U * V) := by show _ = _; rw [va, vb]
   have HWA := Lib.hid wa
   have HWB := Lib.hid wb
   have HLA := Lib.hid hla
   have HLB := Lib.hid hlb
   clear hza hzb va vb wa wb hla hlb
   have dn : ((n : Int) == 0) = false := by rw [beq_eq_false_iff_ne]; omega
   have dm : ((m : Int) == 0) = false := by rw [beq_eq_false_iff_ne]; omega
   have hmk : ∀ u : World, (Instr.makeSlice 96 (.int .i64 ((n : Int) + (m : Int))) (.int .i64 ((n : Int) + (m : Int)))).run Tryz.prog u = .ok (.slice (some ⟨u.heap.size, 0, none⟩) (n + m) (n + m)) (u.alloc (.cells (madeCells #[.int .u32 0] (n + m)) 202)) := fun u => by
    rw [show (n : Int) + (m : Int) = ((n + m : Nat) : Int) by omega]
    exact run_make_row' (P := Tryz.prog) 96 202 (.int .u32 0) 4 Tryz.underlying96 u32_info rfl .i64 .i64 (n + m) (by omega) (by omega) u
   have HS : Hid (MulAt la lb 0 0 0 (List.replicate (n + m) 0)) := by have h := MulAt.start la lb; rw [HLA.out, HLB.out] at h; exact h
   have HR0 : Hid (RowW w (w.alloc (.cells (madeCells #[.int .u32 0] (n + m)) 202)) w.heap.size (List.replicate (n + m) 0)) :=
    ⟨w_made w (n + m), fun x hx => by rw [List.eq_of_mem_replicate hx]; omega, (Below.refl _ _).alloc (Nat.le_refl _) _, Nat.le_refl _⟩
   go_enter Tryz.func212, Tryz.ntmps212
   go_wp2_with fail
   go_loopw [6] (fun iv wx => ∃ (i : Nat) (R : List Nat), i ≤ n ∧ iv = .int .i64 i ∧ Hid (MulAt la lb i 0 0 R) ∧ Hid (RowW w wx w.heap.size R)) (fun iv _ => n - (intOf iv).toNat)
   case atStart => exact ⟨0, _, Nat.zero_le _, rfl, HS, HR0⟩
   case round =>
    clear HS HR0
    obtain ⟨i, R, hi, rfl, HM, HR⟩ := hrel
    by_cases hin : i < n
    ·go_wp2_with fail
     go_loopw [7, 8] (fun cv jv wx => ∃ (j cc : Nat) (R : List Nat), j ≤ m ∧ jv = .int .i64 j ∧ cv = .int .u64 (cc : Int) ∧ cc < 4294967296 ∧ Hid (MulAt la lb i j cc R) ∧ Hid (RowW w wx w.heap.size R)) (fun _ jv _ => m - (intOf jv).toNat)
     case atStart => exact ⟨0, 0, R, Nat.zero_le _, rfl, rfl, by omega, HM, HR⟩
     case round =>
      clear HM HR R
      obtain ⟨j, cc, R, hj, rfl, rfl, hcc, HM, HR⟩ := hrel
      by_cases hjm : j < m
      ·have hil : i < la.length := by have := HLA.out; omega
       have hjl : j < lb.length := by have := HLB.out; omega
       obtain ⟨bA, oA, rfl, hbA, a0, ha0⟩ := HA.out.u32_ hil
       obtain ⟨bB, oB, rfl, hbB, b0, hb0⟩ := HB.out.u32_ hjl
       have za := (HR.out.below.cell (p := ⟨bA, oA + i, none⟩) (HF.out _ hbA)).trans a0
       have zb := (HR.out.below.cell (p := ⟨bB, oB + j, none⟩) (HG.out _ hbB)).trans b0
       have hRl : i + j < R.length := by have h1 := HM.out.len; have h2 := HLA.out; have h3 := HLB.out; omega
       obtain ⟨zr, fr⟩ := HR.out.cell hRl
       have hr0 := HR.out.words _ (List.getElem_mem hRl)
       have hst := HM.out.step (t := cc + (la.getD i 0 * lb.getD j 0 + R.getD (i + j) 0)) hil hjl (by rw [getD_get hil]; exact ha0) (by rw [getD_get hjl]; exact hb0) (by rw [getD_get hRl]; exact hr0) rfl
       rw [getD_get hil, getD_get hjl, getD_get hRl] at hst
       obtain ⟨p, hp⟩ : ∃ p, p = i + j := ⟨_, rfl⟩
       have hpi : (i : Int) + (j : Int) = (p : Int) := by omega
       have hpw : IntKind.i64.wrap ((i : Int) + (j : Int)) = (p : Int) := by rw [hpi]; exact IntWalk.i64_in _ (by omega)
       have hpn : p < n + m := by omega
       simp only [← hp] at zr fr hr0 hst
       have hab : la[i] * lb[j] < 18446744073709551616 := by
        have : la[i] * lb[j] ≤ 4294967295 * 4294967295 := Nat.mul_le_mul (by omega) (by omega)
        omega
       generalize la[i] = x at za ha0 hst hab
       generalize lb[j] = y at zb hb0 hst hab
       generalize R[p] = r at zr hr0 hst
       clear hp
       obtain ⟨ab, hab2⟩ : ∃ ab, ab = x * y := ⟨_, rfl⟩
       have hm1 : IntKind.u64.wrap ((x : Int) * (y : Int)) = (ab : Int) := by
        rw [show (x : Int) * (y : Int) = (ab : Int) by rw [hab2]; exact (Int.natCast_mul x y).symm]
        show (ab : Int) % 18446744073709551616 = _; omega
       rw [← hab2] at hst hab
       clear hab2
       have htb := hst.1
       obtain ⟨s, hs⟩ : ∃ s, s = ab + r := ⟨_, rfl⟩
       have hm2 : IntKind.u64.wrap ((ab : Int) + (r : Int)) = (s : Int) := by
        show ((ab : Int) + (r : Int)) % 18446744073709551616 = _; omega
       rw [← hs] at hst htb
       obtain ⟨t, ht⟩ : ∃ t, t = cc + s := ⟨_, rfl⟩
       have hm3 : IntKind.u64.wrap ((cc : Int) + (s : Int)) = (t : Int) := by
        show ((cc : Int) + (s : Int)) % 18446744073709551616 = _; omega
       rw [← ht] at hst htb
       have HM2 := Lib.hid hst.2
       have HR2 := Lib.hid (fun q => (HR.out.drewN q).set (p := p) (x := t % 4294967296) (Nat.mod_lt _ (by decide)))
       clear hst hs ht HM a0 b0 hRl
       go_upto_region 11 with (fail)
       go_quiet (fail)
       go_wp2_with fail
       go_roundw
       case rel => exact ⟨j + 1, t / 4294967296, R.set p (t % 4294967296), by omega, by go_num, rfl, by omega, HM2, HR2.out _⟩
       case measure => simp [intOf]; omega
      ·have djm : decide (j < m) = false := decide_eq_false hjm
       have hjme : j = m := by omega
       subst hjme
       have hRl : i + j < R.length := by have h1 := HM.out.len; have h2 := HLA.out; have h3 := HLB.out; omega
       obtain ⟨zr, fr⟩ := HR.out.cell hRl
       have HMN : Hid (MulAt la lb (i + 1) 0 0 (R.set (i + j) cc)) := by
        have h1 := HM.out
        have h3 := HLB.out
        rw [← h3] at h1 ⊢
        exact h1.next (by have h2 := HLA.out; omega)
       obtain ⟨p, hp⟩ : ∃ p, p = i + j := ⟨_, rfl⟩
       have hpi : (i : Int) + (j : Int) = (p : Int) := by omega
       have hpn : p < n + j := by omega
       simp only [← hp] at zr fr HMN
       have HR2 := Lib.hid (HR.out.set (p := p) (x := cc) hcc)
       generalize R[p] = r at zr
       clear hp
       clear HM HR
       go_wp2_with fail
       refine ⟨⟨i + 1, R.set p cc, by omega, by go_num, HMN, HR2⟩, ?_⟩
       simp [intOf]; omega
    ·have din : decide (i < n) = false := decide_eq_false hin
     have hie : i = n := by omega
     subst hie
     have hval : wVal R = U * V := by
      have h1 := HM.out
      rw [← HLA.out] at h1
      exact (h1.end_ rfl).trans HUV.out
     have hRl : R.length = i + m := by rw [HM.out.len, HLA.out, HLB.out]
     have hsl := HR.out.sl (by omega)
     have HT := Lib.hid (trim_ok _ _ _ _ wr hsl)
     rw [hRl] at HT
     have HS := Lib.hid hsl
     have HV := Lib.hid hval
     have HRL := Lib.hid hRl
     clear hsl hval hRl HM
     go_wp2_with fail
     refine HT.out.mono ?_
     rintro e w2 ⟨k, rfl, hk, ht, rfl⟩
     have HRR : Hid (WordsAt wr (fun k => w.heap.size ≤ k ∧ k < wr.heap.size) (some ⟨w.heap.size, 0, none⟩) k (i + m) (U * V)) := by
      have h1 := WordsAt.of_trim (by rw [HRL.out]; exact hk) ht HS.out (by rw [HRL.out]; exact hn)
      rw [HV.out, HRL.out] at h1
      exact h1
     have HBB := Lib.hid HR.out.below
     clear hk ht HT HS HV HRL HR
     go_wp2_with fail
     go_ret
     exact ⟨_, k, _, rfl, HRR.out, HBB.out⟩
end Go.Proofs.YtfndhfekbbbliaaGreatDoor

/-
  The statements' own whole numbers: the sum of two rows of words. No condition.
-/
namespace Go.Proofs.YtfndhfekbbbliaaGreatDoor
open Go.RowKit Go.ChangeShapes Go.WideShapes
set_option linter.unusedVariables false
structure AddAt (la lb : List Nat) (n i c : Nat) (R : List Nat) : Prop where
 len : R.length = n + 1
 val : wVal R + c * 4294967296 ^ i = wVal (la.take i) + wVal (lb.take i)
 zero : ∀ p, i ≤ p → R.getD p 0 = 0
 carry : c ≤ 1
theorem take_getDx (l : List Nat) (i : Nat) : wVal (l.take (i + 1)) = wVal (l.take i) + l.getD i 0 * 4294967296 ^ i := by
 rcases Nat.lt_or_ge i l.length with h | h
 ·exact take_getD h
 ·rw [List.take_of_length_le (by omega), List.take_of_length_le h, List.getD_eq_getElem?_getD, List.getElem?_eq_none h]; simp
theorem add_fin {X W0 P t c : Nat} {a b Y : Nat} (ht : t = c + a + b) (h1 : X = W0 + t % 4294967296 * P) (h2 : W0 + c * P = Y) : X + t / 4294967296 * (P * 4294967296) = Y + (a * P + b * P) := by
 have e4 : (t % 4294967296) * P + (t / 4294967296) * (P * 4294967296) = t * P := by
  rw [Nat.mul_comm P, ← Nat.mul_assoc, ← Nat.add_mul]
  congr 1
  rw [Nat.mul_comm, Nat.add_comm]
  exact Nat.div_add_mod t 4294967296
 have e5 : t * P = c * P + (a * P + b * P) := by rw [ht, Nat.add_mul, Nat.add_mul, Nat.add_assoc]
 generalize (t % 4294967296) * P = a1 at h1 e4
 generalize (t / 4294967296) * (P * 4294967296) = a2 at e4 ⊢
 generalize t * P = a3 at e4 e5
 generalize c * P = a4 at e5 h2
 generalize a * P + b * P = a5 at e5 ⊢
 omega
theorem AddAt.step {la lb R : List Nat} {n i c t : Nat} (h : AddAt la lb n i c R) (hi : i < n) (ha : la.getD i 0 < 4294967296) (hb : lb.getD i 0 < 4294967296) (ht : t = c + la.getD i 0 + lb.getD i 0) :
  t < 8589934592 ∧ AddAt la lb n (i + 1) (t / 4294967296) (R.set i (t % 4294967296)) := by
 have htb : t < 8589934592 := by have := h.carry; omega
 have hp : i < R.length := by rw [h.len]; omega
 refine ⟨htb, by rw [List.length_set]; exact h.len, ?_, fun p hp2 => ?_, by omega⟩
 ·have h1 := wVal_set R i (t % 4294967296) hp
  rw [← getD_get hp, h.zero i (Nat.le_refl _), Nat.zero_mul, Nat.add_zero] at h1
  have h2 := h.val
  rw [take_getDx, take_getDx, Nat.pow_succ]
  generalize 4294967296 ^ i = P at h1 h2 ⊢
  have h3 := add_fin ht h1 h2
  rw [h3]
  generalize la.getD i 0 * P = a1
  generalize lb.getD i 0 * P = a2
  omega
 ·rw [List.getD_eq_getElem?_getD, List.getElem?_set_ne (by omega), ← List.getD_eq_getElem?_getD]
  exact h.zero p (by omega)
theorem AddAt.end_ {la lb R : List Nat} {n c : Nat} (h : AddAt la lb n n c R) (hla : la.length ≤ n) (hlb : lb.length ≤ n) : wVal (R.set n c) = wVal la + wVal lb := by
 have hp : n < R.length := by rw [h.len]; omega
 have h1 := wVal_set R n c hp
 rw [← getD_get hp, h.zero n (Nat.le_refl _), Nat.zero_mul, Nat.add_zero] at h1
 have h2 := h.val
 rw [List.take_of_length_le hla, List.take_of_length_le hlb] at h2
 exact h1.trans h2
theorem AddAt.start (la lb : List Nat) (n : Nat) : AddAt la lb n 0 0 (List.replicate (n + 1) 0) :=
 ⟨by simp, by rw [wVal_zeros]; simp [wVal], fun p _ => by rw [List.getD_eq_getElem?_getD, List.getElem?_replicate]; split <;> rfl, by omega⟩
set_option maxRecDepth 100000 in
set_option maxHeartbeats 2000000 in
theorem add_ok (F G : Nat → Prop) (A B : Option Addr) (n m c d U V : Nat) (w : World) (ha : WordsAt w F A n c U) (hb : WordsAt w G B m d V) (hF : ∀ k, F k → k < w.heap.size) (hG : ∀ k, G k → k < w.heap.size) (hn : n ≤ 900) (hm : m ≤ 900) :
  Calls Tryz.prog 211 #[.slice A n c, .slice B m d] w fun e w' => ∃ A' n' c', e = .returned (.slice A' n' c') ∧ WordsAt w' (fun k => w.heap.size ≤ k ∧ k < w'.heap.size) A' n' c' (U + V) ∧ Below w.heap.size w w' := by
 obtain ⟨la, hla, _, sa, va, _⟩ := ha
 obtain ⟨lb, hlb, _, sb, vb, _⟩ := hb
 have wa := words_lt sa
 have wb := words_lt sb
 have hca := sa.1
 have hcb := sb.1
 rw [hla] at hca
 rw [hlb] at hcb
 have HA := Lib.hid sa
 have HB := Lib.hid sb
 have HF := Lib.hid hF
 have HG := Lib.hid hG
 have HWA := Lib.hid wa
 have HWB := Lib.hid wb
 have HLA := Lib.hid hla
 have HLB := Lib.hid hlb
 have HUV : Hid (wVal la + wVal lb = U + V) := by show _ = _; rw [va, vb]
 clear sa sb hF hG wa wb hla hlb va vb
 go_enter Tryz.func211, Tryz.ntmps211
 by_cases hnm : n < m
 ·have dnm : decide (n < m) = true := decide_eq_true hnm
  have hmk : ∀ u : World, (Instr.makeSlice 96 (.int .i64 ((m : Int) + 1)) (.int .i64 ((m : Int) + 1))).run Tryz.prog u = .ok (.slice (some ⟨u.heap.size, 0, none⟩) (m + 1) (m + 1)) (u.alloc (.cells (madeCells #[.int .u32 0] (m + 1)) 202)) := fun u => by
   rw [show (m : Int) + 1 = ((m + 1 : Nat) : Int) by omega]
   exact run_make_row' (P := Tryz.prog) 96 202 (.int .u32 0) 4 Tryz.underlying96 u32_info rfl .i64 .i64 (m + 1) (by omega) (by omega) u
  have HS : Hid (AddAt lb la m 0 0 (List.replicate (m + 1) 0)) := AddAt.start _ _ _
  have HR0 : Hid (RowW w (w.alloc (.cells (madeCells #[.int .u32 0] (m + 1)) 202)) w.heap.size (List.replicate (m + 1) 0)) :=
   ⟨w_made w (m + 1), fun x hx => by rw [List.eq_of_mem_replicate hx]; omega, (Below.refl _ _).alloc (Nat.le_refl _) _, Nat.le_refl _⟩
  go_wp2_with fail
  go_loopw [6, 7] (fun cv iv wx => ∃ (i cc : Nat) (R : List Nat), i ≤ m ∧ iv = .int .i64 i ∧ cv = .int .u64 (cc : Int) ∧ cc ≤ 1 ∧ Hid (AddAt lb la m i cc R) ∧ Hid (RowW w wx w.heap.size R)) (fun _ iv _ => m - (intOf iv).toNat)
  case atStart => exact ⟨0, 0, _, Nat.zero_le _, rfl, rfl, by omega, HS, HR0⟩
  case round =>
   clear HS HR0
   obtain ⟨i, cc, R, hi, rfl, rfl, hcc, HM, HR⟩ := hrel
   have hRl : R.length = m + 1 := HM.out.len
   by_cases hin : i < m
   ·have hil : i < lb.length := by have := HLB.out; omega
    obtain ⟨bA, oA, hAe, hbA, a0, ha0⟩ := HB.out.u32_ hil
    subst hAe
    have za := (HR.out.below.cell (p := ⟨bA, oA + i, none⟩) (HG.out _ hbA)).trans a0
    obtain ⟨zr, fr⟩ := HR.out.cell (p := i) (by omega)
    have hag : lb.getD i 0 = lb[i] := getD_get hil
    generalize lb[i] = x at za ha0 hag
    generalize R[i]'(by omega) = r at zr
    clear a0 hil
    by_cases him : i < n
    ·have hjl : i < la.length := by have := HLA.out; omega
     obtain ⟨bB, oB, hBe, hbB, b0, hb0⟩ := HA.out.u32_ hjl
     subst hBe
     have zb := (HR.out.below.cell (p := ⟨bB, oB + i, none⟩) (HF.out _ hbB)).trans b0
     have hbg : la.getD i 0 = la[i] := getD_get hjl
     generalize la[i] = y at zb hb0 hbg
     have hst := HM.out.step (t := cc + x + y) hin (by rw [hag]; exact ha0) (by rw [hbg]; exact hb0) (by rw [hag, hbg])
     obtain ⟨t, ht⟩ : ∃ t, t = cc + x + y := ⟨_, rfl⟩
     have htI : (cc : Int) + (x : Int) + (y : Int) = (t : Int) := by omega
     rw [← ht] at hst
     obtain ⟨t0, ht0⟩ : ∃ t0, t0 = t % 4294967296 := ⟨_, rfl⟩
     obtain ⟨t1, ht1⟩ : ∃ t1, t1 = t / 4294967296 := ⟨_, rfl⟩
     have e0 : (t : Int) % 4294967296 = (t0 : Int) := by omega
     have e1 : (t : Int) / 4294967296 = (t1 : Int) := by omega
     have htb := hst.1
     rw [← ht0, ← ht1] at hst
     have HM2 := Lib.hid hst.2
     have HR2 := Lib.hid (HR.out.set (p := i) (x := t0) (by omega))
     have hc1 : t1 ≤ 1 := by omega
     clear hst HM HR ht ht0 ht1 b0 hjl hag hbg
     go_wp2_with fail
     go_roundw
     case rel => exact ⟨i + 1, t1, R.set i t0, by omega, by go_num, rfl, hc1, HM2, HR2⟩
     case measure => simp [intOf]; omega
    ·have dim : decide (i < n) = false := decide_eq_false him
     have hbg : la.getD i 0 = 0 := by rw [List.getD_eq_getElem?_getD, List.getElem?_eq_none (by have := HLA.out; omega)]; rfl
     have hst := HM.out.step (t := cc + x) hin (by rw [hag]; exact ha0) (by rw [hbg]; omega) (by rw [hag, hbg, Nat.add_zero])
     obtain ⟨t, ht⟩ : ∃ t, t = cc + x := ⟨_, rfl⟩
     have htI : (cc : Int) + (x : Int) = (t : Int) := by omega
     rw [← ht] at hst
     obtain ⟨t0, ht0⟩ : ∃ t0, t0 = t % 4294967296 := ⟨_, rfl⟩
     obtain ⟨t1, ht1⟩ : ∃ t1, t1 = t / 4294967296 := ⟨_, rfl⟩
     have e0 : (t : Int) % 4294967296 = (t0 : Int) := by omega
     have e1 : (t : Int) / 4294967296 = (t1 : Int) := by omega
     have htb := hst.1
     rw [← ht0, ← ht1] at hst
     have HM2 := Lib.hid hst.2
     have HR2 := Lib.hid (HR.out.set (p := i) (x := t0) (by omega))
     have hc1 : t1 ≤ 1 := by omega
     clear hst HM HR ht ht0 ht1 hag hbg
     go_wp2_with fail
     go_roundw
     case rel => exact ⟨i + 1, t1, R.set i t0, by omega, by go_num, rfl, hc1, HM2, HR2⟩
     case measure => simp [intOf]; omega
   ·have din : decide (i < m) = false := decide_eq_false hin
    have hie : i = m := by omega
    subst hie
    obtain ⟨zr, fr⟩ := HR.out.cell (p := i) (by omega)
    generalize R[i]'(by omega) = r at zr
    have hval : wVal (R.set i cc) = U + V := by
     have h1 := HM.out.end_ (by rw [HLB.out]; exact Nat.le_refl _) (by rw [HLA.out]; omega)
     rw [h1]; exact (Nat.add_comm _ _).trans HUV.out
    have hrow := HR.out.set (p := i) (x := cc) (by omega)
    have hl2 : (R.set i cc).length = i + 1 := by rw [List.length_set]; exact hRl
    have hsl := hrow.sl (by omega)
    have HT := Lib.hid (trim_ok _ _ _ _ (wr.setCell ⟨w.heap.size, i, none⟩ (.int .u32 (cc : Int))) hsl)
    rw [hl2] at HT
    have HW := Lib.hid (fun k (hk : k ≤ (R.set i cc).length) (ht : TrimOf (R.set i cc) k) => WordsAt.of_trim hk ht hsl (by omega))
    rw [hl2, hval] at HW
    have HBB := Lib.hid hrow.below
    clear hval hrow hl2 hsl HM HR hRl
    go_wp2_with fail
    refine HT.out.mono ?_
    rintro e w2 ⟨k, rfl, hk, ht, rfl⟩
    have HRR := Lib.hid (HW.out k hk ht)
    clear hk ht HT HW
    go_wp2_with fail
    go_ret
    exact ⟨_, k, _, rfl, HRR.out, HBB.out⟩
 ·have dnm : decide (n < m) = false := decide_eq_false hnm
  have hmk : ∀ u : World, (Instr.makeSlice 96 (.int .i64 ((n : Int) + 1)) (.int .i64 ((n : Int) + 1))).run Tryz.prog u = .ok (.slice (some ⟨u.heap.size, 0, none⟩) (n + 1) (n + 1)) (u.alloc (.cells (madeCells #[.int .u32 0] (n + 1)) 202)) := fun u => by
   rw [show (n : Int) + 1 = ((n + 1 : Nat) : Int) by omega]
   exact run_make_row' (P := Tryz.prog) 96 202 (.int .u32 0) 4 Tryz.underlying96 u32_info rfl .i64 .i64 (n + 1) (by omega) (by omega) u
  have HS : Hid (AddAt la lb n 0 0 (List.replicate (n + 1) 0)) := AddAt.start _ _ _
  have HR0 : Hid (RowW w (w.alloc (.cells (madeCells #[.int .u32 0] (n + 1)) 202)) w.heap.size (List.replicate (n + 1) 0)) :=
   ⟨w_made w (n + 1), fun x hx => by rw [List.eq_of_mem_replicate hx]; omega, (Below.refl _ _).alloc (Nat.le_refl _) _, Nat.le_refl _⟩
  go_wp2_with fail
  go_loopw [6, 7] (fun cv iv wx => ∃ (i cc : Nat) (R : List Nat), i ≤ n ∧ iv = .int .i64 i ∧ cv = .int .u64 (cc : Int) ∧ cc ≤ 1 ∧ Hid (AddAt la lb n i cc R) ∧ Hid (RowW w wx w.heap.size R)) (fun _ iv _ => n - (intOf iv).toNat)
  case atStart => exact ⟨0, 0, _, Nat.zero_le _, rfl, rfl, by omega, HS, HR0⟩
  case round =>
   clear HS HR0
   obtain ⟨i, cc, R, hi, rfl, rfl, hcc, HM, HR⟩ := hrel
   have hRl : R.length = n + 1 := HM.out.len
   by_cases hin : i < n
   ·have hil : i < la.length := by have := HLA.out; omega
    obtain ⟨bA, oA, hAe, hbA, a0, ha0⟩ := HA.out.u32_ hil
    subst hAe
    have za := (HR.out.below.cell (p := ⟨bA, oA + i, none⟩) (HF.out _ hbA)).trans a0
    obtain ⟨zr, fr⟩ := HR.out.cell (p := i) (by omega)
    have hag : la.getD i 0 = la[i] := getD_get hil
    generalize la[i] = x at za ha0 hag
    generalize R[i]'(by omega) = r at zr
    clear a0 hil
    by_cases him : i < m
    ·have hjl : i < lb.length := by have := HLB.out; omega
     obtain ⟨bB, oB, hBe, hbB, b0, hb0⟩ := HB.out.u32_ hjl
     subst hBe
     have zb := (HR.out.below.cell (p := ⟨bB, oB + i, none⟩) (HG.out _ hbB)).trans b0
     have hbg : lb.getD i 0 = lb[i] := getD_get hjl
     generalize lb[i] = y at zb hb0 hbg
     have hst := HM.out.step (t := cc + x + y) hin (by rw [hag]; exact ha0) (by rw [hbg]; exact hb0) (by rw [hag, hbg])
     obtain ⟨t, ht⟩ : ∃ t, t = cc + x + y := ⟨_, rfl⟩
     have htI : (cc : Int) + (x : Int) + (y : Int) = (t : Int) := by omega
     rw [← ht] at hst
     obtain ⟨t0, ht0⟩ : ∃ t0, t0 = t % 4294967296 := ⟨_, rfl⟩
     obtain ⟨t1, ht1⟩ : ∃ t1, t1 = t / 4294967296 := ⟨_, rfl⟩
     have e0 : (t : Int) % 4294967296 = (t0 : Int) := by omega
     have e1 : (t : Int) / 4294967296 = (t1 : Int) := by omega
     have htb := hst.1
     rw [← ht0, ← ht1] at hst
     have HM2 := Lib.hid hst.2
     have HR2 := Lib.hid (HR.out.set (p := i) (x := t0) (by omega))
     have hc1 : t1 ≤ 1 := by omega
     clear hst HM HR ht ht0 ht1 b0 hjl hag hbg
     go_wp2_with fail
     go_roundw
     case rel => exact ⟨i + 1, t1, R.set i t0, by omega, by go_num, rfl, hc1, HM2, HR2⟩
     case measure => simp [intOf]; omega
    ·have dim : decide (i < m) = false := decide_eq_false him
     have hbg : lb.getD i 0 = 0 := by rw [List.getD_eq_getElem?_getD, List.getElem?_eq_none (by have := HLB.out; omega)]; rfl
     have hst := HM.out.step (t := cc + x) hin (by rw [hag]; exact ha0) (by rw [hbg]; omega) (by rw [hag, hbg, Nat.add_zero])
     obtain ⟨t, ht⟩ : ∃ t, t = cc + x := ⟨_, rfl⟩
     have htI : (cc : Int) + (x : Int) = (t : Int) := by omega
     rw [← ht] at hst
     obtain ⟨t0, ht0⟩ : ∃ t0, t0 = t % 4294967296 := ⟨_, rfl⟩
     obtain ⟨t1, ht1⟩ : ∃ t1, t1 = t / 4294967296 := ⟨_, rfl⟩
     have e0 : (t : Int) % 4294967296 = (t0 : Int) := by omega
     have e1 : (t : Int) / 4294967296 = (t1 : Int) := by omega
     have htb := hst.1
     rw [← ht0, ← ht1] at hst
     have HM2 := Lib.hid hst.2
     have HR2 := Lib.hid (HR.out.set (p := i) (x := t0) (by omega))
     have hc1 : t1 ≤ 1 := by omega
     clear hst HM HR ht ht0 ht1 hag hbg
     go_wp2_with fail
     go_roundw
     case rel => exact ⟨i + 1, t1, R.set i t0, by omega, by go_num, rfl, hc1, HM2, HR2⟩
     case measure => simp [intOf]; omega
   ·have din : decide (i < n) = false := decide_eq_false hin
    have hie : i = n := by omega
    subst hie
    obtain ⟨zr, fr⟩ := HR.out.cell (p := i) (by omega)
    generalize R[i]'(by omega) = r at zr
    have hval : wVal (R.set i cc) = U + V := by
     have h1 := HM.out.end_ (by rw [HLA.out]; exact Nat.le_refl _) (by rw [HLB.out]; omega)
     rw [h1]; exact HUV.out
    have hrow := HR.out.set (p := i) (x := cc) (by omega)
    have hl2 : (R.set i cc).length = i + 1 := by rw [List.length_set]; exact hRl
    have hsl := hrow.sl (by omega)
    have HT := Lib.hid (trim_ok _ _ _ _ (wr.setCell ⟨w.heap.size, i, none⟩ (.int .u32 (cc : Int))) hsl)
    rw [hl2] at HT
    have HW := Lib.hid (fun k (hk : k ≤ (R.set i cc).length) (ht : TrimOf (R.set i cc) k) => WordsAt.of_trim hk ht hsl (by omega))
    rw [hl2, hval] at HW
    have HBB := Lib.hid hrow.below
    clear hval hrow hl2 hsl HM HR hRl
    go_wp2_with fail
    refine HT.out.mono ?_
    rintro e w2 ⟨k, rfl, hk, ht, rfl⟩
    have HRR := Lib.hid (HW.out k hk ht)
    clear hk ht HT HW
    go_wp2_with fail
    go_ret
    exact ⟨_, k, _, rfl, HRR.out, HBB.out⟩
end Go.Proofs.YtfndhfekbbbliaaGreatDoor

/-
  The statements' own whole numbers: SetString at decimal digits. Conditions: no byte but digits; no more than 120.
-/
namespace Go.Proofs.YtfndhfekbbbliaaGreatDoor
open Go.RowKit Go.ChangeShapes Go.WideShapes
set_option linter.unusedVariables false
theorem digVal_snocS (l : List UInt8) (c : UInt8) : digVal (l ++ [c]) = digVal l * 10 + (c.toNat - 48) := by unfold digVal; rw [List.foldl_append]; rfl
theorem digVal_ltS (l : List UInt8) (h : ∀ c ∈ l, 48 ≤ c.toNat ∧ c.toNat ≤ 57) : digVal l < 4294967296 ^ l.length := by
 refine (snoc_indS (P := fun l => (∀ c ∈ l, 48 ≤ c.toNat ∧ c.toNat ≤ 57) → digVal l < 4294967296 ^ l.length) ?_ ?_ l) h
 ·intro _; show 0 < 4294967296 ^ 0; omega
 ·intro l c ih h
  have h1 := ih fun x hx => h x (List.mem_append.2 (.inl hx))
  have h2 := h c (List.mem_append.2 (.inr List.mem_cons_self))
  rw [digVal_snocS, List.length_append, List.length_singleton, Nat.pow_succ]
  generalize 4294967296 ^ l.length = P at h1 ⊢
  omega
where
 snoc_indS {P : List UInt8 → Prop} (h0 : P []) (hs : ∀ l c, P l → P (l ++ [c])) : ∀ l, P l := fun l => by
  have : ∀ l a, P a → P (a ++ l) := fun l => by
   induction l with
   | nil => intro a ha; simpa using ha
   | cons x l ih => intro a ha; have := ih (a ++ [x]) (hs a x ha); simpa using this
  simpa using this l [] h0
set_option maxRecDepth 100000 in
theorem setString_none (gz : Nat) (w : World) :
  Calls Tryz.prog 197 #[.pointer (some ⟨gz, 0, none⟩), .string ⟨#[]⟩, .int .i64 10] w fun e w' => e = .returned (.tuple #[.pointer none, .bool false]) ∧ w = w' := by
 go_enter Tryz.func197, Tryz.ntmps197
 go_wp2_with fail
 go_ret2
 exact ⟨rfl, rfl⟩
set_option maxRecDepth 100000 in
set_option maxHeartbeats 2000000 in
theorem setString_ok (gz : Nat) (s : ByteArray) (w : World) (hz : IntObj w gz) (hs0 : 0 < s.size) (hs : s.size ≤ 120) (hd : ∀ c ∈ s.data.toList, 48 ≤ c.toNat ∧ c.toNat ≤ 57) :
  Calls Tryz.prog 197 #[.pointer (some ⟨gz, 0, none⟩), .string s, .int .i64 10] w fun e w' => e = .returned (.tuple #[.pointer (some ⟨gz, 0, none⟩), .bool true]) ∧ BigAt w' gz false (digVal s.data.toList) ∧ Frm (· = gz) w w' := by
 have hat : ∀ (k : Nat) (h : k < s.size), 48 ≤ s[k].toNat ∧ s[k].toNat ≤ 57 := fun k h => hd _ (by
  have : s[k] ∈ s.data := Array.getElem_mem h
  simpa using this)
 obtain ⟨a1, a2⟩ := hat 0 hs0
 have d1 : ((s[0].toNat : Int) == 45) = false := by rw [beq_eq_false_iff_ne]; omega
 have d2 : ((s[0].toNat : Int) == 43) = false := by rw [beq_eq_false_iff_ne]; omega
 have d3 : ((s.size : Int) == 0) = false := by rw [beq_eq_false_iff_ne]; omega
 have d4 : decide (0 < s.size) = true := decide_eq_true hs0
 have HAT := Lib.hid hat
 have HD := Lib.hid hd
 have HZ := Lib.hid hz
 have HW10 := Lib.hid (fun W => words_at 10 W (by decide))
 clear hat hd hz
 go_enter Tryz.func197, Tryz.ntmps197
 go_wp2_with fail
 go_loopw [9, 10] (fun rv iv wx => ∃ (k : Nat) (A : Option Addr) (n c : Nat), k ≤ s.size ∧ iv = .int .i64 k ∧ rv = .slice A n c ∧ n ≤ 120 ∧ Hid (WordsAt wx (· < wx.heap.size) A n c (digVal (s.data.toList.take k))) ∧ Hid (Below w.heap.size w wx)) (fun _ iv _ => s.size - (intOf iv).toNat)
 case atStart => exact ⟨0, none, 0, 0, Nat.zero_le _, rfl, rfl, by omega, WordsAt.nil _ _, Below.refl _ _⟩
 case round =>
  obtain ⟨k, A, n, c, hk, rfl, rfl, hn, HR, HB⟩ := hrel
  by_cases hlt : k < s.size
  ·obtain ⟨c1, c2⟩ := HAT.out k hlt
   have hsn : digVal (s.data.toList.take (k + 1)) = digVal (s.data.toList.take k) * 10 + (s[k].toNat - 48) := by
    rw [List.take_succ_eq_append_getElem (by simpa using hlt), digVal_snocS]; rfl
   have HSN := Lib.hid hsn
   have hV : digVal (s.data.toList.take (k + 1)) < 4294967296 ^ (k + 1) := by
    have h1 := digVal_ltS (s.data.toList.take (k + 1)) fun c hc => HD.out c (List.mem_of_mem_take hc)
    rw [List.length_take, Nat.min_eq_left (by rw [Array.length_toList]; exact hlt)] at h1
    exact h1
   have HV := Lib.hid hV
   obtain ⟨dn, hdn⟩ : ∃ dn, dn = s[k].toNat - 48 := ⟨_, rfl⟩
   rw [← hdn] at HSN
   have hdi : (s[k].toNat : Int) - 48 = (dn : Int) := by omega
   have hd9 : dn ≤ 9 := by omega
   have e1 : decide (48 ≤ s[k].toNat) = true := decide_eq_true c1
   have e2 : decide (s[k].toNat ≤ 57) = true := decide_eq_true c2
   clear hsn hV hdn
   have HWD := Lib.hid (fun W => words_at dn W (by omega))
   have HVk : Hid (digVal (s.data.toList.take k) * 10 + dn < 4294967296 ^ (k + 1)) := by have := HV.out; rw [HSN.out] at this; exact this
   obtain ⟨V, hVe⟩ : ∃ V, V = digVal (s.data.toList.take k) := ⟨_, rfl⟩
   rw [← hVe] at HR HSN HVk
   clear hVe HV
   go_wp2_with fail
   refine (HW10.out wr).mono ?_
   rintro e w2 ⟨A1, n1, k1, rfl, h1, hb1⟩
   have hn1 := h1.len (k := 1) (by decide)
   have HM := Lib.hid (mul_ok (· < w2.heap.size) (· < w2.heap.size) A A1 n n1 c k1 V 10 w2 ((HR.out.keep fun k hk => hb1.block k hk).more fun k hk => Nat.lt_of_lt_of_le hk hb1.size) (h1.more fun k hk => hk.2) (fun _ h => h) (fun _ h => h) (by omega))
   have HB2 := Lib.hid (HB.out.trans (hb1.mono HB.out.size))
   clear h1 hb1 HR HB
   go_wp2_with fail
   refine HM.out.mono ?_
   rintro e w3 ⟨A2, n2, k2, rfl, h2, hb2⟩
   have hn2 : n2 ≤ k + 1 := h2.len (k := k + 1) (by have := HVk.out; omega)
   have H2 := Lib.hid (h2.more (F' := (· < w3.heap.size)) fun k hk => hk.2)
   have HB3 := Lib.hid (HB2.out.trans (hb2.mono HB2.out.size))
   clear h2 hb2 HM HB2
   go_wp2_with fail
   refine (HWD.out w3).mono ?_
   rintro e w4 ⟨A3, n3, k3, rfl, h3, hb3⟩
   have hn3 := h3.len (k := 1) (by omega)
   have HA := Lib.hid (add_ok (· < w4.heap.size) (· < w4.heap.size) A2 A3 n2 n3 k2 k3 (V * 10) dn w4 ((H2.out.keep fun k hk => hb3.block k hk).more fun k hk => Nat.lt_of_lt_of_le hk hb3.size) (h3.more fun k hk => hk.2) (fun _ h => h) (fun _ h => h) (by omega) (by omega))
   have HB4 := Lib.hid (HB3.out.trans (hb3.mono HB3.out.size))
   clear h3 hb3 H2 HB3 HWD
   go_wp2_with fail
   refine HA.out.mono ?_
   rintro e w5 ⟨A4, n4, k4, rfl, h4, hb4⟩
   have hn4 : n4 ≤ k + 1 := h4.len (k := k + 1) HVk.out
   have H4 : Hid (WordsAt w5 (· < w5.heap.size) A4 n4 k4 (digVal (s.data.toList.take (k + 1)))) := by
    show WordsAt _ _ _ _ _ _
    rw [HSN.out]; exact h4.more fun k hk => hk.2
   have HB5 := Lib.hid (HB4.out.trans (hb4.mono HB4.out.size))
   clear h4 hb4 HA HB4 HVk HSN
   go_wp2_with fail
   refine ⟨⟨k + 1, A4, n4, k4, by omega, by go_num, rfl, by omega, H4, HB5⟩, ?_⟩
   simp [intOf]; omega
  ·have dk : decide (k < s.size) = false := decide_eq_false hlt
   have hke : k = s.size := by omega
   have hfull : s.data.toList.take k = s.data.toList := List.take_of_length_le (by rw [Array.length_toList]; show s.size ≤ k; omega)
   have hr := HR.out
   rw [hfull] at hr
   have HG := Lib.hid (give_at gz false A n c _ wr (HZ.out.frm (Frm.ofBelow (F := fun _ => False) HB.out) id) hr)
   clear hfull hr HR
   go_wp2_with fail
   refine HG.out.mono ?_
   rintro e w2 ⟨rfl, h2, _, h4⟩
   have HE : Hid (BigAt w2 gz false (digVal s.data.toList) ∧ Frm (· = gz) w w2) := ⟨by simpa using h2, (Frm.ofBelow (F := fun _ => False) HB.out).trans h4 (fun _ h => h.elim) (fun _ h => .inl h)⟩
   clear h2 h4 HG
   go_wp2_with fail
   go_ret2
   exact ⟨rfl, HE.out⟩
end Go.Proofs.YtfndhfekbbbliaaGreatDoor

/-
  The reference's reader: one, where a number has to stand. Conditions: the text takes at most 120 bytes, the depth is at most 20.
-/
namespace Go.Proofs.YtfndhfekbbbliaaGreatDoor
open Go.RowKit Go.ChangeShapes Go.WideShapes
set_option linter.unusedVariables false
theorem digs_at : ∀ (l : List UInt8) (k : Nat), k < (digsOf l).length → ∃ h : k < l.length, isDig l[k] = true := by
 intro l
 induction l with
 | nil => intro k hk; simp [digsOf] at hk
 | cons c r ih =>
  intro k hk
  unfold digsOf at hk ih
  rw [List.takeWhile_cons] at hk
  cases hc : isDig c with
  | false => rw [hc] at hk; simp at hk
  | true =>
   rw [hc] at hk
   cases k with
   | zero => exact ⟨by simp, hc⟩
   | succ k =>
    obtain ⟨h, h2⟩ := ih k (by simpa using hk)
    exact ⟨by simpa using h, by simpa using h2⟩
theorem digs_end : ∀ (l : List UInt8), (digsOf l).length = l.length ∨ ∃ h : (digsOf l).length < l.length, isDig l[(digsOf l).length] = false := by
 intro l
 induction l with
 | nil => exact .inl rfl
 | cons c r ih =>
  cases hc : isDig c with
  | false =>
   have e : digsOf (c :: r) = [] := by unfold digsOf; rw [List.takeWhile_cons, hc]; rfl
   refine .inr ?_
   rw [e]
   exact ⟨by simp, hc⟩
  | true =>
   have e : digsOf (c :: r) = c :: digsOf r := by unfold digsOf; rw [List.takeWhile_cons, hc]; rfl
   rw [e]
   rcases ih with h | ⟨h, h2⟩
   ·exact .inl (by simp [h])
   ·exact .inr ⟨by simpa using h, by simpa using h2⟩
theorem digs_le (l : List UInt8) : (digsOf l).length ≤ l.length := (List.takeWhile_prefix _).length_le
theorem num_len (l : List UInt8) : (numOf l).length = if (digsOf l).length = 0 then 0 else if l.head? = some 48 then 1 else (digsOf l).length := by
 cases l with
 | nil => rfl
 | cons c r =>
  cases hc : isDig c with
  | false =>
   have e : digsOf (c :: r) = [] := by unfold digsOf; rw [List.takeWhile_cons, hc]; rfl
   unfold numOf; rw [e]; rfl
  | true =>
   have e : digsOf (c :: r) = c :: digsOf r := by unfold digsOf; rw [List.takeWhile_cons, hc]; rfl
   unfold numOf; rw [e]
   cases hd : digsOf r with
   | nil => simp
   | cons d r' =>
    by_cases h48 : c = 48
    ·simp [h48]
    ·simp [h48]
theorem num_take (l : List UInt8) : numOf l = l.take (numOf l).length := by
 have hp : digsOf l <+: l := List.takeWhile_prefix _
 have h : numOf l <+: digsOf l := by
  unfold numOf
  split
  ·rename_i c d r e
   rw [e]
   split
   ·rename_i h48; rw [h48]; exact ⟨d :: r, rfl⟩
   ·exact List.prefix_refl _
  ·exact List.prefix_refl _
 exact List.prefix_iff_eq_take.1 (h.trans hp)
theorem dig_nat {c : UInt8} (h : isDig c = true) : 48 ≤ c.toNat ∧ c.toNat ≤ 57 := by
 unfold isDig at h; rw [Bool.and_eq_true, decide_eq_true_iff, decide_eq_true_iff] at h; exact h
theorem dig_nat_no {c : UInt8} (h : isDig c = false) : c.toNat < 48 ∨ 57 < c.toNat := by
 unfold isDig at h
 rw [Bool.and_eq_false_iff] at h
 rcases h with h | h
 ·have := of_decide_eq_false h; omega
 ·have := of_decide_eq_false h; omega
theorem num_digits (l : List UInt8) : ∀ c ∈ numOf l, 48 ≤ c.toNat ∧ c.toNat ≤ 57 := by
 have hd : ∀ c ∈ digsOf l, isDig c = true := fun c hc => List.all_eq_true.1 List.all_takeWhile c hc
 intro c hc
 refine dig_nat ?_
 unfold numOf at hc
 split at hc
 ·rename_i c0 d r e
  split at hc
  ·rename_i h48
   rw [List.mem_singleton.1 hc]; decide
  ·exact hd c (by rw [e]; exact hc)
 ·exact hd c hc
theorem PL.byte {w : World} {R : Nat} {s : ByteArray} {l : List UInt8} {d : Nat} (h : PL w R s l d) {k : Nat} (hk : k < l.length) : ∃ hx : s.size - l.length + k < s.size, s[s.size - l.length + k] = l[k] := by
 obtain ⟨h1, h2, _⟩ := h
 refine ⟨by omega, ?_⟩
 have e : l[k] = (s.data.toList.drop (s.size - l.length))[k]'(by rw [← h2]; exact hk) := by congr 1
 rw [e, List.getElem_drop]
 simp
 rfl
theorem PL.cut {w : World} {R : Nat} {s : ByteArray} {l : List UInt8} {d : Nat} (h : PL w R s l d) {k : Nat} (hk : k ≤ l.length) : (s.extract (s.size - l.length) (s.size - l.length + k)).data.toList = l.take k := by
 obtain ⟨h1, h2, _⟩ := h
 simp only [ByteArray.data_extract, Array.toList_extract]
 rw [List.extract_eq_take_drop, ← h2]
 congr 1
 omega
theorem u32_keepP {w w' : World} {A : Option Addr} {c R p d : Nat} {s : ByteArray} {wr bad : Int} {l : List Nat} (h4 : SlA u32E (· < w.heap.size) w A c l) (hb : Frm (· = R) w w') (hR : PAt w R s p d wr bad) : SlA u32E (· < w'.heap.size) w' A c l := by
 refine ⟨h4.1, h4.2.1, fun i x hx => ?_⟩
 obtain ⟨b, off, cs, e, hb2, hc, hr⟩ := h4.2.2 i x hx
 refine ⟨b, off, cs, e, Nat.lt_of_lt_of_le hb2 hb.size, fun j u hj => ?_, hr⟩
 have h8 := hc j u hj
 by_cases hFb : b = R
 ·rw [hr.1] at hj
  match j, hj with
  | 0, hj =>
   simp at hj; subst hj
   rw [cell_of_row w b _ _ _ _ (by rw [hFb]; exact hR)] at h8
   generalize off + (i * u32E.sz + 0) = q at h8
   match q, h8 with
   | 0, h8 => simp at h8
   | 1, h8 => simp at h8
   | 2, h8 => simp at h8
   | 3, h8 => simp at h8
   | 4, h8 => simp at h8
 ·exact (World.cell?_of_block (a := ⟨b, _, none⟩) (hb.block b hb2 hFb)).trans h8
theorem BigAt.frmP {w w' : World} {g R p d : Nat} {s : ByteArray} {wr bad : Int} {f : Bool} {V : Nat} (h : BigAt w g f V) (hb : Frm (· = R) w w') (hg : g ≠ R) (hR : PAt w R s p d wr bad) : BigAt w' g f V := by
 obtain ⟨A, n, c, h1, ⟨l, h2, h3, h4, h5, h6⟩, h7⟩ := h.words
 exact BigAt.of (A := A) (n := n) (c := c) ((hb.block g (block_lt h1) hg).trans h1) ⟨l, h2, h3, u32_keepP h4 hb hR, h5, h6⟩ h7
set_option maxRecDepth 100000 in
set_option maxHeartbeats 16000000 in
theorem pone_num (R : Nat) (s : ByteArray) (l : List UInt8) (d : Nat) (w : World) (h : PL w R s l d) (hs : s.size ≤ 120) (hd : d ≤ 20) (hn1 : Lib.hasPrefix l (⟨#[109, 105, 110, 40]⟩ : ByteArray).data.toList = false) (hn2 : Lib.hasPrefix l (⟨#[109, 97, 120, 40]⟩ : ByteArray).data.toList = false)
  (h3 : (headR l == 110) = false) (h4 : (headR l == 115) = false) (h5 : (headR l == 40) = false) :
  Calls Tryz.prog 176 #[.pointer (some ⟨R, 0, none⟩)] w (PReads R s d w (numRd l)) := by
 have hlt := h.lt
 have HLT := Lib.hid hlt
 have HS1 := Lib.hid ((PSt.start hlt).var (.int .i64 0) (.int .i64 0) (.slice none 0 0))
 have HP1 : Hid (PL (w.alloc (.cells #[.int .i64 0, .int .i64 0, .slice none 0 0] 24)) R s l d) := h.keep (heap_alloc_old _ _ hlt)
 obtain ⟨wr1, hpa1⟩ := h.2.2
 obtain ⟨p, hp⟩ : ∃ p : Nat, p = s.size - l.length := ⟨_, rfl⟩
 rw [← hp] at hpa1
 have HPE := Lib.hid hp
 have hps : p ≤ s.size := by omega
 obtain ⟨c0, c1, c2, c3, c4, cf⟩ := hpa1.cells
 clear hpa1 h hp
 go_enter Tryz.func176, Tryz.ntmps176
 go_wp2_with fail
 refine (pisL_no R s ⟨#[109, 105, 110, 40]⟩ l d _ HP1.out hs (by show 4 ≤ 10; omega) hn1).mono ?_
 rintro e w1 ⟨rfl, hp, hf⟩
 have HS1b := Lib.hid (HS1.out.call hf)
 have HP1b := Lib.hid hp
 clear hp hf HS1 HP1 c0 c1 c2 c3 c4 cf hlt
 go_wp2_with fail
 refine (pisL_no R s ⟨#[109, 97, 120, 40]⟩ l d _ HP1b.out hs (by show 4 ≤ 10; omega) hn2).mono ?_
 rintro e w2 ⟨rfl, hp, hf⟩
 have HS2 := Lib.hid (HS1b.out.call hf)
 have HP2 := Lib.hid hp
 clear hp hf HS1b HP1b hn1 hn2
 go_wp2_with fail
 refine (ppeekL R s l d _ HP2.out).mono ?_
 rintro e w4 ⟨rfl, q, rfl⟩
 have HP4 : Hid (PL (w2.drewN q) R s l d) := HP2.out.keep rfl
 have HS4 := Lib.hid (HS2.out.drewN q)
 clear HS2 HP2
 generalize w2.drewN q = W4 at *
 obtain ⟨wr, hpa⟩ := HP4.out.2.2
 rw [← HPE.out] at hpa
 obtain ⟨c0, c1, c2, c3, c4, cf⟩ := hpa.cells
 clear hpa
 generalize headR l = cc at *
 go_wp2_with fail
 clear h3 h4 h5
 go_loopg [10] ((digsOf l).length) (fun gk iv wx => ∃ k, k ≤ (digsOf l).length ∧ gk = (digsOf l).length - k ∧ iv = .int .i64 ((p + k : Nat) : Int) ∧ wx = W4)
 case atStart => exact ⟨0, Nat.zero_le _, rfl, rfl, rfl⟩
 case round =>
  obtain ⟨k, hk, hgk, rfl, rfl⟩ := hrel
  obtain ⟨I, hI⟩ : ∃ I, I = p + k := ⟨_, rfl⟩
  rw [← hI]
  by_cases hkD : k < (digsOf l).length
  ·obtain ⟨hkl, hdig⟩ := digs_at l k hkD
   obtain ⟨hx, hxe⟩ := HP4.out.byte hkl
   have e1 : s.size - l.length + k = I := by rw [hI, HPE.out]
   have hIs : I < s.size := by omega
   have hb : isDig s[I] = true := by
    have : s[s.size - l.length + k] = s[I] := by congr 1
    rw [← this, hxe]; exact hdig
   obtain ⟨b1, b2⟩ := dig_nat hb
   have d1 : decide ((I : Int) < (s.size : Int)) = true := decide_eq_true (by omega)
   have d2 : decide (48 ≤ ((s[I]'hIs).toNat : Int)) = true := decide_eq_true (by omega)
   have d3 : decide (((s[I]'hIs).toNat : Int) ≤ 57) = true := decide_eq_true (by omega)
   clear hx hxe hdig hb b1 b2 hkl e1
   have HI := Lib.hid hI
   clear hI
   go_wp2_with fail
   go_roundg ((digsOf l).length - (k + 1))
   case measure => omega
   case rel => exact ⟨k + 1, by omega, rfl, by rw [HI.out]; congr 1, rfl⟩
  ·have hkE : k = (digsOf l).length := by omega
   have HKE := Lib.hid hkE
   have HI := Lib.hid hI
   have hIs : I ≤ s.size := by have := digs_le l; have := HPE.out; have := HP4.out.1; omega
   have hend : I = s.size ∨ ∃ h : I < s.size, ((s[I]'h).toNat < 48 ∨ 57 < (s[I]'h).toNat) := by
    rcases digs_end l with h | ⟨h, h2⟩
    ·left; have := HPE.out; have := HP4.out.1; omega
    ·right
     obtain ⟨hx, hxe⟩ := HP4.out.byte h
     have e1 : s.size - l.length + (digsOf l).length = I := by rw [hI, hkE, HPE.out]
     refine ⟨by omega, dig_nat_no ?_⟩
     have : s[s.size - l.length + (digsOf l).length] = s[I]'(by omega) := by congr 1
     rw [← this, hxe]; exact h2
   clear hI hkE hkD hgk hk
   go_upto_region 38 with (fail)
   go_cut [144] from 120 to 146 (fun bv wx => bv = .bool false ∧ wr = wx)
   case first =>
    rcases hend with he | ⟨hx, hb⟩
    ·have d1 : ¬ I < s.size := by omega
     clear he
     go_wp2_with fail
     go_meet
     case rel => exact ⟨rfl, rfl⟩
    ·have d1 : decide ((I : Int) < (s.size : Int)) = true := decide_eq_true (by omega)
     rcases Nat.lt_or_ge (s[I]'hx).toNat 48 with hb1 | hb1
     ·have d2 : decide (48 ≤ ((s[I]'hx).toNat : Int)) = false := decide_eq_false (by omega)
      clear hb hb1
      go_wp2_with fail
      go_meet
      case rel => exact ⟨rfl, rfl⟩
     ·have d2 : decide (48 ≤ ((s[I]'hx).toNat : Int)) = true := decide_eq_true (by omega)
      have d3 : decide (((s[I]'hx).toNat : Int) ≤ 57) = false := decide_eq_false (by omega)
      clear hb hb1
      go_wp2_with fail
      go_meet
      case rel => exact ⟨by first | rfl | rw [d3], rfl⟩
   case rest =>
    obtain ⟨rfl, rfl⟩ := hcut
    clear hend
    obtain ⟨N, hN⟩ : ∃ N, N = (numOf l).length := ⟨_, rfl⟩
    have HN := Lib.hid hN
    obtain ⟨J, hJ⟩ : ∃ J, J = p + N := ⟨_, rfl⟩
    have HJ := Lib.hid hJ
    have hlen := num_len l
    have hJs : J ≤ s.size := by have := numOf_le l; have := HPE.out; have := HP4.out.1; omega
    have hpJ : p ≤ J := by omega
    go_upto_region 40 with (fail)
    go_cut [164] from 147 to 164 (fun bv wx => (∃ bt : Bool, bv = .bool bt ∧ Hid ((bt = true → J = p + 1) ∧ (bt = false → J = I))) ∧ ∃ q, wx = wr.drewN q)
    case first =>
     have HLEN := Lib.hid hlen
     clear hlen hN hJ hJs hpJ
     by_cases hD : (digsOf l).length = 0
     ·have e : J = I := by have := HLEN.out; rw [if_pos hD] at this; rw [HJ.out, HI.out, HN.out, HKE.out, this, hD]
      have e2 : I = p := by rw [HI.out, HKE.out, hD]; rfl
      have d1 : decide ((p : Int) < (I : Int)) = false := decide_eq_false (by omega)
      go_quiet (fail)
      go_wp2_with fail
      go_meet
      case rel => exact ⟨⟨false, rfl, And.intro (fun h => nomatch h) (fun _ => e)⟩, _, rfl⟩
     ·have hpI : p < I := by rw [HI.out, HKE.out]; omega
      have d1 : decide ((p : Int) < (I : Int)) = true := decide_eq_true (by omega)
      have hps2 : p < s.size := by omega
      have hl0 : 0 < l.length := by have := digs_le l; omega
      have hhead : l.head? = some (s[p]'hps2) := by
       obtain ⟨hx, hxe⟩ := HP4.out.byte hl0
       have : s[s.size - l.length + 0] = s[p]'hps2 := by congr 1; rw [HPE.out]; rfl
       rw [← this, hxe, List.head?_eq_getElem?, List.getElem?_eq_getElem hl0]
      by_cases h48 : (s[p]'hps2) = 48
      ·have d2 : (((s[p]'hps2).toNat : Int) == 48) = true := by rw [h48]; rfl
       have e : J = p + 1 := by have := HLEN.out; rw [if_neg hD, if_pos (by rw [hhead, h48])] at this; rw [HJ.out, HN.out, this]
       clear hhead h48 hD hl0
       go_quiet (fail)
       go_wp2_with fail
       go_meet
       case rel => exact ⟨⟨true, by first | rfl | rw [d2], And.intro (fun _ => e) (fun h => nomatch h)⟩, _, rfl⟩
      ·have d2 : (((s[p]'hps2).toNat : Int) == 48) = false := beq_eq_false_iff_ne.2 fun e => h48 (UInt8.toNat_inj.1 (by have h48' : (48 : UInt8).toNat = 48 := rfl; omega))
       have e : J = I := by have := HLEN.out; rw [if_neg hD, if_neg (by rw [hhead]; exact fun e => h48 (Option.some.inj e))] at this; rw [HJ.out, HI.out, HN.out, HKE.out, this]
       clear hhead h48 hD hl0
       go_quiet (fail)
       go_wp2_with fail
       go_meet
       case rel => exact ⟨⟨false, by first | rfl | rw [d2], And.intro (fun h => nomatch h) (fun _ => e)⟩, _, rfl⟩
    case rest =>
     obtain ⟨⟨bt, rfl, HBT⟩, q2, rfl⟩ := hcut
     have hp119 : p + 1 ≤ 121 := by omega
     go_upto_if 164 with (fail)
     go_cut [10] from 165 to 169 (fun jv wx => jv = .int .i64 (J : Int) ∧ wr.drewN q2 = wx)
     case first =>
      cases bt with
      | true =>
       have e := HBT.out.1 rfl
       clear hlen hN hJ hJs hpJ HBT
       have e' : (J : Int) = (p : Int) + 1 := by omega
       clear e
       go_wp2_with fail
       go_meet
       case rel => exact ⟨by rw [e'], rfl⟩
      | false =>
       have e := HBT.out.2 rfl
       clear hlen hN hJ hJs hpJ HBT
       go_wp2_with fail
       go_meet
       case rel => exact ⟨by rw [e], rfl⟩
     case rest =>
      obtain ⟨rfl, rfl⟩ := hcut
      clear hlen HI HKE hIs HBT
      have HP5 : Hid (PL (wr.drewN q2) R s l d) := HP4.out.keep rfl
      have HS5 := Lib.hid (HS4.out.drewN q2)
      clear HS4 HP4 c0 c1 c2 c3 c4 cf
      generalize wr.drewN q2 = W5 at *
      obtain ⟨wr5, hpa⟩ := HP5.out.2.2
      rw [← HPE.out] at hpa
      have HPA := Lib.hid hpa
      obtain ⟨c0, c1, c2, c3, c4, cf⟩ := hpa.cells
      have hR5 := HS5.out.lt'
      have hstr : (s.extract p J).data.toList = numOf l := by
       rw [HJ.out, HPE.out, HP5.out.cut (k := N) (by rw [HN.out]; exact numOf_le l), HN.out]
       exact (num_take l).symm
      have hz5 := HS5.out.vars _ (.head _)
      have hzR : w.heap.size ≠ R := by have := HLT.out; omega
      clear hpa hN hJ
      by_cases hN0 : N = 0
      ·have hnil : numOf l = [] := List.length_eq_zero_iff.1 (HN.out.symm.trans hN0)
       have he : s.extract p J = ⟨#[]⟩ := by
        apply ByteArray.ext
        apply Array.toList_inj.1
        rw [hstr, hnil]
       have HSS : Hid (∀ (gz : Nat) (W : World), Calls Tryz.prog 197 #[.pointer (some ⟨gz, 0, none⟩), .string (s.extract p J), .int .i64 10] W fun e w' => e = .returned (.tuple #[.pointer none, .bool false]) ∧ W = w') := fun gz W => by
        rw [he]; exact setString_none gz W
       have HE : Hid (numRd l = .bad l.length 2) := by show _ = _; unfold numRd; rw [if_pos (.inl hnil)]
       clear hnil he hstr hN0
       go_upto_region 42 with (fail)
       go_region_held3 (fun W => W.cell? ⟨R, 0, none⟩ = some (.string s) ∧ W.cell? ⟨R, 1, none⟩ = some (.int .i64 (p : Int))) (first | exact ⟨c0, c1⟩ | go_keep) ((go_at_call 197; refine (HSS.out _ _).mono ?_; rintro e w1 ⟨rfl, rfl⟩))
       clear HSS
       have HS6 := Lib.hid ((HS5.out.alloc (.cells #[.bool false, .slice none 0 0] 98)).call ((Frm.refl (· = R) _).drew))
       have HP6 : Hid (PAt (W5.alloc (.cells #[.bool false, .slice none 0 0] 98)).drew R s p d wr5 0) := HPA.out.keep (heap_alloc_old _ _ hR5)
       clear c0 c1 c2 c3 c4 cf hz5 HS5 HP5 HPA
       generalize (W5.alloc (.cells #[.bool false, .slice none 0 0] 98)).drew = W6 at *
       go_wp2_with fail
       refine (pfail_ok R p d s p 2 wr5 W6 HP6.out).mono ?_
       rintro e w7 ⟨rfl, hp, hf⟩
       have hS7 := HS6.out.call hf
       obtain ⟨z0, z1, z2, zf⟩ := hS7.cells (.head _)
       have hbad : PBad w7 R s d (s.size - l.length : Nat) 2 := ⟨p, d, hps, Nat.le_refl _, hd, by decide, by rw [← HPE.out]; exact hp⟩
       have HEND := Lib.hid (hS7.endBad (.head _) hbad (o := 0) (n := 0) (A := none) (c := 0))
       have HQ := Lib.hid (hS7.out (.head _) (.int .i64 0) (.int .i64 0) (.slice none 0 0))
       clear hp hf hS7 hbad HS6 HP6
       go_wp2_with fail
       obtain ⟨q0, q1, q2⟩ := HQ.out
       refine ⟨rfl, .agg #[.int .i64 0, .int .i64 0, .slice none 0 0], ?_, ?_⟩
       ·simp only [results, Tryz.results176]
        simp [go_sem, q0, q1, q2]
       ·rw [HE.out]; exact HEND.out
      ·have hne : numOf l ≠ [] := fun e => hN0 (by rw [HN.out, e]; rfl)
       have hsz : (s.extract p J).size = N := by
        have : (s.extract p J).data.toList.length = (s.extract p J).size := Array.length_toList
        rw [← this, hstr, HN.out]
       obtain ⟨V, hV⟩ : ∃ V, V = digVal (numOf l) := ⟨_, rfl⟩
       have HSS : Hid (∀ (gz : Nat) (W : World), IntObj W gz → Calls Tryz.prog 197 #[.pointer (some ⟨gz, 0, none⟩), .string (s.extract p J), .int .i64 10] W fun e w' => e = .returned (.tuple #[.pointer (some ⟨gz, 0, none⟩), .bool true]) ∧ BigAt w' gz false V ∧ Frm (· = gz) W w') := fun gz W hz => by
        have := setString_ok gz (s.extract p J) W hz (by omega) (by have := HJ.out; omega) (by rw [hstr]; exact num_digits l)
        rw [hstr, ← hV] at this
        exact this
       have HE : Hid (numRd l = if V ≤ 9223372036854775807 then .ok (.num V) (l.drop N) else .bad l.length 2) := by
        show _ = _
        unfold numRd
        rw [← hV, ← HN.out]
        by_cases hc : V ≤ 9223372036854775807
        ·rw [if_pos hc, if_neg (by intro h; rcases h with h | h; exact hne h; omega)]
        ·rw [if_neg hc, if_pos (.inr (by omega))]
       have hRz : R ≠ W5.heap.size := by omega
       clear hne hstr hsz hV
       go_upto_region 42 with (fail)
       go_region_held3 (fun W => W.cell? ⟨R, 0, none⟩ = some (.string s) ∧ W.cell? ⟨R, 1, none⟩ = some (.int .i64 (p : Int))) (first | exact ⟨c0, c1⟩ | exact ⟨k0, k1⟩ | go_keep) ((go_at_call 197; refine (HSS.out _ (W5.alloc (.cells #[.bool false, .slice none 0 0] 98)).drew ⟨false, none, 0, 0, heap_alloc_new W5 _⟩).mono ?_; rintro e w6 ⟨rfl, hb, hf⟩; have k0 : w6.cell? ⟨R, 0, none⟩ = some (.string s) := (World.cell?_of_block (a := ⟨R, 0, none⟩) ((hf.block R (by show R < (W5.alloc _).heap.size; simp; omega) hRz).trans (heap_alloc_old _ _ hR5))).trans c0; have k1 : w6.cell? ⟨R, 1, none⟩ = some (.int .i64 (p : Int)) := (World.cell?_of_block (a := ⟨R, 1, none⟩) ((hf.block R (by show R < (W5.alloc _).heap.size; simp; omega) hRz).trans (heap_alloc_old _ _ hR5))).trans c1))
       have hfW : Frm (· = R) W5 w6 := ((Frm.refl (· = R) W5).alloc (.cells #[.bool false, .slice none 0 0] 98)).drew.trans hf (fun _ h => h) (fun k h => .inr (Nat.le_of_eq h.symm))
       have HS6 := Lib.hid (HS5.out.call hfW)
       have HP6 : Hid (PAt w6 R s p d wr5 0) := HPA.out.keep ((hf.block R (by show R < (W5.alloc _).heap.size; simp; omega) hRz).trans (heap_alloc_old _ _ hR5))
       have hPL6 : PL w6 R s l d := HP5.out.keep ((hf.block R (by show R < (W5.alloc _).heap.size; simp; omega) hRz).trans (heap_alloc_old _ _ hR5))
       have HPL6 := Lib.hid hPL6
       have HB := Lib.hid hb
       have HRZ := Lib.hid hRz
       clear c0 c1 c2 c3 c4 cf hz5 HS5 HP5 HPA hfW hf hb k0 k1 HSS hPL6 hRz
       generalize W5.heap.size = gz at *
       obtain ⟨c0, c1, c2, c3, c4, cf⟩ := HP6.out.cells
       go_wp2_with fail
       refine (isInt64_ok gz false V w6 HB.out nofun).mono ?_
       rintro e w7 ⟨rfl, rfl⟩
       by_cases hV : V < 9223372036854775808
       ·rw [decide_eq_true hV]
        have HVL := Lib.hid hV
        have hfr : Frm (· = R) w6 (w6.setCell ⟨R, 1, none⟩ (.int .i64 (J : Int))) := (Frm.refl (· = R) _).setCell (p := ⟨R, 1, none⟩) (.inl rfl) _
        have HI64 := Lib.hid (int64_ok gz false V (w6.setCell ⟨R, 1, none⟩ (.int .i64 (J : Int))) (HB.out.frmP hfr (fun e => HRZ.out e.symm) HP6.out) (by omega) (fun _ => hV))
        have hS8 := HS6.out.setR 1 (.int .i64 (J : Int))
        obtain ⟨z0, z1, z2, zf⟩ := hS8.cells (.head _)
        have HQ := Lib.hid (hS8.out (.head _) (.int .i64 0) (.int .i64 (V : Int)) (.slice none 0 0))
        have HEND : Hid (PReads R s d w (numRd l) (.returned (.agg #[.int .i64 0, .int .i64 (V : Int), .slice none 0 0])) (rset (w6.setCell ⟨R, 1, none⟩ (.int .i64 (J : Int))) w.heap.size (.int .i64 0) (.int .i64 (V : Int)) (.slice none 0 0))) := by
         show PReads _ _ _ _ _ _ _
         rw [HE.out, if_pos (by omega)]
         obtain ⟨e1, e2, e3, e4⟩ := hS8.res (.head _) (.int .i64 0) (.int .i64 (V : Int)) (.slice none 0 0)
         refine ⟨0, V, none, 0, rfl, .num (WalkArith.wf_i64 (by omega)), PL.keep ?_ e3, e1⟩
         have hm := HP6.out.moved J
         have hNl : N ≤ l.length := by rw [HN.out]; exact numOf_le l
         refine HPL6.out.on (n := N) (wr := wr5) (by rw [List.length_drop]; omega) rfl ?_
         have : s.size - l.length + N = J := by have := HJ.out; have := HPE.out; omega
         rw [this]; exact hm
        clear hfr hS8 HS6 HPL6 HB hV HE
        go_wp2_with fail
        refine HI64.out.mono ?_
        rintro e w8 ⟨rfl, rfl⟩
        clear HI64 HP6
        go_wp2_with fail
        obtain ⟨q0, q1, q2⟩ := HQ.out
        refine ⟨rfl, .agg #[.int .i64 0, .int .i64 (V : Int), .slice none 0 0], ?_, HEND.out⟩
        simp only [results, Tryz.results176]
        simp [go_sem, q0, q1, q2]
       ·rw [decide_eq_false hV]
        have HE2 : Hid (numRd l = .bad l.length 2) := by show _ = _; rw [HE.out, if_neg (by omega)]
        clear HE hV
        go_wp2_with fail
        refine (pfail_ok R p d s p 2 wr5 w6 HP6.out).mono ?_
        rintro e w7 ⟨rfl, hp, hf⟩
        have hS7 := HS6.out.call hf
        obtain ⟨z0, z1, z2, zf⟩ := hS7.cells (.head _)
        have hbad : PBad w7 R s d (s.size - l.length : Nat) 2 := ⟨p, d, hps, Nat.le_refl _, hd, by decide, by rw [← HPE.out]; exact hp⟩
        have HEND := Lib.hid (hS7.endBad (.head _) hbad (o := 0) (n := 0) (A := none) (c := 0))
        have HQ := Lib.hid (hS7.out (.head _) (.int .i64 0) (.int .i64 0) (.slice none 0 0))
        clear hp hf hS7 hbad HS6 HP6 HPL6 HB c0 c1 c2 c3 c4 cf
        go_wp2_with fail
        obtain ⟨q0, q1, q2⟩ := HQ.out
        refine ⟨rfl, .agg #[.int .i64 0, .int .i64 0, .slice none 0 0], ?_, ?_⟩
        ·simp only [results, Tryz.results176]
         simp [go_sem, q0, q1, q2]
        ·rw [HE2.out]; exact HEND.out
end Go.Proofs.YtfndhfekbbbliaaGreatDoor

/-
  The reference's reader: one, at any text; all methods by induction; Parse. Conditions: the text takes at most 120 bytes, the depth is at most 20 (Parse: none).
-/
namespace Go.Proofs.YtfndhfekbbbliaaGreatDoor
open Go.RowKit Go.ChangeShapes Go.WideShapes
set_option linter.unusedVariables false
theorem pref_no {l : List UInt8} {t : ByteArray} (h : ∀ r, l ≠ t.data.toList ++ r) : Lib.hasPrefix l t.data.toList = false := by
 cases hb : Lib.hasPrefix l t.data.toList with
 | false => rfl
 | true =>
  obtain ⟨r, e⟩ := List.isPrefixOf_iff_prefix.1 hb
  exact absurd e.symm (h r)
theorem headR_ne {l : List UInt8} {x : UInt8} (h0 : x ≠ 0) (h : ∀ r, l ≠ x :: r) : (headR l == (x.toNat : Int)) = false :=
 headR_no (ops := [x]) (fun y r e hy => h r (by rw [e, List.mem_singleton.1 hy])) (by simp) h0
theorem one_num {W : Reads} {d : Nat} {l : List UInt8} (h1 : ∀ r, l ≠ 109 :: 105 :: 110 :: 40 :: r) (h2 : ∀ r, l ≠ 109 :: 97 :: 120 :: 40 :: r) (h3 : ∀ r, l ≠ 110 :: r) (h4 : ∀ r, l ≠ 115 :: r) (h5 : ∀ r, l ≠ 40 :: r) : oneRd W d l = numRd l := by
 unfold oneRd
 split
 ·exact absurd rfl (h1 _)
 ·exact absurd rfl (h2 _)
 ·exact absurd rfl (h3 _)
 ·exact absurd rfl (h4 _)
 ·exact absurd rfl (h5 _)
 ·rfl
theorem pone_reads {W : Reads} {m : Nat} (hS : ∀ d, Short (W d)) (hW : PReadsLt 35 W m) : PReadsAs 176 (oneRd W) m := by
 intro R s l d w h hs hd hm
 by_cases h1 : ∃ r, l = 109 :: 105 :: 110 :: 40 :: r
 ·obtain ⟨r, hr⟩ := h1
  have := pone_two hS hW R s l r 109 d w h hs hd hm (.inl ⟨rfl, hr⟩)
  have e : oneRd W d l = deepRd d l.length (twoRd W 109 (d + 1) r) := by rw [hr]; rfl
  rw [e]; exact this
 by_cases h2 : ∃ r, l = 109 :: 97 :: 120 :: 40 :: r
 ·obtain ⟨r, hr⟩ := h2
  have := pone_two hS hW R s l r 77 d w h hs hd hm (.inr ⟨rfl, hr⟩)
  have e : oneRd W d l = deepRd d l.length (twoRd W 77 (d + 1) r) := by rw [hr]; rfl
  rw [e]; exact this
 by_cases h3 : ∃ r, l = 110 :: r
 ·obtain ⟨r, rfl⟩ := h3
  exact pone_name (W := W) R s r true d w h hs hd
 by_cases h4 : ∃ r, l = 115 :: r
 ·obtain ⟨r, rfl⟩ := h4
  exact pone_name (W := W) R s r false d w h hs hd
 by_cases h5 : ∃ r, l = 40 :: r
 ·obtain ⟨r, rfl⟩ := h5
  exact pone_brk hW R s r d w h hs hd (by simp only [List.length_cons] at hm; omega)
 have e : oneRd W d l = numRd l := one_num (fun r e => h1 ⟨r, e⟩) (fun r e => h2 ⟨r, e⟩) (fun r e => h3 ⟨r, e⟩) (fun r e => h4 ⟨r, e⟩) (fun r e => h5 ⟨r, e⟩)
 rw [e]
 exact pone_num R s l d w h hs hd (pref_no fun r e => h1 ⟨r, e⟩) (pref_no fun r e => h2 ⟨r, e⟩) (headR_ne (by decide) fun r e => h3 ⟨r, e⟩) (headR_ne (by decide) fun r e => h4 ⟨r, e⟩) (headR_ne (by decide) fun r e => h5 ⟨r, e⟩)
theorem pstep_reads {W : Reads} {m : Nat} (hS : ∀ d, Short (W d)) (hW : PReadsLt 35 W m) : PReadsAs 35 (wholeStep W) m := by
 have h4 := prow4_as (pless_reads (pone_reads hS hW))
 have h3 : PRowAs 3 (mulRd W) m := prow_loop (ops := [42, 47, 37]) (.inr ⟨rfl, rfl, rfl⟩) (fun d => less_short hS d) h4
 have h2 : PRowAs 2 (addRd W) m := prow_loop (ops := [43, 45]) (.inl ⟨rfl, rfl, rfl⟩) (fun d => row_short (less_short hS d) _) h3
 exact pwhole_reads hS (pcmp_reads hS h2) hW
theorem pwhole_all (k : Nat) : PReadsAs 35 (wholeRd k) k := by
 induction k with
 | zero => exact pstep_reads (bad_short 2) fun R s l d w _ _ _ h => absurd h (Nat.not_lt_zero _)
 | succ k ih => exact pstep_reads (whole_short k) fun R s l d w h1 h2 h3 h4 => ih R s l d w h1 h2 h3 (by omega)
def PParse (w : World) (r : Parsed) (e : Ending) (w' : World) : Prop := Below w.heap.size w w' ∧ match r with
 | .tree t => ∃ o n A c, e = .returned (.tuple #[.agg #[.int .i64 o, .int .i64 n, .slice A c c], .int .i64 0, .int .i64 0]) ∧ TreeAt (fun k => w.heap.size ≤ k ∧ k < w'.heap.size) w' (.agg #[.int .i64 o, .int .i64 n, .slice A c c]) t
 | .fault a j => e = .returned (.tuple #[.agg #[.int .i64 0, .int .i64 0, .slice none 0 0], .int .i64 (a : Int), .int .i64 j]) ∧ j ≠ 0
theorem below_frmR {w w2 w3 : World} {R : Nat} (hb : Below w.heap.size w w2) (hf : Frm (· = R) w2 w3) (hR : w.heap.size ≤ R) : Below w.heap.size w w3 :=
 hb.trans ⟨hf.os, hf.tape, hf.output, hf.size, fun k hk => hf.block k (Nat.lt_of_lt_of_le hk hb.size) (by omega)⟩
set_option maxRecDepth 100000 in
theorem pparse_long (s : ByteArray) (w : World) (hs : 120 < s.size) : Calls Tryz.prog 9 #[.string s] w (PParse w (parseT s.data.toList)) := by
 have e : parseT s.data.toList = .fault 0 4 := by unfold parseT; rw [if_pos (by simpa using hs)]
 rw [e]
 have d1 : decide ((120 : Int) < (s.size : Int)) = true := decide_eq_true (by omega)
 have hend : Below w.heap.size w (w.alloc (.cells #[.int .i64 0, .int .i64 0, .slice none 0 0] 24)) := (Below.refl _ _).alloc (Nat.le_refl _) _
 have HE := Lib.hid hend
 have hv := RTVar.new w (.int .i64 0) (.int .i64 0) (.slice none 0 0)
 obtain ⟨q0, q1, q2, _⟩ := hv.cells
 clear e hend hv
 go_enter Tryz.func9, Tryz.ntmps9
 go_wp2_with fail
 refine ⟨rfl, .tuple #[.agg #[.int .i64 0, .int .i64 0, .slice none 0 0], .int .i64 0, .int .i64 4], ?_, HE.out, rfl, by decide⟩
 simp only [results, Tryz.results9]
 simp [go_sem, q0, q1, q2]
def rparsedOf (n : Nat) (r : Rd) : Parsed := match r with
 | .ok t [] => .tree t
 | .ok _ (_ :: r) => .fault (n - (r.length + 1)) 2
 | .bad k e => .fault (n - k) e
theorem rparse_of (l : List UInt8) (h : l.length ≤ 120) : parseT l = rparsedOf l.length (wholeRd l.length 0 l) := by
 unfold parseT rparsedOf; rw [if_neg (by omega)]
 rfl
set_option maxRecDepth 100000 in
set_option maxHeartbeats 8000000 in
theorem pparse_short (s : ByteArray) (w : World) (hs : s.size ≤ 120) : Calls Tryz.prog 9 #[.string s] w (PParse w (parseT s.data.toList)) := by
 obtain ⟨r0, hr0⟩ : ∃ r0, r0 = parseT s.data.toList := ⟨_, rfl⟩
 obtain ⟨r1, hr1⟩ : ∃ r1, r1 = wholeRd s.size 0 s.data.toList := ⟨_, rfl⟩
 rw [← hr0]
 have hlen : s.data.toList.length = s.size := Array.length_toList
 have e0 : r0 = rparsedOf s.size r1 := by rw [hr0, hr1, rparse_of _ (by omega), hlen]
 have HR0 := Lib.hid e0
 have HR1 := Lib.hid hr1
 have d1 : decide ((120 : Int) < (s.size : Int)) = false := decide_eq_false (by omega)
 obtain ⟨w2, hw2⟩ : ∃ w2, w2 = (w.alloc (.cells #[.int .i64 0, .int .i64 0, .slice none 0 0] 24)).alloc (.cells #[.string s, .int .i64 0, .int .i64 0, .int .i64 0, .int .i64 0] 81) := ⟨_, rfl⟩
 have hR : w2.heap[w.heap.size + 1]? = some (.cells #[.string s, .int .i64 0, .int .i64 0, .int .i64 0, .int .i64 0] 81 (0, 0)) := by
  rw [hw2]
  have := heap_alloc_new (w.alloc (.cells #[.int .i64 0, .int .i64 0, .slice none 0 0] 24)) (.cells #[.string s, .int .i64 0, .int .i64 0, .int .i64 0, .int .i64 0] 81)
  simpa using this
 have hv2 : RTVar w2 w.heap.size (.int .i64 0) (.int .i64 0) (.slice none 0 0) := by
  rw [hw2]
  exact (heap_alloc_old _ _ (by simp)).trans (RTVar.new _ _ _ _)
 have hb2 : Below w.heap.size w w2 := by rw [hw2]; exact ((Below.refl _ _).alloc (Nat.le_refl _) _).alloc (by simp) _
 obtain ⟨R, hRe⟩ : ∃ R, R = w.heap.size + 1 := ⟨_, rfl⟩
 rw [← hRe] at hR
 have hPL : PL w2 R s s.data.toList 0 := ⟨by omega, by rw [hlen, Nat.sub_self]; rfl, 0, by rw [hlen, Nat.sub_self]; exact hR⟩
 have HCALL := Lib.hid (pwhole_all s.size R s s.data.toList 0 w2 hPL hs (by omega) (by omega))
 rw [← HR1.out] at HCALL
 have HV2 := Lib.hid hv2
 have HB2 := Lib.hid hb2
 have HW2 := Lib.hid hw2
 have HRE := Lib.hid hRe
 clear hr0 hr1 e0 hlen hR hv2 hb2 hw2 hPL hRe
 go_enter Tryz.func9, Tryz.ntmps9
 go_wp2_with fail
 rw [← HRE.out, ← HW2.out]
 refine HCALL.out.mono ?_
 intro e w3 hr
 obtain ⟨o, n, A, c, rfl, hf, hst⟩ := hr.form
 have hkR : w.heap.size ≠ R := by have := HRE.out; omega
 have hv3 := HV2.out.frm hf hkR
 have HV3 := Lib.hid hv3
 have HB3 := Lib.hid (below_frmR HB2.out hf (by have := HRE.out; omega))
 have hlt3 : w.heap.size < w3.heap.size := block_lt hv3
 have hR3 : R < w3.heap.size := by
  rcases hst with ⟨t, l, h1, ht, hp⟩ | ⟨k, j, h1, hp⟩
  ·exact hp.lt
  ·obtain ⟨_, _, _, _, _, _, g5⟩ := hp; exact g5.lt
 have hsz2 : w.heap.size < w2.heap.size := block_lt HV2.out
 have hz : ∀ ob, RTVar (w3.alloc ob) w.heap.size (.int .i64 0) (.int .i64 0) (.slice none 0 0) := fun ob => (heap_alloc_old _ _ hlt3).trans hv3
 have z0 := fun ob => (hz ob).cells.1
 have z1 := fun ob => (hz ob).cells.2.1
 have z2 := fun ob => (hz ob).cells.2.2.1
 have z3 := fun ob => (hz ob).cells.2.2.2
 have HZ := Lib.hid hz
 have hb4 : Below w.heap.size w (w3.alloc (.cells #[.int .i64 o, .int .i64 n, .slice A c c] 24)) := HB3.out.alloc (Nat.le_of_lt hlt3) _
 have HB4 := Lib.hid hb4
 rcases hst with ⟨t, l, h1, ht, hp⟩ | ⟨k, j, h1, hp⟩
 ·cases l with
  | nil =>
   have HE : Hid (r0 = .tree t) := by show _ = _; rw [HR0.out, h1]; rfl
   obtain ⟨wr, hpa⟩ := hp.2.2
   have e : s.size - ([] : List UInt8).length = s.size := Nat.sub_zero _
   rw [e] at hpa
   obtain ⟨c0, c1, c2, c3, c4, cf⟩ := hpa.cells
   have ht4 : TreeAt (fun k => w.heap.size ≤ k ∧ k < (rset (w3.alloc (.cells #[.int .i64 o, .int .i64 n, .slice A c c] 24)) w.heap.size (.int .i64 o) (.int .i64 n) (.slice A c c)).heap.size) (rset (w3.alloc (.cells #[.int .i64 o, .int .i64 n, .slice A c c] 24)) w.heap.size (.int .i64 o) (.int .i64 n) (.slice A c c)) (.agg #[.int .i64 o, .int .i64 n, .slice A c c]) t :=
    ((ht.keep fun k hk => heap_alloc_old _ _ hk.2).keep fun k hk => rset_far _ (by have := hk.1; omega) _ _ _).more fun k hk => ⟨by have := hk.1; omega, by rw [rset_size]; simp; have := hk.2; omega⟩
   have hb5 : Below w.heap.size w (rset (w3.alloc (.cells #[.int .i64 o, .int .i64 n, .slice A c c] 24)) w.heap.size (.int .i64 o) (.int .i64 n) (.slice A c c)) := ((hb4.setCell (Nat.le_refl _) _).setCell (Nat.le_refl _) _).setCell (Nat.le_refl _) _
   have HEND := Lib.hid (And.intro hb5 ht4)
   obtain ⟨q0, q1, q2, _⟩ := ((hz (.cells #[.int .i64 o, .int .i64 n, .slice A c c] 24)).put (.int .i64 o) (.int .i64 n) (.slice A c c)).cells
   have HQ := Lib.hid (And.intro q0 (And.intro q1 q2))
   clear hr hf hv3 ht hp hpa h1 ht4 hb5 hb4 hz q0 q1 q2 HR0 HR1 hsz2 hlt3 HCALL
   go_wp2_with fail
   obtain ⟨q0, q1, q2⟩ := HQ.out
   simp only [rset] at q0 q1 q2
   refine ⟨rfl, .tuple #[.agg #[.int .i64 o, .int .i64 n, .slice A c c], .int .i64 0, .int .i64 0], ?_, ?_⟩
   ·simp only [results, Tryz.results9]
    simp [go_sem, q0, q1, q2]
   ·rw [HE.out]
    exact ⟨HEND.out.1, o, n, A, c, rfl, HEND.out.2⟩
  | cons x r =>
   have HE : Hid (r0 = .fault (s.size - (r.length + 1)) 2) := by show _ = _; rw [HR0.out, h1]; rfl
   obtain ⟨wr, hpa⟩ := hp.2.2
   have hlen : r.length + 1 ≤ s.size := by have := hp.1; simpa using this
   obtain ⟨k, hk⟩ : ∃ k, k = r.length + 1 := ⟨_, rfl⟩
   have e : (x :: r : List UInt8).length = k := hk.symm
   rw [e] at hpa
   have d2 : decide (((s.size - k : Nat) : Int) < (s.size : Int)) = true := decide_eq_true (by omega)
   obtain ⟨p, hpk⟩ : ∃ p, p = s.size - k := ⟨_, rfl⟩
   rw [← hpk] at hpa d2
   have hps : p < s.size := by omega
   have h4 : PAt (w3.alloc (.cells #[.int .i64 o, .int .i64 n, .slice A c c] 24)) R s p 0 wr 0 := hpa.keep (heap_alloc_old _ _ hR3)
   have hv4 := hz (.cells #[.int .i64 o, .int .i64 n, .slice A c c] 24)
   obtain ⟨c0, c1, c2, c3, c4, cf⟩ := hpa.cells
   have HPK := Lib.hid hpk
   have HE2 : Hid (r0 = .fault (s.size - k) 2) := by show _ = _; rw [hk]; exact HE.out
   have HSZ : Hid (w.heap.size < (w3.alloc (.cells #[.int .i64 o, .int .i64 n, .slice A c c] 24)).heap.size) := block_lt hv4
   clear hr hf hv3 h1 hb4 hz HR0 HR1 hsz2 hlt3 HCALL z0 z1 z2 z3 HZ HV3 HB3 hp ht hpa hk e hpk hlen HE
   go_wp2_with fail
   refine (pfail_ok R p 0 s p 2 wr _ h4).mono ?_
   rintro e w5 ⟨rfl, hp5, hf5⟩
   have HB5 := Lib.hid (below_frmR HB4.out hf5 (by have := HRE.out; omega))
   have hv5 := RTVar.frm hv4 hf5 hkR
   clear hv4 h4 HB4 hf5 c0 c1 c2 c3 c4 cf hR3 d2
   obtain ⟨c0, c1, c2, c3, c4, cf⟩ := hp5.cells
   go_upto_region 8 with (fail)
   obtain ⟨z0, z1, z2, zf⟩ := hv5.cells
   have k3 : ∀ x y z, (rset w5 w.heap.size x y z).cell? ⟨R, 3, none⟩ = some (.int .i64 (p : Int)) := fun x y z => (World.cell?_of_block (a := ⟨R, 3, none⟩) (rset_far _ (Ne.symm hkR) _ _ _)).trans c3
   have k4 : ∀ x y z, (rset w5 w.heap.size x y z).cell? ⟨R, 4, none⟩ = some (.int .i64 2) := fun x y z => (World.cell?_of_block (a := ⟨R, 4, none⟩) (rset_far _ (Ne.symm hkR) _ _ _)).trans c4
   simp only [rset] at k3 k4
   go_region_held3 (fun W => W.cell? ⟨R, 3, none⟩ = some (.int .i64 (p : Int)) ∧ W.cell? ⟨R, 4, none⟩ = some (.int .i64 2)) (first | exact ⟨c3, c4⟩ | exact ⟨k3 _ _ _, k4 _ _ _⟩ | go_keep) (fail)
   have HEND : Hid (Below w.heap.size w (rset w5 w.heap.size (.int .i64 0) (.int .i64 0) (.slice none 0 0)).drew) := (((HB5.out.setCell (Nat.le_refl _) _).setCell (Nat.le_refl _) _).setCell (Nat.le_refl _) _).drew
   obtain ⟨q0, q1, q2, _⟩ := (hv5.put (.int .i64 0) (.int .i64 0) (.slice none 0 0)).cells
   have HQ : Hid ((rset w5 w.heap.size (.int .i64 0) (.int .i64 0) (.slice none 0 0)).drew.cell? ⟨w.heap.size, 0, none⟩ = some (.int .i64 0) ∧ (rset w5 w.heap.size (.int .i64 0) (.int .i64 0) (.slice none 0 0)).drew.cell? ⟨w.heap.size, 1, none⟩ = some (.int .i64 0) ∧ (rset w5 w.heap.size (.int .i64 0) (.int .i64 0) (.slice none 0 0)).drew.cell? ⟨w.heap.size, 2, none⟩ = some (.slice none 0 0)) := ⟨q0, q1, q2⟩
   clear k3 k4 q0 q1 q2 c0 c1 c2 c3 c4 cf z0 z1 z2 zf hv5 hp5 HB5
   go_wp2_with fail
   obtain ⟨q0, q1, q2⟩ := HQ.out
   simp only [rset] at q0 q1 q2
   refine ⟨rfl, .tuple #[.agg #[.int .i64 0, .int .i64 0, .slice none 0 0], .int .i64 (p : Int), .int .i64 2], ?_, ?_⟩
   ·simp only [results, Tryz.results9]
    simp [go_sem, q0, q1, q2]
   ·rw [HE2.out]; exact ⟨HEND.out, by rw [HPK.out], by decide⟩
 ·have HE : Hid (r0 = .fault (s.size - k) j) := by show _ = _; rw [HR0.out, h1]; rfl
  obtain ⟨p, d', g1, g2, g3, g4, g5⟩ := hp
  have d0 : (j == 0) = false := beq_eq_false_iff_ne.2 g4
  have h4 : PAt (w3.alloc (.cells #[.int .i64 o, .int .i64 n, .slice A c c] 24)) R s p d' (s.size - k : Nat) j := g5.keep (heap_alloc_old _ _ hR3)
  have hv4 := hz (.cells #[.int .i64 o, .int .i64 n, .slice A c c] 24)
  have HJ := Lib.hid g4
  clear hr hf hv3 g1 g2 g3 g4 h1 hb4 hz HR0 HR1 hsz2 hlt3 HCALL z0 z1 z2 z3 HZ HV3 HB3
  obtain ⟨c0, c1, c2, c3, c4, cf⟩ := g5.cells
  go_upto_region 8 with (fail)
  clear c0 c1 c2 c3 c4 cf g5
  generalize w3.alloc (.cells #[.int .i64 o, .int .i64 n, .slice A c c] 24) = W4 at *
  obtain ⟨c0, c1, c2, c3, c4, cf⟩ := h4.cells
  obtain ⟨z0, z1, z2, zf⟩ := hv4.cells
  have k3 : ∀ x y z, (rset W4 w.heap.size x y z).cell? ⟨R, 3, none⟩ = some (.int .i64 (s.size - k : Nat)) := fun x y z => (World.cell?_of_block (a := ⟨R, 3, none⟩) (rset_far _ (Ne.symm hkR) _ _ _)).trans c3
  have k4 : ∀ x y z, (rset W4 w.heap.size x y z).cell? ⟨R, 4, none⟩ = some (.int .i64 j) := fun x y z => (World.cell?_of_block (a := ⟨R, 4, none⟩) (rset_far _ (Ne.symm hkR) _ _ _)).trans c4
  simp only [rset] at k3 k4
  go_region_held3 (fun W => W.cell? ⟨R, 3, none⟩ = some (.int .i64 (s.size - k : Nat)) ∧ W.cell? ⟨R, 4, none⟩ = some (.int .i64 j)) (first | exact ⟨c3, c4⟩ | exact ⟨k3 _ _ _, k4 _ _ _⟩ | go_keep) (fail)
  have HEND : Hid (Below w.heap.size w (rset W4 w.heap.size (.int .i64 0) (.int .i64 0) (.slice none 0 0)).drew) := (((HB4.out.setCell (Nat.le_refl _) _).setCell (Nat.le_refl _) _).setCell (Nat.le_refl _) _).drew
  obtain ⟨q0, q1, q2, _⟩ := (hv4.put (.int .i64 0) (.int .i64 0) (.slice none 0 0)).cells
  have HQ : Hid ((rset W4 w.heap.size (.int .i64 0) (.int .i64 0) (.slice none 0 0)).drew.cell? ⟨w.heap.size, 0, none⟩ = some (.int .i64 0) ∧ (rset W4 w.heap.size (.int .i64 0) (.int .i64 0) (.slice none 0 0)).drew.cell? ⟨w.heap.size, 1, none⟩ = some (.int .i64 0) ∧ (rset W4 w.heap.size (.int .i64 0) (.int .i64 0) (.slice none 0 0)).drew.cell? ⟨w.heap.size, 2, none⟩ = some (.slice none 0 0)) := ⟨q0, q1, q2⟩
  clear k3 k4 q0 q1 q2 c0 c1 c2 c3 c4 cf z0 z1 z2 zf hv4 h4 HB4
  go_wp2_with fail
  obtain ⟨q0, q1, q2⟩ := HQ.out
  simp only [rset] at q0 q1 q2
  refine ⟨rfl, .tuple #[.agg #[.int .i64 0, .int .i64 0, .slice none 0 0], .int .i64 (s.size - k : Nat), .int .i64 j], ?_, ?_⟩
  ·simp only [results, Tryz.results9]
   simp [go_sem, q0, q1, q2]
  ·rw [HE.out]; exact ⟨HEND.out, rfl, HJ.out⟩
theorem pparse_ok (s : ByteArray) (w : World) : Calls Tryz.prog 9 #[.string s] w (PParse w (parseT s.data.toList)) := by
 rcases Nat.lt_or_ge 120 s.size with h | h
 ·exact pparse_long s w h
 ·exact pparse_short s w h
end Go.Proofs.YtfndhfekbbbliaaGreatDoor

/-
  The reference's Texted, Counted, Node. Conditions: where the job lies.
-/
namespace Go.Proofs.YtfndhfekbbbliaaGreatDoor
open Go.RowKit Go.ChangeShapes Go.WideShapes
set_option linter.unusedVariables false
theorem rtexted_ok (k : Int) (w : World) : Calls Tryz.prog 49 #[.int .i64 k] w fun e w' => e = .returned (.bool (texted k)) ∧ w = w' := by
 go_enter Tryz.func49, Tryz.ntmps49
 by_cases h2 : k = 2
 ·subst h2
  go_wp2
  go_ret
  exact ⟨rfl, rfl⟩
 by_cases h3 : k = 3
 ·subst h3
  go_wp2
  go_ret
  exact ⟨rfl, rfl⟩
 by_cases h4 : k = 4
 ·subst h4
  go_wp2
  go_ret
  exact ⟨rfl, rfl⟩
 have e2 : (k == 2) = false := by simp [h2]
 have e3 : (k == 3) = false := by simp [h3]
 have e4 : (k == 4) = false := by simp [h4]
 have HT : Hid (texted k = (k == 7)) := by simp [Hid, texted, h2, h3, h4]
 clear h2 h3 h4
 go_wp2
 go_ret
 exact ⟨by rw [HT.out]; rfl, rfl⟩
theorem rcounted_ok (k : Int) (w : World) : Calls Tryz.prog 50 #[.int .i64 k] w fun e w' => e = .returned (.bool (counted k)) ∧ w = w' := by
 go_enter Tryz.func50, Tryz.ntmps50
 by_cases h2 : k = 1
 ·subst h2
  go_wp2
  go_ret
  exact ⟨rfl, rfl⟩
 by_cases h3 : k = 5
 ·subst h3
  go_wp2
  go_ret
  exact ⟨rfl, rfl⟩
 have e2 : (k == 1) = false := by simp [h2]
 have e3 : (k == 5) = false := by simp [h3]
 have HT : Hid (counted k = (k == 8)) := by simp [Hid, counted, h2, h3]
 clear h2 h3
 go_wp2
 go_ret
 exact ⟨by rw [HT.out]; rfl, rfl⟩
def rnodeBody (n : Nod) : Int :=
 if (n.text.size ≠ 0 ∧ texted n.kind = false) ∨ (n.n ≠ 0 ∧ counted n.kind = false) then 3
 else if n.n < numLow n.kind ∨ numHigh n.kind < n.n then 1
 else if texted n.kind then textErr n.text.data.toList
 else 0
theorem rnodeErr_eq (l : List Nod) (i : Nat) (n : Nod) : nodeErr l i n =
 if n.kind < 1 ∨ 10 < n.kind then 1
 else if (n.from_.length : Int) < inLow n.kind ∨ inHigh n.kind < (n.from_.length : Int) then 3
 else if fromErr l i n.from_ ≠ 0 then fromErr l i n.from_
 else rnodeBody n := rfl
theorem rfrom_cons (l : List Nod) (i : Nat) (f : Int) (r : List Int) : fromErr l i (f :: r) = if f < 0 ∨ (i : Int) ≤ f then 1 else if (l[f.toNat]?.map (·.kind)) = some 10 then 7 else fromErr l i r := rfl
theorem rsize_of_nil {s : ByteArray} (h : s.toList = []) : s.size = 0 := by
 rw [ByteArray.toList_eq] at h
 have : s.data.toList.length = s.size := by simp
 rw [h] at this
 exact this.symm
theorem rempty_of_size {s : ByteArray} (h : s.size = 0) : s = ⟨#[]⟩ := by
 apply ByteArray.ext
 exact Array.eq_empty_of_size_eq_zero h
set_option maxRecDepth 100000 in
set_option maxHeartbeats 8000000 in
theorem rnode_ok (F : Nat → Prop) (A : Option Addr) (c : Nat) (l : List Nod) (i : Nat) (hi : i < l.length) (w : World) (hl : SlA nodE F w A c l) (hF : ∀ k, F k → k < w.heap.size) :
  Calls Tryz.prog 16 #[.slice A l.length c, .int .i64 i] w fun e w' => e = .returned (.int .i64 (nodeErr l i l[i])) ∧ Below w.heap.size w w' := by
 obtain ⟨b, off, A', c', rfl, hFb, x0, x1, x2, x3, htm, hki, hni, hfr⟩ := hl.nod_ hi
 have hbw := hF b hFb
 have HL := Lib.hid hl
 have HFR := Lib.hid hfr
 have hll := hl.le
 have hfl := hfr.le
 have bk := bounds_i64 hki
 have bn := bounds_i64 hni
 have HEQ := Lib.hid (rnodeErr_eq l i l[i])
 clear hl hfr hki hni
 generalize hn : l[i] = nd at x0 x1 x2 x3 htm HFR hfl bk bn HEQ ⊢
 clear hn
 obtain ⟨kind, from_, text, nn⟩ := nd
 simp only at x0 x1 x2 x3 htm HFR hfl bk bn HEQ ⊢
 by_cases hk : kind < 1 ∨ 10 < kind
 ·rw [if_pos hk] at HEQ
  rcases hk with hk | hk
  ·have d1 : decide (kind < 1) = true := decide_eq_true hk
   go_enter Tryz.func16, Tryz.ntmps16
   go_wp2_with fail
   go_ret
   exact ⟨by rw [HEQ.out]; rfl, (Below.refl _ _).alloc (Nat.le_refl _) _⟩
  ·have d1 : decide (kind < 1) = false := decide_eq_false (by omega)
   have d2 : decide (10 < kind) = true := decide_eq_true hk
   go_enter Tryz.func16, Tryz.ntmps16
   go_wp2_with fail
   go_ret
   exact ⟨by rw [HEQ.out]; rfl, (Below.refl _ _).alloc (Nat.le_refl _) _⟩
 rw [if_neg hk] at HEQ
 have hk1 : 1 ≤ kind := by omega
 have hk2 : kind ≤ 10 := by omega
 have d1 : decide (kind < 1) = false := decide_eq_false (by omega)
 have d2 : decide (10 < kind) = false := decide_eq_false (by omega)
 clear hk
 obtain ⟨W1, hW1⟩ : ∃ W1, W1 = w.alloc (.cells #[.int .i64 kind, .slice A' from_.length c', .string text, .int .i64 nn] 40) := ⟨_, rfl⟩
 have hb1 : Below w.heap.size w W1 := by rw [hW1]; exact (Below.refl _ _).alloc (Nat.le_refl _) _
 have hv1 : W1.heap[w.heap.size]? = some (.cells #[.int .i64 kind, .slice A' from_.length c', .string text, .int .i64 nn] 40 (0, 0)) := by rw [hW1]; exact heap_alloc_new _ _
 have v0 : W1.cell? ⟨w.heap.size, 0, none⟩ = some (.int .i64 kind) := (cell_of_row W1 _ 0 _ _ _ hv1).trans rfl
 have v1 : W1.cell? ⟨w.heap.size, 1, none⟩ = some (.slice A' from_.length c') := (cell_of_row W1 _ 1 _ _ _ hv1).trans rfl
 have v2 : W1.cell? ⟨w.heap.size, 2, none⟩ = some (.string text) := (cell_of_row W1 _ 2 _ _ _ hv1).trans rfl
 have v3 : W1.cell? ⟨w.heap.size, 3, none⟩ = some (.int .i64 nn) := (cell_of_row W1 _ 3 _ _ _ hv1).trans rfl
 have HL1 := Lib.hid (HL.out.keep (fun j hj => hb1.block j (hF j hj)))
 have HF1 := Lib.hid (HFR.out.keep (fun j hj => hb1.block j (hF j hj)))
 have HB1 := Lib.hid hb1
 clear hb1 hv1 HL HFR
 go_enter Tryz.func16, Tryz.ntmps16
 go_upto_region 2 with (fail)
 rw [← hW1]
 clear hW1 x0 x1 x2 x3
 go_upto_region 5 with (fail)
 clear d1 d2
 obtain ⟨m, hm⟩ : ∃ m, m = from_.length := ⟨_, rfl⟩
 rw [← hm] at v1 ⊢
 have HM0 := Lib.hid hm
 clear hm
 go_cut [61] from 28 to 61 (fun bv wx => ∃ B : Bool, bv = .bool B ∧ W1 = wx ∧ Hid (B = true ↔ ((from_.length : Int) < inLow kind ∨ inHigh kind < (from_.length : Int))))
 case first =>
  clear hfl
  by_cases h1 : kind = 1
  ·subst h1
   by_cases h0 : m = 0
   ·subst h0
    go_wp2_with fail
    go_meet
    case rel => exact ⟨false, rfl, rfl, by have e := List.length_eq_zero_iff.1 HM0.out.symm; simp [Hid, inLow, inHigh, e]⟩
   ·have e1 : ((m : Int) != 0) = true := by simp [h0]
    go_wp2_with fail
    go_meet
    case rel => exact ⟨true, by first | rfl | rw [e1], rfl, by have := HM0.out; simp [Hid, inLow, inHigh]; omega⟩
  by_cases h6 : kind = 6
  ·subst h6
   by_cases h0 : (m : Int) < 1
   ·have e1 : decide ((m : Int) < 1) = true := decide_eq_true h0
    go_wp2_with fail
    go_meet
    case rel => exact ⟨true, by first | rfl | rw [e1], rfl, by have := HM0.out; simp [Hid, inLow, inHigh]; omega⟩
   ·have e1 : decide ((m : Int) < 1) = false := decide_eq_false h0
    by_cases h4 : 4 < (m : Int)
    ·have e2 : decide (4 < (m : Int)) = true := decide_eq_true h4
     go_wp2_with fail
     go_meet
     case rel => exact ⟨true, by first | rfl | rw [e2], rfl, by have := HM0.out; simp [Hid, inLow, inHigh]; omega⟩
    ·have e2 : decide (4 < (m : Int)) = false := decide_eq_false h4
     go_wp2_with fail
     go_meet
     case rel => exact ⟨false, by first | rfl | rw [e2], rfl, by have := HM0.out; simp [Hid, inLow, inHigh]; omega⟩
  have e1 : (kind == 1) = false := by simp [h1]
  have e2 : (kind != 1) = true := by simp [h1]
  have e3 : (kind == 6) = false := by simp [h6]
  have e4 : (kind != 6) = true := by simp [h6]
  have hin : inLow kind = 1 ∧ inHigh kind = 1 := by simp [inLow, inHigh, h1, h6]
  have HIN := Lib.hid hin
  clear hin h1 h6
  by_cases h0 : m = 1
  ·subst h0
   go_wp2_with fail
   go_meet
   case rel => exact ⟨false, rfl, rfl, by show _ ↔ _; rw [HIN.out.1, HIN.out.2]; have := HM0.out; simp; omega⟩
  ·have e5 : ((m : Int) != 1) = true := by simp; omega
   have HM := Lib.hid h0
   clear h0
   go_wp2_with fail
   go_meet
   case rel => exact ⟨true, by first | rfl | rw [e5], rfl, by show _ ↔ _; rw [HIN.out.1, HIN.out.2]; have := HM.out; have := HM0.out; simp; omega⟩
 case rest =>
  obtain ⟨B, rfl, rfl, hB⟩ := hcut
  have hm := HM0.out
  clear HM0
  subst hm
  cases B with
  | true =>
   rw [if_pos (hB.out.1 rfl)] at HEQ
   clear hB
   go_wp2_with fail
   go_ret
   exact ⟨by rw [HEQ.out]; rfl, HB1.out⟩
  | false =>
   rw [if_neg (fun h => by have := hB.out.2 h; cases this)] at HEQ
   clear hB
   go_wp2_with fail
   go_loop [7] (fun jv => ∃ j : Nat, j ≤ from_.length ∧ jv = .int .i64 j ∧ Hid (fromErr l i (from_.drop j) = fromErr l i from_)) (fun jv => from_.length - (intOf jv).toNat)
   case atStart => exact ⟨0, Nat.zero_le _, rfl, rfl⟩
   case round =>
    obtain ⟨j, hj, rfl, HJ⟩ := hrel
    by_cases hlt : j < from_.length
    ·obtain ⟨bf, of_, rfl, _, hcf, _⟩ := HF1.out.int_ hlt
     have hdr : from_.drop j = from_[j] :: from_.drop (j + 1) := List.drop_eq_getElem_cons hlt
     have HJ2 : Hid (fromErr l i from_ = if from_[j] < 0 ∨ (i : Int) ≤ from_[j] then 1 else if (l[from_[j].toNat]?.map (·.kind)) = some 10 then 7 else fromErr l i (from_.drop (j + 1))) := by
      show _ = _
      rw [← HJ.out, hdr, rfrom_cons]
     generalize from_[j] = f at hcf HJ2
     clear hdr HJ
     by_cases hf : f < 0 ∨ (i : Int) ≤ f
     ·rw [if_pos hf] at HJ2
      have HE : Hid (nodeErr l i ⟨kind, from_, text, nn⟩ = 1) := by show _ = _; rw [HEQ.out, HJ2.out]; rfl
      rcases hf with hf | hf
      ·have e1 : decide (f < 0) = true := decide_eq_true hf
       go_wp2_with fail
       go_ret
       exact ⟨by rw [HE.out]; rfl, HB1.out⟩
      ·have e1 : decide (f < 0) = false := decide_eq_false (by omega)
       have e2 : decide ((i : Int) ≤ f) = true := decide_eq_true hf
       go_wp2_with fail
       go_ret
       exact ⟨by rw [HE.out]; rfl, HB1.out⟩
     ·rw [if_neg hf] at HJ2
      obtain ⟨fn, rfl⟩ : ∃ fn : Nat, f = fn := ⟨f.toNat, by omega⟩
      have hfi : fn < i := by omega
      have hfl2 : fn < l.length := by omega
      obtain ⟨bl, ol, A2, c2, hAl, _, y0, _, _, _, _, _, _, _⟩ := HL1.out.nod_ hfl2
      injection hAl with hAl
      injection hAl with hA1 hA2
      subst hA1; subst hA2
      obtain ⟨fk, hfk⟩ : ∃ fk, l[fn].kind = fk := ⟨_, rfl⟩
      have HJ2b : Hid (fromErr l i from_ = if fk = 10 then 7 else fromErr l i (from_.drop (j + 1))) := by
       show _ = _
       rw [HJ2.out, Int.toNat_natCast, List.getElem?_eq_getElem hfl2, ← hfk]
       by_cases h : l[fn].kind = 10 <;> simp [h]
      rw [hfk] at y0
      clear hfk HJ2
      by_cases h10 : fk = 10
      ·subst h10
       have HE : Hid (nodeErr l i ⟨kind, from_, text, nn⟩ = 7) := by show _ = _; rw [HEQ.out, HJ2b.out]; rfl
       go_wp2_with fail
       go_ret
       exact ⟨by rw [HE.out]; rfl, HB1.out⟩
      ·have e10 : (fk == 10) = false := by simp [h10]
       have HJ3 : Hid (fromErr l i (from_.drop (j + 1)) = fromErr l i from_) := by
        show _ = _
        rw [HJ2b.out, if_neg h10]
       clear h10 HJ2b hf
       go_wp2_with fail
       go_round
       case rel => exact ⟨j + 1, by omega, by go_num, HJ3⟩
       case measure => simp [intOf]; omega
    ·have dj : decide (j < from_.length) = false := decide_eq_false hlt
     have HJ0 : Hid (fromErr l i from_ = 0) := by
      show _ = _
      rw [← HJ.out, List.drop_eq_nil_of_le (by omega)]; rfl
     rw [if_neg (by rw [HJ0.out]; simp)] at HEQ
     clear HJ HJ0 hj hlt
     go_wp2_with fail
     refine (rtexted_ok kind W1).mono ?_
     rintro e w3 ⟨rfl, rfl⟩
     go_wp2_with fail
     refine (rcounted_ok kind W1).mono ?_
     rintro e w3 ⟨rfl, rfl⟩
     obtain ⟨bt, hbt⟩ : ∃ bt, bt = texted kind := ⟨_, rfl⟩
     obtain ⟨bc, hbc⟩ : ∃ bc, bc = counted kind := ⟨_, rfl⟩
     rw [← hbt, ← hbc]
     have HBT := Lib.hid hbt
     have HBC := Lib.hid hbc
     clear hbt hbc
     go_upto_region 16 with (fail)
     go_cut [113] from 98 to 113 (fun bv wx => ∃ B : Bool, bv = .bool B ∧ W1 = wx ∧ Hid (B = true ↔ ((text.size ≠ 0 ∧ bt = false) ∨ (nn ≠ 0 ∧ bc = false))))
     case first =>
      by_cases ht : text.size = 0
      ·have hte : text = ⟨#[]⟩ := rempty_of_size ht
       subst hte
       by_cases hn0 : nn = 0
       ·subst hn0
        go_wp2_with fail
        go_meet
        case rel => exact ⟨false, rfl, rfl, by simp [Hid, ByteArray.size]⟩
       ·have e1 : (nn != 0) = true := by simp [hn0]
        have e2 : (nn == 0) = false := by simp [hn0]
        have HN := Lib.hid hn0
        clear hn0
        cases bc
        all_goals
         go_wp2_with fail
         go_meet
         case rel => exact ⟨_, rfl, rfl, by have := HN.out; simp [Hid, ByteArray.size, this]⟩
      ·have hn1 : ¬ text.toList = [] := fun e => ht (rsize_of_nil e)
       have hn2 : (!text.toList.isEmpty) = true := by simp [hn1]
       cases bt with
       | false =>
        go_wp2_with fail
        go_meet
        case rel => exact ⟨true, rfl, rfl, by simp [Hid, ht]⟩
       | true =>
        by_cases hn0 : nn = 0
        ·subst hn0
         go_wp2_with fail
         go_meet
         case rel => exact ⟨false, rfl, rfl, by simp [Hid]⟩
        ·have e1 : (nn != 0) = true := by simp [hn0]
         have e2 : (nn == 0) = false := by simp [hn0]
         have HN := Lib.hid hn0
         clear hn0
         cases bc
         all_goals
          go_wp2_with fail
          go_meet
          case rel => exact ⟨_, rfl, rfl, by have := HN.out; simp [Hid, this]⟩
     case rest =>
      obtain ⟨B, rfl, rfl, hB⟩ := hcut
      cases B with
      | true =>
       have hBB := hB.out.1 rfl
       rw [HBT.out, HBC.out] at hBB
       have HE : Hid (nodeErr l i ⟨kind, from_, text, nn⟩ = 3) := by show _ = _; rw [HEQ.out]; unfold rnodeBody; rw [if_pos hBB]
       clear hBB hB
       go_wp2_with fail
       go_ret
       exact ⟨by rw [HE.out]; rfl, HB1.out⟩
      | false =>
       have hBB : ¬ ((text.size ≠ 0 ∧ texted kind = false) ∨ (nn ≠ 0 ∧ counted kind = false)) := fun h => by rw [← HBT.out, ← HBC.out] at h; have := hB.out.2 h; cases this
       have HQ : Hid (nodeErr l i ⟨kind, from_, text, nn⟩ = if nn < numLow kind ∨ numHigh kind < nn then 1 else if texted kind = true then textErr text.data.toList else 0) := by
        show _ = _
        rw [HEQ.out]; unfold rnodeBody
        rw [if_neg hBB]
       have hnc : counted kind = false → nn = 0 := fun h => by
        refine Classical.byContradiction fun h2 => hBB (.inr ⟨h2, h⟩)
       have HNC := Lib.hid hnc
       clear hB HEQ hBB hnc
       go_upto_region 18 with (fail)
       go_cut [156] from 114 to 156 (fun bv wx => ∃ B : Bool, bv = .bool B ∧ W1 = wx ∧ Hid (B = true ↔ (nn < numLow kind ∨ numHigh kind < nn)))
       case first =>
        by_cases h1 : kind = 1
        ·subst h1
         by_cases h0 : nn < 1
         ·have e1 : decide (nn < 1) = true := decide_eq_true h0
          go_wp2_with fail
          go_meet
          case rel => exact ⟨true, by first | rfl | rw [e1], rfl, by simp [Hid, numLow, numHigh]; omega⟩
         ·have e1 : decide (nn < 1) = false := decide_eq_false h0
          by_cases h4 : 8 < nn
          ·have e2 : decide (8 < nn) = true := decide_eq_true h4
           go_wp2_with fail
           go_meet
           case rel => exact ⟨true, by first | rfl | rw [e2], rfl, by simp [Hid, numLow, numHigh]; omega⟩
          ·have e2 : decide (8 < nn) = false := decide_eq_false h4
           go_wp2_with fail
           go_meet
           case rel => exact ⟨false, by first | rfl | rw [e2], rfl, by simp [Hid, numLow, numHigh]; omega⟩
        by_cases h5 : kind = 5
        ·subst h5
         by_cases h0 : nn < 0
         ·have e1 : decide (nn < 0) = true := decide_eq_true h0
          go_wp2_with fail
          go_meet
          case rel => exact ⟨true, by first | rfl | rw [e1], rfl, by simp [Hid, numLow, numHigh]; omega⟩
         ·have e1 : decide (nn < 0) = false := decide_eq_false h0
          by_cases h4 : 3 < nn
          ·have e2 : decide (3 < nn) = true := decide_eq_true h4
           go_wp2_with fail
           go_meet
           case rel => exact ⟨true, by first | rfl | rw [e2], rfl, by simp [Hid, numLow, numHigh]; omega⟩
          ·have e2 : decide (3 < nn) = false := decide_eq_false h4
           go_wp2_with fail
           go_meet
           case rel => exact ⟨false, by first | rfl | rw [e2], rfl, by simp [Hid, numLow, numHigh]; omega⟩
        by_cases h8 : kind = 8
        ·subst h8
         by_cases h0 : nn < 1
         ·have e1 : decide (nn < 1) = true := decide_eq_true h0
          go_wp2_with fail
          go_meet
          case rel => exact ⟨true, by first | rfl | rw [e1], rfl, by simp [Hid, numLow, numHigh]; omega⟩
         ·have e1 : decide (nn < 1) = false := decide_eq_false h0
          by_cases h4 : 400 < nn
          ·have e2 : decide (400 < nn) = true := decide_eq_true h4
           go_wp2_with fail
           go_meet
           case rel => exact ⟨true, by first | rfl | rw [e2], rfl, by simp [Hid, numLow, numHigh]; omega⟩
          ·have e2 : decide (400 < nn) = false := decide_eq_false h4
           go_wp2_with fail
           go_meet
           case rel => exact ⟨false, by first | rfl | rw [e2], rfl, by simp [Hid, numLow, numHigh]; omega⟩
        have e1 : (kind == 1) = false := by simp [h1]
        have e2 : (kind == 5) = false := by simp [h5]
        have e3 : (kind == 8) = false := by simp [h8]
        have hcf : counted kind = false := by simp [counted, h1, h5, h8]
        have hn0 : nn = 0 := HNC.out hcf
        have hnl : numLow kind = 0 ∧ numHigh kind = 0 := by simp [numLow, numHigh, h1, h5, h8]
        have HNL := Lib.hid hnl
        have HN0 := Lib.hid hn0
        clear hnl h1 h5 h8 hn0 hcf
        go_wp2_with fail
        go_meet
        case rel => exact ⟨false, rfl, rfl, by show _ ↔ _; rw [HNL.out.1, HNL.out.2, HN0.out]; simp⟩
       case rest =>
        obtain ⟨B, rfl, rfl, hB⟩ := hcut
        cases B with
        | true =>
         rw [if_pos (hB.out.1 rfl)] at HQ
         clear hB
         go_wp2_with fail
         go_ret
         exact ⟨by rw [HQ.out]; rfl, HB1.out⟩
        | false =>
         rw [if_neg (fun h => by have := hB.out.2 h; cases this)] at HQ
         clear hB
         cases bt with
         | false =>
          rw [← HBT.out] at HQ
          go_wp2_with fail
          go_ret
          exact ⟨by rw [HQ.out]; rfl, HB1.out⟩
         | true =>
          rw [← HBT.out] at HQ
          go_wp2_with fail
          refine (pparse_ok text W1).mono ?_
          rintro e w5 ⟨hb5, hpr⟩
          have HB5 := Lib.hid (HB1.out.trans (hb5.mono HB1.out.size))
          clear hb5
          cases hp : parseT text.data.toList with
          | tree t =>
           rw [hp] at hpr
           obtain ⟨o, n, A, c, rfl, _⟩ := hpr
           have HE : Hid (nodeErr l i ⟨kind, from_, text, nn⟩ = 0) := by show _ = _; rw [HQ.out]; unfold textErr; rw [hp]; rfl
           clear hp
           go_wp2_with fail
           go_ret
           exact ⟨by rw [HE.out]; rfl, HB5.out.alloc HB5.out.size _⟩
          | fault a j =>
           rw [hp] at hpr
           obtain ⟨rfl, _⟩ := hpr
           have HE : Hid (nodeErr l i ⟨kind, from_, text, nn⟩ = j) := by show _ = _; rw [HQ.out]; unfold textErr; rw [hp]; rfl
           clear hp
           go_wp2_with fail
           go_ret
           exact ⟨by rw [HE.out]; rfl, HB5.out.alloc HB5.out.size _⟩
end Go.Proofs.YtfndhfekbbbliaaGreatDoor

/-
  The reference's Ends, Job, Of. Conditions: where the job lies.
-/
namespace Go.Proofs.YtfndhfekbbbliaaGreatDoor
open Go.RowKit Go.ChangeShapes Go.WideShapes
set_option linter.unusedVariables false
set_option maxRecDepth 100000 in
theorem rends_ok (F : Nat → Prop) (A : Option Addr) (c : Nat) (l : List Nod) (w : World) (hl : SlA nodE F w A c l) :
  Calls Tryz.prog 54 #[.slice A l.length c] w fun e w' => e = .returned (.int .i64 (endsErr l)) ∧ w = w' := by
 have HL := Lib.hid hl
 have hle := hl.le
 clear hl
 go_enter Tryz.func54, Tryz.ntmps54
 go_wp2_with fail
 go_loop [3, 4, 5] (fun av bv jv => ∃ (j : Nat) (a b : Bool), j ≤ l.length ∧ av = .bool a ∧ bv = .bool b ∧ jv = .int .i64 j ∧ Hid (a = hasKind (l.take j) 1 ∧ b = hasKind (l.take j) 10)) (fun _ _ jv => l.length - (intOf jv).toNat)
 case atStart => exact ⟨0, false, false, Nat.zero_le _, rfl, rfl, rfl, rfl, rfl⟩
 case round =>
  obtain ⟨j, a, b, hj, rfl, rfl, rfl, HJ⟩ := hrel
  by_cases hlt : j < l.length
  ·obtain ⟨b0, off, A', c', rfl, hFb, x0, x1, x2, x3, htm, hki, hni, hfr⟩ := HL.out.nod_ hlt
   have HT : Hid (hasKind (l.take (j + 1)) 1 = (a || (l[j].kind == 1)) ∧ hasKind (l.take (j + 1)) 10 = (b || (l[j].kind == 10))) := by
    rw [HJ.out.1, HJ.out.2]
    exact ⟨hasKind_take l 1 hlt, hasKind_take l 10 hlt⟩
   generalize l[j].kind = kd at x0 HT
   clear x1 x2 x3 htm hki hni hfr hFb HJ
   cases a
   all_goals
    cases b
    all_goals
     go_wp2_with fail
     go_round
     case rel => exact ⟨j + 1, _, _, by omega, rfl, rfl, by go_num, by have := HT.out; simp at this; simp [Hid, this]⟩
     case measure => simp [intOf]; omega
  ·have dj : decide (j < l.length) = false := decide_eq_false hlt
   have e : l.take j = l := List.take_of_length_le (by omega)
   rw [e] at HJ
   have HE : Hid (endsErr l = if a = true ∧ b = true then 0 else 6) := by show _ = _; unfold endsErr; rw [← HJ.out.1, ← HJ.out.2]
   clear HJ hlt hj e
   cases a
   all_goals
    cases b
    all_goals
     go_wp2_with fail
     go_ret
     exact ⟨by rw [HE.out]; rfl, rfl⟩
set_option maxRecDepth 100000 in
theorem rjob_ok (F : Nat → Prop) (A : Option Addr) (c : Nat) (l : List Nod) (w : World) (hl : SlA nodE F w A c l) (hF : ∀ k, F k → k < w.heap.size) :
  Calls Tryz.prog 20 #[.slice A l.length c] w fun e w' => e = .returned (.int .i64 (jobErr l)) ∧ Below w.heap.size w w' := by
 have HL := Lib.hid hl
 have HF := Lib.hid hF
 have hle := hl.le
 clear hl hF
 by_cases h12 : 12 < l.length
 ·have d1 : decide ((12 : Int) < (l.length : Int)) = true := decide_eq_true (by omega)
  have HE : Hid (jobErr l = 4) := by show _ = _; unfold jobErr; rw [if_pos h12]
  clear h12
  go_enter Tryz.func20, Tryz.ntmps20
  go_wp2_with fail
  go_ret
  exact ⟨by rw [HE.out]; rfl, Below.refl _ _⟩
 have d1 : decide ((12 : Int) < (l.length : Int)) = false := decide_eq_false (by omega)
 have HE : Hid (jobErr l = if nodesErr l 0 l ≠ 0 then nodesErr l 0 l else endsErr l) := by show _ = _; unfold jobErr; rw [if_neg h12]
 clear h12
 go_enter Tryz.func20, Tryz.ntmps20
 go_wp2_with fail
 go_loopw [3] (fun jv wr => ∃ j : Nat, j ≤ l.length ∧ jv = .int .i64 j ∧ Hid (nodesErr l j (l.drop j) = nodesErr l 0 l) ∧ Hid (Below w.heap.size w wr)) (fun jv _ => l.length - (intOf jv).toNat)
 case atStart => exact ⟨0, Nat.zero_le _, rfl, rfl, Below.refl _ _⟩
 case round =>
  obtain ⟨j, hj, rfl, HJ, HB⟩ := hrel
  have HL2 := Lib.hid (HL.out.keep (fun i hi => HB.out.block i (HF.out i hi)))
  have HF2 : Hid (∀ k, F k → k < wr.heap.size) := fun k hk => Nat.lt_of_lt_of_le (HF.out k hk) HB.out.size
  by_cases hlt : j < l.length
  ·have HN := Lib.hid (rnode_ok F A c l j hlt wr HL2.out HF2.out)
   obtain ⟨ne, hne⟩ : ∃ ne, ne = nodeErr l j l[j] := ⟨_, rfl⟩
   rw [← hne] at HN
   have HJ2 : Hid (nodesErr l 0 l = if ne ≠ 0 then ne else nodesErr l (j + 1) (l.drop (j + 1))) := by
    show _ = _; rw [← HJ.out, nodes_drop l hlt, ← hne]
   clear hne HJ
   go_wp2_with fail
   refine HN.out.mono ?_
   rintro e w2 ⟨rfl, hb⟩
   have HB2 := Lib.hid (HB.out.trans (hb.mono HB.out.size))
   clear hb HN
   by_cases h0 : ne = 0
   ·subst h0
    have HJ3 : Hid (nodesErr l (j + 1) (l.drop (j + 1)) = nodesErr l 0 l) := by show _ = _; rw [HJ2.out]; simp
    go_wp2_with fail
    go_roundw
    case rel => exact ⟨j + 1, by omega, by go_num, HJ3, HB2⟩
    case measure => simp [intOf]; omega
   ·have d0 : (ne != 0) = true := by simp [h0]
    have HE2 : Hid (jobErr l = ne) := by show _ = _; rw [HE.out, HJ2.out, if_pos h0, if_pos h0]
    clear h0 HJ2
    go_wp2_with fail
    go_ret
    exact ⟨by rw [HE2.out]; rfl, HB2.out⟩
  ·have dj : decide (j < l.length) = false := decide_eq_false hlt
   have HE2 : Hid (jobErr l = endsErr l) := by
    show _ = _
    have : nodesErr l 0 l = 0 := by rw [← HJ.out, List.drop_eq_nil_of_le (by omega)]; rfl
    rw [HE.out, this]; simp
   clear HJ hlt hj
   go_wp2_with fail
   refine (rends_ok F A c l wr HL2.out).mono ?_
   rintro e w2 ⟨rfl, rfl⟩
   obtain ⟨ee, hee⟩ : ∃ ee, ee = endsErr l := ⟨_, rfl⟩
   rw [← hee] at HE2 ⊢
   clear hee
   go_wp2_with fail
   go_ret
   exact ⟨by rw [HE2.out]; rfl, HB.out⟩
set_option maxRecDepth 100000 in
set_option maxHeartbeats 2000000 in
theorem rof_ok (F : Nat → Prop) (A : Option Addr) (c : Nat) (l : List Nod) (k : Int) (w : World) (hl : SlA nodE F w A c l) (hF : ∀ k, F k → k < w.heap.size) (h12 : l.length ≤ 100000) :
  Calls Tryz.prog 23 #[.slice A l.length c, .int .i64 k] w fun e w' => (∃ A' c', e = .returned (.slice A' (ofKind l k).length c') ∧ SlA (intE .i64) (fun j => w.heap.size ≤ j ∧ j < w'.heap.size) w' A' c' (ofKind l k)) ∧ Below w.heap.size w w' := by
 have HL := Lib.hid hl
 have hF2 := Lib.hid hF
 have hle := hl.le
 clear hl hF
 go_enter Tryz.func23, Tryz.ntmps23
 go_wp2_with fail
 go_loopw [5, 6] (fun v jv wr => ∃ j : Nat, j ≤ l.length ∧ jv = .int .i64 j ∧ Hid (wr.ownsRow w.heap.size 3 1 v (ofKind (l.take j) k).length (intV (ofKind (l.take j) k))) ∧ Hid (Below w.heap.size w wr)) (fun _ jv _ => l.length - (intOf jv).toNat)
 case atStart => exact ⟨0, Nat.zero_le _, rfl, World.ownsRow_nil _ _ _ _, Below.refl _ _⟩
 case round =>
  obtain ⟨j, hj, rfl, HR, HB⟩ := hrel
  by_cases hlt : j < l.length
  ·obtain ⟨b, off, A', c', rfl, hFb, x0, x1, x2, x3, htm, hki, hni, hfr⟩ := (HL.out.keep (fun i hi => HB.out.block i (hF2.out i hi))).nod_ hlt
   have HT := Lib.hid (of_take l k hlt)
   have hm : (ofKind (l.take j) k).length ≤ j := Nat.le_trans (of_len _ _) (List.length_take_le _ _)
   clear hfr hki hni hFb htm x1 x2 x3
   generalize l[j].kind = kind at x0 HT
   generalize ofKind (l.take j) k = zs at HR HT hm
   cases hkk : (kind == k) with
   | false =>
    have HT2 : Hid (ofKind (l.take (j + 1)) k = zs) := by show _ = _; rw [HT.out, hkk]; simp
    go_wp2_with fail
    go_roundw
    case rel => exact ⟨j + 1, by omega, by go_num, by show World.ownsRow _ _ _ _ _ _ _; rw [HT2.out]; exact HR.out, HB⟩
    case measure => simp [intOf]; omega
   | true =>
    have HT2 : Hid (ofKind (l.take (j + 1)) k = zs ++ [(j : Int)]) := by show _ = _; rw [HT.out, hkk]; simp
    clear HT
    go_wp2_with (at_builtin; refine wpList_push rfl _ _ 38 rfl w.heap.size 3 (.int .i64 0) 1 8 Tryz.underlying38 info_int rfl (by decide) u5 zs.length (intV zs) rfl HR.out [.int .i64 j] rfl rfl ?_ ?_ ?_ HB.out.size HB.out (Nat.le_refl _) ?_)
    ·rintro u hu; simp at hu; subst hu; rfl
    ·unfold maxLen; omega
    ·omega
    ·intro v' w8 hown8 hg8 hb8 _
     have HR8 : Hid (w8.ownsRow w.heap.size 3 1 v' (ofKind (l.take (j + 1)) k).length (intV (ofKind (l.take (j + 1)) k))) := by
      show World.ownsRow _ _ _ _ _ _ _
      rw [HT2.out, List.length_append, show intV (zs ++ [(j : Int)]) = intV zs ++ [.int .i64 j] from by simp [intV]]; exact hown8
     have HB8 := Lib.hid hb8
     clear hown8 hg8 hb8 HT2
     go_wp2_with fail
     refine ⟨⟨j + 1, by omega, by congr 1, HR8, HB8⟩, ?_⟩
     simp [intOf]; omega
  ·have dj : decide (j < l.length) = false := decide_eq_false hlt
   have e : l.take j = l := List.take_of_length_le (by omega)
   rw [e] at HR
   obtain ⟨A3, c3, rfl, hs3⟩ := row_new HR.out (fun x hx => WalkArith.wf_i64 (by have := of_mem hx; omega))
   have HS3 := Lib.hid hs3
   clear hs3 HR e hj hlt
   go_wp2_with fail
   go_ret
   exact ⟨⟨A3, c3, rfl, HS3.out⟩, HB.out⟩
end Go.Proofs.YtfndhfekbbbliaaGreatDoor
