/-
  Several texts of this claim in one, in build order; each begins with its own remark, which says what it proves and under which conditions.
-/
import Derived.Test.YtfndhfekbbbliaaGreatDoorPackB
import Derived.Deep.RegionWith
import Derived.RegionDies
import Derived.Deep.RegionHeld2
import Derived.Lib.ItoaNum

/-
  Package expr: the contract of row, whatever reads its operands. Conditions: the text takes at most 120 bytes, the depth is at most 20.
-/
namespace Go.Proofs.YtfndhfekbbbliaaGreatDoor
open Go.RowKit Go.Shelf
set_option linter.unusedVariables false
def Nexts (K : Nat) (args : Array Value) (X : List UInt8 → Rd) (R : Nat) (s : ByteArray) (d m : Nat) (w : World) : Prop := ∀ (l : List UInt8) (W : World), RdL W R s l d → Frm (· = R) w W → l.length ≤ m → Calls Tryz.prog K args W (Reads_ R s d W (X l))
theorem index_mem (ops : List UInt8) (c : UInt8) : (c ∈ ops → 0 ≤ Lib.indexByte ops c) ∧ (c ∉ ops → Lib.indexByte ops c = -1) := by
 induction ops with
 | nil => exact ⟨nofun, fun _ => rfl⟩
 | cons b l ih =>
  unfold Lib.indexByte
  by_cases e : b = c
  ·subst e
   exact ⟨fun _ => by simp, fun h => absurd List.mem_cons_self h⟩
  ·have e1 : (b == c) = false := beq_eq_false_iff_ne.2 e
   rw [e1]
   refine ⟨fun h => ?_, fun h => ?_⟩
   ·have h2 : c ∈ l := by
     rcases List.mem_cons.1 h with h | h
     ·exact absurd h.symm e
     ·exact h
    have := ih.1 h2
    have e2 : (Lib.indexByte l c == -1) = false := beq_eq_false_iff_ne.2 (by omega)
    simp only [e2, Bool.false_eq_true, if_false]; omega
   ·have := ih.2 fun hl => h (List.mem_cons_of_mem _ hl)
    rw [this]; rfl
theorem indexb_ok (ops : ByteArray) (c : UInt8) (w : World) : Calls Tryz.prog 105 #[.string ops, .int .u8 (c.toNat : Int)] w fun e w' => e = .returned (.int .i64 (Lib.indexByte ops.data.toList c)) ∧ w' = w := by
 have := Any.strings_IndexByte Tryz.indexb ops (c.toNat : Int) w
 rw [show (c.toNat : Int).toNat.toUInt8 = c from by simp] at this
 exact this
def posOf (R : Nat) (w : World) : Nat := match w.cell? ⟨R, 1, none⟩ with
 | some (.int _ n) => n.toNat
 | _ => 0
theorem posOf_rd {w : World} {R d : Nat} {s : ByteArray} {l : List UInt8} (h : RdL w R s l d) : posOf R w = s.size - l.length := by
 unfold posOf; rw [h.2.2.cells.2.1]; simp
structure RowInv (R : Nat) (s : ByteArray) (d m : Nat) (w : World) (ga : Nat) (X : List UInt8 → Rd) (ops : List UInt8) (r0 : Rd) (a : Tr) (l : List UInt8) (o n : Int) (A : Option Addr) (c : Nat) (wx : World) : Prop where
 rd : RdL wx R s l d
 var : TVar wx ga (.int .u8 o) (.int .i64 n) (.slice A c c)
 res : TVar wx w.heap.size (.int .u8 0) (.int .i64 0) (.slice none 0 0)
 tree : TrC (fun j => w.heap.size < j ∧ j ≠ ga) wx a (trL o n A c)
 frm : Frm (· = R) w wx
 out : ∃ k, l.length ≤ k ∧ r0 = loopRd X ops k a l
 le : l.length ≤ m
set_option maxRecDepth 100000 in
set_option maxHeartbeats 8000000 in
theorem row_reads (R K : Nat) (s : ByteArray) (first cap : Array Value) (ops : ByteArray) (X : List UInt8 → Rd) (l : List UInt8) (d m : Nat) (w : World) (h : RdL w R s l d) (hs : s.size ≤ 120) (hd : d ≤ 20) (hm : l.length ≤ m)
  (hK : ∀ args w, (callFunc K args).run Tryz.prog w = .ok (.enter K args) w) (hS : Short X) (hX : Nexts K (first ++ cap) X R s d m w) (h0 : (0 : UInt8) ∉ ops.data.toList) :
  Calls Tryz.prog 139 #[.pointer (some ⟨R, 0, none⟩), .string ops, .func (.func K) first cap] w (Reads_ R s d w (rowRd X ops.data.toList l)) := by
 obtain ⟨r1, hr1⟩ : ∃ r1, r1 = X l := ⟨_, rfl⟩
 obtain ⟨r0, hr0⟩ : ∃ r0, r0 = rowRd X ops.data.toList l := ⟨_, rfl⟩
 have e0 : r0 = r1.bind fun a l1 => loopRd X ops.data.toList l1.length a l1 := by rw [hr0, hr1]; rfl
 rw [← hr0]
 have HR1 := Lib.hid hr1
 have HR0 := Lib.hid e0
 have HH := Lib.hid h
 have HX := Lib.hid hX
 have HS := Lib.hid hS
 have hlt := h.lt
 have HLT := Lib.hid hlt
 clear hr0 hr1 e0 hX hS
 go_enter Tryz.func139, Tryz.ntmps139
 go_wp2_with fail
 have HH1 : Hid (RdL (w.alloc (.cells #[.int .u8 0, .int .i64 0, .slice none 0 0] 86)) R s l d) := HH.out.keep (heap_alloc_old _ _ hlt)
 have HF1 : Hid (Frm (· = R) w (w.alloc (.cells #[.int .u8 0, .int .i64 0, .slice none 0 0] 86))) := (Frm.refl _ _).alloc _
 have HV1 : Hid (TVar (w.alloc (.cells #[.int .u8 0, .int .i64 0, .slice none 0 0] 86)) w.heap.size (.int .u8 0) (.int .i64 0) (.slice none 0 0)) := TVar.new _ _ _ _
 clear h hlt
 have hcall := HX.out l _ HH1.out HF1.out hm
 rw [← HR1.out] at hcall
 refine hcall.mono ?_
 clear hcall
 intro e w2 hr
 cases r1 with
 | bad k j =>
  obtain ⟨rfl, hp, hf⟩ := hr
  have e0 : r0 = .bad k j := HR0.out
  clear HR0
  subst e0
  exact ⟨rfl, rfl, hp, frm_trans HF1.out hf⟩
 | ok a0 l1 =>
  obtain ⟨o0, n0, A0, c0, rfl, ht, hl, hf⟩ := hr
  have HI : Hid (RowInv R s d m w w2.heap.size X ops.data.toList r0 a0 l1 o0 n0 A0 c0 (w2.alloc (.cells #[.int .u8 o0, .int .i64 n0, .slice A0 c0 c0] 86))) := by
   have hx := HLT.out
   have hv2 : w.heap.size < w2.heap.size := block_lt (HV1.out.frm hf (by omega))
   refine ⟨hl.keep (heap_alloc_old _ _ hl.lt), TVar.new _ _ _ _, (heap_alloc_old _ _ hv2).trans (HV1.out.frm hf (by omega)), ?_, (frm_trans HF1.out hf).alloc _, ⟨_, Nat.le_refl _, HR0.out⟩, ?_⟩
   ·have h1 : TrC (fun j => w.heap.size < j ∧ j < w2.heap.size) w2 a0 (trL o0 n0 A0 c0) := ht.in_ fun j hj hj2 => ⟨by simp at hj; omega, hj2⟩
    exact (h1.keep fun j hj => heap_alloc_old _ _ hj.2).in_ fun j hj _ => ⟨hj.1, by omega⟩
   ·have := HS.out l a0 l1 HR1.out.symm
    omega
  have HGA : Hid (w.heap.size < w2.heap.size) := block_lt (HV1.out.frm hf (by have := HLT.out; omega))
  clear ht hl hf HH1 HF1 HV1 HH HR0 HR1
  simp only [trA]
  go_wp2_with fail
  refine (peekL R s l1 d _ HI.out.rd).mono ?_
  rintro e w3 ⟨rfl, q, rfl⟩
  obtain ⟨wl, hwl⟩ : ∃ wl, wl = (w2.alloc (.cells #[.int .u8 o0, .int .i64 n0, .slice A0 c0 c0] 86)).drewN q := ⟨_, rfl⟩
  have HI3 : Hid (RowInv R s d m w w2.heap.size X ops.data.toList r0 a0 l1 o0 n0 A0 c0 wl) := by
   rw [hwl]
   exact ⟨HI.out.rd.keep rfl, HI.out.var, HI.out.res, HI.out.tree.keep fun _ _ => rfl, HI.out.frm.drewN q, HI.out.out, HI.out.le⟩
  obtain ⟨ga, hga⟩ : ∃ ga, ga = w2.heap.size := ⟨_, rfl⟩
  rw [← hga] at HI3 HGA ⊢
  rw [← hwl]
  clear hwl HI hga
  go_wp2_with fail
  go_loopw [8] (fun cv wx => ∃ a l2 o n A c, cv = .int .u8 (headB l2) ∧ Hid (RowInv R s d m w ga X ops.data.toList r0 a l2 o n A c wx)) (fun _ wx => s.size - posOf R wx)
  case atStart => exact ⟨a0, l1, o0, n0, A0, c0, rfl, HI3.out⟩
  case round =>
   obtain ⟨a, l2, o, n, A, c, rfl, HJ⟩ := hrel
   obtain ⟨v0, v1, v2, vf⟩ := HJ.out.var.cells
   obtain ⟨z0, z1, z2, zf⟩ := HJ.out.res.cells
   obtain ⟨c0, c1, c2, cf⟩ := HJ.out.rd.2.2.cells
   obtain ⟨q0, q1, q2, qf⟩ := (pass_var (x := .int .u8 o) (y := .int .i64 n) (z := .slice A c c) HJ.out.res).cells
   simp only [tset] at q0 q1 q2
   have HEX : Hid (r0 = .ok a l2 → Reads_ R s d w r0 (.returned (.agg (trA o n A c))) (tset wr w.heap.size (.int .u8 o) (.int .i64 n) (.slice A c c))) := fun e => by
    subst e
    exact pass_ok HJ.out.tree (fun j hj => by omega) HJ.out.rd HJ.out.frm (by have := HLT.out; omega) (Nat.le_refl _)
   have HST : Hid ((∀ x r, l2 = x :: r → x ∉ ops.data.toList) → r0 = .ok a l2) := fun hx => by
    obtain ⟨k, hk, e⟩ := HJ.out.out
    rw [e]; exact loop_stop hx _ _
   cases l2 with
   | nil =>
    have hr := HEX.out (HST.out nofun)
    have eh : headB [] = 0 := rfl
    rw [eh]
    go_wp2_with fail
    refine ⟨rfl, .agg (trA o n A c), ?_, hr⟩
    simp only [results, Tryz.results139]
    simp [go_sem, q0, q1, q2, trA]
   | cons x r =>
    have eh : headB (x :: r) = (x.toNat : Int) := rfl
    rw [eh]
    by_cases hx0 : x = 0
    ·subst hx0
     have hr := HEX.out (HST.out fun x r e => by injection e with e _; subst e; exact h0)
     rw [show ((0 : UInt8).toNat : Int) = 0 from rfl]
     go_wp2_with fail
     refine ⟨rfl, .agg (trA o n A c), ?_, hr⟩
     simp only [results, Tryz.results139]
     simp [go_sem, q0, q1, q2, trA]
    ·have hne : ¬ x.toNat = 0 := fun e => hx0 (UInt8.toNat_inj.1 e)
     by_cases hxm : x ∈ ops.data.toList
     ·have hi := (index_mem ops.data.toList x).1 hxm
      have hd0 : decide (0 ≤ Lib.indexByte ops.data.toList x) = true := decide_eq_true hi
      go_wp2_with fail
      refine (indexb_ok ops x wr).mono ?_
      rintro e w4 ⟨rfl, rfl⟩
      go_wp2_with fail
      obtain ⟨w5, hw5⟩ : ∃ w5, w5 = w4.setCell ⟨R, 1, none⟩ (.int .i64 (((s.size - (r.length + 1) : Nat) : Int) + 1)) := ⟨_, rfl⟩
      have HL5 : Hid (RdL w5 R s r d) := by
       have h1 := HJ.out.rd.2.2.moved (s.size - (r.length + 1) + 1)
       have e2 : (((s.size - (r.length + 1) : Nat) : Int) + 1) = ((s.size - (r.length + 1) + 1 : Nat) : Int) := by omega
       rw [hw5, e2]
       exact HJ.out.rd.on (n := 1) (by simp only [List.length_cons]; omega) rfl h1
      have hpos : posOf R w4 = s.size - (r.length + 1) := by have := posOf_rd HJ.out.rd; simpa using this
      have hrs : r.length + 1 ≤ s.size := by have := HJ.out.rd.1; simpa using this
      have hgR : ga ≠ R := by have := HLT.out; have := HGA.out; omega
      have h5o : ∀ j, j ≠ R → w5.heap[j]? = w4.heap[j]? := fun j hj => by rw [hw5]; exact Below.heap_setCell _ _ _ _ (by simpa using hj)
      have HV5 : Hid (TVar w5 ga (.int .u8 o) (.int .i64 n) (.slice A c c)) := (h5o ga hgR).trans HJ.out.var
      have HZ5 : Hid (TVar w5 w.heap.size (.int .u8 0) (.int .i64 0) (.slice none 0 0)) := (h5o _ (by have := HLT.out; omega)).trans HJ.out.res
      have HT5 : Hid (TrC (fun j => w.heap.size < j ∧ j ≠ ga) w5 a (trL o n A c)) := HJ.out.tree.keep fun j hj => h5o j (by have := HLT.out; have := hj.1; omega)
      have HF5 : Hid (Frm (· = R) w w5) := by rw [hw5]; exact HJ.out.frm.setCell (p := ⟨R, 1, none⟩) (.inl rfl) _
      obtain ⟨rn, hrn⟩ : ∃ rn, rn = X r := ⟨_, rfl⟩
      have HO5 : Hid (∃ k, r.length ≤ k ∧ r0 = rn.bind fun b l1 => loopRd X ops.data.toList k (.bin x a b) l1) := by
       obtain ⟨k, hk, e⟩ := HJ.out.out
       obtain ⟨k2, rfl⟩ : ∃ k2, k = k2 + 1 := ⟨k - 1, by simp only [List.length_cons] at hk; omega⟩
       refine ⟨k2, by simp only [List.length_cons] at hk; omega, ?_⟩
       rw [e, hrn]; simp only [loopRd, if_pos hxm]
      have HNX : Hid (∀ W, RdL W R s r d → Frm (· = R) w W → Calls Tryz.prog K (first ++ cap) W (Reads_ R s d W rn)) := fun W h1 h2 => by
       rw [hrn]; exact HX.out r W h1 h2 (by have := HJ.out.le; simp only [List.length_cons] at this; omega)
      have HRN := Lib.hid hrn
      have HM5 : Hid (r.length < m) := by have := HJ.out.le; simp only [List.length_cons] at this; exact this
      obtain ⟨v0, v1, v2, vf⟩ := HV5.out.cells
      rw [← hw5]
      clear hw5 h5o hrn HJ HEX HST z0 z1 z2 zf c0 c1 c2 cf q0 q1 q2 qf hi hxm hx0
      cases rn with
      | bad k j =>
       have e0 : r0 = .bad k j := by obtain ⟨_, _, e⟩ := HO5.out; exact e
       subst e0
       have HC5 : Hid (Calls Tryz.prog K (first ++ cap) w5.drew fun e w7 => e = faultE (s.size - k) j ∧ (∃ p, RdAt w7 R s p d) ∧ Frm (· = R) w w7) := by
        refine (HNX.out w5.drew (HL5.out.keep rfl) HF5.out.drew).mono ?_
        rintro e w7 ⟨h1, h2, h3⟩
        exact ⟨h1, h2, frm_trans HF5.out.drew h3⟩
       clear HNX HX
       go_region_dies
       all_goals
        refine HC5.out.mono ?_
        rintro e w7 ⟨rfl, hp, hf⟩
        exact ⟨rfl, rfl, hp, hf⟩
      | ok b l3 =>
       have HC5 : Hid (Calls Tryz.prog K (first ++ cap) w5.drew fun e w7 => ∃ o7 n7 A7 c7, e = .returned (.agg #[.int .u8 o7, .int .i64 n7, .slice A7 c7 c7]) ∧ Hid (TrC (w5.heap.size ≤ ·) w7 b (trL o7 n7 A7 c7)) ∧ Hid (RdL w7 R s l3 d) ∧ Hid (Frm (· = R) w5 w7) ∧ Hid (TVar w7 ga (.int .u8 o) (.int .i64 n) (.slice A c c)) ∧
         w7.cell? ⟨ga, 0, none⟩ = some (.int .u8 o) ∧ w7.cell? ⟨ga, 1, none⟩ = some (.int .i64 n) ∧ w7.cell? ⟨ga, 2, none⟩ = some (.slice A c c) ∧ (∀ ob, (w7.alloc ob).cell? ⟨ga, 0, none⟩ = some (.int .u8 o)) ∧ (∀ ob, (w7.alloc ob).cell? ⟨ga, 1, none⟩ = some (.int .i64 n)) ∧ (∀ ob, (w7.alloc ob).cell? ⟨ga, 2, none⟩ = some (.slice A c c)) ∧ (∀ ob i, (w7.alloc ob).frozen? ⟨ga, i, none⟩ = false)) := by
        refine (HNX.out w5.drew (HL5.out.keep rfl) HF5.out.drew).mono ?_
        intro e w7 hr
        obtain ⟨o7, n7, A7, c7, rfl, ht, hl, hf⟩ := hr
        have hf2 : Frm (· = R) w5 w7 := frm_trans ((Frm.refl _ _).drew) hf
        have hv := HV5.out.frm hf2 (by have := HLT.out; have := HGA.out; omega)
        exact ⟨o7, n7, A7, c7, rfl, ht, hl, hf2, hv, hv.cells.1, hv.cells.2.1, hv.cells.2.2.1, hv.allocs.1, hv.allocs.2.1, hv.allocs.2.2.1, hv.allocs.2.2.2⟩
       clear HNX HX
       go_region_with (refine HC5.out.mono ?_; rintro e w7 ⟨o7, n7, A7, c7, rfl, HT7, HL7, HF7, HV7, y0, y1, y2, a0, a1, a2, af⟩)
       all_goals
        obtain ⟨W8, hW8⟩ : ∃ W8, W8 = tset (w7.alloc (.cells #[.int .u8 o, .int .i64 n, .slice A c c, .int .u8 o7, .int .i64 n7, .slice A7 c7 c7] 86)) ga (.int .u8 (x.toNat : Int)) (.int .i64 0) (.slice (some ⟨w7.heap.size, 0, none⟩) 2 2) := ⟨_, rfl⟩
        have hg7 : ga < w7.heap.size := block_lt HV7.out
        have h57 : w5.heap.size ≤ w7.heap.size := HF7.out.size
        have h5g : ga < w5.heap.size := block_lt HV5.out
        have h5z : w.heap.size < w5.heap.size := block_lt HZ5.out
        have hRg : R < ga := by have := HLT.out; have := HGA.out; omega
        have hRw := HLT.out
        have hwg := HGA.out
        have HI8 : Hid (RowInv R s d m w ga X ops.data.toList r0 (.bin x a b) l3 (x.toNat : Int) 0 (some ⟨w7.heap.size, 0, none⟩) 2 W8) := by
         have hz7 : TVar w7 w.heap.size (.int .u8 0) (.int .i64 0) (.slice none 0 0) := HZ5.out.frm HF7.out (by omega)
         obtain ⟨k, hk, e⟩ := HO5.out
         have hl3 := HS.out r b l3 HRN.out.symm
         have hm5 := HM5.out
         rw [hW8]
         refine ⟨four_rd HL7.out (by omega), four_var HV7.out, (four_far (block_lt hz7) (by omega)).trans hz7, ?_, four_frm (frm_trans HF5.out HF7.out) (by omega), ⟨k, by omega, e⟩, by omega⟩
         refine ⟨w7.heap.size, trL o n A c, trL o7 n7 A7 c7, rfl, ⟨⟨by omega, by omega⟩, four_new hg7⟩, ?_, ?_⟩
         ·have h1 : TrC (fun j => (w.heap.size < j ∧ j ≠ ga) ∧ j < w5.heap.size) w5 a (trL o n A c) := HT5.out.in_ fun j h1 h2 => ⟨h1, h2⟩
          have h2 : TrC (fun j => (w.heap.size < j ∧ j ≠ ga) ∧ j < w5.heap.size) w7 a (trL o n A c) := h1.keep fun j hj => HF7.out.block j hj.2 (by omega)
          exact (h2.keep fun j hj => four_far (by omega) hj.1.2).in_ fun j hj _ => hj.1
         ·have h1 : TrC (fun j => w5.heap.size ≤ j ∧ j < w7.heap.size) w7 b (trL o7 n7 A7 c7) := HT7.out.in_ fun j h1 h2 => ⟨h1, h2⟩
          exact (h1.keep fun j hj => four_far hj.2 (by omega)).in_ fun j hj _ => ⟨by omega, by omega⟩
        simp only [tset] at hW8
        rw [← hW8]
        clear hW8 HT7 HL7 HF7 HV7 y0 y1 y2 a0 a1 a2 af HT5 HL5 HF5 HV5 HZ5 v0 v1 v2 vf HC5 HO5
        go_wp2_with fail
        refine (peekL R s l3 d _ HI8.out.rd).mono ?_
        rintro e w9 ⟨rfl, q, rfl⟩
        go_wp2_with fail
        have hp8 : posOf R (W8.drewN q) = s.size - l3.length := posOf_rd (HI8.out.rd.keep rfl)
        have hl3 := HS.out r b l3 HRN.out.symm
        have hll := HI8.out.rd.1
        rw [hpos, hp8]
        refine ⟨⟨_, l3, _, _, _, _, rfl, ⟨HI8.out.rd.keep rfl, HI8.out.var, HI8.out.res, HI8.out.tree.keep fun _ _ => rfl, HI8.out.frm.drewN q, HI8.out.out, HI8.out.le⟩⟩, ?_⟩
        omega
     ·have hi := (index_mem ops.data.toList x).2 hxm
      have hr := HEX.out (HST.out fun x' r' e => by injection e with e _; subst e; exact hxm)
      go_wp2_with fail
      refine (indexb_ok ops x wr).mono ?_
      rintro e w4 ⟨rfl, rfl⟩
      rw [hi]
      go_wp2_with fail
      refine ⟨rfl, .agg (trA o n A c), ?_, hr⟩
      simp only [results, Tryz.results139]
      simp [go_sem, q0, q1, q2, trA]
end Go.Proofs.YtfndhfekbbbliaaGreatDoor

/-
  Package expr: the contracts of compared and of its closures. Conditions: the text takes at most 120 bytes, the depth is at most 20.
-/
namespace Go.Proofs.YtfndhfekbbbliaaGreatDoor
open Go.RowKit Go.Shelf
set_option linter.unusedVariables false
def RBox (w : World) (B R : Nat) : Prop := w.heap[B]? = some (.cells #[.pointer (some ⟨R, 0, none⟩)] 149 (0, 0))
theorem RBox.cell {w : World} {B R : Nat} (h : RBox w B R) : w.cell? ⟨B, 0, none⟩ = some (.pointer (some ⟨R, 0, none⟩)) := (cell_of_row w B 0 _ _ _ h).trans rfl
theorem RBox.frm {w w' : World} {B R : Nat} (h : RBox w B R) (hF : Frm (· = R) w w') (hB : B ≠ R) : RBox w' B R := (hF.block B (block_lt h) hB).trans h
set_option maxRecDepth 100000 in
set_option maxHeartbeats 4000000 in
theorem cmp1_reads {W : Reads} {m : Nat} (hW : ∀ d, Short (W d)) (hless : ReadsAs 141 (lessRd W) m) (R B : Nat) (s : ByteArray) (l : List UInt8) (d : Nat) (w : World) (hB : RBox w B R) (hBR : B ≠ R) (h : RdL w R s l d) (hs : s.size ≤ 120) (hd : d ≤ 20) (hm : l.length ≤ m) (hnv : NumVars w R) :
  Calls Tryz.prog 140 #[.pointer (some ⟨B, 0, none⟩)] w (Reads_ R s d w (mulRd W d l)) := by
 obtain ⟨r0, hr0⟩ : ∃ r0, r0 = mulRd W d l := ⟨_, rfl⟩
 have HR0 := Lib.hid hr0
 rw [← hr0]
 have hmf : ∀ (fn : Fn) (first cap : Array Value) (w : World), (Instr.makeFunc fn first cap).run Tryz.prog w = .ok (.func fn first cap) w := fun _ _ _ _ => rfl
 have HH := Lib.hid h
 have HB := Lib.hid hB
 have hb0 : ∀ ob, (w.alloc ob).cell? ⟨B, 0, none⟩ = some (.pointer (some ⟨R, 0, none⟩)) := fun ob => RBox.cell ((heap_alloc_old _ _ (block_lt hB)).trans hB)
 have hlt := h.lt
 have HLT := Lib.hid hlt
 have HBL : Hid (B < w.heap.size) := block_lt hB
 clear hr0 h hB
 go_enter Tryz.func140, Tryz.ntmps140
 go_wp2_with fail
 have HH1 : Hid (RdL (w.alloc (.cells #[.int .u8 0, .int .i64 0, .slice none 0 0] 86)) R s l d) := HH.out.keep (heap_alloc_old _ _ hlt)
 have HF1 : Hid (Frm (· = R) w (w.alloc (.cells #[.int .u8 0, .int .i64 0, .slice none 0 0] 86))) := (Frm.refl _ _).alloc _
 have HV1 : Hid (TVar (w.alloc (.cells #[.int .u8 0, .int .i64 0, .slice none 0 0] 86)) w.heap.size (.int .u8 0) (.int .i64 0) (.slice none 0 0)) := TVar.new _ _ _ _
 have hcall := row_reads R 141 s #[.pointer (some ⟨R, 0, none⟩)] #[] ⟨#[42, 47, 37]⟩ (lessRd W d) l d m _ HH1.out hs hd hm (fun _ _ => rfl) (less_short hW d) (fun l W2 h1 h2 h3 => hless R s l d W2 h1 hs hd h3 (hnv.frm (frm_trans HF1.out h2))) (by decide)
 have HC : Hid (Calls Tryz.prog 139 #[.pointer (some ⟨R, 0, none⟩), .string ⟨#[42, 47, 37]⟩, .func (.func 141) #[.pointer (some ⟨R, 0, none⟩)] #[]] (w.alloc (.cells #[.int .u8 0, .int .i64 0, .slice none 0 0] 86)) (Reads_ R s d (w.alloc (.cells #[.int .u8 0, .int .i64 0, .slice none 0 0] 86)) r0)) := by
  rw [HR0.out]; exact hcall
 clear hcall
 refine HC.out.mono ?_
 intro e w3 hr
 clear HR0
 cases r0 with
 | bad k j =>
  obtain ⟨rfl, hp, hf⟩ := hr
  exact ⟨rfl, rfl, hp, frm_trans HF1.out hf⟩
 | ok a l1 =>
  obtain ⟨o, n, A, ca, rfl, ht, hl, hf⟩ := hr
  have HT := Lib.hid ht
  have HL := Lib.hid hl
  have HF3 := Lib.hid (frm_trans HF1.out hf)
  have hV := HV1.out.frm hf (by have := HLT.out; omega)
  have HV3 := Lib.hid hV
  obtain ⟨v0, v1, v2, vf⟩ := hV.cells
  clear ht hl hf hV HV1 HH1 HF1
  simp only [trA]
  go_wp2_with fail
  obtain ⟨q0, q1, q2, qf⟩ := (pass_var (x := .int .u8 o) (y := .int .i64 n) (z := .slice A ca ca) HV3.out).cells
  simp only [tset] at q0 q1 q2
  refine ⟨rfl, .agg (trA o n A ca), ?_, pass_ok HT.out (fun j hj => by simp at hj; omega) HL.out HF3.out (by have := HLT.out; omega) (Nat.le_refl _)⟩
  simp only [results, Tryz.results140]
  simp [go_sem, q0, q1, q2, trA]
set_option maxRecDepth 100000 in
set_option maxHeartbeats 4000000 in
theorem cmp2_reads {W : Reads} {m : Nat} (hW : ∀ d, Short (W d)) (hless : ReadsAs 141 (lessRd W) m) (R B : Nat) (s : ByteArray) (l : List UInt8) (d : Nat) (w : World) (hB : RBox w B R) (hBR : B ≠ R) (h : RdL w R s l d) (hs : s.size ≤ 120) (hd : d ≤ 20) (hm : l.length ≤ m) (hnv : NumVars w R) :
  Calls Tryz.prog 143 #[.pointer (some ⟨B, 0, none⟩)] w (Reads_ R s d w (mulRd W d l)) := by
 obtain ⟨r0, hr0⟩ : ∃ r0, r0 = mulRd W d l := ⟨_, rfl⟩
 have HR0 := Lib.hid hr0
 rw [← hr0]
 have hmf : ∀ (fn : Fn) (first cap : Array Value) (w : World), (Instr.makeFunc fn first cap).run Tryz.prog w = .ok (.func fn first cap) w := fun _ _ _ _ => rfl
 have HH := Lib.hid h
 have HB := Lib.hid hB
 have hb0 : ∀ ob, (w.alloc ob).cell? ⟨B, 0, none⟩ = some (.pointer (some ⟨R, 0, none⟩)) := fun ob => RBox.cell ((heap_alloc_old _ _ (block_lt hB)).trans hB)
 have hlt := h.lt
 have HLT := Lib.hid hlt
 have HBL : Hid (B < w.heap.size) := block_lt hB
 clear hr0 h hB
 go_enter Tryz.func143, Tryz.ntmps143
 go_wp2_with fail
 have HH1 : Hid (RdL (w.alloc (.cells #[.int .u8 0, .int .i64 0, .slice none 0 0] 86)) R s l d) := HH.out.keep (heap_alloc_old _ _ hlt)
 have HF1 : Hid (Frm (· = R) w (w.alloc (.cells #[.int .u8 0, .int .i64 0, .slice none 0 0] 86))) := (Frm.refl _ _).alloc _
 have HV1 : Hid (TVar (w.alloc (.cells #[.int .u8 0, .int .i64 0, .slice none 0 0] 86)) w.heap.size (.int .u8 0) (.int .i64 0) (.slice none 0 0)) := TVar.new _ _ _ _
 have hcall := row_reads R 141 s #[.pointer (some ⟨R, 0, none⟩)] #[] ⟨#[42, 47, 37]⟩ (lessRd W d) l d m _ HH1.out hs hd hm (fun _ _ => rfl) (less_short hW d) (fun l W2 h1 h2 h3 => hless R s l d W2 h1 hs hd h3 (hnv.frm (frm_trans HF1.out h2))) (by decide)
 have HC : Hid (Calls Tryz.prog 139 #[.pointer (some ⟨R, 0, none⟩), .string ⟨#[42, 47, 37]⟩, .func (.func 141) #[.pointer (some ⟨R, 0, none⟩)] #[]] (w.alloc (.cells #[.int .u8 0, .int .i64 0, .slice none 0 0] 86)) (Reads_ R s d (w.alloc (.cells #[.int .u8 0, .int .i64 0, .slice none 0 0] 86)) r0)) := by
  rw [HR0.out]; exact hcall
 clear hcall
 refine HC.out.mono ?_
 intro e w3 hr
 clear HR0
 cases r0 with
 | bad k j =>
  obtain ⟨rfl, hp, hf⟩ := hr
  exact ⟨rfl, rfl, hp, frm_trans HF1.out hf⟩
 | ok a l1 =>
  obtain ⟨o, n, A, ca, rfl, ht, hl, hf⟩ := hr
  have HT := Lib.hid ht
  have HL := Lib.hid hl
  have HF3 := Lib.hid (frm_trans HF1.out hf)
  have hV := HV1.out.frm hf (by have := HLT.out; omega)
  have HV3 := Lib.hid hV
  obtain ⟨v0, v1, v2, vf⟩ := hV.cells
  clear ht hl hf hV HV1 HH1 HF1
  simp only [trA]
  go_wp2_with fail
  obtain ⟨q0, q1, q2, qf⟩ := (pass_var (x := .int .u8 o) (y := .int .i64 n) (z := .slice A ca ca) HV3.out).cells
  simp only [tset] at q0 q1 q2
  refine ⟨rfl, .agg (trA o n A ca), ?_, pass_ok HT.out (fun j hj => by simp at hj; omega) HL.out HF3.out (by have := HLT.out; omega) (Nat.le_refl _)⟩
  simp only [results, Tryz.results143]
  simp [go_sem, q0, q1, q2, trA]
set_option maxRecDepth 100000 in
set_option maxHeartbeats 8000000 in
theorem cmp_reads {W : Reads} {m : Nat} (hW : ∀ d, Short (W d)) (hless : ReadsAs 141 (lessRd W) m) : ReadsAs 116 (cmpRd W) m := by
 intro R s l d w h hs hd hm hnv
 obtain ⟨r1, hr1⟩ : ∃ r1, r1 = addRd W d l := ⟨_, rfl⟩
 obtain ⟨r0, hr0⟩ : ∃ r0, r0 = cmpRd W d l := ⟨_, rfl⟩
 have e0 : r0 = r1.bind (cmpTl W d) := by rw [hr0, hr1]; rfl
 rw [← hr0]
 have hmf : ∀ (fn : Fn) (first cap : Array Value) (w : World), (Instr.makeFunc fn first cap).run Tryz.prog w = .ok (.func fn first cap) w := fun _ _ _ _ => rfl
 have HR1 := Lib.hid hr1
 have HR0 := Lib.hid e0
 have HH := Lib.hid h
 have hlt := h.lt
 have HLT := Lib.hid hlt
 have HLESS := Lib.hid hless
 clear hr0 hr1 e0 h
 go_enter Tryz.func116, Tryz.ntmps116
 go_wp2_with fail
 obtain ⟨W1, hW1⟩ : ∃ W1, W1 = (w.alloc (.cells #[.pointer (some ⟨R, 0, none⟩)] 149)).alloc (.cells #[.int .u8 0, .int .i64 0, .slice none 0 0] 86) := ⟨_, rfl⟩
 have hs1 : W1.heap.size = w.heap.size + 2 := by rw [hW1]; simp
 have HH1 : Hid (RdL W1 R s l d) := by rw [hW1]; exact HH.out.keep ((heap_alloc_old _ _ (by simp; omega)).trans (heap_alloc_old _ _ hlt))
 have HF1 : Hid (Frm (· = R) w W1) := by rw [hW1]; exact ((Frm.refl _ _).alloc _).alloc _
 have HB1 : Hid (RBox W1 w.heap.size R) := by rw [hW1]; exact (heap_alloc_old _ _ (by simp)).trans (heap_alloc_new _ _)
 have HZ1 : Hid (TVar W1 (w.heap.size + 1) (.int .u8 0) (.int .i64 0) (.slice none 0 0)) := by
  show TVar _ _ _ _ _
  rw [hW1]
  have := heap_alloc_new (w.alloc (.cells #[.pointer (some ⟨R, 0, none⟩)] 149)) (.cells #[.int .u8 0, .int .i64 0, .slice none 0 0] 86)
  simpa [TVar] using this
 rw [← hW1]
 have HS1 := Lib.hid hs1
 clear hW1 HH hlt hs1
 have hcall := row_reads R 140 s #[] #[.pointer (some ⟨w.heap.size, 0, none⟩)] ⟨#[43, 45]⟩ (mulRd W d) l d m W1 HH1.out hs hd hm (fun _ _ => rfl) (row_short (less_short hW d) _) (fun l W2 h1 h2 h3 => cmp1_reads hW HLESS.out R w.heap.size s l d W2 (HB1.out.frm h2 (by have := HLT.out; omega)) (by have := HLT.out; omega) h1 hs hd h3 (hnv.frm (frm_trans HF1.out h2))) (by decide)
 have HC : Hid (Calls Tryz.prog 139 #[.pointer (some ⟨R, 0, none⟩), .string ⟨#[43, 45]⟩, .func (.func 140) #[] #[.pointer (some ⟨w.heap.size, 0, none⟩)]] W1 (Reads_ R s d W1 r1)) := by
  rw [HR1.out]; exact hcall
 clear hcall
 refine HC.out.mono ?_
 clear HC
 intro e w2 hr
 cases r1 with
 | bad k j =>
  obtain ⟨rfl, hp, hf⟩ := hr
  have e0 : r0 = .bad k j := HR0.out
  clear HR0
  subst e0
  exact ⟨rfl, rfl, hp, frm_trans HF1.out hf⟩
 | ok a l1 =>
  obtain ⟨o, n, A, c, rfl, ht, hl, hf⟩ := hr
  have e0 : r0 = cmpTl W d a l1 := HR0.out
  have HE0 := Lib.hid e0
  have hRw := HLT.out
  have hs2 := HS1.out
  have hs3 := hf.size
  have HL := Lib.hid hl
  have HB2 := Lib.hid (HB1.out.frm hf (by omega))
  have HZ2 := Lib.hid (HZ1.out.frm hf (by omega))
  have HF2 := Lib.hid (frm_trans HF1.out hf)
  have HT := Lib.hid ht
  have HM : Hid (l1.length < m) := by have := add_short hW d l a l1 HR1.out.symm; show _ < _; omega
  have hb0 : ∀ ob, (w2.alloc ob).cell? ⟨w.heap.size, 0, none⟩ = some (.pointer (some ⟨R, 0, none⟩)) := fun ob => RBox.cell ((heap_alloc_old _ _ (block_lt HB2.out)).trans HB2.out)
  clear ht hl hf HH1 HF1 HB1 HZ1 HS1 HR0 HR1 e0
  simp only [trA]
  go_wp2_with fail
  obtain ⟨ga, hga⟩ : ∃ ga, ga = w2.heap.size := ⟨_, rfl⟩
  obtain ⟨w3, hw3⟩ : ∃ w3, w3 = w2.alloc (.cells #[.int .u8 o, .int .i64 n, .slice A c c] 86) := ⟨_, rfl⟩
  have HL3 : Hid (RdL w3 R s l1 d) := by rw [hw3]; exact HL.out.keep (heap_alloc_old _ _ HL.out.lt)
  have HB3 : Hid (RBox w3 w.heap.size R) := by rw [hw3]; exact (heap_alloc_old _ _ (block_lt HB2.out)).trans HB2.out
  have HZ3 : Hid (TVar w3 (w.heap.size + 1) (.int .u8 0) (.int .i64 0) (.slice none 0 0)) := by rw [hw3]; exact (heap_alloc_old _ _ (block_lt HZ2.out)).trans HZ2.out
  have HV3 : Hid (TVar w3 ga (.int .u8 o) (.int .i64 n) (.slice A c c)) := by rw [hw3, hga]; exact TVar.new _ _ _ _
  have HF3 : Hid (Frm (· = R) w w3) := by rw [hw3]; exact HF2.out.alloc _
  have HT3 : Hid (TrC (fun j => w.heap.size + 2 ≤ j ∧ j < ga) w3 a (trL o n A c)) := by
   have h1 : TrC (fun j => w.heap.size + 2 ≤ j ∧ j < ga) w2 a (trL o n A c) := HT.out.in_ fun j h1 h2 => ⟨by omega, by omega⟩
   rw [hw3]; exact h1.keep fun j hj => heap_alloc_old _ _ (by omega)
  have HG3 : Hid (w.heap.size + 2 ≤ ga) := by rw [hga]; show _ ≤ _; omega
  rw [← hga, ← hw3]
  clear HL HB2 HZ2 HF2 HT hb0 hs2 hs3 hRw hw3 hga
  have hb3 := HB3.out.cell
  go_wp2_with fail
  refine (peekL R s l1 d _ HL3.out).mono ?_
  rintro e w4 ⟨rfl, q, rfl⟩
  have HL4 : Hid (RdL (w3.drewN q) R s l1 d) := HL3.out.keep rfl
  have HB4 : Hid (RBox (w3.drewN q) w.heap.size R) := HB3.out
  have HZ4 : Hid (TVar (w3.drewN q) (w.heap.size + 1) (.int .u8 0) (.int .i64 0) (.slice none 0 0)) := HZ3.out
  have HV4 : Hid (TVar (w3.drewN q) ga (.int .u8 o) (.int .i64 n) (.slice A c c)) := HV3.out
  have HF4 : Hid (Frm (· = R) w (w3.drewN q)) := HF3.out.drewN q
  have HT4 : Hid (TrC (fun j => w.heap.size + 2 ≤ j ∧ j < ga) (w3.drewN q) a (trL o n A c)) := HT3.out.keep fun _ _ => rfl
  generalize w3.drewN q = w4 at *
  clear HL3 HB3 HZ3 HV3 HF3 HT3 hb3
  obtain ⟨v0, v1, v2, vf⟩ := HV4.out.cells
  obtain ⟨z0, z1, z2, zf⟩ := HZ4.out.cells
  obtain ⟨c0, c1, c2, cf⟩ := HL4.out.2.2.cells
  have hb4 := HB4.out.cell
  have HEX : Hid (r0 = .ok a l1 → Reads_ R s d w r0 (.returned (.agg (trA o n A c))) (tset w4 (w.heap.size + 1) (.int .u8 o) (.int .i64 n) (.slice A c c))) := fun e => by
   subst e
   exact pass_ok HT4.out (fun j hj => by omega) HL4.out HF4.out (by have := HLT.out; omega) (by omega)
  obtain ⟨q0, q1, q2, qf⟩ := (pass_var (x := .int .u8 o) (y := .int .i64 n) (z := .slice A c c) HZ4.out).cells
  simp only [tset] at q0 q1 q2
  cases l1 with
  | nil =>
   have hr := HEX.out HE0.out
   have eh : headB [] = 0 := rfl
   rw [eh]
   go_wp2_with fail
   refine ⟨rfl, .agg (trA o n A c), ?_, hr⟩
   simp only [results, Tryz.results116]
   simp [go_sem, q0, q1, q2, trA]
  | cons x r =>
   have eh : headB (x :: r) = (x.toNat : Int) := rfl
   rw [eh]
   by_cases hx : x ∈ ([61, 60, 62] : List UInt8)
   ·have hcase : x = 61 ∨ x = 60 ∨ x = 62 := by simpa using hx
    have hE : r0 = (addRd W d r).bind fun b l2 => .ok (.bin x a b) l2 := by
     rw [HE0.out]; simp only [cmpTl, if_pos hx]
    have HE := Lib.hid hE
    have key : ((x.toNat : Int) == 61) = true ∨ (((x.toNat : Int) == 61) = false ∧ ((x.toNat : Int) == 60) = true) ∨ (((x.toNat : Int) == 61) = false ∧ ((x.toNat : Int) == 60) = false ∧ ((x.toNat : Int) == 62) = true) := by
     rcases hcase with e | e | e
     ·exact .inl (by rw [e]; rfl)
     ·exact .inr (.inl ⟨by rw [e]; rfl, by rw [e]; rfl⟩)
     ·exact .inr (.inr ⟨by rw [e]; rfl, by rw [e]; rfl, by rw [e]; rfl⟩)
    clear hE HE0 HEX q0 q1 q2 qf hx hcase
    rcases key with m1 | ⟨m1, m2⟩ | ⟨m1, m2, m3⟩
    all_goals
     go_wp2_with fail
     obtain ⟨w5, hw5⟩ : ∃ w5, w5 = w4.setCell ⟨R, 1, none⟩ (.int .i64 (((s.size - (r.length + 1) : Nat) : Int) + 1)) := ⟨_, rfl⟩
     have hRw := HLT.out
     have hg3 := HG3.out
     have HL5 : Hid (RdL w5 R s r d) := by
      have h1 := HL4.out.2.2.moved (s.size - (r.length + 1) + 1)
      have e2 : (((s.size - (r.length + 1) : Nat) : Int) + 1) = ((s.size - (r.length + 1) + 1 : Nat) : Int) := by omega
      rw [hw5, e2]
      exact HL4.out.on (n := 1) (by simp only [List.length_cons]; omega) rfl h1
     have h5o : ∀ j, j ≠ R → w5.heap[j]? = w4.heap[j]? := fun j hj => by rw [hw5]; exact Below.heap_setCell _ _ _ _ (by simpa using hj)
     have HV5 : Hid (TVar w5 ga (.int .u8 o) (.int .i64 n) (.slice A c c)) := (h5o ga (by omega)).trans HV4.out
     have HZ5 : Hid (TVar w5 (w.heap.size + 1) (.int .u8 0) (.int .i64 0) (.slice none 0 0)) := (h5o _ (by omega)).trans HZ4.out
     have HB5 : Hid (RBox w5 w.heap.size R) := (h5o _ (by omega)).trans HB4.out
     have HT5 : Hid (TrC (fun j => w.heap.size + 2 ≤ j ∧ j < ga) w5 a (trL o n A c)) := HT4.out.keep fun j hj => h5o j (by omega)
     have HF5 : Hid (Frm (· = R) w w5) := by rw [hw5]; exact HF4.out.setCell (p := ⟨R, 1, none⟩) (.inl rfl) _
     obtain ⟨rn, hrn⟩ : ∃ rn, rn = addRd W d r := ⟨_, rfl⟩
     have HE5 : Hid (r0 = rn.bind fun b l2 => .ok (.bin x a b) l2) := by rw [hrn]; exact HE.out
     have HC5 : Hid (Calls Tryz.prog 139 #[.pointer (some ⟨R, 0, none⟩), .string ⟨#[43, 45]⟩, .func (.func 143) #[] #[.pointer (some ⟨w.heap.size, 0, none⟩)]] w5.drew (Reads_ R s d w5.drew rn)) := by
      have hm2 := HM.out
      rw [hrn]
      exact row_reads R 143 s #[] #[.pointer (some ⟨w.heap.size, 0, none⟩)] ⟨#[43, 45]⟩ (mulRd W d) r d m w5.drew (HL5.out.keep rfl) hs hd (by simp only [List.length_cons] at hm2; omega) (fun _ _ => rfl) (row_short (less_short hW d) _) (fun l W2 h1 h2 h3 => cmp2_reads hW HLESS.out R w.heap.size s l d W2 (RBox.frm (show RBox w5.drew w.heap.size R from HB5.out) h2 (by omega)) (by omega) h1 hs hd h3 (hnv.frm (frm_trans HF5.out.drew h2))) (by decide)
     have hcells : ∀ W8 : World, TVar W8 ga (.int .u8 o) (.int .i64 n) (.slice A c c) → RBox W8 w.heap.size R → (W8.cell? ⟨ga, 0, none⟩ = some (.int .u8 o) ∧ W8.cell? ⟨ga, 1, none⟩ = some (.int .i64 n) ∧ W8.cell? ⟨ga, 2, none⟩ = some (.slice A c c) ∧ W8.cell? ⟨w.heap.size, 0, none⟩ = some (.pointer (some ⟨R, 0, none⟩))) := fun W8 h1 h2 => ⟨h1.cells.1, h1.cells.2.1, h1.cells.2.2.1, h2.cell⟩
     have hS0 : (w5.drew.cell? ⟨ga, 0, none⟩ = some (.int .u8 o) ∧ w5.drew.cell? ⟨ga, 1, none⟩ = some (.int .i64 n) ∧ w5.drew.cell? ⟨ga, 2, none⟩ = some (.slice A c c) ∧ w5.drew.cell? ⟨w.heap.size, 0, none⟩ = some (.pointer (some ⟨R, 0, none⟩))) := hcells w5.drew HV5.out HB5.out
     have HC6 : Hid (Calls Tryz.prog 139 #[.pointer (some ⟨R, 0, none⟩), .string ⟨#[43, 45]⟩, .func (.func 143) #[] #[.pointer (some ⟨w.heap.size, 0, none⟩)]] w5.drew fun e w7 => (∃ k j, rn = .bad k j ∧ e = faultE (s.size - k) j ∧ (∃ p, RdAt w7 R s p d) ∧ Frm (· = R) w5 w7) ∨
       ∃ b l3 o7 n7 A7 c7, Hid (rn = .ok b l3) ∧ e = .returned (.agg #[.int .u8 o7, .int .i64 n7, .slice A7 c7 c7]) ∧ Hid (TrC (w5.heap.size ≤ ·) w7 b (trL o7 n7 A7 c7)) ∧ Hid (RdL w7 R s l3 d) ∧ Hid (Frm (· = R) w5 w7) ∧ Hid (TVar w7 (w.heap.size + 1) (.int .u8 0) (.int .i64 0) (.slice none 0 0)) ∧
       (w7.cell? ⟨ga, 0, none⟩ = some (.int .u8 o) ∧ w7.cell? ⟨ga, 1, none⟩ = some (.int .i64 n) ∧ w7.cell? ⟨ga, 2, none⟩ = some (.slice A c c) ∧ w7.cell? ⟨w.heap.size, 0, none⟩ = some (.pointer (some ⟨R, 0, none⟩))) ∧ (∀ ob, ((w7.alloc ob).cell? ⟨ga, 0, none⟩ = some (.int .u8 o) ∧ (w7.alloc ob).cell? ⟨ga, 1, none⟩ = some (.int .i64 n) ∧ (w7.alloc ob).cell? ⟨ga, 2, none⟩ = some (.slice A c c) ∧ (w7.alloc ob).cell? ⟨w.heap.size, 0, none⟩ = some (.pointer (some ⟨R, 0, none⟩)))) ∧ (∀ ob x1 x2 x3, (((((w7.alloc ob).setCell ⟨w.heap.size + 1, 0, none⟩ x1).setCell ⟨w.heap.size + 1, 1, none⟩ x2).setCell ⟨w.heap.size + 1, 2, none⟩ x3).cell? ⟨ga, 0, none⟩ = some (.int .u8 o) ∧ ((((w7.alloc ob).setCell ⟨w.heap.size + 1, 0, none⟩ x1).setCell ⟨w.heap.size + 1, 1, none⟩ x2).setCell ⟨w.heap.size + 1, 2, none⟩ x3).cell? ⟨ga, 1, none⟩ = some (.int .i64 n) ∧ ((((w7.alloc ob).setCell ⟨w.heap.size + 1, 0, none⟩ x1).setCell ⟨w.heap.size + 1, 1, none⟩ x2).setCell ⟨w.heap.size + 1, 2, none⟩ x3).cell? ⟨ga, 2, none⟩ = some (.slice A c c) ∧ ((((w7.alloc ob).setCell ⟨w.heap.size + 1, 0, none⟩ x1).setCell ⟨w.heap.size + 1, 1, none⟩ x2).setCell ⟨w.heap.size + 1, 2, none⟩ x3).cell? ⟨w.heap.size, 0, none⟩ = some (.pointer (some ⟨R, 0, none⟩)))) ∧ (∀ ob, (w7.alloc ob).cell? ⟨w.heap.size + 1, 0, none⟩ = some (.int .u8 0)) ∧ (∀ ob, (w7.alloc ob).cell? ⟨w.heap.size + 1, 1, none⟩ = some (.int .i64 0)) ∧ (∀ ob, (w7.alloc ob).cell? ⟨w.heap.size + 1, 2, none⟩ = some (.slice none 0 0)) ∧ (∀ ob i, (w7.alloc ob).frozen? ⟨w.heap.size + 1, i, none⟩ = false)) := by
      refine HC5.out.mono ?_
      intro e w7 hr
      cases hcr : rn with
      | bad k j =>
       rw [hcr] at hr
       obtain ⟨h1, h2, h3⟩ := hr
       exact .inl ⟨k, j, rfl, h1, h2, frm_trans ((Frm.refl _ _).drew) h3⟩
      | ok b l3 =>
       rw [hcr] at hr
       obtain ⟨o7, n7, A7, c7, rfl, ht, hl, hf⟩ := hr
       have hf2 : Frm (· = R) w5 w7 := frm_trans ((Frm.refl _ _).drew) hf
       have hv := HV5.out.frm hf2 (by omega)
       have hb := HB5.out.frm hf2 (by omega)
       have hz := HZ5.out.frm hf2 (by omega)
       have far : ∀ ob (x y z : Value) (j : Nat), j < w7.heap.size → j ≠ w.heap.size + 1 → (tset (w7.alloc ob) (w.heap.size + 1) x y z).heap[j]? = w7.heap[j]? := fun ob x y z j h1 h2 => four_far (k := w.heap.size + 1) h1 h2
       exact .inr ⟨b, l3, o7, n7, A7, c7, rfl, rfl, ht, hl, hf2, hz, hcells w7 hv hb, fun ob => hcells (w7.alloc ob) ((heap_alloc_old _ _ (block_lt hv)).trans hv) ((heap_alloc_old _ _ (block_lt hb)).trans hb), fun ob x y z => hcells _ ((far ob x y z ga (block_lt hv) (by omega)).trans hv) ((far ob x y z w.heap.size (block_lt hb) (by omega)).trans hb), hz.allocs.1, hz.allocs.2.1, hz.allocs.2.2.1, hz.allocs.2.2.2⟩
     have HBAD : Hid (∀ k j w8, rn = .bad k j → (∃ p, RdAt w8 R s p d) → Frm (· = R) w5 w8 → Reads_ R s d w r0 (faultE (s.size - k) j) w8) := fun k j w8 h1 h2 h3 => by
      have e0 : r0 = .bad k j := by rw [HE5.out, h1]; rfl
      rw [e0]; exact ⟨rfl, h2, frm_trans HF5.out h3⟩
     rw [← hw5]
     clear hw5 h5o hrn HL4 HV4 HZ4 HB4 HT4 HF4 HE v0 v1 v2 vf z0 z1 z2 zf c0 c1 c2 cf hb4 HC5 hcells HB5
     go_region_held2 (fun W => W.cell? ⟨ga, 0, none⟩ = some (.int .u8 o) ∧ W.cell? ⟨ga, 1, none⟩ = some (.int .i64 n) ∧ W.cell? ⟨ga, 2, none⟩ = some (.slice A c c) ∧ W.cell? ⟨w.heap.size, 0, none⟩ = some (.pointer (some ⟨R, 0, none⟩))) (first | with_reducible exact hS0 | with_reducible exact hS7 | with_reducible exact hS7a _ | with_reducible exact hS7b _ _ _ _) (first
      | (go_at_call 139; refine HC6.out.mono ?_; rintro e w7 (⟨k, j, h1, rfl, h2, h3⟩ | ⟨b, l3, o7, n7, A7, c7, HRN, rfl, HT7, HL7, HF7, HZ7, hS7, hS7a, hS7b, a0, a1, a2, af⟩); exact ⟨rfl, HBAD.out k j w7 h1 h2 h3⟩))
     all_goals
      have hg5 : ga < w5.heap.size := block_lt HV5.out
      have h57 : w5.heap.size ≤ w7.heap.size := HF7.out.size
      have e0 : r0 = .ok (.bin x a b) l3 := by rw [HE5.out, HRN.out]; rfl
      obtain ⟨q0, q1, q2, qf⟩ := (four_var (x := .int .u8 (x.toNat : Int)) (y := .int .i64 0) (z := .slice (some ⟨w7.heap.size, 0, none⟩) 2 2) (ob := (.cells #[.int .u8 o, .int .i64 n, .slice A c c, .int .u8 o7, .int .i64 n7, .slice A7 c7 c7] 86)) HZ7.out).cells
      have hfin : Reads_ R s d w r0 (.returned (.agg (trA (x.toNat : Int) 0 (some ⟨w7.heap.size, 0, none⟩) 2))) (tset (w7.alloc (.cells #[.int .u8 o, .int .i64 n, .slice A c c, .int .u8 o7, .int .i64 n7, .slice A7 c7 c7] 86)) (w.heap.size + 1) (.int .u8 (x.toNat : Int)) (.int .i64 0) (.slice (some ⟨w7.heap.size, 0, none⟩) 2 2)) := by
       rw [e0]
       refine ⟨(x.toNat : Int), 0, some ⟨w7.heap.size, 0, none⟩, 2, rfl, ⟨w7.heap.size, trL o n A c, trL o7 n7 A7 c7, rfl, ⟨by omega, four_new (block_lt HZ7.out)⟩, ?_, ?_⟩, four_rd HL7.out (by omega), four_frm (frm_trans HF5.out HF7.out) (by omega)⟩
       ·have h2 : TrC (fun j => w.heap.size + 2 ≤ j ∧ j < ga) w7 a (trL o n A c) := HT5.out.keep fun j hj => HF7.out.block j (by omega) (by omega)
        exact four_tree h2 fun j hj => by omega
       ·exact four_tree HT7.out fun j hj => by omega
      have HFIN := Lib.hid hfin
      clear hfin e0 HT7 HL7 HF7 HZ7 HRN hS7 hS7a hS7b hS0 a0 a1 a2 af HC6 HBAD HE5 HT5 HF5 HL5 HV5 HZ5
      simp only [tset] at q0 q1 q2
      go_wp2_with fail
      refine ⟨rfl, .agg (trA (x.toNat : Int) 0 (some ⟨w7.heap.size, 0, none⟩) 2), ?_, HFIN.out⟩
      simp only [results, Tryz.results116]
      simp [go_sem, q0, q1, q2, trA]
   ·have n1 : ((x.toNat : Int) == 61) = false := beq_eq_false_iff_ne.2 fun e => hx (by rw [show x = 61 from UInt8.toNat_inj.1 (by show x.toNat = 61; omega)]; decide)
    have n2 : ((x.toNat : Int) == 60) = false := beq_eq_false_iff_ne.2 fun e => hx (by rw [show x = 60 from UInt8.toNat_inj.1 (by show x.toNat = 60; omega)]; decide)
    have n3 : ((x.toNat : Int) == 62) = false := beq_eq_false_iff_ne.2 fun e => hx (by rw [show x = 62 from UInt8.toNat_inj.1 (by show x.toNat = 62; omega)]; decide)
    have hr := HEX.out (by rw [HE0.out]; simp only [cmpTl, if_neg hx])
    go_wp2_with fail
    refine ⟨rfl, .agg (trA o n A c), ?_, hr⟩
    simp only [results, Tryz.results116]
    simp [go_sem, q0, q1, q2, trA]
end Go.Proofs.YtfndhfekbbbliaaGreatDoor

/-
  Package expr: the contract of whole. Conditions: the text takes at most 120 bytes, the depth is at most 20.
-/
namespace Go.Proofs.YtfndhfekbbbliaaGreatDoor
open Go.RowKit Go.Shelf
set_option linter.unusedVariables false
def ReadsLt (f : Nat) (X : Reads) (m : Nat) : Prop := ∀ (R : Nat) (s : ByteArray) (l : List UInt8) (d : Nat) (w : World), RdL w R s l d → s.size ≤ 120 → d ≤ 20 → l.length < m → NumVars w R → Calls Tryz.prog f #[.pointer (some ⟨R, 0, none⟩)] w (Reads_ R s d w (X d l))
theorem new_tree {F : Nat → Prop} {w w2 : World} {R d : Nat} {s : ByteArray} {l : List UInt8} {t : Tr} {o n : Int} {A : Option Addr} {c : Nat} (ht : TrC F w2 t (trL o n A c)) (hl : RdL w2 R s l d) (hf : Frm (· = R) w w2) :
  ∃ w3, w3 = w2.alloc (.cells #[.int .u8 o, .int .i64 n, .slice A c c] 86) ∧ Hid (RdL w3 R s l d) ∧ Hid (TVar w3 w2.heap.size (.int .u8 o) (.int .i64 n) (.slice A c c)) ∧ Hid (TrC (fun j => F j ∧ j < w2.heap.size) w3 t (trL o n A c)) ∧ Hid (Frm (· = R) w2 w3) ∧ w3.heap.size = w2.heap.size + 1 := by
 refine ⟨_, rfl, hl.keep (heap_alloc_old _ _ hl.lt), TVar.new _ _ _ _, ?_, (Frm.refl _ _).alloc _, by simp⟩
 have h1 : TrC (fun j => F j ∧ j < w2.heap.size) w2 t (trL o n A c) := ht.in_ fun j h1 h2 => ⟨h1, h2⟩
 exact h1.keep fun j hj => heap_alloc_old _ _ hj.2
theorem TrC.frm {F : Nat → Prop} {w w' : World} {R : Nat} {t : Tr} {cs : List Value} (h : TrC F w t cs) (hF : Frm (· = R) w w') (hR : ∀ j, F j → j ≠ R) : TrC F w' t cs := by
 have h1 : TrC (fun j => F j ∧ j < w.heap.size) w t cs := h.in_ fun j h1 h2 => ⟨h1, h2⟩
 exact (h1.keep fun j hj => hF.block j hj.2 (hR j hj.1)).in_ fun j h _ => h.1
theorem want_fails {c : UInt8} {l : List UInt8} (f : List UInt8 → Rd) (h : ∀ r, l ≠ c :: r) : wantRd c l f = .bad l.length 2 := by
 cases l with
 | nil => rfl
 | cons x r => simp only [wantRd, if_neg (fun e : x = c => h r (e ▸ rfl))]
set_option maxRecDepth 100000 in
set_option maxHeartbeats 8000000 in
theorem whole_reads {W : Reads} {m : Nat} (hS : ∀ d, Short (W d)) (hcmp : ReadsAs 116 (cmpRd W) m) (hW : ReadsLt 84 W m) : ReadsAs 84 (wholeStep W) m := by
 intro R s l d w h hs hd hm hnv
 obtain ⟨r1, hr1⟩ : ∃ r1, r1 = cmpRd W d l := ⟨_, rfl⟩
 obtain ⟨r0, hr0⟩ : ∃ r0, r0 = wholeStep W d l := ⟨_, rfl⟩
 have e0 : r0 = r1.bind (selRd W d) := by rw [hr0, hr1]; rfl
 rw [← hr0]
 have hmf : ∀ (fn : Fn) (first cap : Array Value) (w : World), (Instr.makeFunc fn first cap).run Tryz.prog w = .ok (.func fn first cap) w := fun _ _ _ _ => rfl
 have hK : ∀ args w, (callFunc 84 args).run Tryz.prog w = .ok (.enter 84 args) w := fun _ _ => rfl
 have HR1 := Lib.hid hr1
 have HR0 := Lib.hid e0
 have HH := Lib.hid h
 have hlt := h.lt
 have HLT := Lib.hid hlt
 have HW := Lib.hid hW
 have HS := Lib.hid hS
 clear hr0 hr1 e0 h hW hS
 go_enter Tryz.func84, Tryz.ntmps84
 go_wp2_with fail
 have HH1 : Hid (RdL (w.alloc (.cells #[.int .u8 0, .int .i64 0, .slice none 0 0] 86)) R s l d) := HH.out.keep (heap_alloc_old _ _ hlt)
 have HF1 : Hid (Frm (· = R) w (w.alloc (.cells #[.int .u8 0, .int .i64 0, .slice none 0 0] 86))) := (Frm.refl _ _).alloc _
 have HV1 : Hid (TVar (w.alloc (.cells #[.int .u8 0, .int .i64 0, .slice none 0 0] 86)) w.heap.size (.int .u8 0) (.int .i64 0) (.slice none 0 0)) := TVar.new _ _ _ _
 have HC : Hid (Calls Tryz.prog 116 #[.pointer (some ⟨R, 0, none⟩)] (w.alloc (.cells #[.int .u8 0, .int .i64 0, .slice none 0 0] 86)) (Reads_ R s d (w.alloc (.cells #[.int .u8 0, .int .i64 0, .slice none 0 0] 86)) r1)) := by
  rw [HR1.out]; exact hcmp R s l d _ HH1.out hs hd hm (hnv.frm HF1.out)
 refine HC.out.mono ?_
 clear HC hlt
 intro e w2 hr
 cases r1 with
 | bad k j =>
  obtain ⟨rfl, hp, hf⟩ := hr
  have e0 : r0 = .bad k j := HR0.out
  clear HR0
  subst e0
  exact ⟨rfl, rfl, hp, frm_trans HF1.out hf⟩
 | ok a l1 =>
  obtain ⟨o, n, A, c, rfl, ht, hl, hf⟩ := hr
  have HE0 : Hid (r0 = selRd W d a l1) := HR0.out
  have hRw := HLT.out
  have HM : Hid (l1.length < m) := by have := cmp_short HS.out d l a l1 HR1.out.symm; show _ < _; omega
  obtain ⟨w3, hw3, HL3, HV3, HT3, HF3, hs3⟩ := new_tree ht hl hf
  have hf2 := hf.size
  have hz2 := HV1.out.frm hf (by omega)
  have HZ3 := Lib.hid (hz2.frm HF3.out (by omega))
  have HFW := Lib.hid (frm_trans (frm_trans HF1.out hf) HF3.out)
  have HG : Hid (w.heap.size < w2.heap.size) := block_lt hz2
  obtain ⟨ga, hga⟩ : ∃ ga, ga = w2.heap.size := ⟨_, rfl⟩
  have HT3b : Hid (TrC (fun j => w.heap.size < j ∧ j < ga) w3 a (trL o n A c)) := HT3.out.in_ fun j h1 _ => by have := h1.1; simp at this; omega
  have hc1 := hl.allocs
  clear ht hl hf HH1 HF1 HV1 HR0 HR1 hf2 hz2 HH HT3 HF3
  simp only [trA]
  go_wp2_with fail
  rw [← hw3]
  rw [← hga] at HV3 HG ⊢
  clear hw3 hga hs3 hc1
  by_cases hq : ∃ l2, l1 = 63 :: l2
  ·obtain ⟨l2, rfl⟩ := hq
   refine (hasL_yes R s ⟨#[63]⟩ (63 :: l2) l2 d _ HL3.out hs rfl).mono ?_
   rintro e w4 ⟨rfl, h4, f4⟩
   have HL4 := Lib.hid h4
   have HV4 := Lib.hid (HV3.out.frm f4 (by have := HLT.out; have := HG.out; omega))
   have HZ4 := Lib.hid (HZ3.out.frm f4 (by have := HLT.out; omega))
   have HT4 : Hid (TrC (fun j => w.heap.size < j ∧ j < ga) w4 a (trL o n A c)) := HT3b.out.frm f4 fun j hj => by have := HLT.out; omega
   have HF4 := Lib.hid (frm_trans HFW.out f4)
   clear h4 f4 HL3 HV3 HZ3 HT3b HFW
   go_wp2_with fail
   obtain ⟨r2, hr2⟩ : ∃ r2, r2 = deepRd d (l2.length + 1) (W (d + 1) l2) := ⟨_, rfl⟩
   have HE1 : Hid (r0 = r2.bind fun b l3 => wantRd 58 l3 fun l4 => (W (d + 1) l4).bind fun c l5 => .ok (.sel a b c) l5) := by
    show _ = _
    rw [HE0.out, hr2, deep_bind]; simp only [selRd, if_true]
   have HC : Hid (Calls Tryz.prog 118 #[.pointer (some ⟨R, 0, none⟩), .int .i64 ((s.size - (l2.length + 1) : Nat) : Int), .func (.func 84) #[.pointer (some ⟨R, 0, none⟩)] #[]] w4 (Reads_ R s d w4 r2)) := by
    have hm2 := HM.out
    rw [hr2]
    exact withinL R (l2.length + 1) d 84 s l2 #[.pointer (some ⟨R, 0, none⟩)] #[] w4 (W (d + 1) l2) HL4.out hd hK (fun hne W2 hW2 hF => HW.out R s l2 (d + 1) W2 hW2 hs (by omega) (by simp only [List.length_cons] at hm2; omega) (hnv.frm (frm_trans HF4.out hF)))
   have HD : Hid (∀ t l, r2 = .ok t l → d ≠ 20 ∧ W (d + 1) l2 = .ok t l) := fun t l e => by rw [hr2] at e; exact deep_ok e
   clear hr2 HE0
   refine HC.out.mono ?_
   clear HC
   intro e w5 hr
   cases r2 with
   | bad k j =>
    obtain ⟨rfl, hp, hf⟩ := hr
    have e0 : r0 = .bad k j := HE1.out
    clear HE1
    subst e0
    exact ⟨rfl, rfl, hp, frm_trans HF4.out hf⟩
   | ok b l3 =>
    obtain ⟨o2, n2, A2, d2, rfl, ht, hl, hf⟩ := hr
    have HE2 : Hid (r0 = wantRd 58 l3 fun l4 => (W (d + 1) l4).bind fun c l5 => .ok (.sel a b c) l5) := HE1.out
    have hRw := HLT.out
    have hgw := HG.out
    obtain ⟨hd20, hWb⟩ := HD.out b l3 rfl
    have HM3 : Hid (l3.length < m) := by
     have := HS.out (d + 1) l2 b l3 hWb
     have hm2 := HM.out
     simp only [List.length_cons] at hm2
     show _ < _; omega
    obtain ⟨w6, hw6, HL6, HB6, HTB6, HF6, hs6⟩ := new_tree ht hl hf
    have hfs := hf.size
    have hva := HV4.out.frm hf (by omega)
    have hvz := HZ4.out.frm hf (by omega)
    have hta : TrC (fun j => w.heap.size < j ∧ j < ga) w5 a (trL o n A c) := HT4.out.frm hf fun j hj => by omega
    have hg4 : ga < w4.heap.size := block_lt HV4.out
    have HV6 := Lib.hid (hva.frm HF6.out (by omega))
    have HZ6 := Lib.hid (hvz.frm HF6.out (by omega))
    have HT6 := Lib.hid (hta.frm HF6.out fun j hj => by omega)
    have HFW6 := Lib.hid (frm_trans (frm_trans HF4.out hf) HF6.out)
    obtain ⟨gb, hgb⟩ : ∃ gb, gb = w5.heap.size := ⟨_, rfl⟩
    have HTB : Hid (TrC (fun j => ga < j ∧ j < gb) w6 b (trL o2 n2 A2 d2)) := HTB6.out.in_ fun j h1 _ => by have := h1.1; have := h1.2; omega
    have HG6 : Hid (ga < gb) := by show _ < _; omega
    have hc1 := hl.allocs
    clear ht hl hf HE1 hWb HD hva hvz hta HV4 HZ4 HT4 HF4 HL4 HTB6 HF6 hfs hg4
    simp only [trA]
    go_wp2_with fail
    rw [← hw6]
    rw [← hgb] at HB6 ⊢
    clear hw6 hgb hs6 hc1
    by_cases hq : ∃ l4, l3 = 58 :: l4
    ·obtain ⟨l4, rfl⟩ := hq
     refine (wantL_yes R s 58 l4 d _ HL6.out hs).mono ?_
     rintro e w7 ⟨rfl, h7, f7⟩
     have HL7 := Lib.hid h7
     have HV7 := Lib.hid (HV6.out.frm f7 (by omega))
     have HB7 := Lib.hid (HB6.out.frm f7 (by have := HG6.out; omega))
     have HZ7 := Lib.hid (HZ6.out.frm f7 (by omega))
     have HT7 := Lib.hid (HT6.out.frm f7 fun j hj => by omega)
     have HTB7 := Lib.hid (HTB.out.frm f7 fun j hj => by omega)
     have HF7 := Lib.hid (frm_trans HFW6.out f7)
     clear h7 f7 HL6 HV6 HB6 HZ6 HT6 HTB HFW6
     go_wp2_with fail
     obtain ⟨rn, hrn⟩ : ∃ rn, rn = W (d + 1) l4 := ⟨_, rfl⟩
     have HE5 : Hid (r0 = rn.bind fun c l5 => .ok (.sel a b c) l5) := by
      show _ = _
      rw [hrn, HE2.out]; simp only [wantRd, if_true]
     have HC5 : Hid (Calls Tryz.prog 118 #[.pointer (some ⟨R, 0, none⟩), .int .i64 ((s.size - (l4.length + 1) : Nat) : Int), .func (.func 84) #[.pointer (some ⟨R, 0, none⟩)] #[]] w7.drew (Reads_ R s d w7.drew rn)) := by
      have hm3 := HM3.out
      have e : rn = deepRd d (l4.length + 1) (W (d + 1) l4) := by unfold deepRd; rw [if_neg hd20]; exact hrn
      rw [e]
      exact withinL R (l4.length + 1) d 84 s l4 #[.pointer (some ⟨R, 0, none⟩)] #[] w7.drew (W (d + 1) l4) (HL7.out.keep rfl) hd hK (fun hne W2 hW2 hF => HW.out R s l4 (d + 1) W2 hW2 hs (by omega) (by simp only [List.length_cons] at hm3; omega) (hnv.frm (frm_trans HF7.out.drew hF)))
     have hcells : ∀ W8 : World, TVar W8 ga (.int .u8 o) (.int .i64 n) (.slice A c c) → TVar W8 gb (.int .u8 o2) (.int .i64 n2) (.slice A2 d2 d2) → (W8.cell? ⟨ga, 0, none⟩ = some (.int .u8 o) ∧ W8.cell? ⟨ga, 1, none⟩ = some (.int .i64 n) ∧ W8.cell? ⟨ga, 2, none⟩ = some (.slice A c c) ∧ W8.cell? ⟨gb, 0, none⟩ = some (.int .u8 o2) ∧ W8.cell? ⟨gb, 1, none⟩ = some (.int .i64 n2) ∧ W8.cell? ⟨gb, 2, none⟩ = some (.slice A2 d2 d2)) := fun W8 h1 h2 => ⟨h1.cells.1, h1.cells.2.1, h1.cells.2.2.1, h2.cells.1, h2.cells.2.1, h2.cells.2.2.1⟩
     have hS0 : (w7.drew.cell? ⟨ga, 0, none⟩ = some (.int .u8 o) ∧ w7.drew.cell? ⟨ga, 1, none⟩ = some (.int .i64 n) ∧ w7.drew.cell? ⟨ga, 2, none⟩ = some (.slice A c c) ∧ w7.drew.cell? ⟨gb, 0, none⟩ = some (.int .u8 o2) ∧ w7.drew.cell? ⟨gb, 1, none⟩ = some (.int .i64 n2) ∧ w7.drew.cell? ⟨gb, 2, none⟩ = some (.slice A2 d2 d2)) := hcells w7.drew HV7.out HB7.out
     have HC6 : Hid (Calls Tryz.prog 118 #[.pointer (some ⟨R, 0, none⟩), .int .i64 ((s.size - (l4.length + 1) : Nat) : Int), .func (.func 84) #[.pointer (some ⟨R, 0, none⟩)] #[]] w7.drew fun e w8 => (∃ k j, rn = .bad k j ∧ e = faultE (s.size - k) j ∧ (∃ p, RdAt w8 R s p d) ∧ Frm (· = R) w7 w8) ∨
       ∃ e5 l5 o8 n8 A8 d8, Hid (rn = .ok e5 l5) ∧ e = .returned (.agg #[.int .u8 o8, .int .i64 n8, .slice A8 d8 d8]) ∧ Hid (TrC (w7.heap.size ≤ ·) w8 e5 (trL o8 n8 A8 d8)) ∧ Hid (RdL w8 R s l5 d) ∧ Hid (Frm (· = R) w7 w8) ∧ Hid (TVar w8 w.heap.size (.int .u8 0) (.int .i64 0) (.slice none 0 0)) ∧
       (w8.cell? ⟨ga, 0, none⟩ = some (.int .u8 o) ∧ w8.cell? ⟨ga, 1, none⟩ = some (.int .i64 n) ∧ w8.cell? ⟨ga, 2, none⟩ = some (.slice A c c) ∧ w8.cell? ⟨gb, 0, none⟩ = some (.int .u8 o2) ∧ w8.cell? ⟨gb, 1, none⟩ = some (.int .i64 n2) ∧ w8.cell? ⟨gb, 2, none⟩ = some (.slice A2 d2 d2)) ∧ (∀ ob, ((w8.alloc ob).cell? ⟨ga, 0, none⟩ = some (.int .u8 o) ∧ (w8.alloc ob).cell? ⟨ga, 1, none⟩ = some (.int .i64 n) ∧ (w8.alloc ob).cell? ⟨ga, 2, none⟩ = some (.slice A c c) ∧ (w8.alloc ob).cell? ⟨gb, 0, none⟩ = some (.int .u8 o2) ∧ (w8.alloc ob).cell? ⟨gb, 1, none⟩ = some (.int .i64 n2) ∧ (w8.alloc ob).cell? ⟨gb, 2, none⟩ = some (.slice A2 d2 d2))) ∧ (∀ ob x y z, (((((w8.alloc ob).setCell ⟨w.heap.size, 0, none⟩ x).setCell ⟨w.heap.size, 1, none⟩ y).setCell ⟨w.heap.size, 2, none⟩ z).cell? ⟨ga, 0, none⟩ = some (.int .u8 o) ∧ ((((w8.alloc ob).setCell ⟨w.heap.size, 0, none⟩ x).setCell ⟨w.heap.size, 1, none⟩ y).setCell ⟨w.heap.size, 2, none⟩ z).cell? ⟨ga, 1, none⟩ = some (.int .i64 n) ∧ ((((w8.alloc ob).setCell ⟨w.heap.size, 0, none⟩ x).setCell ⟨w.heap.size, 1, none⟩ y).setCell ⟨w.heap.size, 2, none⟩ z).cell? ⟨ga, 2, none⟩ = some (.slice A c c) ∧ ((((w8.alloc ob).setCell ⟨w.heap.size, 0, none⟩ x).setCell ⟨w.heap.size, 1, none⟩ y).setCell ⟨w.heap.size, 2, none⟩ z).cell? ⟨gb, 0, none⟩ = some (.int .u8 o2) ∧ ((((w8.alloc ob).setCell ⟨w.heap.size, 0, none⟩ x).setCell ⟨w.heap.size, 1, none⟩ y).setCell ⟨w.heap.size, 2, none⟩ z).cell? ⟨gb, 1, none⟩ = some (.int .i64 n2) ∧ ((((w8.alloc ob).setCell ⟨w.heap.size, 0, none⟩ x).setCell ⟨w.heap.size, 1, none⟩ y).setCell ⟨w.heap.size, 2, none⟩ z).cell? ⟨gb, 2, none⟩ = some (.slice A2 d2 d2))) ∧
       (∀ ob, (w8.alloc ob).cell? ⟨w.heap.size, 0, none⟩ = some (.int .u8 0)) ∧ (∀ ob, (w8.alloc ob).cell? ⟨w.heap.size, 1, none⟩ = some (.int .i64 0)) ∧ (∀ ob, (w8.alloc ob).cell? ⟨w.heap.size, 2, none⟩ = some (.slice none 0 0)) ∧ (∀ ob i, (w8.alloc ob).frozen? ⟨w.heap.size, i, none⟩ = false)) := by
      refine HC5.out.mono ?_
      intro e w8 hr
      cases hcr : rn with
      | bad k j =>
       rw [hcr] at hr
       obtain ⟨h1, h2, h3⟩ := hr
       exact .inl ⟨k, j, rfl, h1, h2, frm_trans ((Frm.refl _ _).drew) h3⟩
      | ok e5 l5 =>
       rw [hcr] at hr
       obtain ⟨o8, n8, A8, d8, rfl, ht, hl, hf⟩ := hr
       have hf2 : Frm (· = R) w7 w8 := frm_trans ((Frm.refl _ _).drew) hf
       have hg6 := HG6.out
       have hv := HV7.out.frm hf2 (by omega)
       have hb := HB7.out.frm hf2 (by omega)
       have hz := HZ7.out.frm hf2 (by omega)
       have far : ∀ ob (x y z : Value) (j : Nat), j < w8.heap.size → j ≠ w.heap.size → ((((w8.alloc ob).setCell ⟨w.heap.size, 0, none⟩ x).setCell ⟨w.heap.size, 1, none⟩ y).setCell ⟨w.heap.size, 2, none⟩ z).heap[j]? = w8.heap[j]? := fun ob x y z j h1 h2 => four_far (k := w.heap.size) h1 h2
       exact .inr ⟨e5, l5, o8, n8, A8, d8, rfl, rfl, ht, hl, hf2, hz, hcells w8 hv hb, fun ob => hcells (w8.alloc ob) ((heap_alloc_old _ _ (block_lt hv)).trans hv) ((heap_alloc_old _ _ (block_lt hb)).trans hb), fun ob x y z => hcells _ ((far ob x y z ga (block_lt hv) (by omega)).trans hv) ((far ob x y z gb (block_lt hb) (by omega)).trans hb), hz.allocs.1, hz.allocs.2.1, hz.allocs.2.2.1, hz.allocs.2.2.2⟩
     have HFIN : Hid (∀ (e5 : Tr) (l5 : List UInt8) (o8 n8 : Int) (A8 : Option Addr) (d8 : Nat) (w8 : World), Hid (rn = .ok e5 l5) → Hid (TrC (w7.heap.size ≤ ·) w8 e5 (trL o8 n8 A8 d8)) → Hid (RdL w8 R s l5 d) → Hid (Frm (· = R) w7 w8) → Hid (TVar w8 w.heap.size (.int .u8 0) (.int .i64 0) (.slice none 0 0)) →
       ((tset (w8.alloc (.cells #[.int .u8 o, .int .i64 n, .slice A c c, .int .u8 o2, .int .i64 n2, .slice A2 d2 d2, .int .u8 o8, .int .i64 n8, .slice A8 d8 d8] 86)) w.heap.size (.int .u8 63) (.int .i64 0) (.slice (some ⟨w8.heap.size, 0, none⟩) 3 3)).cell? ⟨w.heap.size, 0, none⟩ = some (.int .u8 63) ∧ (tset (w8.alloc (.cells #[.int .u8 o, .int .i64 n, .slice A c c, .int .u8 o2, .int .i64 n2, .slice A2 d2 d2, .int .u8 o8, .int .i64 n8, .slice A8 d8 d8] 86)) w.heap.size (.int .u8 63) (.int .i64 0) (.slice (some ⟨w8.heap.size, 0, none⟩) 3 3)).cell? ⟨w.heap.size, 1, none⟩ = some (.int .i64 0) ∧ (tset (w8.alloc (.cells #[.int .u8 o, .int .i64 n, .slice A c c, .int .u8 o2, .int .i64 n2, .slice A2 d2 d2, .int .u8 o8, .int .i64 n8, .slice A8 d8 d8] 86)) w.heap.size (.int .u8 63) (.int .i64 0) (.slice (some ⟨w8.heap.size, 0, none⟩) 3 3)).cell? ⟨w.heap.size, 2, none⟩ = some (.slice (some ⟨w8.heap.size, 0, none⟩) 3 3)) ∧ Reads_ R s d w r0 (.returned (.agg (trA 63 0 (some ⟨w8.heap.size, 0, none⟩) 3))) (tset (w8.alloc (.cells #[.int .u8 o, .int .i64 n, .slice A c c, .int .u8 o2, .int .i64 n2, .slice A2 d2 d2, .int .u8 o8, .int .i64 n8, .slice A8 d8 d8] 86)) w.heap.size (.int .u8 63) (.int .i64 0) (.slice (some ⟨w8.heap.size, 0, none⟩) 3 3))) := by
      intro e5 l5 o8 n8 A8 d8 w8 HRN HT8 HL8 HF8 HZ8
      have e0 : r0 = .ok (.sel a b e5) l5 := by rw [HE5.out, HRN.out]; rfl
      have hg6 := HG6.out
      have h78 := HF8.out.size
      have hb7 : gb < w7.heap.size := block_lt HB7.out
      obtain ⟨q0, q1, q2, qf⟩ := (four_var (x := .int .u8 63) (y := .int .i64 0) (z := .slice (some ⟨w8.heap.size, 0, none⟩) 3 3) (ob := .cells #[.int .u8 o, .int .i64 n, .slice A c c, .int .u8 o2, .int .i64 n2, .slice A2 d2 d2, .int .u8 o8, .int .i64 n8, .slice A8 d8 d8] 86) HZ8.out).cells
      rw [e0]
      refine ⟨⟨q0, q1, q2⟩, 63, 0, some ⟨w8.heap.size, 0, none⟩, 3, rfl, ⟨w8.heap.size, trL o n A c, trL o2 n2 A2 d2, trL o8 n8 A8 d8, rfl, ⟨by have := block_lt HZ8.out; omega, four_new (block_lt HZ8.out)⟩, ?_, ?_, ?_⟩, four_rd HL8.out (by omega), four_frm (frm_trans HF7.out HF8.out) (Nat.le_refl _)⟩
      ·exact four_tree (HT7.out.frm HF8.out fun j hj => by omega) fun j hj => by omega
      ·exact four_tree (HTB7.out.frm HF8.out fun j hj => by omega) fun j hj => by omega
      ·exact four_tree HT8.out fun j hj => by have h9 : w7.heap.size ≤ j := hj; omega
     have HBAD : Hid (∀ k j w8, rn = .bad k j → (∃ p, RdAt w8 R s p d) → Frm (· = R) w7 w8 → Reads_ R s d w r0 (faultE (s.size - k) j) w8) := fun k j w8 h1 h2 h3 => by
      have e0 : r0 = .bad k j := by rw [HE5.out, h1]; rfl
      rw [e0]; exact ⟨rfl, h2, frm_trans HF7.out h3⟩
     clear HC5 HE5 HE2 hrn hcells HT7 HTB7 HF7 HL7 HV7 HB7 HZ7
     go_region_held2 (fun W => W.cell? ⟨ga, 0, none⟩ = some (.int .u8 o) ∧ W.cell? ⟨ga, 1, none⟩ = some (.int .i64 n) ∧ W.cell? ⟨ga, 2, none⟩ = some (.slice A c c) ∧ W.cell? ⟨gb, 0, none⟩ = some (.int .u8 o2) ∧ W.cell? ⟨gb, 1, none⟩ = some (.int .i64 n2) ∧ W.cell? ⟨gb, 2, none⟩ = some (.slice A2 d2 d2)) (first | with_reducible exact hS0 | with_reducible exact hS8 | with_reducible exact hS8a _ | with_reducible exact hS8b _ _ _ _) (first | (go_at_call 118; refine HC6.out.mono ?_; rintro e w8 (⟨k, j, h1, rfl, h2, h3⟩ | ⟨e5, l5, o8, n8, A8, d8, HRN, rfl, HT8, HL8, HF8, HZ8, hS8, hS8a, hS8b, a0, a1, a2, af⟩); exact ⟨rfl, HBAD.out k j w8 h1 h2 h3⟩))
     all_goals
      obtain ⟨⟨q0, q1, q2⟩, hr⟩ := HFIN.out e5 l5 o8 n8 A8 d8 w8 HRN HT8 HL8 HF8 HZ8
      have HRR := Lib.hid hr
      clear hr HT8 HL8 HF8 HZ8 HRN a0 a1 a2 af hS8 hS8a hS8b hS0 HC6 HFIN HBAD
      simp only [tset] at q0 q1 q2
      go_wp2_with fail
      refine ⟨rfl, .agg (trA 63 0 (some ⟨w8.heap.size, 0, none⟩) 3), ?_, HRR.out⟩
      simp only [results, Tryz.results84]
      simp [go_sem, q0, q1, q2, trA]
    ·have e0 : r0 = .bad l3.length 2 := HE2.out.trans (want_fails _ fun r e => hq ⟨r, e⟩)
     clear HE2
     subst e0
     refine (wantL_no R s 58 l3 d _ HL6.out hs fun r e => hq ⟨r, e⟩).mono ?_
     rintro e w7 ⟨rfl, h7, f7⟩
     exact ⟨rfl, rfl, ⟨_, h7.2.2⟩, frm_trans HFW6.out f7⟩
  ·have HEQ : Hid (r0 = .ok a l1) := by
    show _ = _
    rw [HE0.out]
    cases l1 with
    | nil => rfl
    | cons x r => simp only [selRd, if_neg (fun e : x = 63 => hq ⟨r, e ▸ rfl⟩)]
   have hb : Lib.hasPrefix l1 [63] = false := by
    cases l1 with
    | nil => rfl
    | cons x r =>
     have : ¬ 63 = x := fun e => hq ⟨r, e ▸ rfl⟩
     simp [Lib.hasPrefix, List.isPrefixOf, this]
   refine (hasL_no R s ⟨#[63]⟩ l1 d _ HL3.out hs hb).mono ?_
   rintro e w4 ⟨rfl, h4, f4⟩
   have hz4 := HZ3.out.frm f4 (by have := HLT.out; omega)
   obtain ⟨z0, z1, z2, zf⟩ := hz4.cells
   obtain ⟨y0, y1, y2, yf⟩ := (HV3.out.frm f4 (by have := HLT.out; have := HG.out; omega)).cells
   obtain ⟨q0, q1, q2, qf⟩ := (pass_var (x := .int .u8 o) (y := .int .i64 n) (z := .slice A c c) hz4).cells
   have hr : Reads_ R s d w r0 (.returned (.agg (trA o n A c))) (tset w4 w.heap.size (.int .u8 o) (.int .i64 n) (.slice A c c)) := by
    rw [HEQ.out]
    exact pass_ok (HT3b.out.frm f4 fun j hj => by have := HLT.out; omega) (fun j hj => by omega) h4 (frm_trans HFW.out f4) (by have := HLT.out; omega) (Nat.le_refl _)
   have HRR := Lib.hid hr
   simp only [tset] at q0 q1 q2
   clear h4 f4 hz4 hr
   go_wp2_with fail
   refine ⟨rfl, .agg (trA o n A c), ?_, HRR.out⟩
   simp only [results, Tryz.results84]
   simp [go_sem, q0, q1, q2, trA]
end Go.Proofs.YtfndhfekbbbliaaGreatDoor

/-
  Package expr: the contract of parse: a tree, or where the text is wrong, and how. Conditions: the two variables that Atoi's errors hold are there; the text is no longer than a string may be.
-/
namespace Go.Proofs.YtfndhfekbbbliaaGreatDoor
open Go.RowKit Go.Shelf
set_option linter.unusedVariables false
theorem step_all {W : Reads} {m : Nat} (hS : ∀ d, Short (W d)) (hW : ReadsLt_ W m) : ReadsAs 84 (wholeStep W) m :=
 whole_reads hS (cmp_reads hS (less_reads (one_reads hS hW))) hW
theorem whole_all (k : Nat) : ReadsAs 84 (wholeRd k) k := by
 induction k with
 | zero => exact step_all (bad_short 2) fun R s l d w _ _ _ h => absurd h (Nat.not_lt_zero _)
 | succ k ih => exact step_all (whole_short k) fun R s l d w h1 h2 h3 h4 h5 => ih R s l d w h1 h2 h3 (by omega) h5
theorem frame_eq (p q r X : Value) : (#[p, q, r] ++ ((Array.replicate 19 undef).setIfInBounds 3 X).setIfInBounds 0 X) = #[p, q, r, X, undef, undef, X, undef, undef, undef, undef, undef, undef, undef, undef, undef, undef, undef, undef, undef, undef, undef] := by kernel_rfl
def TV3 (w : World) (a b c : Nat) (x y z u v : Value) : Prop := TVar w a x y z ∧ w.heap[b]? = some (.cells #[u] 3 (0, 0)) ∧ w.heap[c]? = some (.cells #[v] 28 (0, 0))
set_option maxRecDepth 100000 in
set_option maxHeartbeats 1000000 in
theorem catch_fault (a b c p : Nat) (k : Int) (x y z u v : Value) (older : List PanicEntry) (w : World) (h : TV3 w a b c x y z u v) (hab : a ≠ b) (hac : a ≠ c) (hbc : b ≠ c) :
  CallsD Tryz.prog 83 #[.pointer (some ⟨a, 0, none⟩), .pointer (some ⟨b, 0, none⟩), .pointer (some ⟨c, 0, none⟩)] (.panicking ({ v := faultV p k, recovered := false } :: older)) w fun e u' w' =>
   e = .returned (.tuple #[]) ∧ u' = .panicking ({ v := faultV p k, recovered := true } :: older) ∧ TV3 w' a b c (.int .u8 0) (.int .i64 0) (.slice none 0 0) (.int .i64 p) (.iface 89 (.int .i64 k)) ∧ (∀ j, j < w.heap.size → j ≠ a → j ≠ b → j ≠ c → w'.heap[j]? = w.heap[j]?) ∧ Frm (fun j => j = a ∨ j = b ∨ j = c) w w' := by
 obtain ⟨h1, h2, h3⟩ := h
 have hal := block_lt h1
 have hbl := block_lt h2
 have hcl := block_lt h3
 have hna : w.heap.size ≠ a := by omega
 have hnb : w.heap.size ≠ b := by omega
 have hnc : w.heap.size ≠ c := by omega
 obtain ⟨c0, c1, c2, cf⟩ := h1.allocs
 obtain ⟨g0, g1, g2, gf⟩ := h1.cells
 have d1 : w.cell? ⟨b, 0, none⟩ = some u := (cell_of_row w b 0 _ _ _ h2).trans rfl
 have e1 : w.cell? ⟨c, 0, none⟩ = some v := (cell_of_row w c 0 _ _ _ h3).trans rfl
 have df1 : w.frozen? ⟨b, 0, none⟩ = false := by simp [World.frozen?, h2]
 have ef1 : w.frozen? ⟨c, 0, none⟩ = false := by simp [World.frozen?, h3]
 have d0 : ∀ ob, (w.alloc ob).cell? ⟨b, 0, none⟩ = some u := fun ob => (cell_of_row (w.alloc ob) b 0 _ _ _ ((heap_alloc_old _ _ hbl).trans h2)).trans rfl
 have e0 : ∀ ob, (w.alloc ob).cell? ⟨c, 0, none⟩ = some v := fun ob => (cell_of_row (w.alloc ob) c 0 _ _ _ ((heap_alloc_old _ _ hcl).trans h3)).trans rfl
 have df : ∀ ob, (w.alloc ob).frozen? ⟨b, 0, none⟩ = false := fun ob => by simp [World.frozen?, (heap_alloc_old w ob hbl).trans h2]
 have ef : ∀ ob, (w.alloc ob).frozen? ⟨c, 0, none⟩ = false := fun ob => by simp [World.frozen?, (heap_alloc_old w ob hcl).trans h3]
 refine callsD_of_wpS Tryz.func83 rfl fun c₀ cs hu => ?_
 apply wpS_seq
 apply wpS_region
 simp [wpOpsS, go_sem, recoverD, hu, Tryz.ntmps83, Exit.thenS, faultV]
 refine wpS_of_wp ?_
 rw [frame_eq]
 have hta : ∀ (v : Value) (w : World), (Instr.typeAssert (.iface 147 v) 20 147 true).run Tryz.prog w = .ok (.tuple #[v, .bool true]) w := fun _ _ => rfl
 go_wp2_with fail
 go_region
 obtain ⟨w9, hw9⟩ : ∃ w9, w9 = tset w a (.int .u8 0) (.int .i64 0) (.slice none 0 0) := ⟨_, rfl⟩
 have v9 : TVar w9 a (.int .u8 0) (.int .i64 0) (.slice none 0 0) := by rw [hw9]; exact h1.put _ _ _
 have o9 : ∀ j, j ≠ a → w9.heap[j]? = w.heap[j]? := fun j hj => by rw [hw9]; exact tset_far _ hj _ _ _
 have s9 : w9.heap.size = w.heap.size := by rw [hw9]; exact tset_size _ _ _ _ _
 have f9 : Frm (fun j => j = a ∨ j = b ∨ j = c) w w9 := by rw [hw9]; exact (Frm.refl _ _).tset (.inl (.inl rfl)) _ _ _
 simp only [tset] at hw9
 rw [← hw9]
 obtain ⟨w10, hw10⟩ : ∃ w10, w10 = (w9.setCell ⟨b, 0, none⟩ (.int .i64 p)).setCell ⟨c, 0, none⟩ (.iface 89 (.int .i64 k)) := ⟨_, rfl⟩
 have o10 : ∀ j, j ≠ b → j ≠ c → w10.heap[j]? = w9.heap[j]? := fun j hb hc => by
  rw [hw10, Below.heap_setCell _ _ _ _ (by simpa using hc), Below.heap_setCell _ _ _ _ (by simpa using hb)]
 have b10 : w10.heap[b]? = some (.cells #[.int .i64 p] 3 (0, 0)) := by
  rw [hw10, Below.heap_setCell _ _ _ _ (by simpa using hbc)]
  have h2' : w9.heap[b]? = _ := (o9 b (Ne.symm hab)).trans h2
  simp [World.setCell, Array.getElem?_modify, h2']
 have c10 : w10.heap[c]? = some (.cells #[.iface 89 (.int .i64 k)] 28 (0, 0)) := by
  rw [hw10]
  have h3' : (w9.setCell ⟨b, 0, none⟩ (.int .i64 p)).heap[c]? = _ := (Below.heap_setCell _ _ _ _ (by simpa using Ne.symm hbc)).trans ((o9 c (Ne.symm hac)).trans h3)
  simp [World.setCell, Array.getElem?_modify] at h3' ⊢
  simp [h3']
 have f10 : Frm (fun j => j = a ∨ j = b ∨ j = c) w w10 := by rw [hw10]; exact (f9.setCell (p := ⟨b, 0, none⟩) (.inl (.inr (.inl rfl))) _).setCell (p := ⟨c, 0, none⟩) (.inl (.inr (.inr rfl))) _
 have s10 : w10.heap.size = w.heap.size := by rw [hw10]; simp [s9]
 rw [← hw10]
 have key : TV3 (w10.alloc (.cells #[.int .i64 p, .iface 89 (.int .i64 k)] 147)).drew a b c (.int .u8 0) (.int .i64 0) (.slice none 0 0) (.int .i64 p) (.iface 89 (.int .i64 k)) :=
  ⟨(heap_alloc_old w10 _ (by omega)).trans ((o10 a hab hac).trans v9), (heap_alloc_old w10 _ (by omega)).trans b10, (heap_alloc_old w10 _ (by omega)).trans c10⟩
 have frm := (f10.alloc (.cells #[.int .i64 p, .iface 89 (.int .i64 k)] 147)).drew
 have far : ∀ j, j < w.heap.size → j ≠ a → j ≠ b → j ≠ c → (w10.alloc (.cells #[.int .i64 p, .iface 89 (.int .i64 k)] 147)).drew.heap[j]? = w.heap[j]? := fun j h1 h2 h3 h4 => (heap_alloc_old w10 _ (by omega)).trans ((o10 j h3 h4).trans (o9 j h2))
 exact ⟨rfl, _, rfl, .tuple #[], by simp [results, Tryz.results83, go_sem], rfl, rfl, key, far, frm⟩
set_option maxRecDepth 100000 in
theorem catch_idle (a b c : Nat) (w : World) :
  CallsD Tryz.prog 83 #[.pointer (some ⟨a, 0, none⟩), .pointer (some ⟨b, 0, none⟩), .pointer (some ⟨c, 0, none⟩)] .returning w fun e u' w' => e = .returned (.tuple #[]) ∧ u' = .returning ∧ w' = w := by
 refine callsD_of_wpS Tryz.func83 rfl fun c₀ cs hu => ?_
 apply wpS_seq
 apply wpS_region
 simp [wpOpsS, go_sem, recoverD, hu, Tryz.ntmps83, Exit.thenS]
 refine wpS_of_wp ?_
 rw [frame_eq]
 go_wp2_with fail
 cases c₀
 simp_all [bodyPostS, results, Tryz.results83]
theorem TV3.put {w : World} {a b c : Nat} {x y z u v : Value} (h : TV3 w a b c x y z u v) (hab : a ≠ b) (hac : a ≠ c) (hbc : b ≠ c) (x' y' z' u' v' : Value) : TV3 (((tset w a x' y' z').setCell ⟨b, 0, none⟩ u').setCell ⟨c, 0, none⟩ v') a b c x' y' z' u' v' ∧
  (∀ j, j ≠ a → j ≠ b → j ≠ c → (((tset w a x' y' z').setCell ⟨b, 0, none⟩ u').setCell ⟨c, 0, none⟩ v').heap[j]? = w.heap[j]?) ∧ Frm (fun j => j = a ∨ j = b ∨ j = c) w (((tset w a x' y' z').setCell ⟨b, 0, none⟩ u').setCell ⟨c, 0, none⟩ v') := by
 obtain ⟨h1, h2, h3⟩ := h
 obtain ⟨w9, hw9⟩ : ∃ w9, w9 = tset w a x' y' z' := ⟨_, rfl⟩
 have v9 : TVar w9 a x' y' z' := by rw [hw9]; exact h1.put _ _ _
 have o9 : ∀ j, j ≠ a → w9.heap[j]? = w.heap[j]? := fun j hj => by rw [hw9]; exact tset_far _ hj _ _ _
 have f9 : Frm (fun j => j = a ∨ j = b ∨ j = c) w w9 := by rw [hw9]; exact (Frm.refl _ _).tset (.inl (.inl rfl)) _ _ _
 rw [← hw9]
 have o10 : ∀ j, j ≠ b → j ≠ c → ((w9.setCell ⟨b, 0, none⟩ u').setCell ⟨c, 0, none⟩ v').heap[j]? = w9.heap[j]? := fun j hb hc => by
  rw [Below.heap_setCell _ _ _ _ (by simpa using hc), Below.heap_setCell _ _ _ _ (by simpa using hb)]
 refine ⟨⟨(o10 a hab hac).trans v9, ?_, ?_⟩, fun j h1 h2 h3 => (o10 j h2 h3).trans (o9 j h1), (f9.setCell (p := ⟨b, 0, none⟩) (.inl (.inr (.inl rfl))) _).setCell (p := ⟨c, 0, none⟩) (.inl (.inr (.inr rfl))) _⟩
 ·rw [Below.heap_setCell _ _ _ _ (by simpa using hbc)]
  have h2' : w9.heap[b]? = _ := (o9 b (Ne.symm hab)).trans h2
  simp [World.setCell, Array.getElem?_modify, h2']
 ·have h3' : (w9.setCell ⟨b, 0, none⟩ u').heap[c]? = _ := (Below.heap_setCell _ _ _ _ (by simpa using Ne.symm hbc)).trans ((o9 c (Ne.symm hac)).trans h3)
  simp [World.setCell, Array.getElem?_modify] at h3' ⊢
  simp [h3']
def parsedOf (n : Nat) (r : Rd) : Parsed := match r with
 | .ok t [] => .tree t
 | .ok _ (_ :: r) => .fault (n - (r.length + 1)) 2
 | .bad k e => .fault (n - k) e
theorem parse_of {s : List UInt8} (h : ¬ 120 < s.length) : parseT s = parsedOf s.length (wholeRd s.length 0 s) := by
 unfold parseT parsedOf; rw [if_neg h]; rfl
def ParsePost (s : ByteArray) (w : World) (e : Ending) (w' : World) : Prop := match parseT s.data.toList with
 | .tree t => ∃ o n A c, e = .returned (.tuple #[.agg (trA o n A c), .int .i64 0, .nilIface]) ∧ TrC (w.heap.size ≤ ·) w' t (trL o n A c)
 | .fault p k => e = .returned (.tuple #[.agg (trA 0 0 none 0), .int .i64 (p : Int), .iface 89 (.int .i64 k)])
def ErrVars (w : World) : Prop := (∃ ev, w.cell? ⟨Tryz.atoi_ren.g 15, 0, none⟩ = some ev ∧ (ev = .nilIface ∨ ∃ te pe, ev = .iface te pe)) ∧ (∃ ev, w.cell? ⟨Tryz.atoi_ren.g 16, 0, none⟩ = some ev ∧ (ev = .nilIface ∨ ∃ te pe, ev = .iface te pe))
theorem ErrVars.below {w w' : World} (h : ErrVars w) (hb : Below w.heap.size w w') : ErrVars w' := by
 obtain ⟨⟨e1, h1, h2⟩, ⟨e2, h3, h4⟩⟩ := h
 exact ⟨⟨e1, (hb.cell (cell_lt h1)).trans h1, h2⟩, ⟨e2, (hb.cell (cell_lt h3)).trans h3, h4⟩⟩
theorem ErrVars.num {w : World} (h : ErrVars w) {w' : World} (hb : Below w.heap.size w w') {R : Nat} (hR : w.heap.size ≤ R) : NumVars w' R := by
 obtain ⟨⟨e1, h1, h2⟩, ⟨e2, h3, h4⟩⟩ := h
 have l1 : Tryz.atoi_ren.g 15 < w.heap.size := cell_lt h1
 have l2 : Tryz.atoi_ren.g 16 < w.heap.size := cell_lt h3
 exact ⟨⟨by omega, e1, (hb.cell l1).trans h1, h2⟩, ⟨by omega, e2, (hb.cell l2).trans h3, h4⟩⟩
set_option maxRecDepth 100000 in
set_option maxHeartbeats 4000000 in
theorem parse_reads (s : ByteArray) (w : World) (hv : ErrVars w) (hsz : s.size ≤ maxLen) : Calls Tryz.prog 37 #[.string s] w fun e w' => ParsePost s w e w' ∧ Below w.heap.size w w' := by
 have hmf : ∀ (fn : Fn) (first cap : Array Value) (w : World), (Instr.makeFunc fn first cap).run Tryz.prog w = .ok (.func fn first cap) w := fun _ _ _ _ => rfl
 have hln : s.data.toList.length = s.size := by simp
 by_cases hlong : 120 < s.size
 ·have d1 : decide ((120 : Int) < (s.size : Int)) = true := decide_eq_true (by omega)
  have d2 : decide (120 < s.size) = true := decide_eq_true hlong
  go_enter_defers Tryz.func37, Tryz.ntmps37
  go_wp2_with fail
  have hp : parseT s.data.toList = .fault 0 4 := by unfold parseT; rw [if_pos (by omega)]
  refine ⟨.tuple #[.agg (trA 0 0 none 0), .int .i64 0, .iface 89 (.int .i64 4)], ?_, ?_, ((((Below.refl _ _).alloc (Nat.le_refl _) _).alloc (by simp) _).alloc (by simp; omega) _)⟩
  ·simp only [results, Tryz.results37]
   simp [go_sem, trA]
  ·unfold ParsePost; rw [hp]; rfl
 ·have d1 : decide ((120 : Int) < (s.size : Int)) = false := decide_eq_false (by omega)
  have d2 : decide (120 < s.size) = false := decide_eq_false hlong
  go_enter_defers Tryz.func37, Tryz.ntmps37
  go_wp2_with fail
  obtain ⟨W1, hW1⟩ : ∃ W1, W1 = (((w.alloc (.cells #[.int .u8 0, .int .i64 0, .slice none 0 0] 86)).alloc (.cells #[.int .i64 0] 3)).alloc (.cells #[.nilIface] 28)).alloc (.cells #[.string s, .int .i64 0, .int .i64 0] 151) := ⟨_, rfl⟩
  have hW : W1.heap.size = w.heap.size + 4 ∧ TV3 W1 w.heap.size (w.heap.size + 1) (w.heap.size + 2) (.int .u8 0) (.int .i64 0) (.slice none 0 0) (.int .i64 0) .nilIface ∧ RdAt W1 (w.heap.size + 3) s 0 0 ∧ Below w.heap.size w W1 := by
   obtain ⟨wa, hwa⟩ : ∃ wa, wa = w.alloc (.cells #[.int .u8 0, .int .i64 0, .slice none 0 0] 86) := ⟨_, rfl⟩
   have sa : wa.heap.size = w.heap.size + 1 := by rw [hwa]; simp
   have na : TVar wa w.heap.size (.int .u8 0) (.int .i64 0) (.slice none 0 0) := by rw [hwa]; exact TVar.new _ _ _ _
   have ba : Below w.heap.size w wa := by rw [hwa]; exact (Below.refl _ _).alloc (Nat.le_refl _) _
   rw [← hwa] at hW1
   obtain ⟨wb, hwb⟩ : ∃ wb, wb = wa.alloc (.cells #[.int .i64 0] 3) := ⟨_, rfl⟩
   have sb : wb.heap.size = w.heap.size + 2 := by rw [hwb]; simp [sa]
   have nb : wb.heap[w.heap.size + 1]? = some (.cells #[.int .i64 0] 3 (0, 0)) := by rw [hwb, ← sa]; exact heap_alloc_new _ _
   have ob : ∀ j, j < wa.heap.size → wb.heap[j]? = wa.heap[j]? := fun j hj => by rw [hwb]; exact heap_alloc_old _ _ hj
   have bb : Below w.heap.size w wb := by rw [hwb]; exact ba.alloc (by omega) _
   rw [← hwb] at hW1
   obtain ⟨wc, hwc⟩ : ∃ wc, wc = wb.alloc (.cells #[.nilIface] 28) := ⟨_, rfl⟩
   have sc : wc.heap.size = w.heap.size + 3 := by rw [hwc]; simp [sb]
   have nc : wc.heap[w.heap.size + 2]? = some (.cells #[.nilIface] 28 (0, 0)) := by rw [hwc, ← sb]; exact heap_alloc_new _ _
   have oc : ∀ j, j < wb.heap.size → wc.heap[j]? = wb.heap[j]? := fun j hj => by rw [hwc]; exact heap_alloc_old _ _ hj
   have bc : Below w.heap.size w wc := by rw [hwc]; exact bb.alloc (by omega) _
   rw [← hwc] at hW1
   have od : ∀ j, j < wc.heap.size → W1.heap[j]? = wc.heap[j]? := fun j hj => by rw [hW1]; exact heap_alloc_old _ _ hj
   refine ⟨by rw [hW1]; simp [sc], ⟨(od _ (by omega)).trans ((oc _ (by omega)).trans ((ob _ (by omega)).trans na)), (od _ (by omega)).trans ((oc _ (by omega)).trans nb), (od _ (by omega)).trans nc⟩, by rw [hW1, ← sc]; exact heap_alloc_new _ _, by rw [hW1]; exact bc.alloc (by omega) _⟩
  obtain ⟨hs1, hT1, hR1, hB1⟩ := hW
  have HRL : Hid (RdL W1 (w.heap.size + 3) s s.data.toList 0) := ⟨by omega, by rw [hln, Nat.sub_self]; rfl, by rw [hln, Nat.sub_self]; exact hR1⟩
  have HT1 := Lib.hid hT1
  have HB1 := Lib.hid hB1
  have hnv : NumVars W1 (w.heap.size + 3) := hv.num hB1 (by omega)
  obtain ⟨r0, hr0⟩ : ∃ r0, r0 = wholeRd s.data.toList.length 0 s.data.toList := ⟨_, rfl⟩
  have hcall := whole_all s.data.toList.length (w.heap.size + 3) s s.data.toList 0 W1 HRL.out (by omega) (by omega) (Nat.le_refl _) hnv
  rw [← hr0] at hcall
  have hpt0 := parse_of (s := s.data.toList) (by omega)
  rw [← hr0] at hpt0
  have HPT := Lib.hid hpt0
  clear hpt0
  rw [← hW1]
  clear hW1 hT1 hR1 hB1 hr0 d1 d2
  refine hcall.mono ?_
  clear hcall
  intro e w2 hr
  cases r0 with
  | bad k j =>
   obtain ⟨rfl, hp, hf⟩ := hr
   simp only [faultE]
   have hpt : parseT s.data.toList = .fault (s.size - k) j := by rw [HPT.out, hln]; rfl
   have hT2 : TV3 w2 w.heap.size (w.heap.size + 1) (w.heap.size + 2) (.int .u8 0) (.int .i64 0) (.slice none 0 0) (.int .i64 0) .nilIface := ⟨(hf.block _ (by omega) (by omega)).trans HT1.out.1, (hf.block _ (by omega) (by omega)).trans HT1.out.2.1, (hf.block _ (by omega) (by omega)).trans HT1.out.2.2⟩
   have hB2 : Below w.heap.size w w2 := HB1.out.trans (hf.below (by omega) (fun k h => by omega))
   refine leaves_cons (f := 83) (args := #[.pointer (some ⟨w.heap.size, 0, none⟩), .pointer (some ⟨w.heap.size + 1, 0, none⟩), .pointer (some ⟨w.heap.size + 2, 0, none⟩)]) (by simp) (by simp [go_sem]) ?_
   refine (catch_fault w.heap.size (w.heap.size + 1) (w.heap.size + 2) (s.size - k) j _ _ _ _ _ [] w2 hT2 (by omega) (by omega) (by omega)).mono ?_
   rintro e u' w3 ⟨rfl, rfl, hT3, hfar, hF3⟩
   obtain ⟨q0, q1, q2, qf⟩ := hT3.1.cells
   have b0 : w3.cell? ⟨w.heap.size + 1, 0, none⟩ = some (.int .i64 ((s.size - k : Nat) : Int)) := (cell_of_row w3 _ 0 _ _ _ hT3.2.1).trans rfl
   have e0 : w3.cell? ⟨w.heap.size + 2, 0, none⟩ = some (.iface 89 (.int .i64 j)) := (cell_of_row w3 _ 0 _ _ _ hT3.2.2).trans rfl
   refine ⟨.tuple #[.agg (trA 0 0 none 0), .int .i64 ((s.size - k : Nat) : Int), .iface 89 (.int .i64 j)], ?_, ?_, hB2.trans (hF3.below (hB2.size) (fun k h => by omega))⟩
   ·simp only [results, Tryz.results37]
    simp [go_sem, q0, q1, q2, b0, e0, trA]
   ·unfold ParsePost; rw [hpt]
  | ok t rest =>
   obtain ⟨o, n, A, c, rfl, ht, hl, hf⟩ := hr
   have hT2 : TV3 w2 w.heap.size (w.heap.size + 1) (w.heap.size + 2) (.int .u8 0) (.int .i64 0) (.slice none 0 0) (.int .i64 0) .nilIface := ⟨(hf.block _ (by omega) (by omega)).trans HT1.out.1, (hf.block _ (by omega) (by omega)).trans HT1.out.2.1, (hf.block _ (by omega) (by omega)).trans HT1.out.2.2⟩
   have hB2 : Below w.heap.size w w2 := HB1.out.trans (hf.below (by omega) (fun k h => by omega))
   have h2s := hf.size
   obtain ⟨W3, hW3⟩ : ∃ W3, W3 = tset w2 w.heap.size (.int .u8 o) (.int .i64 n) (.slice A c c) := ⟨_, rfl⟩
   have o3 : ∀ j, j ≠ w.heap.size → W3.heap[j]? = w2.heap[j]? := fun j hj => by rw [hW3]; exact tset_far _ hj _ _ _
   have s3 : W3.heap.size = w2.heap.size := by rw [hW3]; exact tset_size _ _ _ _ _
   have hT3 : TV3 W3 w.heap.size (w.heap.size + 1) (w.heap.size + 2) (.int .u8 o) (.int .i64 n) (.slice A c c) (.int .i64 0) .nilIface := ⟨by rw [hW3]; exact hT2.1.put _ _ _, (o3 _ (by omega)).trans hT2.2.1, (o3 _ (by omega)).trans hT2.2.2⟩
   have hL3 : RdL W3 (w.heap.size + 3) s rest 0 := hl.keep (o3 _ (by omega))
   have hB3 : Below w.heap.size w W3 := by
    rw [hW3]
    have h := (Frm.ofBelow (F := fun j => j = w.heap.size) hB2).tset (k := w.heap.size) (.inl rfl) (.int .u8 o) (.int .i64 n) (.slice A c c)
    exact h.below (Nat.le_refl _) (fun k h => by omega)
   have hTr2 : TrC (fun j => w.heap.size + 2 < j) W3 t (trL o n A c) := (ht.in_ (G := fun j => W1.heap.size ≤ j) fun j h _ => h).keep (fun j hj => o3 j (by omega)) |>.in_ fun j hj _ => by omega
   have HTR2 := Lib.hid hTr2
   have hTr : TrC (w.heap.size < ·) W3 t (trL o n A c) := (ht.in_ (G := fun j => W1.heap.size ≤ j) fun j h _ => h).keep (fun j hj => o3 j (by omega)) |>.in_ fun j hj _ => by omega
   obtain ⟨v0, v1, v2, vf⟩ := hT2.1.cells
   obtain ⟨p0, p1, p2, pf⟩ := hL3.2.2.cells
   have HT3 := Lib.hid hT3
   have HL3 := Lib.hid hL3
   have HB3 := Lib.hid hB3
   have HTR := Lib.hid hTr
   simp only [tset] at hW3
   have hc3 : W3.cell? ⟨w.heap.size + 1 + 1 + 1, 1, none⟩ = some (.int .i64 ((s.size - rest.length : Nat) : Int)) := p1
   clear ht hl hf hT2 hB2 hT3 hL3 hB3 hTr hTr2 o3 p0 p1 p2 pf HRL HT1 HB1 hnv
   simp only [trA]
   cases rest with
   | nil =>
    have hpt : parseT s.data.toList = .tree t := HPT.out
    have d3 : decide (s.size < s.size) = false := by simp
    simp only [List.length_nil, Nat.sub_zero] at hc3
    go_upto_region 6 with (fail)
    rw [← hW3]
    clear v0 v1 v2 vf hW3
    obtain ⟨v0, v1, v2, vf⟩ := HT3.out.1.cells
    go_upto_region 8 with (fail)
    have b0 : W3.cell? ⟨w.heap.size + 1, 0, none⟩ = some (.int .i64 0) := (cell_of_row W3 _ 0 _ _ _ HT3.out.2.1).trans rfl
    have e0 : W3.cell? ⟨w.heap.size + 1 + 1, 0, none⟩ = some .nilIface := (cell_of_row W3 _ 0 _ _ _ HT3.out.2.2).trans rfl
    have bf : W3.frozen? ⟨w.heap.size + 1, 0, none⟩ = false := by simp [World.frozen?, HT3.out.2.1]
    have ef : W3.frozen? ⟨w.heap.size + 1 + 1, 0, none⟩ = false := by simp [World.frozen?, show W3.heap[w.heap.size + 1 + 1]? = _ from HT3.out.2.2]
    go_wp2_with fail
    obtain ⟨hT5, hO5, hF5⟩ := HT3.out.put (by omega) (by omega) (by omega) (.int .u8 o) (.int .i64 n) (.slice A c c) (.int .i64 0) .nilIface
    simp only [tset] at hT5 hO5 hF5
    obtain ⟨W5, hW5⟩ : ∃ W5, W5 = (((((W3.setCell ⟨w.heap.size, 0, none⟩ (.int .u8 o)).setCell ⟨w.heap.size, 1, none⟩ (.int .i64 n)).setCell ⟨w.heap.size, 2, none⟩ (.slice A c c)).setCell ⟨w.heap.size + 1, 0, none⟩ (.int .i64 0)).setCell ⟨w.heap.size + 1 + 1, 0, none⟩ .nilIface) := ⟨_, rfl⟩
    have hT6 : TV3 W5 w.heap.size (w.heap.size + 1) (w.heap.size + 2) (.int .u8 o) (.int .i64 n) (.slice A c c) (.int .i64 0) .nilIface := by rw [hW5]; exact hT5
    have hO6 : ∀ j, j ≠ w.heap.size → j ≠ w.heap.size + 1 → j ≠ w.heap.size + 2 → W5.heap[j]? = W3.heap[j]? := by rw [hW5]; exact hO5
    have hF6 : Frm (fun j => j = w.heap.size ∨ j = w.heap.size + 1 ∨ j = w.heap.size + 2) W3 W5 := by rw [hW5]; exact hF5
    rw [← hW5]
    clear hT5 hO5 hF5 hW5
    obtain ⟨q0, q1, q2, qf⟩ := hT6.1.cells
    have b5 : W5.cell? ⟨w.heap.size + 1, 0, none⟩ = some (.int .i64 0) := (cell_of_row W5 _ 0 _ _ _ hT6.2.1).trans rfl
    have e5 : W5.cell? ⟨w.heap.size + 1 + 1, 0, none⟩ = some .nilIface := (cell_of_row W5 _ 0 _ _ _ hT6.2.2).trans rfl
    refine leaves_cons (f := 83) (args := #[.pointer (some ⟨w.heap.size, 0, none⟩), .pointer (some ⟨w.heap.size + 1, 0, none⟩), .pointer (some ⟨w.heap.size + 2, 0, none⟩)]) (by simp) (by simp [go_sem]) ?_
    refine (catch_idle w.heap.size (w.heap.size + 1) (w.heap.size + 2) W5).mono ?_
    rintro e u' w4 ⟨rfl, rfl, rfl⟩
    refine ⟨.tuple #[.agg (trA o n A c), .int .i64 0, .nilIface], ?_, ?_, HB3.out.trans (hF6.below HB3.out.size (fun k h => by omega))⟩
    ·simp only [results, Tryz.results37]
     simp [go_sem, q0, q1, q2, b5, e5, trA]
    ·unfold ParsePost; rw [hpt]
     refine ⟨o, n, A, c, rfl, ?_⟩
     have h7 : TrC (fun j => w.heap.size + 2 < j) W3 t (trL o n A c) := HTR2.out
     exact (h7.keep fun j hj => hO6 j (by omega) (by omega) (by omega)).in_ fun j hj _ => by omega
   | cons x r =>
    have hll := HL3.out.1
    simp only [List.length_cons] at hll
    have hpt : parseT s.data.toList = .fault (s.size - (r.length + 1)) 2 := by rw [HPT.out, hln]; rfl
    have d3 : decide (s.size - (r.length + 1) < s.size) = true := decide_eq_true (by omega)
    simp only [List.length_cons] at hc3
    go_upto_region 6 with (fail)
    rw [← hW3]
    clear v0 v1 v2 vf hW3
    go_wp2_with fail
    refine (fail_ok (w.heap.size + 3) (s.size - (r.length + 1)) 2 W3).mono ?_
    rintro e w5 ⟨rfl, rfl⟩
    simp only [faultE]
    refine leaves_cons (f := 83) (args := #[.pointer (some ⟨w.heap.size, 0, none⟩), .pointer (some ⟨w.heap.size + 1, 0, none⟩), .pointer (some ⟨w.heap.size + 2, 0, none⟩)]) (by simp) (by simp [go_sem]) ?_
    refine (catch_fault w.heap.size (w.heap.size + 1) (w.heap.size + 2) (s.size - (r.length + 1)) 2 _ _ _ _ _ [] _ HT3.out (by omega) (by omega) (by omega)).mono ?_
    rintro e u' w6 ⟨rfl, rfl, hT6, hfar, hF6⟩
    obtain ⟨q0, q1, q2, qf⟩ := hT6.1.cells
    have b0 : w6.cell? ⟨w.heap.size + 1, 0, none⟩ = some (.int .i64 ((s.size - (r.length + 1) : Nat) : Int)) := (cell_of_row w6 _ 0 _ _ _ hT6.2.1).trans rfl
    have e0 : w6.cell? ⟨w.heap.size + 2, 0, none⟩ = some (.iface 89 (.int .i64 2)) := (cell_of_row w6 _ 0 _ _ _ hT6.2.2).trans rfl
    refine ⟨.tuple #[.agg (trA 0 0 none 0), .int .i64 ((s.size - (r.length + 1) : Nat) : Int), .iface 89 (.int .i64 2)], ?_, ?_, HB3.out.trans (hF6.below HB3.out.size (fun k h => by omega))⟩
    ·simp only [results, Tryz.results37]
     simp [go_sem, q0, q1, q2, b0, e0, trA]
    ·unfold ParsePost; rw [hpt]
end Go.Proofs.YtfndhfekbbbliaaGreatDoor

/-
  Expressions, plain: the shortest text of a tree; how long it is, how deep it goes; what is read is no shorter and no less deep. No condition: plain definitions and lemmas.
-/
namespace Go.Proofs.YtfndhfekbbbliaaGreatDoor
open Go.RowKit
set_option linter.unusedVariables false
def tightOp (op : UInt8) : Nat := if op = 61 ∨ op = 60 ∨ op = 62 then 1 else if op = 43 ∨ op = 45 then 2 else if op = 42 ∨ op = 47 ∨ op = 37 then 3 else 5
def Tr.tight : Tr → Nat
 | .num _ => 5
 | .nam _ => 5
 | .neg _ => 4
 | .bin op _ _ => tightOp op
 | .sel _ _ _ => 0
def brk (b : Bool) (r : List UInt8) : List UInt8 := if b then 40 :: (r ++ [41]) else r
def leftOf (k : Nat) : Nat := if k = 1 then 2 else k
def Tr.raw : Tr → List UInt8
 | .num k => Lib.itoa k
 | .nam n => if n then [110] else [115]
 | .neg a => 45 :: brk (decide (a.tight < 4)) a.raw
 | .bin op a b => if op = 109 then 109 :: 105 :: 110 :: 40 :: (a.raw ++ 44 :: (b.raw ++ [41])) else if op = 77 then 109 :: 97 :: 120 :: 40 :: (a.raw ++ 44 :: (b.raw ++ [41]))
  else brk (decide (a.tight < leftOf (tightOp op))) a.raw ++ op :: brk (decide (b.tight < tightOp op + 1)) b.raw
 | .sel a b c => brk (decide (a.tight < 1)) a.raw ++ 63 :: (b.raw ++ 58 :: c.raw)
def Tr.at_ (L : Nat) (t : Tr) : List UInt8 := brk (decide (t.tight < L)) t.raw
def Tr.need : Tr → Nat
 | .num _ => 0
 | .nam _ => 0
 | .neg a => 1 + (a.need + if a.tight < 4 then 1 else 0)
 | .bin op a b => if op = 109 ∨ op = 77 then 1 + max a.need b.need else max (a.need + if a.tight < leftOf (tightOp op) then 1 else 0) (b.need + if b.tight < tightOp op + 1 then 1 else 0)
 | .sel a b c => max (a.need + if a.tight < 1 then 1 else 0) (max (1 + b.need) (1 + c.need))
def Tr.needs (L : Nat) (t : Tr) : Nat := t.need + if t.tight < L then 1 else 0
def isOp (op : UInt8) : Bool := op == 109 || op == 77 || op == 61 || op == 60 || op == 62 || op == 43 || op == 45 || op == 42 || op == 47 || op == 37
def Tr.fine : Tr → Prop
 | .num k => 0 ≤ k ∧ k ≤ 9223372036854775807
 | .nam _ => True
 | .neg a => a.fine
 | .bin op a b => isOp op = true ∧ a.fine ∧ b.fine
 | .sel a b c => a.fine ∧ b.fine ∧ c.fine
theorem brk_length (b : Bool) (r : List UInt8) : (brk b r).length = r.length + if b then 2 else 0 := by cases b <;> simp [brk]
theorem at_length (L : Nat) (t : Tr) : (t.at_ L).length = t.raw.length + if t.tight < L then 2 else 0 := by
 unfold Tr.at_; rw [brk_length]; by_cases h : t.tight < L <;> simp [h]
theorem at_mono {L M : Nat} (h : L ≤ M) (t : Tr) : (t.at_ L).length ≤ (t.at_ M).length := by
 rw [at_length, at_length]; split <;> split <;> omega
theorem needs_mono {L M : Nat} (h : L ≤ M) (t : Tr) : t.needs L ≤ t.needs M := by
 unfold Tr.needs; split <;> split <;> omega
theorem at_zero (t : Tr) : t.at_ 0 = t.raw := by unfold Tr.at_; simp [brk]
theorem needs_zero (t : Tr) : t.needs 0 = t.need := by unfold Tr.needs; simp
theorem at_up {L : Nat} (t : Tr) : (t.at_ L).length ≤ t.raw.length + 2 := by rw [at_length]; split <;> omega
theorem needs_up {L : Nat} (t : Tr) : t.needs L ≤ t.need + 1 := by unfold Tr.needs; split <;> omega
theorem dec_step {u : Nat} (h : ¬ u < 10) : Lib.decDigits u = Lib.decDigits (u / 10) ++ [UInt8.ofNat (48 + u % 10)] := by
 rw [Lib.decDigits, dif_neg h]
theorem dec_small {u : Nat} (h : u < 10) : Lib.decDigits u = [UInt8.ofNat (48 + u)] := by rw [Lib.decDigits, dif_pos h]
theorem digVal_snoc (l : List UInt8) (c : UInt8) : digVal (l ++ [c]) = digVal l * 10 + (c.toNat - 48) := by simp [digVal, List.foldl_append]
theorem dig_byte {k : Nat} (h : k < 10) : (UInt8.ofNat (48 + k)).toNat = 48 + k ∧ isDig (UInt8.ofNat (48 + k)) = true := by
 have e : (UInt8.ofNat (48 + k)).toNat = 48 + k := by rw [UInt8.toNat_ofNat']; omega
 refine ⟨e, ?_⟩
 unfold isDig
 rw [e]; simp; omega
theorem dec_val (u : Nat) : digVal (Lib.decDigits u) = u := by
 induction u using Nat.strongRecOn with
 | _ u ih =>
  by_cases h : u < 10
  ·rw [dec_small h]; simp [digVal]; omega
  ·rw [dec_step h, digVal_snoc, ih (u / 10) (by omega), (dig_byte (by omega)).1]; omega
theorem dec_digs (u : Nat) : ∀ c ∈ Lib.decDigits u, isDig c = true := by
 induction u using Nat.strongRecOn with
 | _ u ih =>
  by_cases h : u < 10
  ·rw [dec_small h]; intro c hc; rw [List.mem_singleton.1 hc]; exact (dig_byte h).2
  ·rw [dec_step h]; intro c hc
   rcases List.mem_append.1 hc with hc | hc
   ·exact ih (u / 10) (by omega) c hc
   ·rw [List.mem_singleton.1 hc]; exact (dig_byte (by omega)).2
theorem dec_head (u : Nat) (h : 0 < u) : ∃ c r, Lib.decDigits u = c :: r ∧ c ≠ 48 := by
 induction u using Nat.strongRecOn with
 | _ u ih =>
  by_cases hu : u < 10
  ·rw [dec_small hu]
   refine ⟨_, _, rfl, fun e => ?_⟩
   have := (dig_byte hu).1
   rw [e] at this
   have h48 : (48 : UInt8).toNat = 48 := rfl
   omega
  ·obtain ⟨c, r, e, hc⟩ := ih (u / 10) (by omega) (by omega)
   rw [dec_step hu, e]
   exact ⟨c, _, rfl, hc⟩
theorem digVal_lt (ds : List UInt8) (hd : ∀ c ∈ ds, isDig c = true) (a : Nat) : ds.foldl (fun a c => a * 10 + (c.toNat - 48)) a < (a + 1) * 10 ^ ds.length := by
 induction ds generalizing a with
 | nil => simp
 | cons c r ih =>
  have hc := hd c List.mem_cons_self
  unfold isDig at hc
  rw [Bool.and_eq_true, decide_eq_true_iff, decide_eq_true_iff] at hc
  have h1 := ih (fun c h => hd c (List.mem_cons_of_mem _ h)) (a * 10 + (c.toNat - 48))
  rw [List.foldl_cons, List.length_cons, Nat.pow_succ]
  have h2 : (a * 10 + (c.toNat - 48) + 1) * 10 ^ r.length ≤ ((a + 1) * 10) * 10 ^ r.length := Nat.mul_le_mul_right _ (by omega)
  have h3 : (a + 1) * 10 * 10 ^ r.length = (a + 1) * (10 ^ r.length * 10) := by rw [Nat.mul_assoc, Nat.mul_comm 10]
  omega
theorem dec_len (ds : List UInt8) (h : ds ≠ []) (hd : ∀ c ∈ ds, isDig c = true) : (Lib.decDigits (digVal ds)).length ≤ ds.length := by
 have hlt : digVal ds < 10 ^ ds.length := by have := digVal_lt ds hd 0; simpa [digVal] using this
 have hlen : 0 < ds.length := List.length_pos_iff.2 h
 have key : ∀ n u : Nat, 0 < n → u < 10 ^ n → (Lib.decDigits u).length ≤ n := by
  intro n
  induction n with
  | zero => intro u h; omega
  | succ n ih =>
   intro u _ hu
   by_cases h10 : u < 10
   ·rw [dec_small h10]; simp
   ·have hn : 0 < n := by
     rcases Nat.eq_zero_or_pos n with rfl | h
     ·simp at hu; omega
     ·exact h
    rw [dec_step h10, List.length_append, List.length_singleton]
    have := ih (u / 10) hn (by rw [Nat.pow_succ] at hu; omega)
    omega
 exact key _ _ hlen hlt
theorem itoa_nat_ (u : Nat) : Lib.itoa (u : Int) = Lib.decDigits u := by
 unfold Lib.itoa; rw [if_neg (by omega)]; simp
theorem numOf_dig (l : List UInt8) : ∀ c ∈ numOf l, isDig c = true := by
 have h : ∀ c ∈ digsOf l, isDig c = true := fun c hc => by
  unfold digsOf at hc
  exact List.all_eq_true.1 List.all_takeWhile c hc
 unfold numOf
 split
 ·rename_i c d r e
  rw [e] at h
  split
  ·intro c hc; rw [List.mem_singleton.1 hc]; decide
  ·exact h
 ·exact h
def Fits (L d : Nat) (l : List UInt8) (t : Tr) (r : List UInt8) : Prop := t.fine ∧ (t.at_ L).length + r.length ≤ l.length ∧ d + t.needs L ≤ 20
theorem Fits.down {L M d : Nat} {l r : List UInt8} {t : Tr} (h : Fits M d l t r) (hL : L ≤ M) : Fits L d l t r :=
 ⟨h.1, by have := h.2.1; have := at_mono hL t; omega, by have := h.2.2; have := needs_mono hL t; omega⟩
def FitsX (L : Nat) (X : Reads) : Prop := ∀ d l t r, d ≤ 20 → X d l = .ok t r → Fits L d l t r
theorem min_len_ (op : UInt8) (h : op = 109 ∨ op = 77) (a b : Tr) : ((Tr.bin op a b).raw).length = a.raw.length + b.raw.length + 6 ∧ (Tr.bin op a b).need = 1 + max a.need b.need ∧ (Tr.bin op a b).tight = 5 := by
 rcases h with rfl | rfl
 ·refine ⟨?_, rfl, rfl⟩; simp [Tr.raw]; omega
 ·refine ⟨?_, rfl, rfl⟩; simp [Tr.raw]; omega
theorem at_of_tight {L : Nat} {t : Tr} (h : L ≤ t.tight) : t.at_ L = t.raw ∧ t.needs L = t.need := by
 unfold Tr.at_ Tr.needs
 rw [decide_eq_false (by omega), if_neg (by omega)]; exact ⟨rfl, rfl⟩
theorem two_fits {W : Reads} (hW : FitsX 0 W) (op : UInt8) (ho : op = 109 ∨ op = 77) {d : Nat} {l : List UInt8} {t : Tr} {r : List UInt8} (hd : d + 1 ≤ 20) (h : twoRd W op (d + 1) l = .ok t r) (n : Nat) (hn : n = l.length + 4) : t.fine ∧ (t.at_ 5).length + r.length ≤ n ∧ d + t.needs 5 ≤ 20 := by
 obtain ⟨a, l1, h1, h⟩ := Rd.bind_ok h
 obtain ⟨l2, rfl, h⟩ := want_ok h
 obtain ⟨b, l3, h3, h⟩ := Rd.bind_ok h
 obtain ⟨l4, rfl, h⟩ := want_ok h
 injection h with e h; subst h; subst e
 obtain ⟨a1, a2, a3⟩ := hW _ _ _ _ hd h1
 obtain ⟨b1, b2, b3⟩ := hW _ _ _ _ hd h3
 obtain ⟨m1, m2, m3⟩ := min_len_ op ho a b
 obtain ⟨e1, e2⟩ := at_of_tight (L := 5) (t := .bin op a b) (by rw [m3]; exact Nat.le_refl _)
 rw [at_zero] at a2 b2
 rw [needs_zero] at a3 b3
 rw [e1, e2, m1, m2]
 refine ⟨⟨by rcases ho with rfl | rfl <;> rfl, a1, b1⟩, ?_, ?_⟩
 ·simp only [List.length_cons] at *; omega
 ·omega
theorem one_fits {W : Reads} (hW : FitsX 0 W) : FitsX 5 (oneRd W) := fun d l t r hd h => by
 unfold oneRd at h
 split at h
 ·obtain ⟨h20, h⟩ := deep_ok h
  exact two_fits hW 109 (.inl rfl) (by omega) h _ rfl
 ·obtain ⟨h20, h⟩ := deep_ok h
  exact two_fits hW 77 (.inr rfl) (by omega) h _ rfl
 ·injection h with e h; subst h; subst e
  refine ⟨trivial, ?_, ?_⟩
  ·simp [at_length, Tr.raw, Tr.tight]; omega
  ·simp [Tr.needs, Tr.need, Tr.tight]; exact hd
 ·injection h with e h; subst h; subst e
  refine ⟨trivial, ?_, ?_⟩
  ·simp [at_length, Tr.raw, Tr.tight]; omega
  ·simp [Tr.needs, Tr.need, Tr.tight]; exact hd
 ·obtain ⟨h20, h⟩ := deep_ok h
  obtain ⟨a, l1, h1, h⟩ := Rd.bind_ok h
  obtain ⟨l2, rfl, h⟩ := want_ok h
  injection h with e h; subst h; subst e
  obtain ⟨a1, a2, a3⟩ := hW _ _ _ _ (by omega) h1
  rw [at_zero] at a2
  rw [needs_zero] at a3
  have := at_up (L := 5) a
  have := needs_up (L := 5) a
  refine ⟨a1, ?_, by omega⟩
  simp only [List.length_cons] at *; omega
 ·obtain ⟨h1, h2, rfl, rfl⟩ := num_ok h
  refine ⟨⟨by omega, by omega⟩, ?_, ?_⟩
  ·obtain ⟨e1, e2⟩ := at_of_tight (L := 5) (t := .num (digVal (numOf l))) (Nat.le_refl _)
   rw [e1]
   show (Lib.itoa _).length + _ ≤ _
   rw [itoa_nat_, List.length_drop]
   have := dec_len (numOf l) h1 (numOf_dig l)
   have := numOf_le l
   omega
  ·simp [Tr.needs, Tr.need, Tr.tight]; exact hd
theorem less_fits {W : Reads} (hW : FitsX 0 W) : FitsX 4 (lessRd W) := by
 intro d l
 induction l generalizing d with
 | nil => intro t r _ h; cases h
 | cons c l ih =>
  intro t r hd h
  by_cases e : c = 45
  ·subst e
   rw [less_minus] at h
   obtain ⟨h20, h⟩ := deep_ok h
   obtain ⟨a, l1, h1, h⟩ := Rd.bind_ok h
   injection h with e h; subst h; subst e
   obtain ⟨a1, a2, a3⟩ := ih (d + 1) _ _ (by omega) h1
   obtain ⟨e1, e2⟩ := at_of_tight (L := 4) (t := .neg a) (Nat.le_refl _)
   refine ⟨a1, ?_, ?_⟩
   ·rw [e1]
    show (45 :: a.at_ 4).length + _ ≤ _
    simp only [List.length_cons]; omega
   ·rw [e2]
    show d + (1 + a.needs 4) ≤ 20
    omega
  ·rw [less_other _ _ _ e] at h
   exact (one_fits hW d _ _ _ hd h).down (by decide)
theorem loop_fits {next : Reads} {ops : List UInt8} {L : Nat} (hL : L = 2 ∨ L = 3) (hops : ∀ c ∈ ops, isOp c = true ∧ tightOp c = L ∧ c ≠ 109 ∧ c ≠ 77) (hn : FitsX (L + 1) next) (d : Nat) (hd : d ≤ 20) (l0 : List UInt8) : ∀ k a l t r, Fits L d l0 a l → loopRd (next d) ops k a l = .ok t r → Fits L d l0 t r := by
 intro k
 induction k with
 | zero => intro a l t r h0 h; injection h with e h; subst h; subst e; exact h0
 | succ k ih =>
  intro a l t r h0 h
  cases l with
  | nil => injection h with e h; subst h; subst e; exact h0
  | cons c l =>
   simp only [loopRd] at h
   split at h
   ·rename_i hc
    obtain ⟨b, l1, h1, h⟩ := Rd.bind_ok h
    refine ih _ _ _ _ ?_ h
    obtain ⟨b1, b2, b3⟩ := hn _ _ _ _ hd h1
    obtain ⟨a1, a2, a3⟩ := h0
    obtain ⟨o1, o2, o3, o4⟩ := hops c hc
    have ht : (Tr.bin c a b).tight = L := o2
    have hl : leftOf L = L := by rcases hL with rfl | rfl <;> rfl
    obtain ⟨e1, e2⟩ := at_of_tight (L := L) (t := .bin c a b) (by rw [ht]; exact Nat.le_refl _)
    refine ⟨⟨o1, a1, b1⟩, ?_, ?_⟩
    ·rw [e1]
     have : (Tr.bin c a b).raw = a.at_ L ++ c :: b.at_ (L + 1) := by
      simp only [Tr.raw, if_neg o3, if_neg o4, o2, hl]; rfl
     rw [this]
     simp only [List.length_append, List.length_cons] at *; omega
    ·rw [e2]
     have : (Tr.bin c a b).need = max (a.needs L) (b.needs (L + 1)) := by
      simp only [Tr.need, if_neg (show ¬ (c = 109 ∨ c = 77) from fun h => h.elim o3 o4), o2, hl]; rfl
     rw [this]; omega
   ·injection h with e h; subst h; subst e; exact h0
theorem row_fits {next : Reads} {ops : List UInt8} {L : Nat} (hL : L = 2 ∨ L = 3) (hops : ∀ c ∈ ops, isOp c = true ∧ tightOp c = L ∧ c ≠ 109 ∧ c ≠ 77) (hn : FitsX (L + 1) next) : FitsX L (fun d => rowRd (next d) ops) := fun d l t r hd h => by
 obtain ⟨a, l1, h1, h⟩ := Rd.bind_ok h
 exact loop_fits hL hops hn d hd l _ _ _ _ _ ((hn _ _ _ _ hd h1).down (by omega)) h
theorem mul_fits {W : Reads} (hW : FitsX 0 W) : FitsX 3 (mulRd W) := row_fits (.inr rfl) (by decide) (less_fits hW)
theorem add_fits {W : Reads} (hW : FitsX 0 W) : FitsX 2 (addRd W) := row_fits (.inl rfl) (by decide) (mul_fits hW)
theorem cmp_fits {W : Reads} (hW : FitsX 0 W) : FitsX 1 (cmpRd W) := fun d l t r hd h => by
 obtain ⟨a, l1, h1, h⟩ := Rd.bind_ok h
 have g1 := add_fits hW _ _ _ _ hd h1
 cases l1 with
 | nil => injection h with e h; subst h; subst e; exact g1.down (by decide)
 | cons c l1 =>
  simp only [cmpTl] at h
  split at h
  ·rename_i hc
   obtain ⟨b, l2, h2, h⟩ := Rd.bind_ok h
   injection h with e h; subst h; subst e
   obtain ⟨a1, a2, a3⟩ := g1
   obtain ⟨b1, b2, b3⟩ := add_fits hW _ _ _ _ hd h2
   have hops : isOp c = true ∧ tightOp c = 1 ∧ c ≠ 109 ∧ c ≠ 77 := by
    simp only [List.mem_cons, List.not_mem_nil, or_false] at hc
    rcases hc with rfl | rfl | rfl <;> decide
   obtain ⟨o1, o2, o3, o4⟩ := hops
   obtain ⟨e1, e2⟩ := at_of_tight (L := 1) (t := .bin c a b) (by show 1 ≤ tightOp c; rw [o2]; exact Nat.le_refl _)
   refine ⟨⟨o1, a1, b1⟩, ?_, ?_⟩
   ·rw [e1]
    have : (Tr.bin c a b).raw = a.at_ 2 ++ c :: b.at_ 2 := by
     simp only [Tr.raw, if_neg o3, if_neg o4, o2]; rfl
    rw [this]
    simp only [List.length_append, List.length_cons] at *; omega
   ·rw [e2]
    have : (Tr.bin c a b).need = max (a.needs 2) (b.needs 2) := by
     simp only [Tr.need, if_neg (show ¬ (c = 109 ∨ c = 77) from fun h => h.elim o3 o4), o2]; rfl
    rw [this]; omega
  ·injection h with e h; subst h; subst e; exact g1.down (by decide)
theorem step_fits {W : Reads} (hW : FitsX 0 W) : FitsX 0 (wholeStep W) := fun d l t r hd h => by
 obtain ⟨a, l1, h1, h⟩ := Rd.bind_ok h
 have g1 := cmp_fits hW _ _ _ _ hd h1
 cases l1 with
 | nil => injection h with e h; subst h; subst e; exact g1.down (by decide)
 | cons x l1 =>
  simp only [selRd] at h
  split at h
  ·obtain ⟨h20, h⟩ := deep_ok h
   obtain ⟨b, l2, h2, h⟩ := Rd.bind_ok h
   obtain ⟨l3, rfl, h⟩ := want_ok h
   obtain ⟨c, l4, h4, h⟩ := Rd.bind_ok h
   injection h with e h; subst h; subst e
   obtain ⟨a1, a2, a3⟩ := g1
   obtain ⟨b1, b2, b3⟩ := hW _ _ _ _ (by omega) h2
   obtain ⟨c1, c2, c3⟩ := hW _ _ _ _ (by omega) h4
   rw [at_zero] at b2 c2
   rw [needs_zero] at b3 c3
   obtain ⟨e1, e2⟩ := at_of_tight (L := 0) (t := .sel a b c) (Nat.zero_le _)
   refine ⟨⟨a1, b1, c1⟩, ?_, ?_⟩
   ·rw [e1]
    have : (Tr.sel a b c).raw = a.at_ 1 ++ 63 :: (b.raw ++ 58 :: c.raw) := rfl
    rw [this]
    simp only [List.length_append, List.length_cons] at *; omega
   ·rw [e2]
    have : (Tr.sel a b c).need = max (a.needs 1) (max (1 + b.need) (1 + c.need)) := rfl
    rw [this]; omega
  ·injection h with e h; subst h; subst e; exact g1.down (by decide)
theorem whole_fits (k : Nat) : FitsX 0 (wholeRd k) := by
 induction k with
 | zero => exact step_fits (fun d l t r _ h => by cases h)
 | succ k ih => exact step_fits ih
end Go.Proofs.YtfndhfekbbbliaaGreatDoor
