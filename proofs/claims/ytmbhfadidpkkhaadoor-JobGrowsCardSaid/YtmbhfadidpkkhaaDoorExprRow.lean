/-
  Package expr: the contract of row, whatever reads its operands. Conditions: the text takes at most 120 bytes, the depth is at most 20.
-/
import Derived.Test.YtmbhfadidpkkhaaDoorExprLess
import Derived.Deep.RegionWith
import Derived.RegionDies
namespace Go.Proofs.YtmbhfadidpkkhaaDoor
open Go.RowKit Go.Shelf
set_option linter.unusedVariables false

/-- A function value that reads as X does, where R's own place is kept. -/
def Nexts (K : Nat) (args : Array Value) (X : List UInt8 → Rd) (R : Nat) (s : ByteArray) (d m : Nat) (w : World) : Prop := ∀ (l : List UInt8) (W : World), RdL W R s l d → Frm (· = R) w W → l.length ≤ m → Calls Tryd.prog K args W (Reads_ R s d W (X l))
theorem index_mem (ops : List UInt8) (c : UInt8) : (c ∈ ops → 0 ≤ Lib.indexByte ops c) ∧ (c ∉ ops → Lib.indexByte ops c = -1) := by
  induction ops with
  | nil => exact ⟨nofun, fun _ => rfl⟩
  | cons b l ih =>
    unfold Lib.indexByte
    by_cases e : b = c
    · subst e
      exact ⟨fun _ => by simp, fun h => absurd List.mem_cons_self h⟩
    · have e1 : (b == c) = false := beq_eq_false_iff_ne.2 e
      rw [e1]
      refine ⟨fun h => ?_, fun h => ?_⟩
      · have h2 : c ∈ l := by
          rcases List.mem_cons.1 h with h | h
          · exact absurd h.symm e
          · exact h
        have := ih.1 h2
        have e2 : (Lib.indexByte l c == -1) = false := beq_eq_false_iff_ne.2 (by omega)
        simp only [e2, Bool.false_eq_true, if_false]; omega
      · have := ih.2 fun hl => h (List.mem_cons_of_mem _ hl)
        rw [this]; rfl
theorem indexb_ok (ops : ByteArray) (c : UInt8) (w : World) : Calls Tryd.prog 37 #[.string ops, .int .u8 (c.toNat : Int)] w fun e w' => e = .returned (.int .i64 (Lib.indexByte ops.data.toList c)) ∧ w' = w := by
  have := Any.strings_IndexByte Tryd.indexb ops (c.toNat : Int) w
  rw [show (c.toNat : Int).toNat.toUInt8 = c from by simp] at this
  exact this
def posOf (R : Nat) (w : World) : Nat := match w.cell? ⟨R, 1, none⟩ with
  | some (.int _ n) => n.toNat
  | _ => 0
theorem posOf_rd {w : World} {R d : Nat} {s : ByteArray} {l : List UInt8} (h : RdL w R s l d) : posOf R w = s.size - l.length := by
  unfold posOf; rw [h.2.2.cells.2.1]; simp
/-- A row under way: what follows of it, and the tree so far, in a variable. -/
structure RowInv (R : Nat) (s : ByteArray) (d m : Nat) (w : World) (ga : Nat) (X : List UInt8 → Rd) (ops : List UInt8) (r0 : Rd) (a : Tr) (l : List UInt8) (o n : Int) (A : Option Addr) (c : Nat) (wx : World) : Prop where
  rd : RdL wx R s l d
  var : TVar wx ga (.int .u8 o) (.int .i64 n) (.slice A c c)
  res : TVar wx w.heap.size (.int .u8 0) (.int .i64 0) (.slice none 0 0)
  tree : TrC (fun j => w.heap.size < j ∧ j ≠ ga) wx a (trL o n A c)
  frm : Frm (· = R) w wx
  out : ∃ k, l.length ≤ k ∧ r0 = loopRd X ops k a l
  le : l.length ≤ m
set_option maxRecDepth 100000 in
set_option maxHeartbeats 8000000 in
theorem row_reads (R K : Nat) (s : ByteArray) (first cap : Array Value) (ops : ByteArray) (X : List UInt8 → Rd) (l : List UInt8) (d m : Nat) (w : World) (h : RdL w R s l d) (hs : s.size ≤ 120) (hd : d ≤ 20) (hm : l.length ≤ m)
    (hK : ∀ args w, (callFunc K args).run Tryd.prog w = .ok (.enter K args) w) (hS : Short X) (hX : Nexts K (first ++ cap) X R s d m w) (h0 : (0 : UInt8) ∉ ops.data.toList) :
    Calls Tryd.prog 30 #[.pointer (some ⟨R, 0, none⟩), .string ops, .func (.func K) first cap] w (Reads_ R s d w (rowRd X ops.data.toList l)) := by
  obtain ⟨r1, hr1⟩ : ∃ r1, r1 = X l := ⟨_, rfl⟩
  obtain ⟨r0, hr0⟩ : ∃ r0, r0 = rowRd X ops.data.toList l := ⟨_, rfl⟩
  have e0 : r0 = r1.bind fun a l1 => loopRd X ops.data.toList l1.length a l1 := by rw [hr0, hr1]; rfl
  rw [← hr0]
  have HR1 := Lib.hid hr1
  have HR0 := Lib.hid e0
  have HH := Lib.hid h
  have HX := Lib.hid hX
  have HS := Lib.hid hS
  have hlt := h.lt
  have HLT := Lib.hid hlt
  clear hr0 hr1 e0 hX hS
  go_enter Tryd.func30, Tryd.ntmps30
  go_wp2_with fail
  have HH1 : Hid (RdL (w.alloc (.cells #[.int .u8 0, .int .i64 0, .slice none 0 0] 50)) R s l d) := HH.out.keep (heap_alloc_old _ _ hlt)
  have HF1 : Hid (Frm (· = R) w (w.alloc (.cells #[.int .u8 0, .int .i64 0, .slice none 0 0] 50))) := (Frm.refl _ _).alloc _
  have HV1 : Hid (TVar (w.alloc (.cells #[.int .u8 0, .int .i64 0, .slice none 0 0] 50)) w.heap.size (.int .u8 0) (.int .i64 0) (.slice none 0 0)) := TVar.new _ _ _ _
  clear h hlt
  have hcall := HX.out l _ HH1.out HF1.out hm
  rw [← HR1.out] at hcall
  refine hcall.mono ?_
  clear hcall
  intro e w2 hr
  cases r1 with
  | bad k j =>
    obtain ⟨rfl, hp, hf⟩ := hr
    have e0 : r0 = .bad k j := HR0.out
    clear HR0
    subst e0
    exact ⟨rfl, rfl, hp, frm_trans HF1.out hf⟩
  | ok a0 l1 =>
    obtain ⟨o0, n0, A0, c0, rfl, ht, hl, hf⟩ := hr
    have HI : Hid (RowInv R s d m w w2.heap.size X ops.data.toList r0 a0 l1 o0 n0 A0 c0 (w2.alloc (.cells #[.int .u8 o0, .int .i64 n0, .slice A0 c0 c0] 50))) := by
      have hx := HLT.out
      have hv2 : w.heap.size < w2.heap.size := block_lt (HV1.out.frm hf (by omega))
      refine ⟨hl.keep (heap_alloc_old _ _ hl.lt), TVar.new _ _ _ _, (heap_alloc_old _ _ hv2).trans (HV1.out.frm hf (by omega)), ?_, (frm_trans HF1.out hf).alloc _, ⟨_, Nat.le_refl _, HR0.out⟩, ?_⟩
      · have h1 : TrC (fun j => w.heap.size < j ∧ j < w2.heap.size) w2 a0 (trL o0 n0 A0 c0) := ht.in_ fun j hj hj2 => ⟨by simp at hj; omega, hj2⟩
        exact (h1.keep fun j hj => heap_alloc_old _ _ hj.2).in_ fun j hj _ => ⟨hj.1, by omega⟩
      · have := HS.out l a0 l1 HR1.out.symm
        omega
    have HGA : Hid (w.heap.size < w2.heap.size) := block_lt (HV1.out.frm hf (by have := HLT.out; omega))
    clear ht hl hf HH1 HF1 HV1 HH HR0 HR1
    simp only [trA]
    go_wp2_with fail
    refine (peekL R s l1 d _ HI.out.rd).mono ?_
    rintro e w3 ⟨rfl, q, rfl⟩
    obtain ⟨wl, hwl⟩ : ∃ wl, wl = (w2.alloc (.cells #[.int .u8 o0, .int .i64 n0, .slice A0 c0 c0] 50)).drewN q := ⟨_, rfl⟩
    have HI3 : Hid (RowInv R s d m w w2.heap.size X ops.data.toList r0 a0 l1 o0 n0 A0 c0 wl) := by
      rw [hwl]
      exact ⟨HI.out.rd.keep rfl, HI.out.var, HI.out.res, HI.out.tree.keep fun _ _ => rfl, HI.out.frm.drewN q, HI.out.out, HI.out.le⟩
    obtain ⟨ga, hga⟩ : ∃ ga, ga = w2.heap.size := ⟨_, rfl⟩
    rw [← hga] at HI3 HGA ⊢
    rw [← hwl]
    clear hwl HI hga
    go_wp2_with fail
    go_loopw [8] (fun cv wx => ∃ a l2 o n A c, cv = .int .u8 (headB l2) ∧ Hid (RowInv R s d m w ga X ops.data.toList r0 a l2 o n A c wx)) (fun _ wx => s.size - posOf R wx)
    case atStart => exact ⟨a0, l1, o0, n0, A0, c0, rfl, HI3.out⟩
    case round =>
      obtain ⟨a, l2, o, n, A, c, rfl, HJ⟩ := hrel
      obtain ⟨v0, v1, v2, vf⟩ := HJ.out.var.cells
      obtain ⟨z0, z1, z2, zf⟩ := HJ.out.res.cells
      obtain ⟨c0, c1, c2, cf⟩ := HJ.out.rd.2.2.cells
      obtain ⟨q0, q1, q2, qf⟩ := (pass_var (x := .int .u8 o) (y := .int .i64 n) (z := .slice A c c) HJ.out.res).cells
      simp only [tset] at q0 q1 q2
      have HEX : Hid (r0 = .ok a l2 → Reads_ R s d w r0 (.returned (.agg (trA o n A c))) (tset wr w.heap.size (.int .u8 o) (.int .i64 n) (.slice A c c))) := fun e => by
        subst e
        exact pass_ok HJ.out.tree (fun j hj => by omega) HJ.out.rd HJ.out.frm (by have := HLT.out; omega) (Nat.le_refl _)
      have HST : Hid ((∀ x r, l2 = x :: r → x ∉ ops.data.toList) → r0 = .ok a l2) := fun hx => by
        obtain ⟨k, hk, e⟩ := HJ.out.out
        rw [e]; exact loop_stop hx _ _
      cases l2 with
      | nil =>
        have hr := HEX.out (HST.out nofun)
        have eh : headB [] = 0 := rfl
        rw [eh]
        go_wp2_with fail
        refine ⟨rfl, .agg (trA o n A c), ?_, hr⟩
        simp only [results, Tryd.results30]
        simp [go_sem, q0, q1, q2, trA]
      | cons x r =>
        have eh : headB (x :: r) = (x.toNat : Int) := rfl
        rw [eh]
        by_cases hx0 : x = 0
        · subst hx0
          have hr := HEX.out (HST.out fun x r e => by injection e with e _; subst e; exact h0)
          rw [show ((0 : UInt8).toNat : Int) = 0 from rfl]
          go_wp2_with fail
          refine ⟨rfl, .agg (trA o n A c), ?_, hr⟩
          simp only [results, Tryd.results30]
          simp [go_sem, q0, q1, q2, trA]
        · have hne : ¬ x.toNat = 0 := fun e => hx0 (UInt8.toNat_inj.1 e)
          by_cases hxm : x ∈ ops.data.toList
          · have hi := (index_mem ops.data.toList x).1 hxm
            have hd0 : decide (0 ≤ Lib.indexByte ops.data.toList x) = true := decide_eq_true hi
            go_wp2_with fail
            refine (indexb_ok ops x wr).mono ?_
            rintro e w4 ⟨rfl, rfl⟩
            go_wp2_with fail
            obtain ⟨w5, hw5⟩ : ∃ w5, w5 = w4.setCell ⟨R, 1, none⟩ (.int .i64 (((s.size - (r.length + 1) : Nat) : Int) + 1)) := ⟨_, rfl⟩
            have HL5 : Hid (RdL w5 R s r d) := by
              have h1 := HJ.out.rd.2.2.moved (s.size - (r.length + 1) + 1)
              have e2 : (((s.size - (r.length + 1) : Nat) : Int) + 1) = ((s.size - (r.length + 1) + 1 : Nat) : Int) := by omega
              rw [hw5, e2]
              exact HJ.out.rd.on (n := 1) (by simp only [List.length_cons]; omega) rfl h1
            have hpos : posOf R w4 = s.size - (r.length + 1) := by have := posOf_rd HJ.out.rd; simpa using this
            have hrs : r.length + 1 ≤ s.size := by have := HJ.out.rd.1; simpa using this
            have hgR : ga ≠ R := by have := HLT.out; have := HGA.out; omega
            have h5o : ∀ j, j ≠ R → w5.heap[j]? = w4.heap[j]? := fun j hj => by rw [hw5]; exact Below.heap_setCell _ _ _ _ (by simpa using hj)
            have HV5 : Hid (TVar w5 ga (.int .u8 o) (.int .i64 n) (.slice A c c)) := (h5o ga hgR).trans HJ.out.var
            have HZ5 : Hid (TVar w5 w.heap.size (.int .u8 0) (.int .i64 0) (.slice none 0 0)) := (h5o _ (by have := HLT.out; omega)).trans HJ.out.res
            have HT5 : Hid (TrC (fun j => w.heap.size < j ∧ j ≠ ga) w5 a (trL o n A c)) := HJ.out.tree.keep fun j hj => h5o j (by have := HLT.out; have := hj.1; omega)
            have HF5 : Hid (Frm (· = R) w w5) := by rw [hw5]; exact HJ.out.frm.setCell (p := ⟨R, 1, none⟩) (.inl rfl) _
            obtain ⟨rn, hrn⟩ : ∃ rn, rn = X r := ⟨_, rfl⟩
            have HO5 : Hid (∃ k, r.length ≤ k ∧ r0 = rn.bind fun b l1 => loopRd X ops.data.toList k (.bin x a b) l1) := by
              obtain ⟨k, hk, e⟩ := HJ.out.out
              obtain ⟨k2, rfl⟩ : ∃ k2, k = k2 + 1 := ⟨k - 1, by simp only [List.length_cons] at hk; omega⟩
              refine ⟨k2, by simp only [List.length_cons] at hk; omega, ?_⟩
              rw [e, hrn]; simp only [loopRd, if_pos hxm]
            have HNX : Hid (∀ W, RdL W R s r d → Frm (· = R) w W → Calls Tryd.prog K (first ++ cap) W (Reads_ R s d W rn)) := fun W h1 h2 => by
              rw [hrn]; exact HX.out r W h1 h2 (by have := HJ.out.le; simp only [List.length_cons] at this; omega)
            have HRN := Lib.hid hrn
            have HM5 : Hid (r.length < m) := by have := HJ.out.le; simp only [List.length_cons] at this; exact this
            obtain ⟨v0, v1, v2, vf⟩ := HV5.out.cells
            rw [← hw5]
            clear hw5 h5o hrn HJ HEX HST z0 z1 z2 zf c0 c1 c2 cf q0 q1 q2 qf hi hxm hx0
            cases rn with
            | bad k j =>
              have e0 : r0 = .bad k j := by obtain ⟨_, _, e⟩ := HO5.out; exact e
              subst e0
              have HC5 : Hid (Calls Tryd.prog K (first ++ cap) w5.drew fun e w7 => e = faultE (s.size - k) j ∧ (∃ p, RdAt w7 R s p d) ∧ Frm (· = R) w w7) := by
                refine (HNX.out w5.drew (HL5.out.keep rfl) HF5.out.drew).mono ?_
                rintro e w7 ⟨h1, h2, h3⟩
                exact ⟨h1, h2, frm_trans HF5.out.drew h3⟩
              clear HNX HX
              go_region_dies
              all_goals
                refine HC5.out.mono ?_
                rintro e w7 ⟨rfl, hp, hf⟩
                exact ⟨rfl, rfl, hp, hf⟩
            | ok b l3 =>
              have HC5 : Hid (Calls Tryd.prog K (first ++ cap) w5.drew fun e w7 => ∃ o7 n7 A7 c7, e = .returned (.agg #[.int .u8 o7, .int .i64 n7, .slice A7 c7 c7]) ∧ Hid (TrC (w5.heap.size ≤ ·) w7 b (trL o7 n7 A7 c7)) ∧ Hid (RdL w7 R s l3 d) ∧ Hid (Frm (· = R) w5 w7) ∧ Hid (TVar w7 ga (.int .u8 o) (.int .i64 n) (.slice A c c)) ∧
                  w7.cell? ⟨ga, 0, none⟩ = some (.int .u8 o) ∧ w7.cell? ⟨ga, 1, none⟩ = some (.int .i64 n) ∧ w7.cell? ⟨ga, 2, none⟩ = some (.slice A c c) ∧ (∀ ob, (w7.alloc ob).cell? ⟨ga, 0, none⟩ = some (.int .u8 o)) ∧ (∀ ob, (w7.alloc ob).cell? ⟨ga, 1, none⟩ = some (.int .i64 n)) ∧ (∀ ob, (w7.alloc ob).cell? ⟨ga, 2, none⟩ = some (.slice A c c)) ∧ (∀ ob i, (w7.alloc ob).frozen? ⟨ga, i, none⟩ = false)) := by
                refine (HNX.out w5.drew (HL5.out.keep rfl) HF5.out.drew).mono ?_
                intro e w7 hr
                obtain ⟨o7, n7, A7, c7, rfl, ht, hl, hf⟩ := hr
                have hf2 : Frm (· = R) w5 w7 := frm_trans ((Frm.refl _ _).drew) hf
                have hv := HV5.out.frm hf2 (by have := HLT.out; have := HGA.out; omega)
                exact ⟨o7, n7, A7, c7, rfl, ht, hl, hf2, hv, hv.cells.1, hv.cells.2.1, hv.cells.2.2.1, hv.allocs.1, hv.allocs.2.1, hv.allocs.2.2.1, hv.allocs.2.2.2⟩
              clear HNX HX
              go_region_with (refine HC5.out.mono ?_; rintro e w7 ⟨o7, n7, A7, c7, rfl, HT7, HL7, HF7, HV7, y0, y1, y2, a0, a1, a2, af⟩)
              all_goals
                obtain ⟨W8, hW8⟩ : ∃ W8, W8 = tset (w7.alloc (.cells #[.int .u8 o, .int .i64 n, .slice A c c, .int .u8 o7, .int .i64 n7, .slice A7 c7 c7] 50)) ga (.int .u8 (x.toNat : Int)) (.int .i64 0) (.slice (some ⟨w7.heap.size, 0, none⟩) 2 2) := ⟨_, rfl⟩
                have hg7 : ga < w7.heap.size := block_lt HV7.out
                have h57 : w5.heap.size ≤ w7.heap.size := HF7.out.size
                have h5g : ga < w5.heap.size := block_lt HV5.out
                have h5z : w.heap.size < w5.heap.size := block_lt HZ5.out
                have hRg : R < ga := by have := HLT.out; have := HGA.out; omega
                have hRw := HLT.out
                have hwg := HGA.out
                have HI8 : Hid (RowInv R s d m w ga X ops.data.toList r0 (.bin x a b) l3 (x.toNat : Int) 0 (some ⟨w7.heap.size, 0, none⟩) 2 W8) := by
                  have hz7 : TVar w7 w.heap.size (.int .u8 0) (.int .i64 0) (.slice none 0 0) := HZ5.out.frm HF7.out (by omega)
                  obtain ⟨k, hk, e⟩ := HO5.out
                  have hl3 := HS.out r b l3 HRN.out.symm
                  have hm5 := HM5.out
                  rw [hW8]
                  refine ⟨four_rd HL7.out (by omega), four_var HV7.out, (four_far (block_lt hz7) (by omega)).trans hz7, ?_, four_frm (frm_trans HF5.out HF7.out) (by omega), ⟨k, by omega, e⟩, by omega⟩
                  refine ⟨w7.heap.size, trL o n A c, trL o7 n7 A7 c7, rfl, ⟨⟨by omega, by omega⟩, four_new hg7⟩, ?_, ?_⟩
                  · have h1 : TrC (fun j => (w.heap.size < j ∧ j ≠ ga) ∧ j < w5.heap.size) w5 a (trL o n A c) := HT5.out.in_ fun j h1 h2 => ⟨h1, h2⟩
                    have h2 : TrC (fun j => (w.heap.size < j ∧ j ≠ ga) ∧ j < w5.heap.size) w7 a (trL o n A c) := h1.keep fun j hj => HF7.out.block j hj.2 (by omega)
                    exact (h2.keep fun j hj => four_far (by omega) hj.1.2).in_ fun j hj _ => hj.1
                  · have h1 : TrC (fun j => w5.heap.size ≤ j ∧ j < w7.heap.size) w7 b (trL o7 n7 A7 c7) := HT7.out.in_ fun j h1 h2 => ⟨h1, h2⟩
                    exact (h1.keep fun j hj => four_far hj.2 (by omega)).in_ fun j hj _ => ⟨by omega, by omega⟩
                simp only [tset] at hW8
                rw [← hW8]
                clear hW8 HT7 HL7 HF7 HV7 y0 y1 y2 a0 a1 a2 af HT5 HL5 HF5 HV5 HZ5 v0 v1 v2 vf HC5 HO5
                go_wp2_with fail
                refine (peekL R s l3 d _ HI8.out.rd).mono ?_
                rintro e w9 ⟨rfl, q, rfl⟩
                go_wp2_with fail
                have hp8 : posOf R (W8.drewN q) = s.size - l3.length := posOf_rd (HI8.out.rd.keep rfl)
                have hl3 := HS.out r b l3 HRN.out.symm
                have hll := HI8.out.rd.1
                rw [hpos, hp8]
                refine ⟨⟨_, l3, _, _, _, _, rfl, ⟨HI8.out.rd.keep rfl, HI8.out.var, HI8.out.res, HI8.out.tree.keep fun _ _ => rfl, HI8.out.frm.drewN q, HI8.out.out, HI8.out.le⟩⟩, ?_⟩
                omega
          · have hi := (index_mem ops.data.toList x).2 hxm
            have hr := HEX.out (HST.out fun x' r' e => by injection e with e _; subst e; exact hxm)
            go_wp2_with fail
            refine (indexb_ok ops x wr).mono ?_
            rintro e w4 ⟨rfl, rfl⟩
            rw [hi]
            go_wp2_with fail
            refine ⟨rfl, .agg (trA o n A c), ?_, hr⟩
            simp only [results, Tryd.results30]
            simp [go_sem, q0, q1, q2, trA]
end Go.Proofs.YtmbhfadidpkkhaaDoor
