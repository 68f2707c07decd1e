/-
  Package expr: the contracts of compared and of its closures. Conditions: the text takes at most 120 bytes, the depth is at most 20.
-/
import Derived.Test.YtmbhfadidpkkhaaDoorExprRow
import Derived.Deep.RegionHeld2
namespace Go.Proofs.YtmbhfadidpkkhaaDoor
open Go.RowKit Go.Shelf
set_option linter.unusedVariables false

/-- The variable of a reader, in block B. -/
def RBox (w : World) (B R : Nat) : Prop := w.heap[B]? = some (.cells #[.pointer (some ⟨R, 0, none⟩)] 57 (0, 0))
theorem RBox.cell {w : World} {B R : Nat} (h : RBox w B R) : w.cell? ⟨B, 0, none⟩ = some (.pointer (some ⟨R, 0, none⟩)) := (cell_of_row w B 0 _ _ _ h).trans rfl
theorem RBox.frm {w w' : World} {B R : Nat} (h : RBox w B R) (hF : Frm (· = R) w w') (hB : B ≠ R) : RBox w' B R := (hF.block B (block_lt h) hB).trans h
set_option maxRecDepth 100000 in
set_option maxHeartbeats 4000000 in
theorem cmp1_reads {W : Reads} {m : Nat} (hW : ∀ d, Short (W d)) (hless : ReadsAs 32 (lessRd W) m) (R B : Nat) (s : ByteArray) (l : List UInt8) (d : Nat) (w : World) (hB : RBox w B R) (hBR : B ≠ R) (h : RdL w R s l d) (hs : s.size ≤ 120) (hd : d ≤ 20) (hm : l.length ≤ m) (hnv : NumVars w R) :
    Calls Tryd.prog 31 #[.pointer (some ⟨B, 0, none⟩)] w (Reads_ R s d w (mulRd W d l)) := by
  obtain ⟨r0, hr0⟩ : ∃ r0, r0 = mulRd W d l := ⟨_, rfl⟩
  have HR0 := Lib.hid hr0
  rw [← hr0]
  have hmf : ∀ (fn : Fn) (first cap : Array Value) (w : World), (Instr.makeFunc fn first cap).run Tryd.prog w = .ok (.func fn first cap) w := fun _ _ _ _ => rfl
  have HH := Lib.hid h
  have HB := Lib.hid hB
  have hb0 : ∀ ob, (w.alloc ob).cell? ⟨B, 0, none⟩ = some (.pointer (some ⟨R, 0, none⟩)) := fun ob => RBox.cell ((heap_alloc_old _ _ (block_lt hB)).trans hB)
  have hlt := h.lt
  have HLT := Lib.hid hlt
  have HBL : Hid (B < w.heap.size) := block_lt hB
  clear hr0 h hB
  go_enter Tryd.func31, Tryd.ntmps31
  go_wp2_with fail
  have HH1 : Hid (RdL (w.alloc (.cells #[.int .u8 0, .int .i64 0, .slice none 0 0] 50)) R s l d) := HH.out.keep (heap_alloc_old _ _ hlt)
  have HF1 : Hid (Frm (· = R) w (w.alloc (.cells #[.int .u8 0, .int .i64 0, .slice none 0 0] 50))) := (Frm.refl _ _).alloc _
  have HV1 : Hid (TVar (w.alloc (.cells #[.int .u8 0, .int .i64 0, .slice none 0 0] 50)) w.heap.size (.int .u8 0) (.int .i64 0) (.slice none 0 0)) := TVar.new _ _ _ _
  have hcall := row_reads R 32 s #[.pointer (some ⟨R, 0, none⟩)] #[] ⟨#[42, 47, 37]⟩ (lessRd W d) l d m _ HH1.out hs hd hm (fun _ _ => rfl) (less_short hW d) (fun l W2 h1 h2 h3 => hless R s l d W2 h1 hs hd h3 (hnv.frm (frm_trans HF1.out h2))) (by decide)
  have HC : Hid (Calls Tryd.prog 30 #[.pointer (some ⟨R, 0, none⟩), .string ⟨#[42, 47, 37]⟩, .func (.func 32) #[.pointer (some ⟨R, 0, none⟩)] #[]] (w.alloc (.cells #[.int .u8 0, .int .i64 0, .slice none 0 0] 50)) (Reads_ R s d (w.alloc (.cells #[.int .u8 0, .int .i64 0, .slice none 0 0] 50)) r0)) := by
    rw [HR0.out]; exact hcall
  clear hcall
  refine HC.out.mono ?_
  intro e w3 hr
  clear HR0
  cases r0 with
  | bad k j =>
    obtain ⟨rfl, hp, hf⟩ := hr
    exact ⟨rfl, rfl, hp, frm_trans HF1.out hf⟩
  | ok a l1 =>
    obtain ⟨o, n, A, ca, rfl, ht, hl, hf⟩ := hr
    have HT := Lib.hid ht
    have HL := Lib.hid hl
    have HF3 := Lib.hid (frm_trans HF1.out hf)
    have hV := HV1.out.frm hf (by have := HLT.out; omega)
    have HV3 := Lib.hid hV
    obtain ⟨v0, v1, v2, vf⟩ := hV.cells
    clear ht hl hf hV HV1 HH1 HF1
    simp only [trA]
    go_wp2_with fail
    obtain ⟨q0, q1, q2, qf⟩ := (pass_var (x := .int .u8 o) (y := .int .i64 n) (z := .slice A ca ca) HV3.out).cells
    simp only [tset] at q0 q1 q2
    refine ⟨rfl, .agg (trA o n A ca), ?_, pass_ok HT.out (fun j hj => by simp at hj; omega) HL.out HF3.out (by have := HLT.out; omega) (Nat.le_refl _)⟩
    simp only [results, Tryd.results31]
    simp [go_sem, q0, q1, q2, trA]
set_option maxRecDepth 100000 in
set_option maxHeartbeats 4000000 in
theorem cmp2_reads {W : Reads} {m : Nat} (hW : ∀ d, Short (W d)) (hless : ReadsAs 32 (lessRd W) m) (R B : Nat) (s : ByteArray) (l : List UInt8) (d : Nat) (w : World) (hB : RBox w B R) (hBR : B ≠ R) (h : RdL w R s l d) (hs : s.size ≤ 120) (hd : d ≤ 20) (hm : l.length ≤ m) (hnv : NumVars w R) :
    Calls Tryd.prog 34 #[.pointer (some ⟨B, 0, none⟩)] w (Reads_ R s d w (mulRd W d l)) := by
  obtain ⟨r0, hr0⟩ : ∃ r0, r0 = mulRd W d l := ⟨_, rfl⟩
  have HR0 := Lib.hid hr0
  rw [← hr0]
  have hmf : ∀ (fn : Fn) (first cap : Array Value) (w : World), (Instr.makeFunc fn first cap).run Tryd.prog w = .ok (.func fn first cap) w := fun _ _ _ _ => rfl
  have HH := Lib.hid h
  have HB := Lib.hid hB
  have hb0 : ∀ ob, (w.alloc ob).cell? ⟨B, 0, none⟩ = some (.pointer (some ⟨R, 0, none⟩)) := fun ob => RBox.cell ((heap_alloc_old _ _ (block_lt hB)).trans hB)
  have hlt := h.lt
  have HLT := Lib.hid hlt
  have HBL : Hid (B < w.heap.size) := block_lt hB
  clear hr0 h hB
  go_enter Tryd.func34, Tryd.ntmps34
  go_wp2_with fail
  have HH1 : Hid (RdL (w.alloc (.cells #[.int .u8 0, .int .i64 0, .slice none 0 0] 50)) R s l d) := HH.out.keep (heap_alloc_old _ _ hlt)
  have HF1 : Hid (Frm (· = R) w (w.alloc (.cells #[.int .u8 0, .int .i64 0, .slice none 0 0] 50))) := (Frm.refl _ _).alloc _
  have HV1 : Hid (TVar (w.alloc (.cells #[.int .u8 0, .int .i64 0, .slice none 0 0] 50)) w.heap.size (.int .u8 0) (.int .i64 0) (.slice none 0 0)) := TVar.new _ _ _ _
  have hcall := row_reads R 32 s #[.pointer (some ⟨R, 0, none⟩)] #[] ⟨#[42, 47, 37]⟩ (lessRd W d) l d m _ HH1.out hs hd hm (fun _ _ => rfl) (less_short hW d) (fun l W2 h1 h2 h3 => hless R s l d W2 h1 hs hd h3 (hnv.frm (frm_trans HF1.out h2))) (by decide)
  have HC : Hid (Calls Tryd.prog 30 #[.pointer (some ⟨R, 0, none⟩), .string ⟨#[42, 47, 37]⟩, .func (.func 32) #[.pointer (some ⟨R, 0, none⟩)] #[]] (w.alloc (.cells #[.int .u8 0, .int .i64 0, .slice none 0 0] 50)) (Reads_ R s d (w.alloc (.cells #[.int .u8 0, .int .i64 0, .slice none 0 0] 50)) r0)) := by
    rw [HR0.out]; exact hcall
  clear hcall
  refine HC.out.mono ?_
  intro e w3 hr
  clear HR0
  cases r0 with
  | bad k j =>
    obtain ⟨rfl, hp, hf⟩ := hr
    exact ⟨rfl, rfl, hp, frm_trans HF1.out hf⟩
  | ok a l1 =>
    obtain ⟨o, n, A, ca, rfl, ht, hl, hf⟩ := hr
    have HT := Lib.hid ht
    have HL := Lib.hid hl
    have HF3 := Lib.hid (frm_trans HF1.out hf)
    have hV := HV1.out.frm hf (by have := HLT.out; omega)
    have HV3 := Lib.hid hV
    obtain ⟨v0, v1, v2, vf⟩ := hV.cells
    clear ht hl hf hV HV1 HH1 HF1
    simp only [trA]
    go_wp2_with fail
    obtain ⟨q0, q1, q2, qf⟩ := (pass_var (x := .int .u8 o) (y := .int .i64 n) (z := .slice A ca ca) HV3.out).cells
    simp only [tset] at q0 q1 q2
    refine ⟨rfl, .agg (trA o n A ca), ?_, pass_ok HT.out (fun j hj => by simp at hj; omega) HL.out HF3.out (by have := HLT.out; omega) (Nat.le_refl _)⟩
    simp only [results, Tryd.results34]
    simp [go_sem, q0, q1, q2, trA]
set_option maxRecDepth 100000 in
set_option maxHeartbeats 8000000 in
theorem cmp_reads {W : Reads} {m : Nat} (hW : ∀ d, Short (W d)) (hless : ReadsAs 32 (lessRd W) m) : ReadsAs 26 (cmpRd W) m := by
  intro R s l d w h hs hd hm hnv
  obtain ⟨r1, hr1⟩ : ∃ r1, r1 = addRd W d l := ⟨_, rfl⟩
  obtain ⟨r0, hr0⟩ : ∃ r0, r0 = cmpRd W d l := ⟨_, rfl⟩
  have e0 : r0 = r1.bind (cmpTl W d) := by rw [hr0, hr1]; rfl
  rw [← hr0]
  have hmf : ∀ (fn : Fn) (first cap : Array Value) (w : World), (Instr.makeFunc fn first cap).run Tryd.prog w = .ok (.func fn first cap) w := fun _ _ _ _ => rfl
  have HR1 := Lib.hid hr1
  have HR0 := Lib.hid e0
  have HH := Lib.hid h
  have hlt := h.lt
  have HLT := Lib.hid hlt
  have HLESS := Lib.hid hless
  clear hr0 hr1 e0 h
  go_enter Tryd.func26, Tryd.ntmps26
  go_wp2_with fail
  obtain ⟨W1, hW1⟩ : ∃ W1, W1 = (w.alloc (.cells #[.pointer (some ⟨R, 0, none⟩)] 57)).alloc (.cells #[.int .u8 0, .int .i64 0, .slice none 0 0] 50) := ⟨_, rfl⟩
  have hs1 : W1.heap.size = w.heap.size + 2 := by rw [hW1]; simp
  have HH1 : Hid (RdL W1 R s l d) := by rw [hW1]; exact HH.out.keep ((heap_alloc_old _ _ (by simp; omega)).trans (heap_alloc_old _ _ hlt))
  have HF1 : Hid (Frm (· = R) w W1) := by rw [hW1]; exact ((Frm.refl _ _).alloc _).alloc _
  have HB1 : Hid (RBox W1 w.heap.size R) := by rw [hW1]; exact (heap_alloc_old _ _ (by simp)).trans (heap_alloc_new _ _)
  have HZ1 : Hid (TVar W1 (w.heap.size + 1) (.int .u8 0) (.int .i64 0) (.slice none 0 0)) := by
    show TVar _ _ _ _ _
    rw [hW1]
    have := heap_alloc_new (w.alloc (.cells #[.pointer (some ⟨R, 0, none⟩)] 57)) (.cells #[.int .u8 0, .int .i64 0, .slice none 0 0] 50)
    simpa [TVar] using this
  rw [← hW1]
  have HS1 := Lib.hid hs1
  clear hW1 HH hlt hs1
  have hcall := row_reads R 31 s #[] #[.pointer (some ⟨w.heap.size, 0, none⟩)] ⟨#[43, 45]⟩ (mulRd W d) l d m W1 HH1.out hs hd hm (fun _ _ => rfl) (row_short (less_short hW d) _) (fun l W2 h1 h2 h3 => cmp1_reads hW HLESS.out R w.heap.size s l d W2 (HB1.out.frm h2 (by have := HLT.out; omega)) (by have := HLT.out; omega) h1 hs hd h3 (hnv.frm (frm_trans HF1.out h2))) (by decide)
  have HC : Hid (Calls Tryd.prog 30 #[.pointer (some ⟨R, 0, none⟩), .string ⟨#[43, 45]⟩, .func (.func 31) #[] #[.pointer (some ⟨w.heap.size, 0, none⟩)]] W1 (Reads_ R s d W1 r1)) := by
    rw [HR1.out]; exact hcall
  clear hcall
  refine HC.out.mono ?_
  clear HC
  intro e w2 hr
  cases r1 with
  | bad k j =>
    obtain ⟨rfl, hp, hf⟩ := hr
    have e0 : r0 = .bad k j := HR0.out
    clear HR0
    subst e0
    exact ⟨rfl, rfl, hp, frm_trans HF1.out hf⟩
  | ok a l1 =>
    obtain ⟨o, n, A, c, rfl, ht, hl, hf⟩ := hr
    have e0 : r0 = cmpTl W d a l1 := HR0.out
    have HE0 := Lib.hid e0
    have hRw := HLT.out
    have hs2 := HS1.out
    have hs3 := hf.size
    have HL := Lib.hid hl
    have HB2 := Lib.hid (HB1.out.frm hf (by omega))
    have HZ2 := Lib.hid (HZ1.out.frm hf (by omega))
    have HF2 := Lib.hid (frm_trans HF1.out hf)
    have HT := Lib.hid ht
    have HM : Hid (l1.length < m) := by have := add_short hW d l a l1 HR1.out.symm; show _ < _; omega
    have hb0 : ∀ ob, (w2.alloc ob).cell? ⟨w.heap.size, 0, none⟩ = some (.pointer (some ⟨R, 0, none⟩)) := fun ob => RBox.cell ((heap_alloc_old _ _ (block_lt HB2.out)).trans HB2.out)
    clear ht hl hf HH1 HF1 HB1 HZ1 HS1 HR0 HR1 e0
    simp only [trA]
    go_wp2_with fail
    obtain ⟨ga, hga⟩ : ∃ ga, ga = w2.heap.size := ⟨_, rfl⟩
    obtain ⟨w3, hw3⟩ : ∃ w3, w3 = w2.alloc (.cells #[.int .u8 o, .int .i64 n, .slice A c c] 50) := ⟨_, rfl⟩
    have HL3 : Hid (RdL w3 R s l1 d) := by rw [hw3]; exact HL.out.keep (heap_alloc_old _ _ HL.out.lt)
    have HB3 : Hid (RBox w3 w.heap.size R) := by rw [hw3]; exact (heap_alloc_old _ _ (block_lt HB2.out)).trans HB2.out
    have HZ3 : Hid (TVar w3 (w.heap.size + 1) (.int .u8 0) (.int .i64 0) (.slice none 0 0)) := by rw [hw3]; exact (heap_alloc_old _ _ (block_lt HZ2.out)).trans HZ2.out
    have HV3 : Hid (TVar w3 ga (.int .u8 o) (.int .i64 n) (.slice A c c)) := by rw [hw3, hga]; exact TVar.new _ _ _ _
    have HF3 : Hid (Frm (· = R) w w3) := by rw [hw3]; exact HF2.out.alloc _
    have HT3 : Hid (TrC (fun j => w.heap.size + 2 ≤ j ∧ j < ga) w3 a (trL o n A c)) := by
      have h1 : TrC (fun j => w.heap.size + 2 ≤ j ∧ j < ga) w2 a (trL o n A c) := HT.out.in_ fun j h1 h2 => ⟨by omega, by omega⟩
      rw [hw3]; exact h1.keep fun j hj => heap_alloc_old _ _ (by omega)
    have HG3 : Hid (w.heap.size + 2 ≤ ga) := by rw [hga]; show _ ≤ _; omega
    rw [← hga, ← hw3]
    clear HL HB2 HZ2 HF2 HT hb0 hs2 hs3 hRw hw3 hga
    have hb3 := HB3.out.cell
    go_wp2_with fail
    refine (peekL R s l1 d _ HL3.out).mono ?_
    rintro e w4 ⟨rfl, q, rfl⟩
    have HL4 : Hid (RdL (w3.drewN q) R s l1 d) := HL3.out.keep rfl
    have HB4 : Hid (RBox (w3.drewN q) w.heap.size R) := HB3.out
    have HZ4 : Hid (TVar (w3.drewN q) (w.heap.size + 1) (.int .u8 0) (.int .i64 0) (.slice none 0 0)) := HZ3.out
    have HV4 : Hid (TVar (w3.drewN q) ga (.int .u8 o) (.int .i64 n) (.slice A c c)) := HV3.out
    have HF4 : Hid (Frm (· = R) w (w3.drewN q)) := HF3.out.drewN q
    have HT4 : Hid (TrC (fun j => w.heap.size + 2 ≤ j ∧ j < ga) (w3.drewN q) a (trL o n A c)) := HT3.out.keep fun _ _ => rfl
    generalize w3.drewN q = w4 at *
    clear HL3 HB3 HZ3 HV3 HF3 HT3 hb3
    obtain ⟨v0, v1, v2, vf⟩ := HV4.out.cells
    obtain ⟨z0, z1, z2, zf⟩ := HZ4.out.cells
    obtain ⟨c0, c1, c2, cf⟩ := HL4.out.2.2.cells
    have hb4 := HB4.out.cell
    have HEX : Hid (r0 = .ok a l1 → Reads_ R s d w r0 (.returned (.agg (trA o n A c))) (tset w4 (w.heap.size + 1) (.int .u8 o) (.int .i64 n) (.slice A c c))) := fun e => by
      subst e
      exact pass_ok HT4.out (fun j hj => by omega) HL4.out HF4.out (by have := HLT.out; omega) (by omega)
    obtain ⟨q0, q1, q2, qf⟩ := (pass_var (x := .int .u8 o) (y := .int .i64 n) (z := .slice A c c) HZ4.out).cells
    simp only [tset] at q0 q1 q2
    cases l1 with
    | nil =>
      have hr := HEX.out HE0.out
      have eh : headB [] = 0 := rfl
      rw [eh]
      go_wp2_with fail
      refine ⟨rfl, .agg (trA o n A c), ?_, hr⟩
      simp only [results, Tryd.results26]
      simp [go_sem, q0, q1, q2, trA]
    | cons x r =>
      have eh : headB (x :: r) = (x.toNat : Int) := rfl
      rw [eh]
      by_cases hx : x ∈ ([61, 60, 62] : List UInt8)
      · have hcase : x = 61 ∨ x = 60 ∨ x = 62 := by simpa using hx
        have hE : r0 = (addRd W d r).bind fun b l2 => .ok (.bin x a b) l2 := by
          rw [HE0.out]; simp only [cmpTl, if_pos hx]
        have HE := Lib.hid hE
        have key : ((x.toNat : Int) == 61) = true ∨ (((x.toNat : Int) == 61) = false ∧ ((x.toNat : Int) == 60) = true) ∨ (((x.toNat : Int) == 61) = false ∧ ((x.toNat : Int) == 60) = false ∧ ((x.toNat : Int) == 62) = true) := by
          rcases hcase with e | e | e
          · exact .inl (by rw [e]; rfl)
          · exact .inr (.inl ⟨by rw [e]; rfl, by rw [e]; rfl⟩)
          · exact .inr (.inr ⟨by rw [e]; rfl, by rw [e]; rfl, by rw [e]; rfl⟩)
        clear hE HE0 HEX q0 q1 q2 qf hx hcase
        rcases key with m1 | ⟨m1, m2⟩ | ⟨m1, m2, m3⟩
        all_goals
          go_wp2_with fail
          obtain ⟨w5, hw5⟩ : ∃ w5, w5 = w4.setCell ⟨R, 1, none⟩ (.int .i64 (((s.size - (r.length + 1) : Nat) : Int) + 1)) := ⟨_, rfl⟩
          have hRw := HLT.out
          have hg3 := HG3.out
          have HL5 : Hid (RdL w5 R s r d) := by
            have h1 := HL4.out.2.2.moved (s.size - (r.length + 1) + 1)
            have e2 : (((s.size - (r.length + 1) : Nat) : Int) + 1) = ((s.size - (r.length + 1) + 1 : Nat) : Int) := by omega
            rw [hw5, e2]
            exact HL4.out.on (n := 1) (by simp only [List.length_cons]; omega) rfl h1
          have h5o : ∀ j, j ≠ R → w5.heap[j]? = w4.heap[j]? := fun j hj => by rw [hw5]; exact Below.heap_setCell _ _ _ _ (by simpa using hj)
          have HV5 : Hid (TVar w5 ga (.int .u8 o) (.int .i64 n) (.slice A c c)) := (h5o ga (by omega)).trans HV4.out
          have HZ5 : Hid (TVar w5 (w.heap.size + 1) (.int .u8 0) (.int .i64 0) (.slice none 0 0)) := (h5o _ (by omega)).trans HZ4.out
          have HB5 : Hid (RBox w5 w.heap.size R) := (h5o _ (by omega)).trans HB4.out
          have HT5 : Hid (TrC (fun j => w.heap.size + 2 ≤ j ∧ j < ga) w5 a (trL o n A c)) := HT4.out.keep fun j hj => h5o j (by omega)
          have HF5 : Hid (Frm (· = R) w w5) := by rw [hw5]; exact HF4.out.setCell (p := ⟨R, 1, none⟩) (.inl rfl) _
          obtain ⟨rn, hrn⟩ : ∃ rn, rn = addRd W d r := ⟨_, rfl⟩
          have HE5 : Hid (r0 = rn.bind fun b l2 => .ok (.bin x a b) l2) := by rw [hrn]; exact HE.out
          have HC5 : Hid (Calls Tryd.prog 30 #[.pointer (some ⟨R, 0, none⟩), .string ⟨#[43, 45]⟩, .func (.func 34) #[] #[.pointer (some ⟨w.heap.size, 0, none⟩)]] w5.drew (Reads_ R s d w5.drew rn)) := by
            have hm2 := HM.out
            rw [hrn]
            exact row_reads R 34 s #[] #[.pointer (some ⟨w.heap.size, 0, none⟩)] ⟨#[43, 45]⟩ (mulRd W d) r d m w5.drew (HL5.out.keep rfl) hs hd (by simp only [List.length_cons] at hm2; omega) (fun _ _ => rfl) (row_short (less_short hW d) _) (fun l W2 h1 h2 h3 => cmp2_reads hW HLESS.out R w.heap.size s l d W2 (RBox.frm (show RBox w5.drew w.heap.size R from HB5.out) h2 (by omega)) (by omega) h1 hs hd h3 (hnv.frm (frm_trans HF5.out.drew h2))) (by decide)
          have hcells : ∀ W8 : World, TVar W8 ga (.int .u8 o) (.int .i64 n) (.slice A c c) → RBox W8 w.heap.size R → (W8.cell? ⟨ga, 0, none⟩ = some (.int .u8 o) ∧ W8.cell? ⟨ga, 1, none⟩ = some (.int .i64 n) ∧ W8.cell? ⟨ga, 2, none⟩ = some (.slice A c c) ∧ W8.cell? ⟨w.heap.size, 0, none⟩ = some (.pointer (some ⟨R, 0, none⟩))) := fun W8 h1 h2 => ⟨h1.cells.1, h1.cells.2.1, h1.cells.2.2.1, h2.cell⟩
          have hS0 : (w5.drew.cell? ⟨ga, 0, none⟩ = some (.int .u8 o) ∧ w5.drew.cell? ⟨ga, 1, none⟩ = some (.int .i64 n) ∧ w5.drew.cell? ⟨ga, 2, none⟩ = some (.slice A c c) ∧ w5.drew.cell? ⟨w.heap.size, 0, none⟩ = some (.pointer (some ⟨R, 0, none⟩))) := hcells w5.drew HV5.out HB5.out
          have HC6 : Hid (Calls Tryd.prog 30 #[.pointer (some ⟨R, 0, none⟩), .string ⟨#[43, 45]⟩, .func (.func 34) #[] #[.pointer (some ⟨w.heap.size, 0, none⟩)]] w5.drew fun e w7 => (∃ k j, rn = .bad k j ∧ e = faultE (s.size - k) j ∧ (∃ p, RdAt w7 R s p d) ∧ Frm (· = R) w5 w7) ∨
              ∃ b l3 o7 n7 A7 c7, Hid (rn = .ok b l3) ∧ e = .returned (.agg #[.int .u8 o7, .int .i64 n7, .slice A7 c7 c7]) ∧ Hid (TrC (w5.heap.size ≤ ·) w7 b (trL o7 n7 A7 c7)) ∧ Hid (RdL w7 R s l3 d) ∧ Hid (Frm (· = R) w5 w7) ∧ Hid (TVar w7 (w.heap.size + 1) (.int .u8 0) (.int .i64 0) (.slice none 0 0)) ∧
              (w7.cell? ⟨ga, 0, none⟩ = some (.int .u8 o) ∧ w7.cell? ⟨ga, 1, none⟩ = some (.int .i64 n) ∧ w7.cell? ⟨ga, 2, none⟩ = some (.slice A c c) ∧ w7.cell? ⟨w.heap.size, 0, none⟩ = some (.pointer (some ⟨R, 0, none⟩))) ∧ (∀ ob, ((w7.alloc ob).cell? ⟨ga, 0, none⟩ = some (.int .u8 o) ∧ (w7.alloc ob).cell? ⟨ga, 1, none⟩ = some (.int .i64 n) ∧ (w7.alloc ob).cell? ⟨ga, 2, none⟩ = some (.slice A c c) ∧ (w7.alloc ob).cell? ⟨w.heap.size, 0, none⟩ = some (.pointer (some ⟨R, 0, none⟩)))) ∧ (∀ ob x1 x2 x3, (((((w7.alloc ob).setCell ⟨w.heap.size + 1, 0, none⟩ x1).setCell ⟨w.heap.size + 1, 1, none⟩ x2).setCell ⟨w.heap.size + 1, 2, none⟩ x3).cell? ⟨ga, 0, none⟩ = some (.int .u8 o) ∧ ((((w7.alloc ob).setCell ⟨w.heap.size + 1, 0, none⟩ x1).setCell ⟨w.heap.size + 1, 1, none⟩ x2).setCell ⟨w.heap.size + 1, 2, none⟩ x3).cell? ⟨ga, 1, none⟩ = some (.int .i64 n) ∧ ((((w7.alloc ob).setCell ⟨w.heap.size + 1, 0, none⟩ x1).setCell ⟨w.heap.size + 1, 1, none⟩ x2).setCell ⟨w.heap.size + 1, 2, none⟩ x3).cell? ⟨ga, 2, none⟩ = some (.slice A c c) ∧ ((((w7.alloc ob).setCell ⟨w.heap.size + 1, 0, none⟩ x1).setCell ⟨w.heap.size + 1, 1, none⟩ x2).setCell ⟨w.heap.size + 1, 2, none⟩ x3).cell? ⟨w.heap.size, 0, none⟩ = some (.pointer (some ⟨R, 0, none⟩)))) ∧ (∀ ob, (w7.alloc ob).cell? ⟨w.heap.size + 1, 0, none⟩ = some (.int .u8 0)) ∧ (∀ ob, (w7.alloc ob).cell? ⟨w.heap.size + 1, 1, none⟩ = some (.int .i64 0)) ∧ (∀ ob, (w7.alloc ob).cell? ⟨w.heap.size + 1, 2, none⟩ = some (.slice none 0 0)) ∧ (∀ ob i, (w7.alloc ob).frozen? ⟨w.heap.size + 1, i, none⟩ = false)) := by
            refine HC5.out.mono ?_
            intro e w7 hr
            cases hcr : rn with
            | bad k j =>
              rw [hcr] at hr
              obtain ⟨h1, h2, h3⟩ := hr
              exact .inl ⟨k, j, rfl, h1, h2, frm_trans ((Frm.refl _ _).drew) h3⟩
            | ok b l3 =>
              rw [hcr] at hr
              obtain ⟨o7, n7, A7, c7, rfl, ht, hl, hf⟩ := hr
              have hf2 : Frm (· = R) w5 w7 := frm_trans ((Frm.refl _ _).drew) hf
              have hv := HV5.out.frm hf2 (by omega)
              have hb := HB5.out.frm hf2 (by omega)
              have hz := HZ5.out.frm hf2 (by omega)
              have far : ∀ ob (x y z : Value) (j : Nat), j < w7.heap.size → j ≠ w.heap.size + 1 → (tset (w7.alloc ob) (w.heap.size + 1) x y z).heap[j]? = w7.heap[j]? := fun ob x y z j h1 h2 => four_far (k := w.heap.size + 1) h1 h2
              exact .inr ⟨b, l3, o7, n7, A7, c7, rfl, rfl, ht, hl, hf2, hz, hcells w7 hv hb, fun ob => hcells (w7.alloc ob) ((heap_alloc_old _ _ (block_lt hv)).trans hv) ((heap_alloc_old _ _ (block_lt hb)).trans hb), fun ob x y z => hcells _ ((far ob x y z ga (block_lt hv) (by omega)).trans hv) ((far ob x y z w.heap.size (block_lt hb) (by omega)).trans hb), hz.allocs.1, hz.allocs.2.1, hz.allocs.2.2.1, hz.allocs.2.2.2⟩
          have HBAD : Hid (∀ k j w8, rn = .bad k j → (∃ p, RdAt w8 R s p d) → Frm (· = R) w5 w8 → Reads_ R s d w r0 (faultE (s.size - k) j) w8) := fun k j w8 h1 h2 h3 => by
            have e0 : r0 = .bad k j := by rw [HE5.out, h1]; rfl
            rw [e0]; exact ⟨rfl, h2, frm_trans HF5.out h3⟩
          rw [← hw5]
          clear hw5 h5o hrn HL4 HV4 HZ4 HB4 HT4 HF4 HE v0 v1 v2 vf z0 z1 z2 zf c0 c1 c2 cf hb4 HC5 hcells HB5
          go_region_held2 (fun W => W.cell? ⟨ga, 0, none⟩ = some (.int .u8 o) ∧ W.cell? ⟨ga, 1, none⟩ = some (.int .i64 n) ∧ W.cell? ⟨ga, 2, none⟩ = some (.slice A c c) ∧ W.cell? ⟨w.heap.size, 0, none⟩ = some (.pointer (some ⟨R, 0, none⟩))) (first | with_reducible exact hS0 | with_reducible exact hS7 | with_reducible exact hS7a _ | with_reducible exact hS7b _ _ _ _) (first
            | (go_at_call 30; refine HC6.out.mono ?_; rintro e w7 (⟨k, j, h1, rfl, h2, h3⟩ | ⟨b, l3, o7, n7, A7, c7, HRN, rfl, HT7, HL7, HF7, HZ7, hS7, hS7a, hS7b, a0, a1, a2, af⟩); exact ⟨rfl, HBAD.out k j w7 h1 h2 h3⟩))
          all_goals
            have hg5 : ga < w5.heap.size := block_lt HV5.out
            have h57 : w5.heap.size ≤ w7.heap.size := HF7.out.size
            have e0 : r0 = .ok (.bin x a b) l3 := by rw [HE5.out, HRN.out]; rfl
            obtain ⟨q0, q1, q2, qf⟩ := (four_var (x := .int .u8 (x.toNat : Int)) (y := .int .i64 0) (z := .slice (some ⟨w7.heap.size, 0, none⟩) 2 2) (ob := (.cells #[.int .u8 o, .int .i64 n, .slice A c c, .int .u8 o7, .int .i64 n7, .slice A7 c7 c7] 50)) HZ7.out).cells
            have hfin : Reads_ R s d w r0 (.returned (.agg (trA (x.toNat : Int) 0 (some ⟨w7.heap.size, 0, none⟩) 2))) (tset (w7.alloc (.cells #[.int .u8 o, .int .i64 n, .slice A c c, .int .u8 o7, .int .i64 n7, .slice A7 c7 c7] 50)) (w.heap.size + 1) (.int .u8 (x.toNat : Int)) (.int .i64 0) (.slice (some ⟨w7.heap.size, 0, none⟩) 2 2)) := by
              rw [e0]
              refine ⟨(x.toNat : Int), 0, some ⟨w7.heap.size, 0, none⟩, 2, rfl, ⟨w7.heap.size, trL o n A c, trL o7 n7 A7 c7, rfl, ⟨by omega, four_new (block_lt HZ7.out)⟩, ?_, ?_⟩, four_rd HL7.out (by omega), four_frm (frm_trans HF5.out HF7.out) (by omega)⟩
              · have h2 : TrC (fun j => w.heap.size + 2 ≤ j ∧ j < ga) w7 a (trL o n A c) := HT5.out.keep fun j hj => HF7.out.block j (by omega) (by omega)
                exact four_tree h2 fun j hj => by omega
              · exact four_tree HT7.out fun j hj => by omega
            have HFIN := Lib.hid hfin
            clear hfin e0 HT7 HL7 HF7 HZ7 HRN hS7 hS7a hS7b hS0 a0 a1 a2 af HC6 HBAD HE5 HT5 HF5 HL5 HV5 HZ5
            simp only [tset] at q0 q1 q2
            go_wp2_with fail
            refine ⟨rfl, .agg (trA (x.toNat : Int) 0 (some ⟨w7.heap.size, 0, none⟩) 2), ?_, HFIN.out⟩
            simp only [results, Tryd.results26]
            simp [go_sem, q0, q1, q2, trA]
      · have n1 : ((x.toNat : Int) == 61) = false := beq_eq_false_iff_ne.2 fun e => hx (by rw [show x = 61 from UInt8.toNat_inj.1 (by show x.toNat = 61; omega)]; decide)
        have n2 : ((x.toNat : Int) == 60) = false := beq_eq_false_iff_ne.2 fun e => hx (by rw [show x = 60 from UInt8.toNat_inj.1 (by show x.toNat = 60; omega)]; decide)
        have n3 : ((x.toNat : Int) == 62) = false := beq_eq_false_iff_ne.2 fun e => hx (by rw [show x = 62 from UInt8.toNat_inj.1 (by show x.toNat = 62; omega)]; decide)
        have hr := HEX.out (by rw [HE0.out]; simp only [cmpTl, if_neg hx])
        go_wp2_with fail
        refine ⟨rfl, .agg (trA o n A c), ?_, hr⟩
        simp only [results, Tryd.results26]
        simp [go_sem, q0, q1, q2, trA]
end Go.Proofs.YtmbhfadidpkkhaaDoor
