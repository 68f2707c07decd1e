/-
  Package lsm: Flush. Conditions: a store as LsmPre says; no more than 900 lists.
-/
import Derived.Test.YthobnigjhedjaaaDoorLsmG
namespace Go.Proofs.YthobnigjhedjaaaDoor
open Go.RowKit Go.ChangeShapes Go.WideShapes
open Go.Sort hiding Below
set_option linter.unusedVariables false

def FlushPost (B : Nat) (w : World) (g limit : Nat) (F : EMap) (L : List (List Ent)) (e : Ending) (w' : World) : Prop :=
  e = .returned .nilIface ∧ (∃ L', Lsm B w' g limit [] L' ∧ LsmOk limit [] L' ∧ (∀ k, view [] L' k = view F L k) ∧ L'.length ≤ L.length + 1 ∧ ∀ x ∈ L'.flatten, x ∈ evals F ++ L.flatten) ∧ Below B w w'
theorem wpList_clear_M {P : Program} {w : World} {ops : Array Oper} {rest : List Oper} {o : Oper} {a : Act} {Q : Exit → Act → World → Prop} (hg : o.guard = none) (m : Operand) (t : TypeId) (hop : o.op = Op.call { callee := Callee.builtin Builtin.clear, args := #[m], argTypes := #[t] }) (k e : TypeId) (isK : Value → Prop) (ht : P.underlying t = some (.map k e)) (b : Nat) (l : List (Value × Value)) (hm : a.eval m = .map (some b)) (h : MapAt isK w b l)
    (hK : ∀ w', MapAt isK w' b [] → w.grownBy w' (some b) → w'.heap.size = w.heap.size → wpList P ops Q rest (a.put o.dst (.tuple #[])) w') : wpList P ops Q (o :: rest) a w := by
  refine wpList_plain hg fun K' hK' => ?_
  obtain ⟨w', hrun, r1, r2, r3⟩ := h.clear (P := P) (ty := o.type) ht
  unfold Oper.wp
  simp [execOp, hop, resolve, invoke, builtin, hm, hrun, Result.andThen]
  exact hK' _ _ (hK w' r1 r2 r3)
theorem evals_nil {F : EMap} (h : evals F = []) : F = [] := by
  unfold evals at h
  exact List.map_eq_nil_iff.1 h
set_option maxRecDepth 100000 in
set_option maxHeartbeats 2000000 in
theorem lflush_ok (B g limit : Nat) (F : EMap) (L : List (List Ent)) (w : World) (S : Lsm B w g limit F L) (hP : LsmPre F L) (hL : L.length ≤ 900) (hlim : 0 < limit) (hB : B ≤ w.heap.size) :
    Calls Tryd.prog 15 #[.pointer (some ⟨g, 0, none⟩)] w (FlushPost B w g limit F L) := by
  obtain ⟨bf, A1, c1, tvs, A2, c2, lvs, S⟩ := S
  have hN := news_ok B g bf A1 c1 tvs A2 c2 lvs limit F L w S hP.keyed hP.sized (by have := hP.few; omega)
  have HS := Lib.hid S
  have HP := Lib.hid hP
  have HBW := Lib.hid hB
  clear S hP hB
  go_enter Tryd.func15, Tryd.ntmps15
  go_wp2_with fail
  refine hN.mono ?_
  rintro e w1 ⟨A, c, q, rfl, q1, q2, q3, q4, q5, q6⟩
  have hpm : q.Perm (evals F) := apart_ext q1 HP.out.keyed.apart q3
  have HPM := Lib.hid hpm
  have HQ2 := Lib.hid q2
  have HSL : Hid (SlA entE (EntRow w1) w1 A c q) := q5.more fun k hk => hk.2
  have HB1 := Lib.hid q6
  have HS1 := Lib.hid (HS.out.below q6)
  have hle := q5.le
  clear hN q1 q2 q3 q4 q5 q6 hpm HS
  by_cases hq : q = []
  · subst hq
    go_wp2_with fail
    go_ret
    have hF : F = [] := evals_nil (List.Perm.nil_eq HPM.out).symm
    subst hF
    have hP := HP.out
    exact ⟨rfl, ⟨L, ⟨bf, A1, c1, tvs, A2, c2, lvs, HS1.out⟩, ⟨hP.keyed, hP.ents, hP.rise, hP.many, hlim⟩, fun k => rfl, Nat.le_succ _, fun x hx => List.mem_append_right _ hx⟩, HB1.out.mono HBW.out⟩
  · have hq0 : ¬ q.length = 0 := fun h => hq (List.eq_nil_of_length_eq_zero h)
    obtain ⟨hT, hOK⟩ := flush_ok (limit := limit) HP.out.keyed HP.out.ents HP.out.rise HP.out.many hlim HPM.out HQ2.out hq
    have HT := Lib.hid hT
    have HOK := Lib.hid hOK
    have hBU := build_any A c q w1 (HSL.out.more fun k hk => hk.lt)
    clear hq hT hOK
    go_wp2_with fail
    refine hBU.mono ?_
    rintro e w2 ⟨⟨-, At, ct, rfl, hst⟩ | ⟨hno, -⟩, hb2⟩
    · have HB2 : Hid (Below w.heap.size w w2) := HB1.out.trans (hb2.mono HB1.out.size)
      have hS2 := HS1.out.below hb2
      obtain ⟨tn, htn⟩ : ∃ tn, tn = (tabB q).length := ⟨_, rfl⟩
      rw [← htn]
      obtain ⟨tb, htb⟩ : ∃ tb : Value, tb = .slice At tn ct := ⟨_, rfl⟩
      obtain ⟨Wa, hWa⟩ : ∃ Wa, Wa = w2.alloc (.cells #[.slice At tn ct] 70) := ⟨_, rfl⟩
      have hba : Below w2.heap.size w2 Wa := by rw [hWa]; exact (Below.refl _ _).alloc (Nat.le_refl _) _
      have hxa : Wa.heap[w2.heap.size]? = some (.cells #[.slice At tn ct] 70 (0, 0)) := by rw [hWa]; exact heap_alloc_new _ _
      have hSa := hS2.below hba
      have hGa := hSa.g
      have hI := insT_ok A1 c1 L.length tvs (.slice At tn ct) w2.heap.size Wa hSa.tabs hxa (fun e => by have := hS2.tabs.lt _ e; omega) (fun u hu => by
        rcases List.mem_cons.1 hu with rfl | hu
        · rfl
        · exact hSa.tone u hu) (by omega)
      have HBa : Hid (Below w.heap.size w Wa) := HB2.out.trans (hba.mono HB2.out.size)
      obtain ⟨y0, y1, y2, y3⟩ := hS2.cells
      have hgl := block_lt hS2.obj
      have HSLa : Hid (SlA entE (EntRow Wa) Wa A c q) := (HSL.out.later hb2).later hba
      have HSa := Lib.hid hSa
      have HGa := Lib.hid hGa
      clear hst hb2 hS2 hba hxa hSa hGa htn hBU HB2 y0 y1 y3
      go_wp2_with fail
      rw [← hWa]
      refine hI.mono ?_
      rintro e w3 ⟨A1', c1', rfl, ho3, hg3, hat3⟩
      obtain ⟨hG4, hk4⟩ := HGa.out.tab hg3 ho3 hat3
      obtain ⟨w4, hw4⟩ : ∃ w4, w4 = w3.setCell ⟨g, 2, none⟩ (.slice A1' (L.length + 1) c1') := ⟨_, rfl⟩
      have z2 : w3.cell? ⟨g, 2, none⟩ = some (.slice A1 L.length c1) := (World.cell?_of_block (hg3.block g (block_lt HGa.out.obj) (Ne.symm HGa.out.no.2.1))).trans HGa.out.cells.2.2.1
      have f2 : w3.frozen? ⟨g, 2, none⟩ = false := (World.frozen?_of_block (hg3.block g (block_lt HGa.out.obj) (Ne.symm HGa.out.no.2.1))).trans (HGa.out.fz 2)
      rw [← hw4] at hG4 hk4
      have z3 : w3.cell? ⟨g, 3, none⟩ = some (.slice A2 L.length c2) := (World.cell?_of_block (hg3.block g (block_lt HGa.out.obj) (Ne.symm HGa.out.no.2.1))).trans HGa.out.cells.2.2.2
      have hz4 : w4.heap.size = w3.heap.size := by rw [hw4, size_setCell]
      have hza : Wa.heap.size ≤ w3.heap.size := hg3.size
      have HB4 : Hid (Below B w w4) := by
        show Below _ _ _
        rw [hw4]
        exact ((HBa.out.mono HBW.out).grown hg3 (Nat.le_trans HBW.out HBa.out.size) HSa.out.b1).setCell (p := ⟨g, 2, none⟩) HSa.out.bg _
      obtain ⟨Wb, hWb⟩ : ∃ Wb, Wb = w4.alloc (.cells #[.slice A q.length c] 68) := ⟨_, rfl⟩
      have hbb : Below w4.heap.size w4 Wb := by rw [hWb]; exact (Below.refl _ _).alloc (Nat.le_refl _) _
      have hxb : Wb.heap[w3.heap.size]? = some (.cells #[.slice A q.length c] 68 (0, 0)) := by rw [hWb, ← hz4]; exact heap_alloc_new _ _
      have hGb := hG4.keep (w' := Wb) hbb.block
      have hIL := insL_ok A2 c2 L.length lvs (.slice A q.length c) w3.heap.size Wb hGb.lists hxb (fun e => by have := hG4.lists.lt _ e; omega) (fun u hu => by
        rcases List.mem_cons.1 hu with rfl | hu
        · rfl
        · exact HSa.out.vals.one u hu) (by omega)
      have HGb := Lib.hid hGb
      have HG4 := Lib.hid hG4
      have HK4 := Lib.hid hk4
      have HBB := Lib.hid hbb
      have HO3 := Lib.hid ho3
      have HAT3 := Lib.hid hat3
      have hgl3 : g < w3.heap.size := Nat.lt_of_lt_of_le (block_lt HGa.out.obj) hza
      clear hI ho3 hg3 hat3 hG4 hk4 hbb hxb hGb hgl hz4
      go_wp2_with fail
      rw [← hw4, ← hWb]
      clear hw4 hWb z2 f2 z3
      refine hIL.mono ?_
      rintro e w5 ⟨A2', c2', rfl, ho5, hg5, hat5⟩
      obtain ⟨hG6, hk6⟩ := HGb.out.lst hg5 ho5 hat5
      obtain ⟨w6, hw6⟩ : ∃ w6, w6 = w5.setCell ⟨g, 3, none⟩ (.slice A2' (L.length + 1) c2') := ⟨_, rfl⟩
      have z3 : w5.cell? ⟨g, 3, none⟩ = some (.slice A2 L.length c2) := (World.cell?_of_block (hg5.block g (block_lt HGb.out.obj) (Ne.symm HGb.out.no.2.2.1))).trans HGb.out.cells.2.2.2
      have z1 : w5.cell? ⟨g, 1, none⟩ = some (.map (some bf)) := (World.cell?_of_block (hg5.block g (block_lt HGb.out.obj) (Ne.symm HGb.out.no.2.2.1))).trans HGb.out.cells.2.1
      have f3 : w5.frozen? ⟨g, 3, none⟩ = false := (World.frozen?_of_block (hg5.block g (block_lt HGb.out.obj) (Ne.symm HGb.out.no.2.2.1))).trans (HGb.out.fz 3)
      rw [← hw6] at hG6 hk6
      obtain ⟨w7, hrun, hf7, hg7, hz7⟩ := MapAt.clear (P := Tryd.prog) (ty := 0) hG6.fresh Tryd.underlying75
      have HB6 : Hid (Below B w w6) := by
        show Below _ _ _
        rw [hw6]
        have h1 := HBB.out
        have h2 := Nat.le_trans HBW.out HB4.out.size
        exact ((HB4.out.trans (h1.mono h2)).grown hg5 (Nat.le_trans h2 h1.size) HSa.out.b2).setCell (p := ⟨g, 3, none⟩) HSa.out.bg _
      have HG6 := Lib.hid hG6
      have HK6 := Lib.hid hk6
      have HO5 := Lib.hid ho5
      have HAT5 := Lib.hid hat5
      have HF7 := Lib.hid hf7
      have HG7 := Lib.hid hg7
      have hgl5 : g < w5.heap.size := Nat.lt_of_lt_of_le (block_lt HGb.out.obj) hg5.size
      rw [hw6] at hrun
      clear hIL ho5 hg5 hat5 hG6 hk6 hf7 hg7 hz7 hw6
      go_wp2_with fail
      go_ret
      have hG7 := HG6.out.turn (F' := []) HG7.out HF7.out
      have hB7 : Below B w w7 := HB6.out.grown HG7.out (Nat.le_trans HBW.out HB6.out.size) (fun k e => by injection e with e; have := HSa.out.bb; omega)
      have hrow : ∀ k, EntRow Wa k → w7.heap[k]? = Wa.heap[k]? := fun k hk => by
        obtain ⟨n1, n2, n3, n4⟩ := hk.ne_obj HGa.out
        have k1 := HK4.out k hk.lt n1 n3
        have l4 : k < w4.heap.size := by
          rcases Nat.lt_or_ge k w4.heap.size with h | h
          · exact h
          · rw [Array.getElem?_eq_none h, Array.getElem?_eq_getElem hk.lt] at k1; cases k1
        have k2 := HBB.out.block k l4
        have lb : k < Wb.heap.size := Nat.lt_of_lt_of_le l4 HBB.out.size
        have k3 := HK6.out k lb n1 n4
        have l6 : k < w6.heap.size := by
          rcases Nat.lt_or_ge k w6.heap.size with h | h
          · exact h
          · rw [Array.getElem?_eq_none h, Array.getElem?_eq_getElem lb] at k3; cases k3
        exact (HG7.out.block k l6 (fun e => n2 (Option.some.inj e))).trans (k3.trans (k2.trans k1))
      have hV : LVals w7 (.slice A q.length c :: lvs) (q :: L) := (HSa.out.vals.cons HSLa.out).keep hrow
      have hbl : ∀ {A0 A3 : Option Addr} {W : World}, (blk A3 = blk A0 ∨ ∃ k, blk A3 = some k ∧ W.heap.size ≤ k) → (∀ k, blk A0 = some k → B ≤ k) → B ≤ W.heap.size → ∀ k, blk A3 = some k → B ≤ k := fun h h1 h2 k hk => by
        rcases h with h | ⟨j, h, h3⟩
        · exact h1 k (h ▸ hk)
        · rw [h] at hk; injection hk with hk; omega
      refine ⟨rfl, ⟨q :: L, ⟨bf, A1', c1', _, A2', c2', _, ⟨hG7.obj, hG7.fresh, hG7.tabs, fun u hu => ?_, hG7.lists, hV, HSa.out.bg, HSa.out.bb, hbl HAT3.out HSa.out.b1 (Nat.le_trans HBW.out HBa.out.size), hbl HAT5.out HSa.out.b2 (Nat.le_trans HBW.out (Nat.le_trans HB4.out.size HBB.out.size))⟩⟩, HOK.out, fun k => view_flush HP.out.keyed L HPM.out k, by simp, fun x hx => ?_⟩, hB7⟩
      · rcases List.mem_cons.1 hu with rfl | hu
        · rfl
        · exact HSa.out.tone u hu
      · rw [List.flatten_cons] at hx
        exact (List.mem_append.1 hx).elim (fun h => List.mem_append_left _ (HPM.out.mem_iff.1 h)) (List.mem_append_right _)
    · exact absurd HT.out hno
end Go.Proofs.YthobnigjhedjaaaDoor
