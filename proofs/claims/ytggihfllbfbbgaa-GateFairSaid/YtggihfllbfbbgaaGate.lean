/-
  Contracts of package gate, of records that bear a number alone and of no barriers: New, Push, Next, Waiting. Conditions: from 1 to 64 inputs, fewer than 400 that wait at one.
-/
import Derived.Test.YtggihfllbfbbgaaHeap
import Derived.Deep.RegionLaw
import Derived.Deep.LoopGhost
import Derived.RegionTactic
import Derived.ChangeAlike
import Derived.Deep.OwnRows
import Derived.WalkSpells
import Derived.Deep.QuietTactic
import Derived.BigQuiet
import Derived.IntWalk
namespace Go.Proofs.Ytggihfllbfbbgaa
open Go.RowKit
set_option linter.unusedVariables false

def itCells (k : Int) : List Value := [.string ByteArray.empty, .int .i64 k, .int .i64 0, .int .i64 0]
theorem info_item : (Try.prog.info? 99).map (fun i => (i.zero, i.size, i.bytes)) = some (some (.agg #[.string ByteArray.empty, .int .i64 0, .int .i64 0, .int .i64 0]), 4, 40) := by kernel_rfl
theorem info_items : (Try.prog.info? 97).map (fun i => (i.zero, i.size, i.bytes)) = some (some (.slice none 0 0), 1, 24) := by kernel_rfl
theorem info_int : (Try.prog.info? 3).map (fun i => (i.zero, i.size, i.bytes)) = some (some (.int .i64 0), 1, 8) := by kernel_rfl

/-- The gate at block g; its rows' slices lie in block gw. -/
structure GateRep (w : World) (g gw gl : Nat) (vs : List Value) (rows : List (List Int)) (next : Nat) : Prop where
  blk : w.heap[g]? = some (.cells #[.slice (some ⟨gw, 0, none⟩) rows.length rows.length, .slice (some ⟨gl, 0, none⟩) rows.length rows.length, .int .i64 next] 96 (0, 0))
  nest : Nest w 0 gw 97 99 4 vs (rows.map fun r => r.flatMap itCells) (rows.map (·.length))
  ne : g ≠ gw
  nev : ∀ v ∈ vs, v.ownBlock ≠ some g
def gateF (g gw : Nat) (vs : List Value) (k : Nat) : Prop := k = g ∨ k = gw ∨ ∃ v ∈ vs, v.ownBlock = some k
def GateAt (w : World) (F : Nat → Prop) (g : Nat) (rows : List (List Int)) (next : Nat) : Prop := ∃ gw gl vs, GateRep w g gw gl vs rows next ∧ ∀ k, gateF g gw vs k → F k

theorem gate_made {w1 : World} {n gw gl B : Nat} (hn : Nest w1 0 gw 97 99 4 (List.replicate n (.slice none 0 0)) (List.replicate n []) (List.replicate n 0)) (hb : B ≤ gw) :
    GateAt (w1.alloc (.cells #[.slice (some ⟨gw, 0, none⟩) n n, .slice (some ⟨gl, 0, none⟩) n n, .int .i64 0] 96)).drew
      (fun k => B ≤ k ∧ k < (w1.alloc (.cells #[.slice (some ⟨gw, 0, none⟩) n n, .slice (some ⟨gl, 0, none⟩) n n, .int .i64 0] 96)).drew.heap.size) w1.heap.size (List.replicate n []) 0 := by
  have hlt := hn.lt
  refine ⟨gw, gl, List.replicate n (.slice none 0 0), ⟨?_, ?_, by omega, ?_⟩, ?_⟩
  · have e := heap_alloc_new w1 (.cells #[.slice (some ⟨gw, 0, none⟩) n n, .slice (some ⟨gl, 0, none⟩) n n, .int .i64 0] 96)
    show (w1.alloc _).heap[w1.heap.size]? = _
    rw [e, List.length_replicate]
    rfl
  · have h1 := (hn.alloc (.cells #[.slice (some ⟨gw, 0, none⟩) n n, .slice (some ⟨gl, 0, none⟩) n n, .int .i64 0] 96)).drewN 1
    rw [List.map_replicate, List.map_replicate]
    exact h1
  · intro v hv
    rw [(List.mem_replicate.1 hv).2]; simp [Value.ownBlock]
  · rintro k (rfl | rfl | ⟨v, hv, e⟩)
    · simp; omega
    · simp; omega
    · rw [(List.mem_replicate.1 hv).2] at e; cases e
theorem newGate_ok (n : Nat) (w : World) (h1 : 1 ≤ n) (h2 : n ≤ 64) : Calls Try.prog 31 #[.int .i64 n] w fun e w' =>
    ∃ g, e = .returned (.tuple #[.pointer (some ⟨g, 0, none⟩), .nilIface]) ∧ GateAt w' (fun k => w.heap.size ≤ k ∧ k < w'.heap.size) g (List.replicate n []) 0 ∧ Below w.heap.size w w' := by
  have hmk : ∀ u : World, (Instr.makeSlice 94 (.int .i64 (n : Int)) (.int .i64 (n : Int))).run Try.prog u = .ok (.slice (some ⟨u.heap.size, 0, none⟩) n n) (u.alloc (.cells (madeCells #[.slice none 0 0] n) 97)) := fun u =>
    run_make_row' (P := Try.prog) 94 97 (.slice none 0 0) 24 Try.underlying94 info_items rfl .i64 .i64 n (by omega) (by omega) u
  have hmk2 : ∀ u : World, (Instr.makeSlice 51 (.int .i64 (n : Int)) (.int .i64 (n : Int))).run Try.prog u = .ok (.slice (some ⟨u.heap.size, 0, none⟩) n n) (u.alloc (.cells (madeCells #[.int .i64 0] n) 3)) := fun u =>
    run_make_row' (P := Try.prog) 51 3 (.int .i64 0) 8 Try.underlying51 info_int rfl .i64 .i64 n (by omega) (by omega) u
  go_enter Try.func31, Try.ntmps31
  go_wp2_with fail
  go_region
  all_goals (clear hmk hmk2; go_wp2_with fail; go_ret2)
  · have h1 := gate_made (gl := w.heap.size + 1) (B := w.heap.size) ((Nest.made w 0 97 99 4 n (Nat.zero_le _) (by decide)).alloc (.cells (madeCells #[.int .i64 0] n) 3)) (Nat.le_refl _)
    refine ⟨_, rfl, ?_, ?_⟩
    · simpa using h1
    · exact ((((Below.refl _ _).alloc (Nat.le_refl _) _).alloc (by simp) _).alloc (by simp; omega) _).drew
  · have h1 := gate_made (gl := w.heap.size) (B := w.heap.size) (Nest.made (w.alloc (.cells (madeCells #[.int .i64 0] n) 3)) 0 97 99 4 n (Nat.zero_le _) (by decide)) (by simp)
    refine ⟨_, rfl, ?_, ?_⟩
    · simpa using h1
    · exact ((((Below.refl _ _).alloc (Nat.le_refl _) _).alloc (by simp) _).alloc (by simp; omega) _).drew

theorem grown_any {w w1 : World} {row : Option Nat} (h : w.grownBy w1 none) : w.grownBy w1 row := ⟨h.os, h.tape, h.output, h.size, fun k hk _ => h.block k hk (by simp)⟩

/-- Row i becomes r'. -/
theorem row_rep {w w1 : World} {g gw gl next i : Nat} {vs : List Value} {rows : List (List Int)} {v v' : Value} {r' : List Int} (h : GateRep w g gw gl vs rows next) (hv : vs[i]? = some v)
    (hown : w1.ownsRow 0 99 4 v' r'.length (r'.flatMap itCells)) (hg : w.grownBy w1 v.ownBlock) (hat : v'.ownBlock = v.ownBlock ∨ v'.ownBlock = none ∨ ∃ k, v'.ownBlock = some k ∧ w.heap.size ≤ k) :
    GateRep (w1.setCell ⟨gw, i, none⟩ v') g gw gl (vs.set i v') (rows.set i r') next ∧ (∀ k, gateF g gw (vs.set i v') k → gateF g gw vs k ∨ (w.heap.size ≤ k ∧ k < (w1.setCell ⟨gw, i, none⟩ v').heap.size)) ∧ Frm (gateF g gw vs) w (w1.setCell ⟨gw, i, none⟩ v') := by
  have hgl := block_lt h.blk
  have hmem := List.mem_of_getElem? hv
  have hF : ∀ u ∈ vs.set i v', u ∈ vs ∨ u = v' := by
    intro u hu
    rcases List.mem_or_eq_of_mem_set hu with h | h
    · exact .inl h
    · exact .inr h
  have hne : v'.ownBlock ≠ some g := by
    rcases hat with e | e | ⟨k, e, hk⟩
    · rw [e]; exact h.nev v hmem
    · rw [e]; simp
    · rw [e]; intro e2; injection e2 with e2; omega
  refine ⟨⟨?_, ?_, h.ne, ?_⟩, ?_, ?_⟩
  · rw [Below.heap_setCell _ _ _ _ (by simpa using h.ne), hg.block g hgl (fun e => h.nev v hmem e.symm), h.blk, List.length_set]
  · have := h.nest.push (xs := r'.flatMap itCells) (n' := r'.length) hv hown hg hat
    rw [List.map_set, List.map_set]
    exact this
  · intro u hu
    rcases hF u hu with h1 | h1
    · exact h.nev u h1
    · rw [h1]; exact hne
  · rintro k (e | e | ⟨u, hu, e⟩)
    · exact .inl (.inl e)
    · exact .inl (.inr (.inl e))
    · rcases hF u hu with h1 | h1
      · exact .inl (.inr (.inr ⟨u, h1, e⟩))
      · subst h1
        rcases hat with e1 | e1 | ⟨k', e1, hk⟩
        · exact .inl (.inr (.inr ⟨v, hmem, e1 ▸ e⟩))
        · rw [e1] at e; cases e
        · rw [e1] at e; injection e with e; subst e
          refine .inr ⟨hk, ?_⟩
          rw [size_setCell]
          exact (hown.lt _ e1).2
  · exact (Frm.ofGrown hg (fun k e => .inr (.inr ⟨v, hmem, e⟩))).setCell (.inl (.inr (.inl rfl))) _
/-- 'next' becomes another one. -/
theorem next_rep {w : World} {g gw gl next : Nat} {vs : List Value} {rows : List (List Int)} (h : GateRep w g gw gl vs rows next) (next' : Nat) : GateRep (w.setCell ⟨g, 2, none⟩ (.int .i64 next')) g gw gl vs rows next' := by
  refine ⟨?_, ?_, h.ne, h.nev⟩
  · simp [World.setCell, Array.getElem?_modify, h.blk]
  · refine h.nest.keep (row := some g) ⟨rfl, rfl, rfl, by rw [size_setCell]; exact Nat.le_refl _, fun k _ hk => Below.heap_setCell _ _ _ _ (fun e => hk (by rw [e]))⟩ (by simpa using h.ne) (fun v hv => .inr (h.nev v hv))
theorem GateRep.alloc {w : World} {g gw gl next : Nat} {vs : List Value} {rows : List (List Int)} (h : GateRep w g gw gl vs rows next) (o : Obj) : GateRep (w.alloc o) g gw gl vs rows next :=
  ⟨(Below.heap_alloc w o g (block_lt h.blk)).trans h.blk, h.nest.alloc o, h.ne, h.nev⟩
theorem GateRep.drewN {w : World} {g gw gl next : Nat} {vs : List Value} {rows : List (List Int)} (h : GateRep w g gw gl vs rows next) (q : Nat) : GateRep (w.drewN q) g gw gl vs rows next :=
  ⟨h.blk, h.nest.drewN q, h.ne, h.nev⟩
/-- What row i's slice is. -/
theorem GateRep.row {w : World} {g gw gl next : Nat} {vs : List Value} {rows : List (List Int)} (h : GateRep w g gw gl vs rows next) {i : Nat} {r : List Int} (hi : rows[i]? = some r) :
    ∃ v, vs[i]? = some v ∧ w.cell? ⟨gw, i, none⟩ = some v ∧ w.frozen? ⟨gw, i, none⟩ = false ∧ w.ownsRow 0 99 4 v r.length (r.flatMap itCells) := by
  have hl : i < vs.length := by rw [h.nest.len, List.length_map]; exact (List.getElem?_eq_some_iff.1 hi).1
  refine ⟨vs[i], List.getElem?_eq_getElem hl, by rw [h.nest.cell, List.getElem?_eq_getElem hl], h.nest.frozen i, ?_⟩
  exact h.nest.own i _ _ _ (List.getElem?_eq_getElem hl) (by rw [List.getElem?_map, hi]; rfl) (by rw [List.getElem?_map, hi]; rfl)
theorem row_form {w : World} {e : TypeId} {size n : Nat} {v : Value} {xs : List Value} (h : w.ownsRow 0 e size v n xs) : ∃ A c, v = .slice A n c ∧ n ≤ c ∧ c ≤ maxLen := by
  rcases h.2 with ⟨rfl, h0⟩ | ⟨g, cap, cur, rfl, hb, hh, hnc, hcm, hcs, ht⟩
  · exact ⟨none, 0, by rw [h0], by omega, Nat.zero_le _⟩
  · exact ⟨_, cap, rfl, hnc, hcm⟩

set_option maxRecDepth 100000 in
theorem may_ok (g gw gl next i : Nat) (vs : List Value) (rows : List (List Int)) (r : List Int) (w : World) (h : GateRep w g gw gl vs rows next) (hi : rows[i]? = some r) (hn : rows.length ≤ 64) (hl : r.length < 400) :
    Calls Try.prog 45 #[.pointer (some ⟨g, 0, none⟩), .int .i64 i] w fun e w' => e = .returned .nilIface ∧ w = w' := by
  obtain ⟨v, hv, hc, _, hown⟩ := h.row hi
  obtain ⟨A, c, rfl, hlc, hcm⟩ := row_form hown
  have c0 := cell_of_row w g 0 _ _ _ h.blk
  simp at c0
  have hi' : i < rows.length := (List.getElem?_eq_some_iff.1 hi).1
  clear h hown hv hi
  obtain ⟨m, hm⟩ : ∃ m, m = r.length := ⟨_, rfl⟩
  rw [← hm] at hc hl hlc
  obtain ⟨n, hn'⟩ : ∃ n, n = rows.length := ⟨_, rfl⟩
  rw [← hn'] at c0 hn hi'
  clear hm hn'
  have hm' : m ≤ 400 := by omega
  have d1 : decide (n ≤ i) = false := by simp; omega
  have d2 : decide (400 ≤ m) = false := by simp; omega
  go_enter Try.func45, Try.ntmps45
  go_wp2_with fail
  go_ret
  exact ⟨rfl, rfl⟩
theorem push_end {w w1 : World} {g gw gl next i m c c' : Nat} {vs : List Value} {rows : List (List Int)} {A A' : Option Addr} {r : List Int} {k : Int} {F : Nat → Prop} (h : GateRep w g gw gl vs rows next) (hf : ∀ k, gateF g gw vs k → F k) (hm : m = r.length) (hv : vs[i]? = some (.slice A m c))
    (hown : w1.ownsRow 0 99 4 (.slice A' (m + 1) c') (m + 1) (r.flatMap itCells ++ itCells k)) (hg : w.grownBy w1 (Value.ownBlock (.slice A m c)))
    (hat : Value.ownBlock (.slice A' (m + 1) c') = Value.ownBlock (.slice A m c) ∨ ∃ k, Value.ownBlock (.slice A' (m + 1) c') = some k ∧ w.heap.size ≤ k) :
    Ending.returned .nilIface = Ending.returned .nilIface ∧ GateAt (w1.setCell ⟨gw, i, none⟩ (.slice A' (m + 1) c')) (fun k => F k ∨ (w.heap.size ≤ k ∧ k < (w1.setCell ⟨gw, i, none⟩ (.slice A' (m + 1) c')).heap.size)) g (rows.set i (r ++ [k])) next ∧ Frm F w (w1.setCell ⟨gw, i, none⟩ (.slice A' (m + 1) c')) := by
  subst hm
  have hown2 : w1.ownsRow 0 99 4 (.slice A' (r.length + 1) c') (r ++ [k]).length ((r ++ [k]).flatMap itCells) := by
    rw [List.flatMap_append, List.length_append]
    simpa using hown
  obtain ⟨h1, h2, h3⟩ := row_rep h hv hown2 hg (hat.imp_right .inr)
  refine ⟨rfl, ⟨gw, gl, _, h1, ?_⟩, ?_⟩
  · intro k hk
    rcases h2 k hk with h4 | h4
    · exact .inl (hf k h4)
    · exact .inr h4
  · exact h3.less (fun k hk => .inl (hf k hk))
set_option maxHeartbeats 1000000 in
set_option maxRecDepth 100000 in
theorem push_ok (g next i : Nat) (k : Int) (rows : List (List Int)) (r : List Int) (F : Nat → Prop) (w : World) (h : GateAt w F g rows next) (hi : rows[i]? = some r) (hn : rows.length ≤ 64) (hl : r.length < 400) :
    Calls Try.prog 32 #[.pointer (some ⟨g, 0, none⟩), .int .i64 i, .agg #[.string ByteArray.empty, .int .i64 k, .int .i64 0]] w fun e w' => e = .returned .nilIface ∧ GateAt w' (fun k => F k ∨ (w.heap.size ≤ k ∧ k < w'.heap.size)) g (rows.set i (r ++ [k])) next ∧ Frm F w w' := by
  obtain ⟨gw, gl, vs, h, hf⟩ := h
  have HF := Lib.hid hf
  have hgl := block_lt h.blk
  have hgw := h.nest.lt
  have c0 := cell_of_row w g 0 _ _ _ h.blk
  simp at c0
  obtain ⟨v, hv, hc, hfz, hown⟩ := h.row hi
  obtain ⟨A, c, rfl, hlc, hcm⟩ := row_form hown
  have hmem := List.mem_of_getElem? hv
  have hne1 : Value.ownBlock (.slice A r.length c) ≠ some g := h.nev _ hmem
  have hne2 : Value.ownBlock (.slice A r.length c) ≠ some gw := h.nest.row_ne hv
  have hi' : i < rows.length := (List.getElem?_eq_some_iff.1 hi).1
  obtain ⟨m, hm⟩ : ∃ m, m = r.length := ⟨_, rfl⟩
  obtain ⟨n, hn'⟩ : ∃ n, n = rows.length := ⟨_, rfl⟩
  have hl' : m < 400 := by omega
  have hi' : i < n := by omega
  have hn2 : n ≤ 64 := by omega
  rw [← hm] at hc hlc hne1 hne2 hv hown
  rw [← hn'] at c0
  have HH := Lib.hid h
  have HV := Lib.hid hv
  have HO := Lib.hid hown
  have HM := Lib.hid hm
  have HI := Lib.hid hi
  have HL := Lib.hid hl
  have HNN := Lib.hid hn
  clear hf h hv hown hmem hm hn' hl hn hi
  go_enter Try.func32, Try.ntmps32
  go_wp2_with fail
  refine (may_ok g gw gl next i vs rows r _ (HH.out.alloc _) HI.out HNN.out HL.out).mono ?_; rintro e w' ⟨rfl, rfl⟩
  go_wp2_with fail
  go_region_law (refine step_push (w0 := w.alloc (.cells #[.string ByteArray.empty, .int .i64 k, .int .i64 0] 59)) rfl (.tmp 25) (.tmp 28) 97 rfl 0 99 _ 4 40 Try.underlying97 info_item rfl (by decide) (.slice A m c) m (r.flatMap itCells) (by simp [Act.eval]) (HO.out.alloc _) (itCells k) (by simp [Act.eval]) rfl (by simp [itCells, Value.oneCell']) (by unfold maxLen; omega) (by omega) (Nat.zero_le _) (Below.refl 0 _) (Nat.zero_le _) ?_; intro v' w1 hown1 hg1 _ hat1; have hg2 : w.grownBy w1 (Value.ownBlock (.slice A m c)) := (World.grownBy_alloc w _ _).trans hg1; have hgg := hg2.block g hgl (fun e => hne1 e.symm); have hgg2 := hg2.block gw hgw (fun e => hne2 e.symm); have c1 : w1.cell? ⟨g, 0, none⟩ = some (.slice (some ⟨gw, 0, none⟩) n n) := (World.cell?_of_block (a := ⟨g, 0, none⟩) hgg).trans c0; have c2 : w1.cell? ⟨gw, i, none⟩ = some (.slice A m c) := (World.cell?_of_block (a := ⟨gw, i, none⟩) hgg2).trans hc; have f1 : w1.frozen? ⟨gw, i, none⟩ = false := (World.frozen?_of_block (a := ⟨gw, i, none⟩) hgg2).trans hfz; obtain ⟨A', c', rfl, _, _⟩ := row_form hown1)
  all_goals
    clear hgg hgg2 c1 c2 f1
    go_wp2_with fail
    go_ret
    exact push_end HH.out HF.out HM.out HV.out hown1 hg2 (hat1.imp_right fun ⟨k, e, hk⟩ => ⟨k, e, by simp at hk; omega⟩)
end Go.Proofs.Ytggihfllbfbbgaa
