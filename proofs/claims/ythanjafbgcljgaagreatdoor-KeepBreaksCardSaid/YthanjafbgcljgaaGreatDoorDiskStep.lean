/-
  Package disk: contracts of New, of the closures of Write and Rename (and Remove), of step. Conditions: fewer than 2^40 steps; names that memory holds.
-/
import Derived.Test.YthanjafbgcljgaaGreatDoorDiskOps
import Derived.Test.YthanjafbgcljgaaGreatDoorWalk
import Derived.Test.YthanjafbgcljgaaGreatDoorMapStep
import Derived.Test.YthanjafbgcljgaaGreatDoorForest
import Derived.Shelf.AbstractIn
import Derived.Deep.RegionLaw
namespace Go.Proofs.YthanjafbgcljgaaGreatDoor
open Go.RowKit Go.Shelf
set_option linter.unusedVariables false

def newS : DState := ⟨[], [], [], 0, -1⟩
theorem disk_new (w : World) : Calls Tryz.prog 4 #[] w fun e w' => ∃ g bn bs, e = .returned (.pointer (some ⟨g, 0, none⟩)) ∧ DiskAt w' g bn bs none 0 [] newS ∧ w.heap.size ≤ g ∧ w.heap.size ≤ bn ∧ w.heap.size ≤ bs ∧ Below w.heap.size w w' := by
  have hmm := @run_makeMap Tryz.prog
  go_enter Tryz.func4, Tryz.ntmps4
  go_wp2_with fail
  go_ret
  refine ⟨w.heap.size + 2, w.heap.size, w.heap.size + 1, by simp, ⟨?_, ?_, ?_, by omega, OwnS.nil _ _ _, nofun⟩, by omega, by omega, by omega, (((Below.refl _ _).alloc (Nat.le_refl _) _).alloc (by simp) _).alloc (by simp; omega) _⟩
  · have := heap_alloc_new ((w.alloc (.map #[] 0)).alloc (.map #[] 0)) (.cells #[.map (some w.heap.size), .map (some (w.heap.size + 1)), .slice none 0 0, .int .i64 0, .int .i64 (-1)] 43)
    have e : ((w.alloc (.map #[] 0)).alloc (.map #[] 0)).heap.size = w.heap.size + 2 := by simp
    rw [e] at this
    exact this
  · exact (SMapAt.made w).keep ((Below.heap_alloc _ _ _ (by simp; omega)).trans (Below.heap_alloc _ _ _ (by simp)))
  · have h := SMapAt.made (w.alloc (.map #[] 0))
    have e : (w.alloc (.map #[] 0)).heap.size = w.heap.size + 1 := by simp
    rw [e] at h
    exact h.keep (Below.heap_alloc _ _ _ (by simp))

theorem files_t : Tryz.prog.underlying 40 = some (.map 9 28) := Tryz.underlying40
/-- What a closure of Write does. -/
theorem wr_ok (b kb kn : Nat) (fs : SMap) (n : ByteArray) (v : Value) (w : World) (hm : SMapAt w b fs) (hb : BoxAt w kb v 28) (hn : BoxAt w kn (.string n) 9) (hs : n.size ≤ maxLen) :
    Calls Tryz.prog 33 #[.map (some b), .pointer (some ⟨kb, 0, none⟩), .pointer (some ⟨kn, 0, none⟩)] w fun e w' => e = .returned (.tuple #[]) ∧ SMapAt w' b (fset fs n v) ∧ Frm (· = b) w w' := by
  have c1 := hb.cell
  have c2 := hn.cell
  obtain ⟨w3, hrun, hm3, hg3, hz3⟩ := hm.set (P := Tryz.prog) Tryz.underlying9 files_t hs v
  have HF : Hid (SMapAt w3 b (fset fs n v)) := hm3
  have HR : Hid (Frm (· = b) w w3) := Frm.ofGrown hg3 (fun k e => (Option.some.inj e).symm)
  clear hm hb hn hm3 hg3 hz3
  go_enter Tryz.func33, Tryz.ntmps33
  go_wp2_with fail
  exact bodyPost_end (by simp [results, Tryz.results33, go_sem]) rfl ⟨rfl, HF.out, HR.out⟩
set_option maxRecDepth 100000 in
theorem ren_ok (b ka kb : Nat) (fs : SMap) (x y : ByteArray) (w : World) (hm : SMapAt w b fs) (ha : BoxAt w ka (.string x) 9) (hb : BoxAt w kb (.string y) 9) (hx : x.size ≤ maxLen) (hy : y.size ≤ maxLen) :
    Calls Tryz.prog 37 #[.map (some b), .pointer (some ⟨ka, 0, none⟩), .pointer (some ⟨kb, 0, none⟩)] w fun e w' => e = .returned (.tuple #[]) ∧ SMapAt w' b (fset (fdel fs x) y (fgetD zB fs x)) ∧ Frm (· = b) w w' := by
  have c1 := ha.cell
  have c2 := hb.cell
  have hka : ka ≠ b := fun e => hm.not_cells (e ▸ ha)
  have hkb : kb ≠ b := fun e => hm.not_cells (e ▸ hb)
  have hl := hm.get (P := Tryz.prog) Tryz.underlying9 files_t (z := zB) (by kernel_rfl) hx false
  simp only [Bool.false_eq_true, ↓reduceIte] at hl
  obtain ⟨w2, hrun2, hm2, hg2, hz2⟩ := hm.del (P := Tryz.prog) (ty := 0) Tryz.underlying9 files_t hx
  have d2 := (ha.keep (hg2.block ka ha.lt (fun e => hka (Option.some.inj e)))).cell
  have d3 := (hb.keep (hg2.block kb hb.lt (fun e => hkb (Option.some.inj e)))).cell
  obtain ⟨w3, hrun, hm3, hg3, hz3⟩ := hm2.set (P := Tryz.prog) Tryz.underlying9 files_t hy (fgetD zB fs x)
  have HF : Hid (SMapAt w3 b (fset (fdel fs x) y (fgetD zB fs x))) := hm3
  have HR : Hid (Frm (· = b) w w3) := (Frm.ofGrown (F := (· = b)) hg2 (fun k e => (Option.some.inj e).symm)).trans (Frm.ofGrown (F := (· = b)) hg3 (fun k e => (Option.some.inj e).symm)) (fun _ h => h) (fun _ h => .inl h)
  generalize fgetD zB fs x = u at hl hrun HF
  clear hm ha hb hm3 hg3 hz3 hg2 hz2 hm2
  go_enter Tryz.func37, Tryz.ntmps37
  go_wp2_with fail
  exact bodyPost_end (by simp [results, Tryz.results37, go_sem]) rfl ⟨rfl, HF.out, HR.out⟩

set_option maxRecDepth 100000 in
/-- What a closure of Remove does. -/
theorem rem_ok (b kn : Nat) (fs : SMap) (n : ByteArray) (w : World) (hm : SMapAt w b fs) (hn : BoxAt w kn (.string n) 9) (hs : n.size ≤ maxLen) :
    Calls Tryz.prog 42 #[.map (some b), .pointer (some ⟨kn, 0, none⟩)] w fun e w' => e = .returned (.tuple #[]) ∧ SMapAt w' b (fdel fs n) ∧ Frm (· = b) w w' := by
  have c2 := hn.cell
  obtain ⟨w2, hrun2, hm2, hg2, hz2⟩ := hm.del (P := Tryz.prog) (ty := 0) Tryz.underlying9 files_t hs
  have HF : Hid (SMapAt w2 b (fdel fs n)) := hm2
  have HR : Hid (Frm (· = b) w w2) := Frm.ofGrown (F := (· = b)) hg2 (fun k e => (Option.some.inj e).symm)
  clear hm hn hm2 hg2 hz2
  go_enter Tryz.func42, Tryz.ntmps42
  go_wp2_with fail
  exact bodyPost_end (by simp [results, Tryz.results42, go_sem]) rfl ⟨rfl, HF.out, HR.out⟩
/-- A function value that does something, called at a map. -/
theorem OpAt.shape {w : World} {f : Value} {op : DOp} (h : OpAt w f op) : ∃ F cs, f = .func (.func F) #[] cs ∧ ∀ args w, (callFunc F args).run Tryz.prog w = .ok (.enter F args) w := by
  rcases h with ⟨n, v, kb, kn, rfl, rfl, h1, h2, h3⟩ | ⟨x, y, ka, kb, rfl, rfl, h1, h2, h3, h4⟩ | h
  · exact ⟨_, _, rfl, enters_of Tryz.func33 (by kernel_rfl) rfl⟩
  · exact ⟨_, _, rfl, enters_of Tryz.func37 (by kernel_rfl) rfl⟩
  · obtain ⟨n, kn, rfl, rfl, h1, h2⟩ := h
    exact ⟨_, _, rfl, enters_of Tryz.func42 (by kernel_rfl) rfl⟩
theorem OpAt.run {w : World} {F : FuncId} {cs : Array Value} {op : DOp} (h : OpAt w (.func (.func F) #[] cs) op) {b : Nat} {fs : SMap} (hm : SMapAt w b fs) :
    Calls Tryz.prog F (#[.map (some b)] ++ cs) w fun e w' => e = .returned (.tuple #[]) ∧ SMapAt w' b (op.run fs) ∧ Frm (· = b) w w' := by
  rcases h with ⟨n, v, kb, kn, rfl, e, h1, h2, h3⟩ | ⟨x, y, ka, kb, rfl, e, h1, h2, h3, h4⟩ | h
  · injection e with e1 _ e2; injection e1 with e1; subst e1; subst e2
    exact wr_ok b kb kn fs n v w hm h1 h2 h3
  · injection e with e1 _ e2; injection e1 with e1; subst e1; subst e2
    exact ren_ok b ka kb fs x y w hm h1 h2 h3 h4
  · obtain ⟨n, kn, rfl, e, h1, h2⟩ := h
    injection e with e1 _ e2; injection e1 with e1; subst e1; subst e2
    exact rem_ok b kn fs n w hm h1 h2
theorem info_fn : (Tryz.prog.info? 58).map (fun i => (i.zero, i.size, i.bytes)) = some (some .nilFunc, 1, 8) := by kernel_rfl

theorem equalIn_func (d F : Nat) (a b : Array Value) (w : World) : (Op.equalIn (d + 1) 58 (.func (.func F) a b) .nilFunc).run Tryz.prog w = .ok false w := by
  simp [Op.equalIn, run_underlying Tryz.underlying58]
theorem equalIn_nilf (d : Nat) (w : World) : (Op.equalIn (d + 1) 58 .nilFunc .nilFunc).run Tryz.prog w = .ok true w := by
  simp [Op.equalIn, run_underlying Tryz.underlying58]
theorem func_neq (F : Nat) (a b : Array Value) (w : World) : (binOp .neq 58 (.func (.func F) a b) .nilFunc).run Tryz.prog w = .ok (.bool true) w := by
  simp only [binOp]
  simp [show Op.equal 58 (.func (.func F) a b) .nilFunc = Op.equalIn (9999 + 1) 58 (.func (.func F) a b) .nilFunc from rfl, equalIn_func 9999]
theorem nilf_neq (w : World) : (binOp .neq 58 .nilFunc .nilFunc).run Tryz.prog w = .ok (.bool false) w := by
  simp only [binOp]
  simp [show Op.equal 58 .nilFunc .nilFunc = Op.equalIn (9999 + 1) 58 .nilFunc .nilFunc from rfl, equalIn_nilf 9999]
theorem DiskAt.drewN {w : World} {g bn bs : Nat} {A : Option Addr} {c : Nat} {vs : List Value} {S : DState} (h : DiskAt w g bn bs A c vs S) (q : Nat) : DiskAt (w.drewN q) g bn bs A c vs S := h.below (bdrewN (Below.refl _ _) q)

structure DiskOk (S : DState) : Prop where
  st0 : 0 ≤ S.steps
  st1 : S.steps < 1000000000000
  sp0 : -1 ≤ S.stop
  sp1 : S.stop ≤ 9223372036854775807
  len : S.since.length < 1000000000000
set_option maxRecDepth 100000 in
theorem step_stopped (g bn bs c : Nat) (A : Option Addr) (vs : List Value) (S : DState) (ev : Option Int) (f : Value) (w : World) (D : DiskAt w g bn bs A c vs S) (hs : stoppedB S = true) :
    Calls Tryz.prog 32 #[.pointer (some ⟨g, 0, none⟩), errV ev, f] w fun e w' => e = .returned (errV (some 7)) ∧ Below w.heap.size w w' := by
  obtain ⟨c0, c1, c2, c3, c4, fz⟩ := D.cells
  unfold stoppedB at hs
  rw [Bool.and_eq_true] at hs
  obtain ⟨q1, q2⟩ := hs
  have HB : ∀ q, Below w.heap.size w (w.drewN q) := fun q => bdrewN (Below.refl _ _) q
  clear D
  generalize errV ev = e0
  generalize S.since.length = n at c2
  generalize S.steps = x at c3 q2
  generalize S.stop = y at c4 q1 q2
  go_enter Tryz.func32, Tryz.ntmps32
  go_wp2_with fail
  go_region
  all_goals
    go_wp2_with fail
    go_ret
    exact ⟨rfl, HB 1⟩

theorem not_stopped {S : DState} (hs : stoppedB S = false) : (decide (0 ≤ S.stop) = false) ∨ (decide (0 ≤ S.stop) = true ∧ decide (S.stop ≤ S.steps) = false) := by
  unfold stoppedB at hs
  rw [Bool.and_eq_false_iff] at hs
  rcases hs with h | h
  · exact .inl h
  · cases h2 : decide (0 ≤ S.stop)
    · exact .inl rfl
    · exact .inr ⟨rfl, h⟩
set_option maxRecDepth 100000 in
theorem step_err (g bn bs c : Nat) (A : Option Addr) (vs : List Value) (S : DState) (k : Int) (f : Value) (w : World) (D : DiskAt w g bn bs A c vs S) (hs : stoppedB S = false) :
    Calls Tryz.prog 32 #[.pointer (some ⟨g, 0, none⟩), errV (some k), f] w fun e w' => e = .returned (errV (some k)) ∧ Below w.heap.size w w' := by
  obtain ⟨c0, c1, c2, c3, c4, fz⟩ := D.cells
  have hs := not_stopped hs
  have HB : ∀ q, Below w.heap.size w (w.drewN q) := fun q => bdrewN (Below.refl _ _) q
  clear D
  unfold errV
  generalize S.since.length = n at c2
  generalize S.steps = x at c3 hs
  generalize S.stop = y at c4 hs
  rcases hs with q1 | ⟨q1, q2⟩
  all_goals
    go_enter Tryz.func32, Tryz.ntmps32
    go_wp2_with fail
    go_region
    all_goals
      go_wp2_with fail
      go_ret
      exact ⟨rfl, HB 1⟩
/-- A disk that was worked on. -/
def Turned (w : World) (g bn bs : Nat) (A : Option Addr) (S' : DState) (w' : World) : Prop := ∃ A' c' vs', DiskAt w' g bn bs A' c' vs' S' ∧ Frm (dom g bn bs A) w w' ∧ (blk A' = blk A ∨ ∃ k, blk A' = some k ∧ w.heap.size ≤ k)
set_option maxRecDepth 100000 in
set_option maxHeartbeats 2000000 in
theorem step_done (g bn bs c : Nat) (A : Option Addr) (vs : List Value) (S : DState) (f : Value) (op : DOp) (w : World) (D : DiskAt w g bn bs A c vs S) (hf : OpAt w f op) (ok : DiskOk S) (hs : stoppedB S = false) :
    Calls Tryz.prog 32 #[.pointer (some ⟨g, 0, none⟩), .nilIface, f] w (fun e w' => e = .returned .nilIface ∧ Turned w g bn bs A (doneS S op) w') := by
  obtain ⟨c0, c1, c2, c3, c4, fz⟩ := D.cells
  have hs := not_stopped hs
  have f3 := fz 3
  have hw : wrap64 (S.steps + 1) = S.steps + 1 := IntWalk.wrap64_in _ (by have := ok.st0; have := ok.st1; omega)
  have HD1 : Hid (DiskAt ((w.setCell ⟨g, 3, none⟩ (.int .i64 (S.steps + 1))).drew) g bn bs A c vs { S with steps := S.steps + 1 }) := (D.counted (S.steps + 1)).below ((Below.refl _ _).drew)
  have HOP : Hid (OpAt ((w.setCell ⟨g, 3, none⟩ (.int .i64 (S.steps + 1))).drew) f op) := hf.keep fun k hk => Below.heap_setCell _ _ _ _ (fun e => D.quiet (.inl e) hk)
  have HFR : Hid (Frm (dom g bn bs A) w ((w.setCell ⟨g, 3, none⟩ (.int .i64 (S.steps + 1))).drew)) := ((Frm.refl _ w).setCell (.inl (.inl rfl)) _).drew
  have HOK := Lib.hid ok
  obtain ⟨F, cs, hfe, hen⟩ := hf.shape
  subst hfe
  obtain ⟨n, hn⟩ : ∃ n, n = S.since.length := ⟨_, rfl⟩
  have hnb := ok.len
  rw [← hn] at hnb c2
  have HN := Lib.hid hn
  have hfn := func_neq F #[] cs
  generalize hx : S.steps = x at c3 hs hw HD1 HOP HFR
  generalize hy : S.stop = y at c4 hs
  have HX := Lib.hid hx
  clear D hf ok hx hy hn fz
  rcases hs with q1 | ⟨q1, q2⟩
  all_goals
    go_enter Tryz.func32, Tryz.ntmps32
    go_wp2_with fail
    go_region
    all_goals
      go_wp2_with fail
      refine (OpAt.run HOP.out HD1.out.now).mono ?_
      rintro e w2 ⟨rfl, hm2, hf2⟩
      have hD2 := HD1.out.turned hm2 hf2
      obtain ⟨_, _, d2, _, _, fz2⟩ := hD2.cells
      have f2 := fz2 2
      have HD2 := Lib.hid hD2
      have HOP2 : Hid (OpAt w2 (.func (.func F) #[] cs) op) := HOP.out.keep (hf2.quiet fun k e => HD1.out.quiet (.inr (.inl e)))
      have HF2 : Hid (Frm (dom g bn bs A) w w2) := HFR.out.trans hf2 (fun _ h => h) (fun _ h => .inl (.inr (.inl h)))
      simp only [← HN.out] at d2
      have hAg := hD2.A_g
      have hgl := hD2.lt (.inl rfl)
      clear hD2 fz2 hm2 hf2
      go_wp2_with (at_builtin; refine wpList_push_S (w0 := w2) rfl (.tmp 48) (.tmp 50) 41 rfl 58 _ 1 8 Tryz.underlying41 info_fn rfl (by decide) A c n vs rfl (by rw [HN.out]; exact HD2.out.row) [.func (.func F) #[] cs] rfl rfl (by simp [Value.oneCell']) (by unfold maxLen; omega) (by omega) ?_)
      intro A' c' w3 hown hg hat
      have hgg := hg.block g hgl (fun e => hAg e.symm)
      have f3' : w3.frozen? ⟨g, 2, none⟩ = false := (World.frozen?_of_block (a := ⟨g, 2, none⟩) hgg).trans f2
      have d3' : w3.cell? ⟨g, 2, none⟩ = some (.slice A n c) := (World.cell?_of_block (a := ⟨g, 2, none⟩) hgg).trans d2
      have HDF := Lib.hid (HD2.out.pushed HOP2.out HN.out hown hg hat)
      have HFF : Hid (Frm (dom g bn bs A) w (w3.setCell ⟨g, 2, none⟩ (.slice A' (n + 1) c'))) := (HF2.out.trans (Frm.ofGrown (F := fun k => blk A = some k) hg (fun k e => e)) (fun _ h => h) (fun _ h => .inl (.inr (.inr (.inr h))))).setCell (.inl (.inl rfl)) _
      have HAT : Hid (blk A' = blk A ∨ ∃ k, blk A' = some k ∧ w.heap.size ≤ k) := hat.imp_right fun ⟨k, e, h⟩ => ⟨k, e, Nat.le_trans HF2.out.size h⟩
      clear hown hg hat hgg
      go_wp2_with fail
      go_ret
      refine ⟨rfl, A', c', vs ++ [.func (.func F) #[] cs], ?_, HFF.out, HAT.out⟩
      have := HDF.out
      unfold doneS
      rw [HX.out]
      exact this
end Go.Proofs.YthanjafbgcljgaaGreatDoor
