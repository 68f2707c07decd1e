/-
  Package disk: contracts of step without anything to do, of Sync and Remove. Condition: fewer than 10^12 steps.
-/
import Derived.Test.YthanjafbgcljgaaGreatDoorDiskIn
namespace Go.Proofs.YthanjafbgcljgaaGreatDoor
open Go.RowKit Go.Shelf
set_option linter.unusedVariables false

set_option maxRecDepth 100000 in
theorem step_stoppedN (g bn bs c : Nat) (A : Option Addr) (vs : List Value) (S : DState) (w : World) (D : DiskAt w g bn bs A c vs S) (hs : stoppedB S = true) :
    Calls Tryz.prog 32 #[.pointer (some ⟨g, 0, none⟩), .nilIface, .nilFunc] w fun e w' => e = .returned (errV (some 7)) ∧ Below w.heap.size w w' := step_stopped g bn bs c A vs S none .nilFunc w D hs
set_option maxRecDepth 100000 in
theorem step_none (g bn bs c : Nat) (A : Option Addr) (vs : List Value) (S : DState) (w : World) (D : DiskAt w g bn bs A c vs S) (ok : DiskOk S) (hs : stoppedB S = false) :
    Calls Tryz.prog 32 #[.pointer (some ⟨g, 0, none⟩), .nilIface, .nilFunc] w fun e w' => e = .returned .nilIface ∧ DiskAt w' g bn bs A c vs { S with steps := S.steps + 1 } ∧ Frm (· = g) w w' := by
  obtain ⟨c0, c1, c2, c3, c4, fz⟩ := D.cells
  have hs := not_stopped hs
  have f3 := fz 3
  have hw : wrap64 (S.steps + 1) = S.steps + 1 := IntWalk.wrap64_in _ (by have := ok.st0; have := ok.st1; omega)
  obtain ⟨S1, hS1⟩ : ∃ S1, S1 = { S with steps := S.steps + 1 } := ⟨_, rfl⟩
  rw [← hS1]
  have HD1 : Hid (DiskAt ((w.setCell ⟨g, 3, none⟩ (.int .i64 (S.steps + 1))).drew) g bn bs A c vs S1) := by rw [hS1]; exact (D.counted (S.steps + 1)).below ((Below.refl _ _).drew)
  clear hS1
  have HFR : Hid (Frm (· = g) w ((w.setCell ⟨g, 3, none⟩ (.int .i64 (S.steps + 1))).drew)) := ((Frm.refl (· = g) w).setCell (p := ⟨g, 3, none⟩) (.inl rfl) _).drew
  have hfn := nilf_neq
  generalize S.since.length = n at c2
  generalize S.steps = x at c3 hs hw HD1 HFR
  generalize S.stop = y at c4 hs
  clear D ok fz
  rcases hs with q1 | ⟨q1, q2⟩
  all_goals
    go_enter Tryz.func32, Tryz.ntmps32
    go_wp2_with fail
    go_region
    all_goals
      go_wp2_with fail
      go_ret
      exact ⟨rfl, HD1.out, HFR.out⟩

/-- What is safe now: all of it. -/
theorem DiskAt.synced {w w1 w2 : World} {g bn bs c : Nat} {A : Option Addr} {vs : List Value} {S : DState} (h : DiskAt w1 g bn bs A c vs S) {bs' : Nat} (hm : SMapAt w2 bs' S.now) (hb : Below w1.heap.size w1 w2) (hn : w1.heap.size ≤ bs') :
    DiskAt ((w2.setCell ⟨g, 1, none⟩ (.map (some bs'))).setCell ⟨g, 2, none⟩ (.slice none 0 0)) g bn bs' none 0 [] { S with safe := S.now, since := [] } := by
  have h2 := h.below hb
  have hgl := h.lt (.inl rfl)
  have hbl := h.lt (.inr (.inl rfl))
  have hk : ∀ k, k ≠ g → ((w2.setCell ⟨g, 1, none⟩ (.map (some bs'))).setCell ⟨g, 2, none⟩ (.slice none 0 0)).heap[k]? = w2.heap[k]? := fun k hk => by
    iterate 2 rw [Below.heap_setCell _ _ _ _ (by simpa using hk)]
  refine ⟨?_, h2.now.keep (hk _ (fun e => h.g_bn e.symm)), hm.keep (hk _ (by omega)), by omega, OwnS.nil _ _ _, nofun⟩
  have := h2.obj
  simp [World.setCell, Array.getElem?_modify, this]
set_option maxRecDepth 100000 in
theorem sync_ok (w0 : World) (g : Nat) (S : DState) (w : World) (D : DiskIn w0 w g S) (ok : DiskOk S) (hs : stoppedB S = false) :
    Calls Tryz.prog 17 #[.pointer (some ⟨g, 0, none⟩)] w fun e w' => e = .returned .nilIface ∧ QKeep w w' ∧ DiskIn w0 w' g (syncS S) := by
  obtain ⟨bn, bs, A, c, vs, hD, h0, h1, h2, h3, h4⟩ := D
  have HS := Lib.hid (step_none g bn bs c A vs S w hD ok hs)
  have HD := Lib.hid hD
  go_enter Tryz.func17, Tryz.ntmps17
  clear hD
  go_wp2_with fail
  refine HS.out.mono ?_
  rintro e w1 ⟨rfl, hD1, hf1⟩
  obtain ⟨c0, _, _, _, _, fz⟩ := hD1.cells
  have HD1 := Lib.hid hD1
  have HF1 := Lib.hid hf1
  have hgl := hD1.lt (.inl rfl)
  clear hD1 hf1 fz HS
  go_wp2_with fail
  refine (mclone_ok bn S.now w1 HD1.out.now).mono ?_
  rintro e w2 ⟨rfl, hm2, hb2, hz2⟩
  obtain ⟨d0, d1, d2, d3, d4, fz⟩ := (HD1.out.below hb2).cells
  have f1 := fz 1
  have f2 := fz 2
  have HDF : Hid (DiskAt ((w2.setCell ⟨g, 1, none⟩ (.map (some w1.heap.size))).setCell ⟨g, 2, none⟩ (.slice none 0 0)) g bn w1.heap.size none 0 [] (syncS S)) := HD1.out.synced (w := w) hm2 hb2 (Nat.le_refl _)
  have HFF : Hid (Frm (· = g) w ((w2.setCell ⟨g, 1, none⟩ (.map (some w1.heap.size))).setCell ⟨g, 2, none⟩ (.slice none 0 0))) := ((HF1.out.trans (Frm.ofBelow (F := (· = g)) hb2) (fun _ h => h) (fun _ h => .inl h)).setCell (.inl rfl) _).setCell (.inl rfl) _
  have hz1 := HF1.out.size
  have hz0 := h0.size
  simp only at d2
  generalize S.since.length = n at d2
  clear hm2 hb2 fz
  go_wp2_with fail
  go_ret
  refine ⟨rfl, Frm.quiet HFF.out (fun k e => HD.out.quiet (.inl e)), bn, _, none, 0, [], HDF.out, h0.trans (HFF.out.below h0.size fun k e => by rw [e]; exact h1), h1, h2, by omega, nofun⟩
set_option maxRecDepth 100000 in
theorem sync_no (w0 : World) (g : Nat) (S : DState) (w : World) (D : DiskIn w0 w g S) (hs : stoppedB S = true) :
    Calls Tryz.prog 17 #[.pointer (some ⟨g, 0, none⟩)] w fun e w' => e = .returned (errV (some 7)) ∧ Below w.heap.size w w' := by
  obtain ⟨bn, bs, A, c, vs, hD, h0, h1, h2, h3, h4⟩ := D
  have HS := Lib.hid (step_stoppedN g bn bs c A vs S w hD hs)
  clear hD
  go_enter Tryz.func17, Tryz.ntmps17
  go_wp2_with fail
  refine HS.out.mono ?_
  rintro e w1 ⟨he, hb1⟩
  obtain rfl : e = .returned (.iface 45 (.int .i64 7)) := he
  go_wp2_with fail
  go_ret
  exact ⟨rfl, hb1⟩

/-! ### Remove -/
def pickS (r : Option Int) (S S' : DState) : DState := if r.isNone then S' else S
set_option maxRecDepth 100000 in
theorem remove_ok (w0 : World) (g : Nat) (S : DState) (a : ByteArray) (w : World) (D : DiskIn w0 w g S) (ha : a.size ≤ maxLen) (ok : DiskOk S) (r : Option Int) (hr : stepE S (hasE S a) = r) :
    Calls Tryz.prog 22 #[.pointer (some ⟨g, 0, none⟩), .string a] w fun e w' => e = .returned (errV r) ∧ QKeep w w' ∧ DiskIn w0 w' g (pickS r S (doneS S (.rem a))) := by
  have hmf : ∀ (fn : Fn) (first cap : Array Value) (w : World), (Instr.makeFunc fn first cap).run Tryz.prog w = .ok (.func fn first cap) w := fun _ _ _ _ => rfl
  have HDI := Lib.hid D
  have HR := Lib.hid hr
  obtain ⟨bn, bs, A, c, vs, hD, h0, h1, h2, h3, h4⟩ := D
  have HD := Lib.hid hD
  have HOK := Lib.hid ok
  obtain ⟨W0, hW0⟩ : ∃ W0 : World, W0 = w.alloc (.cells #[.string a] 9) := ⟨_, rfl⟩
  have hz0 : W0.heap.size = w.heap.size + 1 := by rw [hW0]; simp
  have hB0 : Below w.heap.size w W0 := by rw [hW0]; exact (Below.refl _ _).alloc (Nat.le_refl _) _
  have hn0 : BoxAt W0 w.heap.size (.string a) 9 := by rw [hW0]; exact heap_alloc_new w _
  have HB0 := Lib.hid hB0
  have HN0 := Lib.hid hn0
  have HH := Lib.hid (has_ok g bn bs c A vs S a W0 (hD.below hB0) ha)
  have cn0 := hn0.cell
  generalize hasE S a = ev at HH HR
  clear hD ok hB0 hn0 hr
  go_enter Tryz.func22, Tryz.ntmps22
  go_wp2_with fail
  rw [← hW0]
  refine (HH.out).mono ?_
  rintro e w1 ⟨rfl, hb1⟩
  have hB1 := HB0.out.trans (hb1.mono (by omega))
  have hn1 := HN0.out.keep (hb1.block _ (by omega))
  have HST := Lib.hid (step_any g bn bs c A vs S ev (.func (.func 42) #[] #[.pointer (some ⟨w.heap.size, 0, none⟩)]) (.rem a) w1 (HD.out.below hB1) (.inr (.inr ⟨a, _, rfl, rfl, hn1, ha⟩)) HOK.out)
  have HB1 := Lib.hid hB1
  clear hb1 hn1 hB1 cn0
  go_wp2_with fail
  refine (HST.out).mono ?_
  rintro e w5 ⟨he, hT, hBd⟩
  rw [HR.out] at he hT hBd
  subst he
  have HFIN : Hid (QKeep w w5 ∧ DiskIn w0 w5 g (pickS r S (doneS S (.rem a)))) := by
    cases r with
    | none =>
      obtain ⟨hI, hq⟩ := ((hT rfl).from HB1.out).in_ HD.out h0 h1 h2 h3 h4
      exact ⟨hq, hI⟩
    | some k =>
      have hb := HB1.out.trans ((hBd (by simp)).mono HB1.out.size)
      exact ⟨QKeep.below hb, HDI.out.below hb⟩
  clear hT hBd
  go_wp2_with fail
  go_ret
  exact ⟨rfl, HFIN.out⟩
end Go.Proofs.YthanjafbgcljgaaGreatDoor
