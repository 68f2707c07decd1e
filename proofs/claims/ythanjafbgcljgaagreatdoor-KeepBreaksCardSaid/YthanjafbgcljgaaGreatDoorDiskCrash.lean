/-
  Package disk: the contract of Crash. Condition: fewer than 10^12 steps since the last Sync.
-/
import Derived.Test.YthanjafbgcljgaaGreatDoorDiskUse
import Derived.Deep.LoopGhost
import Derived.Shelf.SlMaps.Clone
namespace Go.Proofs.YthanjafbgcljgaaGreatDoor
open Go.RowKit Go.Shelf
set_option linter.unusedVariables false

theorem mclone_ok (b : Nat) (fs : SMap) (w : World) (h : SMapAt w b fs) : Calls Tryz.prog 24 #[.map (some b)] w fun e w' => e = .returned (.map (some w.heap.size)) ∧ SMapAt w' w.heap.size fs ∧ Below w.heap.size w w' ∧ w'.heap.size = w.heap.size + 1 := by
  obtain ⟨es, clock, hb, hm⟩ := h.clone
  refine (AnyW.maps_Clone Tryz.mclone b es clock w hb).mono ?_
  rintro e w' ⟨rfl, rfl⟩
  exact ⟨rfl, hm, (Below.refl _ _).alloc (Nat.le_refl _) _, by simp⟩
set_option maxRecDepth 100000 in
set_option maxHeartbeats 2000000 in
theorem crash_ok (g bn bs c : Nat) (A : Option Addr) (vs : List Value) (S : DState) (keep : Int) (w : World) (D : DiskAt w g bn bs A c vs S) (ok : DiskOk S) (hI : I64 keep) :
    Calls Tryz.prog 11 #[.pointer (some ⟨g, 0, none⟩), .int .i64 keep] w fun e w' => e = .returned (.tuple #[]) ∧ ∃ bn' bs', DiskAt w' g bn' bs' none 0 [] (crashS S keep) ∧ Frm (· = g) w w' ∧ w.heap.size ≤ bn' ∧ w.heap.size ≤ bs' := by
  have HD := Lib.hid D
  have HOK := Lib.hid ok
  obtain ⟨c0, c1, c2, c3, c4, fz⟩ := D.cells
  have hgl := D.lt (.inl rfl)
  obtain ⟨n, hn⟩ : ∃ n, n = S.since.length := ⟨_, rfl⟩
  rw [← hn] at c2
  have hnb := ok.len
  rw [← hn] at hnb
  have hnc : n ≤ c := by rw [hn]; exact D.row.2.1
  have hcm : c ≤ maxLen := D.row.2.2.1
  have HN := Lib.hid hn
  have hsafe := D.safe
  clear D ok hn
  go_enter Tryz.func11, Tryz.ntmps11
  go_wp2_with fail
  refine (mclone_ok bs S.safe w hsafe).mono ?_
  rintro e w1 ⟨rfl, hm1, hb1, hz1⟩
  have d2 := (hb1.cell (p := ⟨g, 2, none⟩) hgl).trans c2
  obtain ⟨K, hK⟩ : ∃ K, K = keepN keep n := ⟨_, rfl⟩
  have e1 : min (max 0 keep) (n : Int) = (K : Int) := by rw [hK]; unfold keepN; omega
  have e3 : max (K : Int) 0 = K := by omega
  have hKn : K ≤ n := by rw [hK]; unfold keepN; omega
  have HK := Lib.hid hK
  obtain ⟨f0, hf0⟩ : ∃ f0, f0 = w.heap.size := ⟨_, rfl⟩
  rw [← hf0] at hm1
  have HM1 : Hid (SMapAt w1.drew f0 S.safe) := hm1.keep rfl
  have HB1 : Hid (Below w.heap.size w w1.drew) := hb1.drew
  have HF0 := Lib.hid hf0
  clear hK hb1 hm1
  go_wp2_with fail
  go_region
  all_goals
    simp only [e1, e3, Int.toNat_natCast, ← hf0]
    clear d2 hf0
    go_wp2_with fail
    go_loopg [26] K (fun gk i wr => ∃ k : Nat, k ≤ K ∧ gk = K - k ∧ i = .int .i64 k ∧ Hid (SMapAt wr f0 (runOps S.safe (S.since.take k))) ∧ Hid (Frm (· = f0) w wr))
    case atStart => exact ⟨0, by omega, by omega, rfl, HM1.out, Frm.ofBelow HB1.out⟩
    case round =>
      obtain ⟨k, hk, hgk, rfl, HM, HFR⟩ := hrel
      have HGK := Lib.hid hgk
      clear hgk
      by_cases hlt : k < K
      · have hkn : k < S.since.length := by rw [← HN.out]; omega
        obtain ⟨f, hvf, hop⟩ := HD.out.ops k S.since[k] (List.getElem?_eq_getElem hkn)
        obtain ⟨gA, off, rfl, hgA, hcell⟩ := HD.out.row.head (by omega) (by decide)
        have hcf := hcell k f hvf
        have hgAne : gA ≠ f0 := by rw [HF0.out]; omega
        have hcf2 : wr.cell? ⟨gA, off + k, none⟩ = some f := (World.cell?_of_block (a := ⟨gA, off + k, none⟩) (HFR.out.block gA hgA hgAne)).trans hcf
        have hopr : OpAt wr f S.since[k] := hop.keep (Frm.quiet HFR.out fun k' e hq => by have := hq.lt; rw [HF0.out] at e; omega)
        obtain ⟨F, cs, rfl, hen⟩ := hopr.shape
        have HC := Lib.hid (OpAt.run hopr HM.out)
        have HOPS : Hid (S.since[k].run (runOps S.safe (S.since.take k)) = runOps S.safe (S.since.take (k + 1))) := by
          show _ = _
          rw [List.take_succ_eq_append_getElem hkn, runOps_snoc]
        clear hop hopr hcf hcell hvf
        go_wp2_with fail
        refine HC.out.mono ?_
        rintro e w2 ⟨rfl, hm2, hf2⟩
        have HM2 : Hid (SMapAt w2 f0 (runOps S.safe (S.since.take (k + 1)))) := by rw [← HOPS.out]; exact hm2
        have HF2 : Hid (Frm (· = f0) w w2) := HFR.out.trans hf2 (fun _ h => h) (fun _ h => .inl h)
        clear hm2 hf2
        go_wp2_with fail
        go_roundg (K - (k + 1))
        case measure => have := HGK.out; omega
        case rel => exact ⟨k + 1, by omega, rfl, by congr 1, HM2.out, HF2.out⟩
      · obtain rfl : k = K := by omega
        go_wp2_with fail
        refine (mclone_ok f0 _ wr HM.out).mono ?_
        rintro e w3 ⟨rfl, hm3, hb3, hz3⟩
        have hgf : g ≠ f0 := by rw [HF0.out]; omega
        have hszr := HFR.out.size
        have hf0r := HM.out.lt
        have ho : w3.heap[g]? = some (.cells #[.map (some bn), .map (some bs), .slice A S.since.length c, .int .i64 S.steps, .int .i64 S.stop] 43 (0, 0)) := (hb3.block g (by omega)).trans ((HFR.out.block g hgl hgf).trans HD.out.obj)
        have fr : ∀ i, w3.frozen? ⟨g, i, none⟩ = false := fun i => by simp [World.frozen?, ho]
        have fr0 := fr 0
        have fr1 := fr 1
        have fr2 := fr 2
        have fr3 := fr 3
        have fr4 := fr 4
        have e0 := (cell_of_row w3 g 0 _ _ _ ho).trans rfl
        have e1' := (cell_of_row w3 g 1 _ _ _ ho).trans rfl
        have e2' := (cell_of_row w3 g 2 _ _ _ ho).trans rfl
        have e3' := (cell_of_row w3 g 3 _ _ _ ho).trans rfl
        have e4' := (cell_of_row w3 g 4 _ _ _ ho).trans rfl
        obtain ⟨W, hW⟩ : ∃ W : World, W = ((((w3.setCell ⟨g, 0, none⟩ (.map (some f0))).setCell ⟨g, 1, none⟩ (.map (some wr.heap.size))).setCell ⟨g, 2, none⟩ (.slice none 0 0)).setCell ⟨g, 3, none⟩ (.int .i64 0)).setCell ⟨g, 4, none⟩ (.int .i64 (-1)) := ⟨_, rfl⟩
        have hWg : W.heap[g]? = some (.cells #[.map (some f0), .map (some wr.heap.size), .slice none 0 0, .int .i64 0, .int .i64 (-1)] 43 (0, 0)) := by
          rw [hW]; simp [World.setCell, Array.getElem?_modify, ho]
        have hWk : ∀ j, j ≠ g → W.heap[j]? = w3.heap[j]? := fun j hj => by
          rw [hW]
          iterate 5 rw [Below.heap_setCell _ _ _ _ (by simpa using hj)]
        have hm0 : SMapAt w3 f0 (runOps S.safe (S.since.take k)) := HM.out.keep (hb3.block f0 hf0r)
        have HDF : Hid (DiskAt W g f0 wr.heap.size none 0 [] (crashS S keep)) := by
          have hE : S.since.take (keepN keep S.since.length) = S.since.take k := by rw [← HN.out, ← HK.out]
          refine ⟨?_, ?_, ?_, by omega, OwnS.nil _ _ _, nofun⟩
          · exact hWg
          · unfold crashS; simp only [hE]; exact hm0.keep (hWk _ (fun e => hgf e.symm))
          · unfold crashS; simp only [hE]; exact hm3.keep (hWk _ (by omega))
        have HFF : Hid (Frm (· = g) w W) := by
          rw [hW]
          refine (((((Frm.less ?_ (F := (· = f0)) (G := (· = g)) ?_).setCell (.inl rfl) _).setCell (.inl rfl) _).setCell (.inl rfl) _).setCell (.inl rfl) _).setCell (.inl rfl) _
          · exact HFR.out.trans (Frm.ofBelow (F := (· = f0)) hb3) (fun _ h => h) (fun _ h => .inl h)
          · intro j e; rw [e, HF0.out]; exact .inr (Nat.le_refl _)
        have hbn : w.heap.size ≤ f0 := by rw [HF0.out]; exact Nat.le_refl _
        clear ho fr hm3 hb3 hWg hWk hm0
        go_wp2_with fail
        rw [← hW]
        exact bodyPost_end (by simp [results, Tryz.results11, go_sem]) rfl ⟨rfl, f0, _, HDF.out, HFF.out, hbn, hszr⟩
end Go.Proofs.YthanjafbgcljgaaGreatDoor
