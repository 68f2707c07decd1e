/-
  The contract of sink's Abort. Condition: fewer than 10^9 records wait.
-/
import Derived.Test.YtmcmejmfaihclaaDoorSink
namespace Go.Proofs.YtmcmejmfaihclaaDoor
open Go.RowKit
set_option linter.unusedVariables false

def abortS (S : SinkSt) : SinkSt := ⟨[], [], S.last, S.written⟩
theorem abort_rep {w wr : World} {g : Nat} {S : SinkSt} {Ao As Aw : Option Addr} {co cs cw : Nat} {bs : List Bat} {Fb : Nat → Prop} (h : SinkRep w g S Ao co As cs Aw cw bs Fb) (hb : Below w.heap.size w wr) :
    SinkRep ((wr.setCell ⟨g, 0, none⟩ (.slice none 0 0)).setCell ⟨g, 1, none⟩ (.slice none 0 0)) g (abortS S) none 0 none 0 Aw cw [] (fun _ => False) := by
  have hgl := block_lt h.blk
  have h1 := (hb.block g hgl).trans h.blk
  refine ⟨?_, OwnS.nil _ _ _, OwnS.nil _ _ _, ?_, rfl, nofun, nofun, h.okW, nofun, nofun, ⟨by simp [blk], by simp [blk], h.nG.2.2⟩, nofun, nofun, nofun⟩
  · simp [World.setCell, Array.getElem?_modify, h1, abortS]
  · refine h.ownw.keep fun k e => ?_
    have hkg : k ≠ g := fun e2 => h.nG.2.2 (e2 ▸ e)
    rw [Below.heap_setCell _ _ _ _ (by simpa using hkg), Below.heap_setCell _ _ _ _ (by simpa using hkg)]
    exact hb.block k (h.ownw.lt k e)

set_option maxHeartbeats 1000000 in
set_option maxRecDepth 100000 in
theorem abort_any (g : Nat) (S : SinkSt) (F : Nat → Prop) (w : World) (h : SinkAt w F g S) (hm : S.opened.length + (S.sealed.flatMap (·.2)).length ≤ 1000000000) (hm2 : S.sealed.length ≤ 1000000000) :
    Calls Tryd.prog 19 #[.pointer (some ⟨g, 0, none⟩)] w fun e w' => e = .returned (.int .i64 ((S.opened.length + (S.sealed.flatMap (·.2)).length : Nat) : Int)) ∧ SinkAt w' F g (abortS S) ∧ Frm F w w' := by
  obtain ⟨Ao, co, As, cs, Aw, cw, bs, Fb, h, hf⟩ := h
  have hgl : g < w.heap.size := block_lt h.blk
  have c0 := cell_of_row w g 0 _ _ _ h.blk
  have c1 := cell_of_row w g 1 _ _ _ h.blk
  have fz : ∀ i, w.frozen? ⟨g, i, none⟩ = false := fun i => by simp [World.frozen?, h.blk]
  have fz0 := fz 0
  have fz1 := fz 1
  clear fz
  simp at c0 c1
  have hbl : S.sealed.length = bs.length := by rw [h.bats, List.length_map]
  have hsum : ∀ k (hk : k < bs.length), commN S (k + 1) = commN S k + bs[k].recs.length := by
    intro k hk
    have := commN_succ S k (by omega)
    rw [this]
    congr 2
    have e := h.bats
    simp [e]
  have hcl : ∀ k, commN S k ≤ (S.sealed.flatMap (·.2)).length := commN_le S
  have hfin : commN S bs.length = (S.sealed.flatMap (·.2)).length := by unfold commN; rw [← hbl, List.take_length]
  obtain ⟨no, hno⟩ : ∃ n, n = S.opened.length := ⟨_, rfl⟩
  obtain ⟨tot, htot⟩ : ∃ n, n = (S.sealed.flatMap (·.2)).length := ⟨_, rfl⟩
  rw [← hno] at c0 hm
  rw [← htot] at hm hfin hcl
  rw [← hno, ← htot]
  have hbb : bs.length ≤ 1000000000 := by omega
  have H := Lib.hid h
  have HF := Lib.hid hf
  have HSUM := Lib.hid hsum
  have HCL := Lib.hid hcl
  have HFIN := Lib.hid hfin
  clear h hf hsum hcl hfin hno htot hbl hm2
  go_enter Tryd.func19, Tryd.ntmps19
  go_wp2_with fail
  go_loopw [3, 16] (fun nv kv wr => ∃ k q : Nat, k ≤ bs.length ∧ q ≤ 1000000000 ∧ nv = .int .i64 q ∧ kv = .int .i64 k ∧ Hid (q = no + commN S k) ∧ Hid (Below w.heap.size w wr)) (fun _ kv _ => bs.length - (intOf kv).toNat)
  case atStart => exact ⟨0, no, by omega, by omega, rfl, rfl, by show no = no + 0; rfl, Below.refl _ _⟩
  case round =>
    obtain ⟨k, q, hk, hq, rfl, rfl, HQ, HB⟩ := hrel
    by_cases hlt : k < bs.length
    · obtain ⟨gs, off, rfl, hgs, hcell⟩ := H.out.owns.head (by omega) (by decide)
      have d0 := hcell (k * 2 + 0) _ (by rw [flat_get batCells 2 (fun _ => rfl) bs (List.getElem?_eq_getElem hlt) (by omega)]; rfl)
      have d1 := hcell (k * 2 + 1) _ (by rw [flat_get batCells 2 (fun _ => rfl) bs (List.getElem?_eq_getElem hlt) (by omega)]; rfl)
      simp only [Nat.add_zero] at d0
      rw [← Nat.add_assoc] at d1
      have hnext := HSUM.out k hlt
      have hcap := HCL.out (k + 1)
      obtain ⟨b, hb⟩ : ∃ b, b = bs[k] := ⟨_, rfl⟩
      rw [← hb] at d0 d1 hnext
      have e0 := (HB.out.cell (p := ⟨gs, off + k * 2, none⟩) hgs).trans d0
      have e1 := (HB.out.cell (p := ⟨gs, off + k * 2 + 1, none⟩) hgs).trans d1
      have hqn : q + b.recs.length ≤ 1000000000 := by have := HQ.out; omega
      have HN := Lib.hid hnext
      clear d0 d1 hb hcell hnext hcap
      go_wp2_with fail
      go_roundw
      case rel => exact ⟨k + 1, q + b.recs.length, by omega, hqn, by go_num, by go_num, by show _ = _; rw [HN.out, HQ.out, Nat.add_assoc], HB.out.alloc HB.out.size _⟩
      case measure => simp [intOf]; omega
    · obtain rfl : k = bs.length := by omega
      have f0 := (HB.out.frozen (p := ⟨g, 0, none⟩) hgl).trans fz0
      have f1 := (HB.out.frozen (p := ⟨g, 1, none⟩) hgl).trans fz1
      have e0 := (HB.out.cell (p := ⟨g, 0, none⟩) hgl).trans c0
      have e1 := (HB.out.cell (p := ⟨g, 1, none⟩) hgl).trans c1
      go_wp2_with fail
      go_ret
      refine ⟨?_, ⟨_, _, _, _, _, _, _, _, abort_rep H.out HB.out, ?_⟩, ?_⟩
      · have := HQ.out; rw [HFIN.out] at this; rw [← this]; rfl
      · rintro k (rfl | e | e | e | e)
        · exact HF.out _ (.inl rfl)
        · cases e
        · cases e
        · exact HF.out _ (.inr (.inr (.inr (.inl e))))
        · exact e.elim
      · exact ((Frm.ofBelow HB.out).setCell (.inl (HF.out _ (.inl rfl))) _).setCell (.inl (HF.out _ (.inl rfl))) _
end Go.Proofs.YtmcmejmfaihclaaDoor
