/-
  More contracts of package sink (what Seal and Commit refuse; Sealed), and of weirsame.Ints. Condition: at most 10^9 batches.
-/
import Derived.Test.YtmcmejmfaihclaaDoorAbort
namespace Go.Proofs.YtmcmejmfaihclaaDoor
open Go.RowKit
set_option linter.unusedVariables false

theorem ints_same (A B : Option Addr) (c d : Nat) (l : List Int) (w : World) (F G : Nat → Prop) (ha : SlA (intE .i64) F w A c l) (hb : SlA (intE .i64) G w B d l) :
    Calls Tryd.prog 22 #[.slice A l.length c, .slice B l.length d] w fun e w' => e = .returned (.bool true) ∧ ∃ k, w' = w.drewN k := by
  have hn := ha.le
  have H := Lib.hid ha
  have H' := Lib.hid hb
  clear ha hb
  go_enter Tryd.func22, Tryd.ntmps22
  go_wp2
  go_loopw [5] (fun i wr => ∃ k q : Nat, k ≤ l.length ∧ i = .int .i64 k ∧ wr = w.drewN q) (fun i _ => l.length - (intOf i).toNat)
  case atStart => exact ⟨0, 0, Nat.zero_le _, rfl, rfl⟩
  case round =>
    obtain ⟨k, q, hk, rfl, rfl⟩ := hrel
    by_cases hlt : k < l.length
    · obtain ⟨b, off, rfl, _, c0, _⟩ := H.out.int_ hlt
      obtain ⟨b', off', rfl, _, d0, _⟩ := H'.out.int_ hlt
      obtain ⟨s, hs⟩ : ∃ s, s = l[k] := ⟨_, rfl⟩
      rw [← hs] at c0 d0
      clear hs
      go_wp2
      go_quiet (fail)
      go_wp2
      go_roundw
      case rel => exact ⟨k + 1, q + nq, by omega, by go_num, by simp⟩
      case measure => simp [intOf]; omega
    · go_wp2
      go_ret
      exact ⟨rfl, q, rfl⟩

set_option maxRecDepth 100000 in
theorem seal_order (g : Nat) (S : SinkSt) (id : Int) (F : Nat → Prop) (w : World) (h : SinkAt w F g S) (h1 : 1 ≤ id) (h2 : id ≤ S.last) :
    Calls Tryd.prog 17 #[.pointer (some ⟨g, 0, none⟩), .int .i64 id] w fun e w' => e = .returned (.iface 64 (.int .i64 5)) ∧ w = w' := by
  obtain ⟨Ao, co, As, cs, Aw, cw, bs, Fb, h, hf⟩ := h
  have c2 := cell_of_row w g 2 _ _ _ h.blk
  simp at c2
  clear h hf
  obtain ⟨la, hla⟩ : ∃ la, la = S.last := ⟨_, rfl⟩
  rw [← hla] at c2 h2
  clear hla
  go_enter Tryd.func17, Tryd.ntmps17
  go_wp2_with fail
  go_ret
  exact ⟨rfl, rfl⟩

set_option maxRecDepth 100000 in
theorem commit_range (g : Nat) (id : Int) (w : World) (h1 : id < 1) :
    Calls Tryd.prog 18 #[.pointer (some ⟨g, 0, none⟩), .int .i64 id] w fun e w' => e = .returned (.tuple #[.int .i64 0, .iface 64 (.int .i64 1)]) ∧ w = w' := by
  go_enter Tryd.func18, Tryd.ntmps18
  go_wp2_with fail
  go_ret2
  exact ⟨rfl, rfl⟩

theorem info_int : (Tryd.prog.info? 3).map (fun i => (i.zero, i.size, i.bytes)) = some (some (.int .i64 0), 1, 8) := by kernel_rfl
set_option maxHeartbeats 1000000 in
set_option maxRecDepth 100000 in
theorem sealed_any (g : Nat) (S : SinkSt) (F : Nat → Prop) (w : World) (h : SinkAt w F g S) (hw : ∀ b ∈ S.sealed, I64 b.1) (hm : S.sealed.length ≤ 1000000000) :
    Calls Tryd.prog 23 #[.pointer (some ⟨g, 0, none⟩)] w fun e w' => ∃ A' c', e = .returned (.slice A' (S.sealed.map (·.1)).length c') ∧ SlA (intE .i64) (· < w'.heap.size) w' A' c' (S.sealed.map (·.1)) ∧ Below w.heap.size w w' := by
  obtain ⟨Ao, co, As, cs, Aw, cw, bs, Fb, h, hf⟩ := h
  have c1 := cell_of_row w g 1 _ _ _ h.blk
  simp at c1
  have hbl : S.sealed.length = bs.length := by rw [h.bats, List.length_map]
  have hids : S.sealed.map (·.1) = bs.map (·.id) := by rw [h.bats, List.map_map]; rfl
  rw [hids]
  have hwb : ∀ b ∈ bs, I64 b.id := fun b hb => hw (b.id, b.recs) (by rw [h.bats]; exact List.mem_map.2 ⟨b, hb, rfl⟩)
  have hbb : bs.length ≤ 1000000000 := by omega
  have H := Lib.hid h.owns
  have HW := Lib.hid hwb
  clear h hf hw hwb hids hbl hm
  go_enter Tryd.func23, Tryd.ntmps23
  go_wp2_with fail
  go_loopw [3, 11] (fun nv kv wr => ∃ k : Nat, k ≤ bs.length ∧ kv = .int .i64 k ∧ Hid (wr.ownsRow w.heap.size 3 1 nv k ((bs.map fun b => .int .i64 b.id).take k)) ∧ Hid (Below w.heap.size w wr)) (fun _ kv _ => bs.length - (intOf kv).toNat)
  case atStart => exact ⟨0, by omega, rfl, World.ownsRow_nil _ _ _ _, Below.refl _ _⟩
  case round =>
    obtain ⟨k, hk, rfl, HO, HB⟩ := hrel
    by_cases hlt : k < bs.length
    · obtain ⟨gs, off, rfl, hgs, hcell⟩ := H.out.head (by omega) (by decide)
      have d0 := hcell (k * 2 + 0) _ (by rw [flat_get batCells 2 (fun _ => rfl) bs (List.getElem?_eq_getElem hlt) (by omega)]; rfl)
      have d1 := hcell (k * 2 + 1) _ (by rw [flat_get batCells 2 (fun _ => rfl) bs (List.getElem?_eq_getElem hlt) (by omega)]; rfl)
      simp only [Nat.add_zero] at d0
      rw [← Nat.add_assoc] at d1
      have htk : (bs.map (fun b => Value.int .i64 b.id)).take (k + 1) = (bs.map (fun b => Value.int .i64 b.id)).take k ++ [.int .i64 bs[k].id] := by
        rw [List.take_succ_eq_append_getElem (by simpa using hlt)]; simp
      obtain ⟨b, hb⟩ : ∃ b, b = bs[k] := ⟨_, rfl⟩
      rw [← hb] at d0 d1 htk
      have e0 := (HB.out.cell (p := ⟨gs, off + k * 2, none⟩) hgs).trans d0
      have e1 := (HB.out.cell (p := ⟨gs, off + k * 2 + 1, none⟩) hgs).trans d1
      have HTK := Lib.hid htk
      have hbel := Lib.hid (HB.out.alloc HB.out.size (.cells #[.int .i64 b.id, .slice b.A b.recs.length b.c] 71))
      have hown := Lib.hid (HO.out.alloc (.cells #[.int .i64 b.id, .slice b.A b.recs.length b.c] 71))
      clear d0 d1 hb hcell htk
      go_wp2_with (at_builtin; refine wpList_push (w0 := wr.alloc _) rfl _ _ 44 rfl w.heap.size 3 _ 1 8 Tryd.underlying44 info_int rfl (by decide) _ k _ rfl hown.out [.int .i64 b.id] (by simp [Act.eval]) rfl ?_ ?_ ?_ hbel.out.size hbel.out (Nat.le_refl _) ?_)
      · simp [Value.oneCell']
      · unfold maxLen; omega
      · omega
      · intro v' w1 hown1 hg1 hbel1 hat1
        rw [← HTK.out] at hown1
        have HO1 := Lib.hid hown1
        have HB1 := Lib.hid hbel1
        clear hown1 hg1 hbel1 hat1
        go_wp2_with fail
        go_roundw
        case rel => exact ⟨k + 1, by omega, by go_num, HO1, HB1⟩
        case measure => simp [intOf]; omega
    · obtain rfl : k = bs.length := by omega
      have ho := HO.out
      rw [List.take_of_length_le (by simp)] at ho
      have ho2 : wr.ownsRow w.heap.size 3 1 u3 bs.length ((bs.map (·.id)).map (Value.int .i64)) := by rw [List.map_map]; exact ho
      obtain ⟨-, A', c', hv, hs⟩ := own_sl1 (E := intE .i64) (Value.int .i64) rfl (fun x hx F => ⟨rfl, by obtain ⟨b, hb, rfl⟩ := List.mem_map.1 hx; exact HW.out b hb⟩) ho2
      have HS := Lib.hid hs
      subst hv
      clear ho ho2 hs HO
      go_wp2_with fail
      go_ret
      exact ⟨A', c', rfl, HS.out.more fun k hk => hk.2, HB.out⟩
end Go.Proofs.YtmcmejmfaihclaaDoor
