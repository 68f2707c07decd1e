/-
  Contracts of package gate, of records that bear a number alone and of no barriers: Next, Waiting. Conditions: as in Gate.
-/
import Derived.Test.YtggihfllbfbbgaaGateTake
namespace Go.Proofs.Ytggihfllbfbbgaa
open Go.RowKit Go.ChangeShapes Go.WideShapes
set_option linter.unusedVariables false

theorem gateF_lt {w : World} {g gw gl next : Nat} {vs : List Value} {rows : List (List Int)} (h : GateRep w g gw gl vs rows next) : ∀ k, gateF g gw vs k → k < w.heap.size := by
  rintro k (rfl | rfl | ⟨u, hu, e⟩)
  · exact block_lt h.blk
  · exact h.nest.lt
  · obtain ⟨j, hj⟩ := List.getElem?_of_mem hu
    have hjl : j < vs.length := (List.getElem?_eq_some_iff.1 hj).1
    exact ((h.nest.own j u _ _ hj (List.getElem?_eq_getElem (by rw [← h.nest.len]; exact hjl)) (List.getElem?_eq_getElem (by rw [h.nest.lenN, ← h.nest.len]; exact hjl))).lt k e).2

theorem next_end {w W1 w2 : World} {g gw gl next p q i : Nat} {vs vs2 : List Value} {rows rows' : List (List Int)} {cs : Array Value} {t : TypeId} {F : Nat → Prop} {u : Value} (h : GateRep w g gw gl vs rows next) (hf : ∀ k, gateF g gw vs k → F k) (hW : W1 = w.alloc (.cells cs t))
    (r1 : GateRep w2 g gw gl vs2 rows' p) (r2 : ∀ k, gateF g gw vs2 k → gateF g gw vs k ∨ (((W1.drewN q).setCell ⟨g, i, none⟩ u).heap.size ≤ k ∧ k < w2.heap.size)) (r3 : Frm (gateF g gw vs) ((W1.drewN q).setCell ⟨g, i, none⟩ u) w2) :
    w2.heap[w.heap.size]? = some (.cells cs t) ∧ (∀ u0 u1 u2, GateAt (((w2.setCell ⟨w.heap.size, 0, none⟩ u0).setCell ⟨w.heap.size, 1, none⟩ u1).setCell ⟨w.heap.size, 2, none⟩ u2) (fun k => F k ∨ (w.heap.size ≤ k ∧ k < (((w2.setCell ⟨w.heap.size, 0, none⟩ u0).setCell ⟨w.heap.size, 1, none⟩ u1).setCell ⟨w.heap.size, 2, none⟩ u2).heap.size)) g rows' p ∧
      Frm F w (((w2.setCell ⟨w.heap.size, 0, none⟩ u0).setCell ⟨w.heap.size, 1, none⟩ u1).setCell ⟨w.heap.size, 2, none⟩ u2)) ∧ w.heap.size + 1 ≤ w2.heap.size := by
  have hz : ((W1.drewN q).setCell ⟨g, i, none⟩ u).heap.size = w.heap.size + 1 := by rw [size_setCell, hW]; simp [World.drewN]
  have hlt := gateF_lt h
  have hgl := block_lt h.blk
  have hfar : ¬ gateF g gw vs w.heap.size := fun e => by have := hlt _ e; omega
  have hfar2 : ¬ gateF g gw vs2 w.heap.size := fun e => by
    rcases r2 _ e with e | ⟨e, _⟩
    · exact hfar e
    · omega
  have hz2 := r3.size
  rw [hz] at hz2
  have hb : ((W1.drewN q).setCell ⟨g, i, none⟩ u).heap[w.heap.size]? = some (.cells cs t) := by
    rw [Below.heap_setCell _ _ _ _ (by simp; omega), hW]
    exact heap_alloc_new w _
  refine ⟨(r3.block _ (by omega) hfar).trans hb, fun u0 u1 u2 => ⟨⟨gw, gl, vs2, far_rep (far_rep (far_rep r1 hfar2 u0) hfar2 u1) hfar2 u2, fun k hk => ?_⟩, ?_⟩, hz2⟩
  · simp only [size_setCell]
    rcases r2 k hk with e | ⟨e1, e2⟩
    · exact .inl (hf k e)
    · exact .inr ⟨by omega, e2⟩
  · have h1 : Frm F w W1 := by rw [hW]; exact (Frm.refl _ _).alloc _
    have h2 : Frm F w ((W1.drewN q).setCell ⟨g, i, none⟩ u) := (h1.drewN q).setCell (.inl (hf g (.inl rfl))) u
    have h3 : Frm F w w2 := h2.trans r3 (fun k h => h) (fun k h => .inl (hf k h))
    exact ((h3.setCell (.inr (Nat.le_refl _)) u0).setCell (.inr (Nat.le_refl _)) u1).setCell (.inr (Nat.le_refl _)) u2
set_option maxRecDepth 100000 in
set_option maxHeartbeats 4000000 in
theorem next_some (g next d : Nat) (rows : List (List Int)) (x : Int) (xs : List Int) (F : Nat → Prop) (w : World) (h : GateAt w F g rows next) (hn : rows.length ≤ 64) (hnx : next < rows.length) (hd : d < rows.length)
    (he : ∀ j, j < d → rows[(next + j) % rows.length]? = some []) (hx : rows[(next + d) % rows.length]? = some (x :: xs)) (hl : xs.length < 400) :
    Calls Try.prog 33 #[.pointer (some ⟨g, 0, none⟩)] w fun e w' => e = .returned (.tuple #[.agg #[.string ByteArray.empty, .int .i64 x, .int .i64 0], .int .i64 ((next + d) % rows.length : Nat), .bool true]) ∧
      GateAt w' (fun k => F k ∨ (w.heap.size ≤ k ∧ k < w'.heap.size)) g (rows.set ((next + d) % rows.length) xs) (((next + d) % rows.length + 1) % rows.length) ∧ Frm F w w' := by
  obtain ⟨gw, gl, vs, h, hf⟩ := h
  have HF := Lib.hid hf
  have hgl := block_lt h.blk
  have hgw := h.nest.lt
  have c0 := cell_of_row w g 0 _ _ _ h.blk
  have c2 := cell_of_row w g 2 _ _ _ h.blk
  simp at c0 c2
  have f2 : w.frozen? ⟨g, 2, none⟩ = false := by simp [World.frozen?, h.blk]
  obtain ⟨n, hn'⟩ : ∃ n, n = rows.length := ⟨_, rfl⟩
  have HH := Lib.hid h
  rw [← hn'] at c0 he hx hnx hd hn
  have HE := Lib.hid he
  have HX := Lib.hid hx
  have HL := Lib.hid hl
  have HN := Lib.hid hn'
  rw [← hn']
  clear hf h he hx hl hn'
  have hfld : ∀ u : World, (Instr.field 99 (.agg #[.string ByteArray.empty, .int .i64 x, .int .i64 0, .int .i64 0]) 0).run Try.prog u = .ok (.agg #[.string ByteArray.empty, .int .i64 x, .int .i64 0]) u := fun _ => by kernel_rfl
  go_enter Try.func33, Try.ntmps33
  go_wp2_with fail
  obtain ⟨W1, hW1⟩ : ∃ W, W = w.alloc (.cells #[.string ⟨#[]⟩, .int .i64 0, .int .i64 0] 59) := ⟨_, rfl⟩
  rw [← hW1]
  have k0 : W1.cell? ⟨g, 0, none⟩ = some (.slice (some ⟨gw, 0, none⟩) n n) := by rw [hW1]; exact (World.cell?_of_block (w := w) (a := ⟨g, 0, none⟩) (Below.heap_alloc _ _ _ hgl)).trans c0
  have k2 : W1.cell? ⟨g, 2, none⟩ = some (.int .i64 next) := by rw [hW1]; exact (World.cell?_of_block (w := w) (a := ⟨g, 2, none⟩) (Below.heap_alloc _ _ _ hgl)).trans c2
  have kf : W1.frozen? ⟨g, 2, none⟩ = false := by rw [hW1]; exact (World.frozen?_of_block (w := w) (a := ⟨g, 2, none⟩) (Below.heap_alloc _ _ _ hgl)).trans f2
  have H1 : Hid (GateRep W1 g gw gl vs rows next) := by rw [hW1]; exact HH.out.alloc _
  have HW := Lib.hid hW1
  clear hW1 c0 c2 f2
  go_loopw [12] (fun k wr => ∃ j q : Nat, j ≤ d ∧ k = .int .i64 j ∧ wr = W1.drewN q) (fun k _ => d + 1 - (intOf k).toNat)
  case atStart => exact ⟨0, 0, Nat.zero_le _, rfl, rfl⟩
  case round =>
    obtain ⟨j, q, hj, rfl, rfl⟩ := hrel
    obtain ⟨i, hi⟩ : ∃ i, i = (next + j) % n := ⟨_, rfl⟩
    have hin : i < n := by rw [hi]; exact Nat.mod_lt _ (by omega)
    have e1 : IntKind.i64.wrap ((next : Int) + (j : Int)) = (next : Int) + (j : Int) := IntWalk.i64_in _ (by omega)
    have e2 : ((next : Int) + (j : Int)).tmod (n : Int) = (i : Int) := by
      rw [Int.tmod_eq_emod_of_nonneg (by omega), hi]; simp
    have e3 : ((next : Int) + (j : Int)) % (n : Int) = (i : Int) := by rw [hi]; simp
    have hn0 : ¬ n = 0 := by omega
    have hjn : j < n := by omega
    have HI := Lib.hid hi
    clear hi
    by_cases hlt : j < d
    · obtain ⟨v, hv, hc, hfz, hown⟩ := H1.out.row (i := i) (r := []) (by rw [HI.out]; exact HE.out j hlt)
      obtain ⟨A, c, rfl, hlc, hcm⟩ := row_form hown
      simp only [List.length_nil] at hc
      clear hv hfz hown hlc hcm
      go_wp2_with fail
      go_quiet (fail)
      go_wp2_with fail
      go_roundw
      case rel => exact ⟨j + 1, _, by omega, by go_num, rfl⟩
      case measure => simp [intOf]; omega
    · obtain rfl : j = d := by omega
      obtain ⟨v, hv, hc, hfz, hown⟩ := H1.out.row (i := i) (r := x :: xs) (by rw [HI.out]; exact HX.out)
      obtain ⟨gv, c, rfl, hlc, hcm, hgv, hcell⟩ := row_head hown
      clear hv hfz hown hcell
      obtain ⟨m, hm⟩ : ∃ m, m = xs.length := ⟨_, rfl⟩
      rw [← hm] at hc hlc
      have hml : m < 400 := by rw [hm]; exact HL.out
      have HM := Lib.hid hm
      clear hm hlc hcm
      have d1 : decide ((0 : Int) < (m : Int) + 1) = true := by simp <;> omega
      have e4 : IntKind.i64.wrap ((i : Int) + 1) = (i : Int) + 1 := IntWalk.i64_in _ (by omega)
      obtain ⟨p, hp⟩ : ∃ p, p = (i + 1) % n := ⟨_, rfl⟩
      have e5 : ((i : Int) + 1).tmod (n : Int) = (p : Int) := by
        rw [Int.tmod_eq_emod_of_nonneg (by omega), hp]; simp
      have e6 : ((i : Int) + 1) % (n : Int) = (p : Int) := by rw [hp]; simp
      have hpn : p < n := by rw [hp]; exact Nat.mod_lt _ (by omega)
      have HP := Lib.hid hp
      clear hp
      go_wp2_with fail
      go_quiet (fail)
      go_wp2_with (go_at_call 46; refine (blocked_no g gw gl next i vs rows (x :: xs) _ (H1.out.drewN _) (by rw [HI.out]; exact HX.out) (by rw [← HN.out]; exact hn) x xs rfl).mono ?_; rintro e w' ⟨rfl, rfl⟩)
      refine (take_ok g gw gl p i vs rows x xs _ ?gr (by rw [HI.out]; exact HX.out) (by rw [← HN.out]; exact hn) (by rw [← HM.out]; exact hml)).mono ?_
      case gr => exact next_rep (H1.out.drewN _) p
      rintro e w2 ⟨rfl, vs2, r1, r2, r3⟩
      obtain ⟨qb, r4, hz2⟩ := next_end HH.out HF.out HW.out r1 r2 r3
      have R4 := Lib.hid r4
      have z0 := cell_of_row w2 w.heap.size 0 _ _ _ qb
      have z1 := cell_of_row w2 w.heap.size 1 _ _ _ qb
      have z2 := cell_of_row w2 w.heap.size 2 _ _ _ qb
      simp at z0 z1 z2
      have fz : ∀ j, w2.frozen? ⟨w.heap.size, j, none⟩ = false := fun j => by simp [World.frozen?, qb]
      have g0 := fz 0
      have g1 := fz 1
      have g2 := fz 2
      clear r1 r2 r3 r4 qb fz
      go_wp2_with fail
      refine bodyPost_ret (v := .tuple #[.agg #[.string ByteArray.empty, .int .i64 x, .int .i64 0], .int .i64 i, .bool true]) (by simp [results, Try.results33, go_sem, z0, z1, z2]) rfl ⟨?_, ?_⟩
      · rw [HI.out]
      · rw [← HI.out, ← HP.out]; exact R4.out _ _ _

set_option maxRecDepth 100000 in
set_option maxHeartbeats 4000000 in
theorem next_none (g next : Nat) (rows : List (List Int)) (F : Nat → Prop) (w : World) (h : GateAt w F g rows next) (hn : rows.length ≤ 64) (hnx : next < rows.length)
    (he : ∀ j, j < rows.length → rows[j]? = some []) :
    Calls Try.prog 33 #[.pointer (some ⟨g, 0, none⟩)] w fun e w' => e = .returned (.tuple #[.agg #[.string ⟨#[]⟩, .int .i64 0, .int .i64 0], .int .i64 0, .bool false]) ∧
      GateAt w' (fun k => F k ∨ (w.heap.size ≤ k ∧ k < w'.heap.size)) g rows next ∧ Frm F w w' := by
  obtain ⟨gw, gl, vs, h, hf⟩ := h
  have hgl := block_lt h.blk
  have hgw := h.nest.lt
  have c0 := cell_of_row w g 0 _ _ _ h.blk
  have c2 := cell_of_row w g 2 _ _ _ h.blk
  simp at c0 c2
  obtain ⟨n, hn'⟩ : ∃ n, n = rows.length := ⟨_, rfl⟩
  rw [← hn'] at c0 he hnx hn
  obtain ⟨W1, hW1⟩ : ∃ W, W = w.alloc (.cells #[.string ⟨#[]⟩, .int .i64 0, .int .i64 0] 59) := ⟨_, rfl⟩
  have hbox : W1.heap[w.heap.size]? = some (.cells #[.string ⟨#[]⟩, .int .i64 0, .int .i64 0] 59) := by rw [hW1]; exact heap_alloc_new w _
  have hz1 : W1.heap.size = w.heap.size + 1 := by rw [hW1]; simp
  have H1' : GateRep W1 g gw gl vs rows next := by rw [hW1]; exact h.alloc _
  have k0 : W1.cell? ⟨g, 0, none⟩ = some (.slice (some ⟨gw, 0, none⟩) n n) := by rw [hW1]; exact (World.cell?_of_block (w := w) (a := ⟨g, 0, none⟩) (Below.heap_alloc _ _ _ hgl)).trans c0
  have k2 : W1.cell? ⟨g, 2, none⟩ = some (.int .i64 next) := by rw [hW1]; exact (World.cell?_of_block (w := w) (a := ⟨g, 2, none⟩) (Below.heap_alloc _ _ _ hgl)).trans c2
  have z0 := cell_of_row W1 w.heap.size 0 _ _ _ hbox
  have z1 := cell_of_row W1 w.heap.size 1 _ _ _ hbox
  have z2 := cell_of_row W1 w.heap.size 2 _ _ _ hbox
  simp at z0 z1 z2
  have fz : ∀ j, W1.frozen? ⟨w.heap.size, j, none⟩ = false := fun j => by simp [World.frozen?, hbox]
  have g0 := fz 0
  have g1 := fz 1
  have g2 := fz 2
  have hfar : ¬ gateF g gw vs w.heap.size := fun e => by have := gateF_lt h _ e; omega
  have hend : ∀ q u0 u1 u2, GateAt ((((W1.drewN q).setCell ⟨w.heap.size, 0, none⟩ u0).setCell ⟨w.heap.size, 1, none⟩ u1).setCell ⟨w.heap.size, 2, none⟩ u2) (fun k => F k ∨ (w.heap.size ≤ k ∧ k < ((((W1.drewN q).setCell ⟨w.heap.size, 0, none⟩ u0).setCell ⟨w.heap.size, 1, none⟩ u1).setCell ⟨w.heap.size, 2, none⟩ u2).heap.size)) g rows next ∧ Frm F w ((((W1.drewN q).setCell ⟨w.heap.size, 0, none⟩ u0).setCell ⟨w.heap.size, 1, none⟩ u1).setCell ⟨w.heap.size, 2, none⟩ u2) := fun q u0 u1 u2 =>
    ⟨⟨gw, gl, vs, far_rep (far_rep (far_rep (H1'.drewN q) hfar u0) hfar u1) hfar u2, fun k hk => .inl (hf k hk)⟩, by
      have h1 : Frm F w W1 := by rw [hW1]; exact (Frm.refl _ _).alloc _
      exact (((h1.drewN q).setCell (.inr (Nat.le_refl _)) u0).setCell (.inr (Nat.le_refl _)) u1).setCell (.inr (Nat.le_refl _)) u2⟩
  have HEND := Lib.hid hend
  have H1 := Lib.hid H1'
  have HE := Lib.hid he
  have HN := Lib.hid hn'
  have HW := Lib.hid hW1
  clear hf h he hn' hW1 fz hfar hend H1' hbox hz1
  go_enter Try.func33, Try.ntmps33
  go_wp2_with fail
  rw [← HW.out]
  clear c0 c2
  go_loopw [12] (fun k wr => ∃ j q : Nat, j ≤ n ∧ k = .int .i64 j ∧ wr = W1.drewN q) (fun k _ => n - (intOf k).toNat)
  case atStart => exact ⟨0, 0, Nat.zero_le _, rfl, rfl⟩
  case round =>
    obtain ⟨j, q, hj, rfl, rfl⟩ := hrel
    by_cases hlt : j < n
    · obtain ⟨i, hi⟩ : ∃ i, i = (next + j) % n := ⟨_, rfl⟩
      have hin : i < n := by rw [hi]; exact Nat.mod_lt _ (by omega)
      have e1 : IntKind.i64.wrap ((next : Int) + (j : Int)) = (next : Int) + (j : Int) := IntWalk.i64_in _ (by omega)
      have e2 : ((next : Int) + (j : Int)).tmod (n : Int) = (i : Int) := by
        rw [Int.tmod_eq_emod_of_nonneg (by omega), hi]; simp
      have e3 : ((next : Int) + (j : Int)) % (n : Int) = (i : Int) := by rw [hi]; simp
      have hn0 : ¬ n = 0 := by omega
      clear hi
      obtain ⟨v, hv, hc, hfz, hown⟩ := H1.out.row (i := i) (r := []) (HE.out i hin)
      obtain ⟨A, c, rfl, hlc, hcm⟩ := row_form hown
      simp only [List.length_nil] at hc
      clear hv hfz hown hlc hcm
      go_wp2_with fail
      go_quiet (fail)
      go_wp2_with fail
      go_roundw
      case rel => exact ⟨j + 1, _, by omega, by go_num, rfl⟩
      case measure => simp [intOf]; omega
    · obtain rfl : j = n := by omega
      go_wp2_with fail
      refine bodyPost_ret (v := .tuple #[.agg #[.string ⟨#[]⟩, .int .i64 0, .int .i64 0], .int .i64 0, .bool false]) (by simp [results, Try.results33, go_sem, z0, z1, z2]) rfl ⟨rfl, HEND.out _ _ _ _⟩

set_option maxRecDepth 100000 in
set_option maxHeartbeats 1000000 in
theorem waiting_none (g next : Nat) (rows : List (List Int)) (F : Nat → Prop) (w : World) (h : GateAt w F g rows next) (hn : rows.length ≤ 64)
    (he : ∀ j, j < rows.length → rows[j]? = some []) :
    Calls Try.prog 34 #[.pointer (some ⟨g, 0, none⟩)] w fun e w' => e = .returned (.int .i64 0) ∧ w = w' := by
  obtain ⟨gw, gl, vs, h, hf⟩ := h
  have c0 := cell_of_row w g 0 _ _ _ h.blk
  simp at c0
  obtain ⟨n, hn'⟩ : ∃ n, n = rows.length := ⟨_, rfl⟩
  rw [← hn'] at c0 he hn
  have H1 := Lib.hid h
  have HE := Lib.hid he
  clear hf h he hn'
  go_enter Try.func34, Try.ntmps34
  go_wp2_with fail
  go_loop [3, 11] (fun s k => ∃ j : Nat, j ≤ n ∧ k = .int .i64 j ∧ s = .int .i64 0) (fun _ k => n - (intOf k).toNat)
  case atStart => exact ⟨0, Nat.zero_le _, rfl, rfl⟩
  case round =>
    obtain ⟨j, hj, rfl, rfl⟩ := hrel
    by_cases hlt : j < n
    · obtain ⟨v, hv, hc, hfz, hown⟩ := H1.out.row (i := j) (r := []) (HE.out j hlt)
      obtain ⟨A, c, rfl, hlc, hcm⟩ := row_form hown
      simp only [List.length_nil] at hc
      clear hv hfz hown hlc hcm
      go_wp2_with fail
      go_round
      case rel => exact ⟨j + 1, by omega, by go_num, rfl⟩
      case measure => simp [intOf]; omega
    · go_wp2_with fail
      go_ret
      exact ⟨rfl, rfl⟩
end Go.Proofs.Ytggihfllbfbbgaa
