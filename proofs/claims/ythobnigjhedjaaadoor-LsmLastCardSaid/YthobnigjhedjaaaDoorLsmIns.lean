/-
  slices.Insert(s, 0, v) at rows of slices, of which s is the caller's own. Conditions: no more than 1000 elements; v in a block of its own.
-/
import Derived.Test.YthobnigjhedjaaaDoorHeap
import Derived.Lib.AppendZerosOnto
import Derived.Lib.Overlaps
import Derived.Lib.SliceRun
import Derived.Lib.JoinLaws
import Derived.Laws.Externs
import Derived.Laws.IdiomCopy
import Derived.Laws.NewBlocks
import Derived.Shelf.RegionOpenPlain
import Derived.BigQuiet
namespace Go.Proofs.YthobnigjhedjaaaDoor
open Go.RowKit Go.Lib
set_option linter.unusedVariables false
set_option linter.unusedSimpArgs false

theorem wp_copy_run0 {P : Program} (w : World) {o : Oper} {a : Act} {K : Act → World → Prop} {Q : Exit → Act → World → Prop} (d s : Operand) (t t' : TypeId)
    (ho : o.op = .call { callee := .builtin .copy, args := #[d, s], argTypes := #[t, t'] }) (v u : Value) (hd : a.eval d = v) (hs : a.eval s = u) {v' : Value} {w' : World}
    (hr : (Builtin.copy_ #[t, t'] o.type #[v, u]).run P w = .ok v' w') (h : K (a.put o.dst v') w') : o.wp P a w K Q := by
  unfold Oper.wp execOp
  simp only [ho, resolve, invoke, builtin, Sem.run_bind, Sem.run_pure, Result.andThen_ok, List.map_toArray, List.map_cons, List.map_nil, hd, hs, hr]
  exact h
theorem wpList_copy_run0 {P : Program} (w : World) {ops : Array Oper} {rest : List Oper} {o : Oper} {a : Act} {Q : Exit → Act → World → Prop} (hgd : o.guard = none) (d s : Operand) (t t' : TypeId)
    (ho : o.op = .call { callee := .builtin .copy, args := #[d, s], argTypes := #[t, t'] }) (v u : Value) (hd : a.eval d = v) (hs : a.eval s = u) {v' : Value} {w' : World}
    (hr : (Builtin.copy_ #[t, t'] o.type #[v, u]).run P w = .ok v' w') (h : wpList P ops Q rest (a.put o.dst v') w') : wpList P ops Q (o :: rest) a w :=
  wpList_plain hgd fun _ hK => wp_copy_run0 w d s t t' ho v u hd hs hr (hK _ _ h)
theorem step_copy_run0 {P : Program} {ops : Array Oper} {o : Oper} {a : Act} {w : World} {K : Act → World → Prop} {Q : Exit → Act → World → Prop} {E : Prop}
    (hg : o.guard = none) (d x : Operand) (dT sT : TypeId) (hop : o.op = Op.call { callee := Callee.builtin Builtin.copy, args := #[d, x], argTypes := #[dT, sT] })
    (v u : Value) (hd : a.eval d = v) (hx : a.eval x = u) {v' : Value} {w' : World} (hr : (Builtin.copy_ #[dT, sT] o.type #[v, u]).run P w = .ok v' w') (hK : K (a.put o.dst v') w') :
    if Region.wanted o (yielded ops a.tmps) = true then Oper.wp P o a w K Q else E := by
  have hw : Region.wanted o (yielded ops a.tmps) = true := by simp [Region.wanted, hg]
  rw [if_pos hw]
  unfold Oper.wp
  simp [execOp, hop, resolve, invoke, builtin, hd, hx, hr, Result.andThen]
  exact hK
/-- What cells stored one behind the other leave. -/
theorem setCells_row (b : Nat) {t : TypeId} {fr : Nat × Nat} : ∀ (vs : List Value) (o : Nat) (w : World) (cur : Array Value), w.heap[b]? = some (.cells cur t fr) → o + vs.length ≤ cur.size →
    ∃ cur' : Array Value, (w.setCells b o vs).heap[b]? = some (.cells cur' t fr) ∧ cur'.size = cur.size ∧ (∀ j u, vs[j]? = some u → cur'[o + j]? = some u) ∧ ∀ k, k < o ∨ o + vs.length ≤ k → cur'[k]? = cur[k]?
  | [], o, w, cur, h, _ => ⟨cur, h, rfl, by simp, fun _ _ => rfl⟩
  | v :: vs, o, w, cur, h, hl => by
    rw [List.length_cons] at hl
    have h1 : (w.setCell ⟨b, o, none⟩ v).heap[b]? = some (.cells (cur.setIfInBounds o v) t fr) := by simp [World.setCell, Array.getElem?_modify, h]
    obtain ⟨cur', h2, h3, h4, h5⟩ := setCells_row b vs (o + 1) (w.setCell ⟨b, o, none⟩ v) _ h1 (by simp; omega)
    refine ⟨cur', h2, by simpa using h3, fun j u hj => ?_, fun k hk => ?_⟩
    · cases j with
      | zero =>
        simp at hj; subst hj
        rw [Nat.add_zero, h5 o (.inl (by omega))]
        simp [Array.getElem?_setIfInBounds]; omega
      | succ j =>
        have := h4 j u (by simpa using hj)
        rw [show o + (j + 1) = o + 1 + j by omega]; exact this
    · rw [List.length_cons] at hk
      rw [h5 k (by omega)]
      simp [Array.getElem?_setIfInBounds]
      omega
theorem setCells_grown (b : Nat) : ∀ (vs : List Value) (o : Nat) (w : World), w.grownBy (w.setCells b o vs) (some b)
  | [], o, w => World.grownBy.refl w _
  | v :: vs, o, w => by
    have h1 : w.grownBy (w.setCell ⟨b, o, none⟩ v) (some b) := ⟨rfl, rfl, rfl, by simp [World.setCell], fun k hk hne => Below.heap_setCell _ _ _ _ (fun e => hne (by simp at e; rw [e]))⟩
    exact h1.trans (setCells_grown b vs (o + 1) _)


theorem info_T : (Tryd.prog.info? 70).map (fun i => (i.zero, i.size, i.bytes)) = some (some (Value.slice none 0 0), 1, 24) := by kernel_rfl
set_option maxRecDepth 100000 in
set_option maxHeartbeats 4000000 in
theorem insT_ok (A : Option Addr) (c n : Nat) (xs : List Value) (v : Value) (vb : Nat) (w : World) (ho : OwnS w 70 1 A c n xs) (hv : w.heap[vb]? = some (.cells #[v] 70 (0, 0))) (hvb : blk A ≠ some vb) (h1 : ∀ u ∈ v :: xs, u.oneCell' = true) (hn : n ≤ 1000) :
    Calls Tryd.prog 34 #[.slice A n c, .int .i64 0, .slice (some ⟨vb, 0, none⟩) 1 1] w fun e w' => ∃ A' c', e = .returned (.slice A' (n + 1) c') ∧ OwnS w' 70 1 A' c' (n + 1) (v :: xs) ∧ w.grownBy w' (blk A) ∧ (blk A' = blk A ∨ ∃ k, blk A' = some k ∧ w.heap.size ≤ k) := by
  have hvw := block_lt hv
  have hxl : xs.length = n := by have := ho.1; omega
  have hnc := ho.2.1
  have hcm := ho.2.2.1
  unfold maxLen at hcm
  have hvc : w.cell? ⟨vb, 0, none⟩ = some v := (cell_of_row w vb 0 _ _ _ hv).trans rfl
  have h1v : v.oneCell' = true := h1 v List.mem_cons_self
  have hsrc : Src Tryd.prog 1 73 (.slice (some ⟨vb, 0, none⟩) 1 1) 1 [v] w := Src.ofSlice w Tryd.underlying73 ⟨vb, 0, none⟩ 1 1 [v] rfl (fun j u hj => by
    cases j with
    | succ j => simp at hj
    | zero => simp at hj; subst hj; simpa [Addr.add] using hvc) (fun u hu => by rw [List.mem_singleton.1 hu]; exact h1v)
  obtain ⟨i0, hi0, hz0, hzs, hzb⟩ := info_parts info_T
  have hsz : (Tryd.prog.info? 70).map (·.size) = some 1 := by rw [hi0]; simp [hzs]
  by_cases hn0 : n = 0
  · subst hn0
    have hx : xs = [] := List.eq_nil_of_length_eq_zero hxl
    subst hx
    have HO := Lib.hid ho
    have HS := Lib.hid hsrc
    clear ho hsrc hv hvc h1 hi0 hz0 hzs hzb hsz hxl
    cases A with
    | none =>
      go_enter Tryd.func34, Tryd.ntmps34
      go_wp2_with (at_builtin; refine wpList_append_S rfl _ _ 73 73 rfl 70 _ 1 24 Tryd.underlying73 info_T rfl (by decide) _ c 0 [] rfl HO.out _ rfl 1 [v] HS.out (by unfold maxLen; omega) (by omega) ?_)
      intro A' c' w1 h1 h2 h3
      have H1 := Lib.hid h1
      have H2 := Lib.hid h2
      have H3 := Lib.hid h3
      clear h1 h2 h3
      go_wp2_with fail
      go_ret
      exact ⟨A', c', rfl, H1.out, H2.out, H3.out.imp id fun e => ⟨_, e, Nat.le_refl _⟩⟩
    | some ad =>
      obtain ⟨g, off, sp⟩ := ad
      go_enter Tryd.func34, Tryd.ntmps34
      go_wp2_with (at_builtin; refine wpList_append_S rfl _ _ 73 73 rfl 70 _ 1 24 Tryd.underlying73 info_T rfl (by decide) _ c 0 [] rfl HO.out _ rfl 1 [v] HS.out (by unfold maxLen; omega) (by omega) ?_)
      all_goals
        intro A' c' w1 h1 h2 h3
        have H1 := Lib.hid h1
        have H2 := Lib.hid h2
        have H3 := Lib.hid h3
        clear h1 h2 h3
        go_wp2_with fail
        go_ret
        exact ⟨A', c', rfl, H1.out, H2.out, H3.out.imp id fun e => ⟨_, e, Nat.le_refl _⟩⟩
  · obtain ⟨g, off, cur, rfl, hh, hcs, hr⟩ : ∃ g off cur, A = some ⟨g, off, none⟩ ∧ w.heap[g]? = some (.cells cur 70 (0, 0)) ∧ off + c * 1 ≤ cur.size ∧ ∀ j u, xs[j]? = some u → cur[off + j]? = some u := by
      rcases ho.2.2.2 with ⟨_, h0⟩ | h
      · omega
      · exact h
    have hgw := block_lt hh
    have hvg : vb ≠ g := fun e => hvb (by simp [blk, e])
    have hxc : ∀ j u, xs[j]? = some u → w.cell? ⟨g, off + j, none⟩ = some u := fun j u hj => (cell_of_row w g (off + j) cur _ _ hh).trans (hr j u hj)
    have h1x : ∀ u ∈ xs, u.oneCell' = true := fun u hu => h1 u (List.mem_cons_of_mem _ hu)
    by_cases hroom : n + 1 ≤ c
    · have hov : ∀ lb cb, (callFunc 57 #[.slice (some ⟨vb, 0, none⟩) 1 1, .slice (some ⟨g, off + 1, none⟩) lb cb]).run Tryd.prog w = .ok (.value (.bool false)) w := fun lb cb => by
        rw [run_callFunc_extern Tryd.func57 (by kernel_rfl) (by kernel_rfl) (by kernel_rfl) (e := Extern.SlicesOverlaps.overlaps #[73, 73] #[4]) (by kernel_rfl),
          Lib.run_overlaps_apart w 73 4 70 Tryd.underlying73 1 (fun w => by simp [Go.sizeOf, Go.typeInfo, hi0, hzs]) ⟨vb, 0, none⟩ ⟨g, off + 1, none⟩ 1 1 lb cb hvg 70 70 1 cur.size (by simp [World.shape?, hv]) (by simp [World.shape?, hh]) (by omega) (by simp [World.frozen?, hv]) (by simp [World.frozen?, hv])]
        rfl
      have hcp1 : ∀ ty dc sc, (Builtin.copy_ #[73, 73] ty #[.slice (some ⟨g, off + 1, none⟩) (n) dc, .slice (some ⟨g, off, none⟩) (n + 1) sc]).run Tryd.prog w.drew = .ok (goInt xs.length) (w.drew.setCells g (off + 1) xs) := fun ty dc sc =>
        run_copy_cells w.drew _ _ ty 70 g (off + 1) (n) dc ⟨g, off, none⟩ (n + 1) sc xs Tryd.underlying73 hsz (by rw [hxl]; simp only [Nat.min_def]; split <;> omega)
          (fun j u hj => by rw [Addr.add_lit]; exact hxc j u hj)
          (fun j hj => by
            have : w.cell? ⟨g, off + 1 + j, none⟩ = cur[off + 1 + j]? := cell_of_row w g (off + 1 + j) cur _ _ hh
            show (w.cell? _).isSome = true
            rw [this, Array.getElem?_eq_getElem (by omega)]; rfl)
          (fun j hj => by show w.frozen? _ = false; simp [World.frozen?, hh]) h1x
      obtain ⟨cur1, k1, k2, k3, k4⟩ := setCells_row g xs (off + 1) w.drew cur hh (by omega)
      obtain ⟨W1, hW1⟩ : ∃ W1, W1 = w.drew.setCells g (off + 1) xs := ⟨_, rfl⟩
      have hg1 : w.grownBy W1 (some g) := by
        rw [hW1]
        have := setCells_grown g xs (off + 1) w.drew
        exact ⟨this.os, this.tape, this.output, this.size, this.block⟩
      rw [← hW1] at k1 hcp1
      have hv1 : W1.heap[vb]? = some (.cells #[v] 70 (0, 0)) := (hg1.block vb hvw (by simp; exact hvg)).trans hv
      have hcp2 : ∀ (W : World), W.heap = W1.heap → ∀ ty dc, (Builtin.copy_ #[73, 73] ty #[.slice (some ⟨g, off, none⟩) (n + 1) dc, .slice (some ⟨vb, 0, none⟩) 1 1]).run Tryd.prog W = .ok (goInt [v].length) (W.setCells g off [v]) := fun W hWh ty dc =>
        run_copy_cells W _ _ ty 70 g off (n + 1) dc ⟨vb, 0, none⟩ 1 1 [v] Tryd.underlying73 hsz (by simp only [Nat.min_def, List.length_cons, List.length_nil]; split <;> omega)
          (fun j u hj => by
            cases j with
            | succ j => simp at hj
            | zero =>
              simp at hj; subst hj
              rw [Addr.add_lit]
              exact (cell_of_row W vb 0 #[v] _ _ (by rw [hWh]; exact hv1)).trans rfl)
          (fun j hj => by
            have : W.cell? ⟨g, off + j, none⟩ = cur1[off + j]? := cell_of_row W g (off + j) cur1 _ _ (by rw [hWh]; exact k1)
            rw [this, Array.getElem?_eq_getElem (by simp at hj; omega)]; rfl)
          (fun j hj => by simp [World.frozen?, hWh, k1]) (fun u hu => by rw [List.mem_singleton.1 hu]; exact h1v)
      have HK : Hid (∀ W : World, W.heap = W1.heap → W.os = W1.os → W.output = W1.output → W.tape = W1.tape → OwnS (W.setCells g off [v]) 70 1 (some ⟨g, off, none⟩) c (n + 1) (v :: xs) ∧ w.grownBy (W.setCells g off [v]) (some g)) := fun W e1 e2 e3 e4 => by
        obtain ⟨cur2, m1, m2, m3, m4⟩ := setCells_row g [v] off W cur1 (by rw [e1]; exact k1) (by simp; omega)
        have hg2 := setCells_grown g [v] off W
        have hgr := hg1.trans (World.grownBy.trans ⟨e2, e4, e3, by rw [e1]; exact Nat.le_refl _, fun k _ _ => by rw [e1]⟩ hg2)
        refine ⟨⟨by simp [hxl], hroom, by unfold maxLen; omega, .inr ⟨g, off, cur2, rfl, m1, by omega, fun j u hj => ?_⟩⟩, hgr⟩
        cases j with
        | zero =>
          have := m3 0 u (by simpa using hj)
          simpa using this
        | succ j =>
          rw [m4 (off + (j + 1)) (.inr (by simp)), show off + (j + 1) = off + 1 + j by omega]
          exact k3 j u (by simpa using hj)
      have mixed : Tryd.prog.follows Departure.mixedOrders = true := by kernel_rfl
      have hw1 : IntKind.i64.wrap 1 = 1 := by rw [IntKind.wrap_i64]; omega
      have hz1 : ¬ ((n : Int) = 0) := by omega
      have hz2 : ¬ ((0 : Int) = (n : Int)) := by omega
      have hz3 : ¬ ((c : Int) < (n : Int) + 1) := by omega
      have hb1 : ¬ (c = 1) := by omega
      have hb2 : ¬ (c = 0) := by omega
      have hb3 : (1 : Int) ≤ (n : Int) + 1 := by omega
      have hb4 : (0 : Int) ≤ (n : Int) + 1 := by omega
      clear ho hsrc hv hvc h1 hi0 hz0 hzs hzb hsz hh hr hxc h1x k1 k2 k3 k4 hg1 hv1
      have HW1 := Lib.hid hW1
      clear hW1
      go_enter Tryd.func34, Tryd.ntmps34
      go_wp2_with (simp only [hov])
      go_region_law_o (refine step_copy_run0 rfl _ _ 73 73 rfl _ _ (by simp [Act.eval, Act.put]) (by simp [Act.eval, Act.put]) (hcp1 _ _ _) ?_)
      go_wp2_with (at_builtin; refine wpList_copy_run0 _ rfl _ _ 73 73 rfl _ _ rfl rfl (hcp2 _ rfl _ _) ?_)
      go_ret
      obtain ⟨q1, q2⟩ := HK.out _ rfl rfl rfl rfl
      exact ⟨_, _, rfl, q1, q2, .inl rfl⟩
    · have hold : (Builtin.firstCells i0.size 0 (.slice (some ⟨g, off, none⟩) 0 c)).run Tryd.prog w.drew = .ok ([] : List Value).toArray w.drew := by
        rw [hzs]; exact run_firstCells_some (P := Tryd.prog) w.drew 1 0 ⟨g, off, none⟩ 0 c [] rfl (fun j u hj => by simp at hj)
      obtain ⟨G, hG⟩ : ∃ G, G = grownCap w (n + 1) c 70 := ⟨_, rfl⟩
      have hGn : n + 1 ≤ G := by rw [hG]; exact grownCap_ge w _ _ _
      have hG63 : G ≤ 9223372036854775807 := by
        have := grownCap_le_maxLen w (n + 1) c 70 (by unfold maxLen; omega)
        rw [← hG] at this
        unfold maxLen at this
        omega
      obtain ⟨ROW, hROW⟩ : ∃ ROW : Array Value, ROW = ([] : List Value).toArray ++ Builtin.zeroCells (Value.slice none 0 0).cells (n + 1) ++ Builtin.zeroCells (Value.slice none 0 0).cells (G - (n + 1)) := ⟨_, rfl⟩
      have hRl : ROW.size = G := by
        rw [hROW]
        simp [Builtin.zeroCells, Value.cells]
        omega
      obtain ⟨W1, hW1⟩ : ∃ W1, W1 = w.drew.alloc (.cells ROW 70) := ⟨_, rfl⟩
      have hrz : ∀ ty, (Builtin.append_ #[73, 3] ty #[.slice (some ⟨g, off, none⟩) 0 c, .int .i64 ((n : Int) + 1)]).run Tryd.prog w = .ok (.slice (some ⟨w.heap.size, 0, none⟩) (n + 1) G) W1 := fun ty => by
        have h := Lib.run_append_grow_zeros (P := Tryd.prog) w 73 3 ty 70 i0 _ .i64 .i64 Tryd.underlying73 Tryd.underlying3 hi0 hz0 (some ⟨g, off, none⟩) 0 c [] hold (n + 1) (by omega) (by omega) (by omega) (by omega) (by rw [hzb]; omega) (by rw [hzb, Nat.zero_add]; exact growslice_fits (by omega) (by omega))
        rw [Nat.zero_add, ← hG, ← hROW, ← hW1] at h
        push_cast at h
        exact h
      have hN0 : W1.heap[w.heap.size]? = some (.cells ROW 70 (0, 0)) := by rw [hW1]; exact heap_alloc_new w.drew _
      have hOld : ∀ k, k < w.heap.size → W1.heap[k]? = w.heap[k]? := fun k hk => by rw [hW1]; exact Below.heap_alloc w.drew _ k hk
      have hg1 : w.grownBy W1 none := by rw [hW1]; exact ⟨rfl, rfl, rfl, by simp, fun k hk _ => Below.heap_alloc w.drew _ k hk⟩
      obtain ⟨N, hN⟩ : ∃ N, N = w.heap.size := ⟨_, rfl⟩
      rw [← hN] at hrz hN0
      have hcp1 : ∀ ty dc, (Builtin.copy_ #[73, 73] ty #[.slice (some ⟨N, 0, none⟩) (n + 1) dc, .slice (some ⟨vb, 0, none⟩) 1 1]).run Tryd.prog W1 = .ok (goInt [v].length) (W1.setCells N 0 [v]) := fun ty dc =>
        run_copy_cells W1 _ _ ty 70 N 0 (n + 1) dc ⟨vb, 0, none⟩ 1 1 [v] Tryd.underlying73 hsz (by simp only [Nat.min_def, List.length_cons, List.length_nil]; split <;> omega)
          (fun j u hj => by
            cases j with
            | succ j => simp at hj
            | zero =>
              simp at hj; subst hj
              rw [Addr.add_lit]
              exact (cell_of_row W1 vb 0 #[v] _ _ ((hOld vb hvw).trans hv)).trans rfl)
          (fun j hj => by
            have : W1.cell? ⟨N, 0 + j, none⟩ = ROW[0 + j]? := cell_of_row W1 N (0 + j) ROW _ _ hN0
            rw [this, Array.getElem?_eq_getElem (by simp at hj; omega)]; rfl)
          (fun j hj => by simp [World.frozen?, hN0]) (fun u hu => by rw [List.mem_singleton.1 hu]; exact h1v)
      obtain ⟨cur1, k1, k2, k3, k4⟩ := setCells_row N [v] 0 W1 ROW hN0 (by simp; omega)
      obtain ⟨W2, hW2⟩ : ∃ W2, W2 = W1.setCells N 0 [v] := ⟨_, rfl⟩
      have hg2 : W1.grownBy W2 (some N) := by rw [hW2]; exact setCells_grown N [v] 0 W1
      rw [← hW2] at k1 hcp1
      have hgN : g ≠ N := by omega
      have hg0 : W2.heap[g]? = some (.cells cur 70 (0, 0)) := (hg2.block g (Nat.lt_of_lt_of_le hgw hg1.size) (by simp; exact hgN)).trans ((hOld g hgw).trans hh)
      have hcp2 : ∀ ty dc sc, (Builtin.copy_ #[73, 73] ty #[.slice (some ⟨N, 1, none⟩) n dc, .slice (some ⟨g, off, none⟩) n sc]).run Tryd.prog W2.drew = .ok (goInt xs.length) (W2.drew.setCells N 1 xs) := fun ty dc sc =>
        run_copy_cells W2.drew _ _ ty 70 N 1 n dc ⟨g, off, none⟩ n sc xs Tryd.underlying73 hsz (by rw [hxl]; simp only [Nat.min_def]; split <;> omega)
          (fun j u hj => by rw [Addr.add_lit]; exact (cell_of_row W2 g (off + j) cur _ _ hg0).trans (hr j u hj))
          (fun j hj => by
            have : W2.cell? ⟨N, 1 + j, none⟩ = cur1[1 + j]? := cell_of_row W2 N (1 + j) cur1 _ _ k1
            show (W2.cell? _).isSome = true
            rw [this, Array.getElem?_eq_getElem (by omega)]; rfl)
          (fun j hj => by show W2.frozen? _ = false; simp [World.frozen?, k1]) h1x
      have HK : Hid (OwnS (W2.drew.setCells N 1 xs) 70 1 (some ⟨N, 0, none⟩) G (n + 1) (v :: xs) ∧ w.grownBy (W2.drew.setCells N 1 xs) (some g)) := by
        obtain ⟨cur2, m1, m2, m3, m4⟩ := setCells_row N xs 1 W2.drew cur1 k1 (by omega)
        have hg3 := setCells_grown N xs 1 W2.drew
        refine ⟨⟨by simp [hxl], hGn, by unfold maxLen; omega, .inr ⟨N, 0, cur2, rfl, m1, by omega, fun j u hj => ?_⟩⟩, ?_⟩
        · rw [Nat.zero_add]
          cases j with
          | zero =>
            rw [m4 0 (.inl (by omega))]
            have := k3 0 u (by simpa using hj)
            simpa using this
          | succ j =>
            rw [show j + 1 = 1 + j by omega]
            exact m3 j u (by simpa using hj)
        · have hz := Nat.le_trans hg1.size hg2.size
          refine ⟨hg3.os.trans (hg2.os.trans hg1.os), hg3.tape.trans (hg2.tape.trans hg1.tape), hg3.output.trans (hg2.output.trans hg1.output), Nat.le_trans hz hg3.size, fun k hk _ => ?_⟩
          have hkN : some k ≠ some N := fun e => by injection e with e; omega
          exact (hg3.block k (Nat.lt_of_lt_of_le hk hz) hkN).trans ((hg2.block k (Nat.lt_of_lt_of_le hk hg1.size) hkN).trans (hg1.block k hk (by simp)))
      have mixed : Tryd.prog.follows Departure.mixedOrders = true := by kernel_rfl
      have hw1 : IntKind.i64.wrap 1 = 1 := by rw [IntKind.wrap_i64]; omega
      have hz1 : ¬ ((n : Int) = 0) := by omega
      have hz2 : ¬ ((0 : Int) = (n : Int)) := by omega
      have hz3 : (c : Int) < (n : Int) + 1 := by omega
      have hb1 : ¬ (G = 1) := by omega
      have hb2 : ¬ (c = 0) := by omega
      have hb5 : ¬ (G = 0) := by omega
      have hb3 : (1 : Int) ≤ (n : Int) + 1 := by omega
      have hb4 : (0 : Int) ≤ (n : Int) + 1 := by omega
      have HN : Hid (w.heap.size ≤ N) := by show _ ≤ _; omega
      clear ho hsrc hv hvc h1 hi0 hz0 hzs hzb hsz hh hr hxc h1x k1 k2 k3 k4 hg1 hg2 hold hG hROW hRl hN0 hOld hN hg0 hW1 hW2
      go_enter Tryd.func34, Tryd.ntmps34
      go_wp2_with (first
        | (at_builtin; refine Lib.wpList_append_run _ rfl _ _ _ _ rfl _ _ rfl rfl _ _ (hrz _) ?_)
        | (at_builtin; refine wpList_copy_run0 _ rfl _ _ 73 73 rfl _ _ rfl rfl (hcp1 _ _) ?_))
      go_region_law_o (refine step_copy_run0 rfl _ _ 73 73 rfl _ _ (by simp [Act.eval, Act.put]) (by simp [Act.eval, Act.put]) (hcp2 _ _ _) ?_)
      go_wp2_with fail
      go_ret
      exact ⟨_, _, rfl, HK.out.1, HK.out.2, .inr ⟨N, rfl, HN.out⟩⟩


theorem info_L : (Tryd.prog.info? 68).map (fun i => (i.zero, i.size, i.bytes)) = some (some (Value.slice none 0 0), 1, 24) := by kernel_rfl
set_option maxRecDepth 100000 in
set_option maxHeartbeats 4000000 in
theorem insL_ok (A : Option Addr) (c n : Nat) (xs : List Value) (v : Value) (vb : Nat) (w : World) (ho : OwnS w 68 1 A c n xs) (hv : w.heap[vb]? = some (.cells #[v] 68 (0, 0))) (hvb : blk A ≠ some vb) (h1 : ∀ u ∈ v :: xs, u.oneCell' = true) (hn : n ≤ 1000) :
    Calls Tryd.prog 35 #[.slice A n c, .int .i64 0, .slice (some ⟨vb, 0, none⟩) 1 1] w fun e w' => ∃ A' c', e = .returned (.slice A' (n + 1) c') ∧ OwnS w' 68 1 A' c' (n + 1) (v :: xs) ∧ w.grownBy w' (blk A) ∧ (blk A' = blk A ∨ ∃ k, blk A' = some k ∧ w.heap.size ≤ k) := by
  have hvw := block_lt hv
  have hxl : xs.length = n := by have := ho.1; omega
  have hnc := ho.2.1
  have hcm := ho.2.2.1
  unfold maxLen at hcm
  have hvc : w.cell? ⟨vb, 0, none⟩ = some v := (cell_of_row w vb 0 _ _ _ hv).trans rfl
  have h1v : v.oneCell' = true := h1 v List.mem_cons_self
  have hsrc : Src Tryd.prog 1 76 (.slice (some ⟨vb, 0, none⟩) 1 1) 1 [v] w := Src.ofSlice w Tryd.underlying76 ⟨vb, 0, none⟩ 1 1 [v] rfl (fun j u hj => by
    cases j with
    | succ j => simp at hj
    | zero => simp at hj; subst hj; simpa [Addr.add] using hvc) (fun u hu => by rw [List.mem_singleton.1 hu]; exact h1v)
  obtain ⟨i0, hi0, hz0, hzs, hzb⟩ := info_parts info_L
  have hsz : (Tryd.prog.info? 68).map (·.size) = some 1 := by rw [hi0]; simp [hzs]
  by_cases hn0 : n = 0
  · subst hn0
    have hx : xs = [] := List.eq_nil_of_length_eq_zero hxl
    subst hx
    have HO := Lib.hid ho
    have HS := Lib.hid hsrc
    clear ho hsrc hv hvc h1 hi0 hz0 hzs hzb hsz hxl
    cases A with
    | none =>
      go_enter Tryd.func35, Tryd.ntmps35
      go_wp2_with (at_builtin; refine wpList_append_S rfl _ _ 76 76 rfl 68 _ 1 24 Tryd.underlying76 info_L rfl (by decide) _ c 0 [] rfl HO.out _ rfl 1 [v] HS.out (by unfold maxLen; omega) (by omega) ?_)
      intro A' c' w1 h1 h2 h3
      have H1 := Lib.hid h1
      have H2 := Lib.hid h2
      have H3 := Lib.hid h3
      clear h1 h2 h3
      go_wp2_with fail
      go_ret
      exact ⟨A', c', rfl, H1.out, H2.out, H3.out.imp id fun e => ⟨_, e, Nat.le_refl _⟩⟩
    | some ad =>
      obtain ⟨g, off, sp⟩ := ad
      go_enter Tryd.func35, Tryd.ntmps35
      go_wp2_with (at_builtin; refine wpList_append_S rfl _ _ 76 76 rfl 68 _ 1 24 Tryd.underlying76 info_L rfl (by decide) _ c 0 [] rfl HO.out _ rfl 1 [v] HS.out (by unfold maxLen; omega) (by omega) ?_)
      all_goals
        intro A' c' w1 h1 h2 h3
        have H1 := Lib.hid h1
        have H2 := Lib.hid h2
        have H3 := Lib.hid h3
        clear h1 h2 h3
        go_wp2_with fail
        go_ret
        exact ⟨A', c', rfl, H1.out, H2.out, H3.out.imp id fun e => ⟨_, e, Nat.le_refl _⟩⟩
  · obtain ⟨g, off, cur, rfl, hh, hcs, hr⟩ : ∃ g off cur, A = some ⟨g, off, none⟩ ∧ w.heap[g]? = some (.cells cur 68 (0, 0)) ∧ off + c * 1 ≤ cur.size ∧ ∀ j u, xs[j]? = some u → cur[off + j]? = some u := by
      rcases ho.2.2.2 with ⟨_, h0⟩ | h
      · omega
      · exact h
    have hgw := block_lt hh
    have hvg : vb ≠ g := fun e => hvb (by simp [blk, e])
    have hxc : ∀ j u, xs[j]? = some u → w.cell? ⟨g, off + j, none⟩ = some u := fun j u hj => (cell_of_row w g (off + j) cur _ _ hh).trans (hr j u hj)
    have h1x : ∀ u ∈ xs, u.oneCell' = true := fun u hu => h1 u (List.mem_cons_of_mem _ hu)
    by_cases hroom : n + 1 ≤ c
    · have hov : ∀ lb cb, (callFunc 59 #[.slice (some ⟨vb, 0, none⟩) 1 1, .slice (some ⟨g, off + 1, none⟩) lb cb]).run Tryd.prog w = .ok (.value (.bool false)) w := fun lb cb => by
        rw [run_callFunc_extern Tryd.func59 (by kernel_rfl) (by kernel_rfl) (by kernel_rfl) (e := Extern.SlicesOverlaps.overlaps #[76, 76] #[4]) (by kernel_rfl),
          Lib.run_overlaps_apart w 76 4 68 Tryd.underlying76 1 (fun w => by simp [Go.sizeOf, Go.typeInfo, hi0, hzs]) ⟨vb, 0, none⟩ ⟨g, off + 1, none⟩ 1 1 lb cb hvg 68 68 1 cur.size (by simp [World.shape?, hv]) (by simp [World.shape?, hh]) (by omega) (by simp [World.frozen?, hv]) (by simp [World.frozen?, hv])]
        rfl
      have hcp1 : ∀ ty dc sc, (Builtin.copy_ #[76, 76] ty #[.slice (some ⟨g, off + 1, none⟩) (n) dc, .slice (some ⟨g, off, none⟩) (n + 1) sc]).run Tryd.prog w.drew = .ok (goInt xs.length) (w.drew.setCells g (off + 1) xs) := fun ty dc sc =>
        run_copy_cells w.drew _ _ ty 68 g (off + 1) (n) dc ⟨g, off, none⟩ (n + 1) sc xs Tryd.underlying76 hsz (by rw [hxl]; simp only [Nat.min_def]; split <;> omega)
          (fun j u hj => by rw [Addr.add_lit]; exact hxc j u hj)
          (fun j hj => by
            have : w.cell? ⟨g, off + 1 + j, none⟩ = cur[off + 1 + j]? := cell_of_row w g (off + 1 + j) cur _ _ hh
            show (w.cell? _).isSome = true
            rw [this, Array.getElem?_eq_getElem (by omega)]; rfl)
          (fun j hj => by show w.frozen? _ = false; simp [World.frozen?, hh]) h1x
      obtain ⟨cur1, k1, k2, k3, k4⟩ := setCells_row g xs (off + 1) w.drew cur hh (by omega)
      obtain ⟨W1, hW1⟩ : ∃ W1, W1 = w.drew.setCells g (off + 1) xs := ⟨_, rfl⟩
      have hg1 : w.grownBy W1 (some g) := by
        rw [hW1]
        have := setCells_grown g xs (off + 1) w.drew
        exact ⟨this.os, this.tape, this.output, this.size, this.block⟩
      rw [← hW1] at k1 hcp1
      have hv1 : W1.heap[vb]? = some (.cells #[v] 68 (0, 0)) := (hg1.block vb hvw (by simp; exact hvg)).trans hv
      have hcp2 : ∀ (W : World), W.heap = W1.heap → ∀ ty dc, (Builtin.copy_ #[76, 76] ty #[.slice (some ⟨g, off, none⟩) (n + 1) dc, .slice (some ⟨vb, 0, none⟩) 1 1]).run Tryd.prog W = .ok (goInt [v].length) (W.setCells g off [v]) := fun W hWh ty dc =>
        run_copy_cells W _ _ ty 68 g off (n + 1) dc ⟨vb, 0, none⟩ 1 1 [v] Tryd.underlying76 hsz (by simp only [Nat.min_def, List.length_cons, List.length_nil]; split <;> omega)
          (fun j u hj => by
            cases j with
            | succ j => simp at hj
            | zero =>
              simp at hj; subst hj
              rw [Addr.add_lit]
              exact (cell_of_row W vb 0 #[v] _ _ (by rw [hWh]; exact hv1)).trans rfl)
          (fun j hj => by
            have : W.cell? ⟨g, off + j, none⟩ = cur1[off + j]? := cell_of_row W g (off + j) cur1 _ _ (by rw [hWh]; exact k1)
            rw [this, Array.getElem?_eq_getElem (by simp at hj; omega)]; rfl)
          (fun j hj => by simp [World.frozen?, hWh, k1]) (fun u hu => by rw [List.mem_singleton.1 hu]; exact h1v)
      have HK : Hid (∀ W : World, W.heap = W1.heap → W.os = W1.os → W.output = W1.output → W.tape = W1.tape → OwnS (W.setCells g off [v]) 68 1 (some ⟨g, off, none⟩) c (n + 1) (v :: xs) ∧ w.grownBy (W.setCells g off [v]) (some g)) := fun W e1 e2 e3 e4 => by
        obtain ⟨cur2, m1, m2, m3, m4⟩ := setCells_row g [v] off W cur1 (by rw [e1]; exact k1) (by simp; omega)
        have hg2 := setCells_grown g [v] off W
        have hgr := hg1.trans (World.grownBy.trans ⟨e2, e4, e3, by rw [e1]; exact Nat.le_refl _, fun k _ _ => by rw [e1]⟩ hg2)
        refine ⟨⟨by simp [hxl], hroom, by unfold maxLen; omega, .inr ⟨g, off, cur2, rfl, m1, by omega, fun j u hj => ?_⟩⟩, hgr⟩
        cases j with
        | zero =>
          have := m3 0 u (by simpa using hj)
          simpa using this
        | succ j =>
          rw [m4 (off + (j + 1)) (.inr (by simp)), show off + (j + 1) = off + 1 + j by omega]
          exact k3 j u (by simpa using hj)
      have mixed : Tryd.prog.follows Departure.mixedOrders = true := by kernel_rfl
      have hw1 : IntKind.i64.wrap 1 = 1 := by rw [IntKind.wrap_i64]; omega
      have hz1 : ¬ ((n : Int) = 0) := by omega
      have hz2 : ¬ ((0 : Int) = (n : Int)) := by omega
      have hz3 : ¬ ((c : Int) < (n : Int) + 1) := by omega
      have hb1 : ¬ (c = 1) := by omega
      have hb2 : ¬ (c = 0) := by omega
      have hb3 : (1 : Int) ≤ (n : Int) + 1 := by omega
      have hb4 : (0 : Int) ≤ (n : Int) + 1 := by omega
      clear ho hsrc hv hvc h1 hi0 hz0 hzs hzb hsz hh hr hxc h1x k1 k2 k3 k4 hg1 hv1
      have HW1 := Lib.hid hW1
      clear hW1
      go_enter Tryd.func35, Tryd.ntmps35
      go_wp2_with (simp only [hov])
      go_region_law_o (refine step_copy_run0 rfl _ _ 76 76 rfl _ _ (by simp [Act.eval, Act.put]) (by simp [Act.eval, Act.put]) (hcp1 _ _ _) ?_)
      go_wp2_with (at_builtin; refine wpList_copy_run0 _ rfl _ _ 76 76 rfl _ _ rfl rfl (hcp2 _ rfl _ _) ?_)
      go_ret
      obtain ⟨q1, q2⟩ := HK.out _ rfl rfl rfl rfl
      exact ⟨_, _, rfl, q1, q2, .inl rfl⟩
    · have hold : (Builtin.firstCells i0.size 0 (.slice (some ⟨g, off, none⟩) 0 c)).run Tryd.prog w.drew = .ok ([] : List Value).toArray w.drew := by
        rw [hzs]; exact run_firstCells_some (P := Tryd.prog) w.drew 1 0 ⟨g, off, none⟩ 0 c [] rfl (fun j u hj => by simp at hj)
      obtain ⟨G, hG⟩ : ∃ G, G = grownCap w (n + 1) c 68 := ⟨_, rfl⟩
      have hGn : n + 1 ≤ G := by rw [hG]; exact grownCap_ge w _ _ _
      have hG63 : G ≤ 9223372036854775807 := by
        have := grownCap_le_maxLen w (n + 1) c 68 (by unfold maxLen; omega)
        rw [← hG] at this
        unfold maxLen at this
        omega
      obtain ⟨ROW, hROW⟩ : ∃ ROW : Array Value, ROW = ([] : List Value).toArray ++ Builtin.zeroCells (Value.slice none 0 0).cells (n + 1) ++ Builtin.zeroCells (Value.slice none 0 0).cells (G - (n + 1)) := ⟨_, rfl⟩
      have hRl : ROW.size = G := by
        rw [hROW]
        simp [Builtin.zeroCells, Value.cells]
        omega
      obtain ⟨W1, hW1⟩ : ∃ W1, W1 = w.drew.alloc (.cells ROW 68) := ⟨_, rfl⟩
      have hrz : ∀ ty, (Builtin.append_ #[76, 3] ty #[.slice (some ⟨g, off, none⟩) 0 c, .int .i64 ((n : Int) + 1)]).run Tryd.prog w = .ok (.slice (some ⟨w.heap.size, 0, none⟩) (n + 1) G) W1 := fun ty => by
        have h := Lib.run_append_grow_zeros (P := Tryd.prog) w 76 3 ty 68 i0 _ .i64 .i64 Tryd.underlying76 Tryd.underlying3 hi0 hz0 (some ⟨g, off, none⟩) 0 c [] hold (n + 1) (by omega) (by omega) (by omega) (by omega) (by rw [hzb]; omega) (by rw [hzb, Nat.zero_add]; exact growslice_fits (by omega) (by omega))
        rw [Nat.zero_add, ← hG, ← hROW, ← hW1] at h
        push_cast at h
        exact h
      have hN0 : W1.heap[w.heap.size]? = some (.cells ROW 68 (0, 0)) := by rw [hW1]; exact heap_alloc_new w.drew _
      have hOld : ∀ k, k < w.heap.size → W1.heap[k]? = w.heap[k]? := fun k hk => by rw [hW1]; exact Below.heap_alloc w.drew _ k hk
      have hg1 : w.grownBy W1 none := by rw [hW1]; exact ⟨rfl, rfl, rfl, by simp, fun k hk _ => Below.heap_alloc w.drew _ k hk⟩
      obtain ⟨N, hN⟩ : ∃ N, N = w.heap.size := ⟨_, rfl⟩
      rw [← hN] at hrz hN0
      have hcp1 : ∀ ty dc, (Builtin.copy_ #[76, 76] ty #[.slice (some ⟨N, 0, none⟩) (n + 1) dc, .slice (some ⟨vb, 0, none⟩) 1 1]).run Tryd.prog W1 = .ok (goInt [v].length) (W1.setCells N 0 [v]) := fun ty dc =>
        run_copy_cells W1 _ _ ty 68 N 0 (n + 1) dc ⟨vb, 0, none⟩ 1 1 [v] Tryd.underlying76 hsz (by simp only [Nat.min_def, List.length_cons, List.length_nil]; split <;> omega)
          (fun j u hj => by
            cases j with
            | succ j => simp at hj
            | zero =>
              simp at hj; subst hj
              rw [Addr.add_lit]
              exact (cell_of_row W1 vb 0 #[v] _ _ ((hOld vb hvw).trans hv)).trans rfl)
          (fun j hj => by
            have : W1.cell? ⟨N, 0 + j, none⟩ = ROW[0 + j]? := cell_of_row W1 N (0 + j) ROW _ _ hN0
            rw [this, Array.getElem?_eq_getElem (by simp at hj; omega)]; rfl)
          (fun j hj => by simp [World.frozen?, hN0]) (fun u hu => by rw [List.mem_singleton.1 hu]; exact h1v)
      obtain ⟨cur1, k1, k2, k3, k4⟩ := setCells_row N [v] 0 W1 ROW hN0 (by simp; omega)
      obtain ⟨W2, hW2⟩ : ∃ W2, W2 = W1.setCells N 0 [v] := ⟨_, rfl⟩
      have hg2 : W1.grownBy W2 (some N) := by rw [hW2]; exact setCells_grown N [v] 0 W1
      rw [← hW2] at k1 hcp1
      have hgN : g ≠ N := by omega
      have hg0 : W2.heap[g]? = some (.cells cur 68 (0, 0)) := (hg2.block g (Nat.lt_of_lt_of_le hgw hg1.size) (by simp; exact hgN)).trans ((hOld g hgw).trans hh)
      have hcp2 : ∀ ty dc sc, (Builtin.copy_ #[76, 76] ty #[.slice (some ⟨N, 1, none⟩) n dc, .slice (some ⟨g, off, none⟩) n sc]).run Tryd.prog W2.drew = .ok (goInt xs.length) (W2.drew.setCells N 1 xs) := fun ty dc sc =>
        run_copy_cells W2.drew _ _ ty 68 N 1 n dc ⟨g, off, none⟩ n sc xs Tryd.underlying76 hsz (by rw [hxl]; simp only [Nat.min_def]; split <;> omega)
          (fun j u hj => by rw [Addr.add_lit]; exact (cell_of_row W2 g (off + j) cur _ _ hg0).trans (hr j u hj))
          (fun j hj => by
            have : W2.cell? ⟨N, 1 + j, none⟩ = cur1[1 + j]? := cell_of_row W2 N (1 + j) cur1 _ _ k1
            show (W2.cell? _).isSome = true
            rw [this, Array.getElem?_eq_getElem (by omega)]; rfl)
          (fun j hj => by show W2.frozen? _ = false; simp [World.frozen?, k1]) h1x
      have HK : Hid (OwnS (W2.drew.setCells N 1 xs) 68 1 (some ⟨N, 0, none⟩) G (n + 1) (v :: xs) ∧ w.grownBy (W2.drew.setCells N 1 xs) (some g)) := by
        obtain ⟨cur2, m1, m2, m3, m4⟩ := setCells_row N xs 1 W2.drew cur1 k1 (by omega)
        have hg3 := setCells_grown N xs 1 W2.drew
        refine ⟨⟨by simp [hxl], hGn, by unfold maxLen; omega, .inr ⟨N, 0, cur2, rfl, m1, by omega, fun j u hj => ?_⟩⟩, ?_⟩
        · rw [Nat.zero_add]
          cases j with
          | zero =>
            rw [m4 0 (.inl (by omega))]
            have := k3 0 u (by simpa using hj)
            simpa using this
          | succ j =>
            rw [show j + 1 = 1 + j by omega]
            exact m3 j u (by simpa using hj)
        · have hz := Nat.le_trans hg1.size hg2.size
          refine ⟨hg3.os.trans (hg2.os.trans hg1.os), hg3.tape.trans (hg2.tape.trans hg1.tape), hg3.output.trans (hg2.output.trans hg1.output), Nat.le_trans hz hg3.size, fun k hk _ => ?_⟩
          have hkN : some k ≠ some N := fun e => by injection e with e; omega
          exact (hg3.block k (Nat.lt_of_lt_of_le hk hz) hkN).trans ((hg2.block k (Nat.lt_of_lt_of_le hk hg1.size) hkN).trans (hg1.block k hk (by simp)))
      have mixed : Tryd.prog.follows Departure.mixedOrders = true := by kernel_rfl
      have hw1 : IntKind.i64.wrap 1 = 1 := by rw [IntKind.wrap_i64]; omega
      have hz1 : ¬ ((n : Int) = 0) := by omega
      have hz2 : ¬ ((0 : Int) = (n : Int)) := by omega
      have hz3 : (c : Int) < (n : Int) + 1 := by omega
      have hb1 : ¬ (G = 1) := by omega
      have hb2 : ¬ (c = 0) := by omega
      have hb5 : ¬ (G = 0) := by omega
      have hb3 : (1 : Int) ≤ (n : Int) + 1 := by omega
      have hb4 : (0 : Int) ≤ (n : Int) + 1 := by omega
      have HN : Hid (w.heap.size ≤ N) := by show _ ≤ _; omega
      clear ho hsrc hv hvc h1 hi0 hz0 hzs hzb hsz hh hr hxc h1x k1 k2 k3 k4 hg1 hg2 hold hG hROW hRl hN0 hOld hN hg0 hW1 hW2
      go_enter Tryd.func35, Tryd.ntmps35
      go_wp2_with (first
        | (at_builtin; refine Lib.wpList_append_run _ rfl _ _ _ _ rfl _ _ rfl rfl _ _ (hrz _) ?_)
        | (at_builtin; refine wpList_copy_run0 _ rfl _ _ 76 76 rfl _ _ rfl rfl (hcp1 _ _) ?_))
      go_region_law_o (refine step_copy_run0 rfl _ _ 76 76 rfl _ _ (by simp [Act.eval, Act.put]) (by simp [Act.eval, Act.put]) (hcp2 _ _ _) ?_)
      go_wp2_with fail
      go_ret
      exact ⟨_, _, rfl, HK.out.1, HK.out.2, .inr ⟨N, rfl, HN.out⟩⟩

end Go.Proofs.YthobnigjhedjaaaDoor
