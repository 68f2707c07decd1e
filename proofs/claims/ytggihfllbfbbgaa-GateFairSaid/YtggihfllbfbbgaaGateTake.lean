/-
  Contracts of package gate, of records that bear a number alone and of no barriers: take, blocked, Next, Waiting. Conditions: as in Gate.
-/
import Derived.Test.YtggihfllbfbbgaaGate
namespace Go.Proofs.Ytggihfllbfbbgaa
open Go.RowKit Go.ChangeShapes Go.WideShapes
set_option linter.unusedVariables false

theorem step_append_src {P : Program} {ops : Array Oper} {o : Oper} {a : Act} {K : Act → World → Prop} {Q : Exit → Act → World → Prop} {E : Prop} {w : World} (hgd : o.guard = none) (s x : Operand) (t tx : TypeId)
    (ho : o.op = .call { callee := .builtin .append, args := #[s, x], argTypes := #[t, tx] })
    (base : Nat) (e : TypeId) (z : Value) (size bytes : Nat) (ht : P.underlying t = some (.slice e))
    (hinfo : (P.info? e).map (fun i => (i.zero, i.size, i.bytes)) = some (some z, size, bytes)) (hzs : z.cells.size = size) (hsz : 0 < size)
    (v : Value) (n : Nat) (xs : List Value) (hs : a.eval s = v) (hown : w.ownsRow base e size v n xs) (vx : Value) (hx : a.eval x = vx) (m : Nat) (news : List Value) (hsrc : Src P size tx vx m news w)
    (h63 : n + m ≤ maxLen) (hbytes : (n + m) * bytes ≤ 140737488355328) (hbase : base ≤ w.heap.size)
    (h : ∀ v' w', w'.ownsRow base e size v' (n + m) (xs ++ news) → w.grownBy w' v.ownBlock → (v'.ownBlock = v.ownBlock ∨ v'.ownBlock = some w.heap.size) → K (a.put o.dst v') w') :
    if Region.wanted o (yielded ops a.tmps) = true then Oper.wp P o a w K Q else E := by
  have hw : Region.wanted o (yielded ops a.tmps) = true := by simp [Region.wanted, hgd]
  rw [if_pos hw]
  obtain ⟨v', w', hr, h2, h3, h5⟩ := run_append_src_own (P := P) w base t tx o.type e z size bytes ht hinfo hzs hsz v n xs hown vx m news hsrc h63 hbytes hbase
  unfold Oper.wp execOp
  simp only [ho, resolve, invoke, builtin, Sem.run_bind, Sem.run_pure, Result.andThen_ok, List.map_toArray, List.map_cons, List.map_nil, hs, hx, hr]
  exact h v' w' h2 h3 h5

theorem items_len (l : List Int) : (l.flatMap itCells).length = l.length * 4 := by
  induction l with
  | nil => rfl
  | cons y l ih => rw [List.flatMap_cons, List.length_append, ih]; simp [itCells]; omega
/-- A row that is not empty: where it lies. -/
theorem row_head {w : World} {e : TypeId} {v : Value} {n : Nat} {x : Int} {xs : List Int} (h : w.ownsRow 0 e 4 v n ((x :: xs).flatMap itCells)) :
    ∃ gv c, v = .slice (some ⟨gv, 0, none⟩) (xs.length + 1) c ∧ xs.length + 1 ≤ c ∧ c ≤ maxLen ∧ gv < w.heap.size ∧ ∀ j u, ((x :: xs).flatMap itCells)[j]? = some u → w.cell? ⟨gv, j, none⟩ = some u := by
  have hlen := items_len
  have hn := h.1
  rw [hlen] at hn
  simp only [List.length_cons] at hn
  obtain rfl : n = xs.length + 1 := by omega
  rcases h.2 with ⟨rfl, h0⟩ | ⟨g, cap, cur, rfl, hb, hh, hnc, hcm, hcs, ht⟩
  · omega
  · refine ⟨g, cap, rfl, hnc, hcm, block_lt hh, fun j u hj => ?_⟩
    have := h.cells (g := g) rfl j u hj
    rwa [add_plain, Nat.zero_add] at this

theorem blocked_no (g gw gl next i : Nat) (vs : List Value) (rows : List (List Int)) (r : List Int) (w : World) (h : GateRep w g gw gl vs rows next) (hi : rows[i]? = some r) (hn : rows.length ≤ 64) (x : Int) (xs : List Int) (hr : r = x :: xs) :
    Calls Try.prog 46 #[.pointer (some ⟨g, 0, none⟩), .int .i64 i] w fun e w' => e = .returned (.bool false) ∧ w = w' := by
  subst hr
  obtain ⟨v, hv, hc, _, hown⟩ := h.row hi
  obtain ⟨gv, c, rfl, hlc, hcm, hgv, hcell⟩ := row_head hown
  have c0 := cell_of_row w g 0 _ _ _ h.blk
  simp at c0
  have d3 := hcell 3 (.int .i64 0) rfl
  have hi' : i < rows.length := (List.getElem?_eq_some_iff.1 hi).1
  clear h hown hv hi hcell
  obtain ⟨m, hm⟩ : ∃ m, m = xs.length := ⟨_, rfl⟩
  rw [← hm] at hc hlc
  obtain ⟨n, hn'⟩ : ∃ n, n = rows.length := ⟨_, rfl⟩
  rw [← hn'] at c0 hn hi'
  clear hm hn'
  unfold maxLen at hcm
  have d1 : decide ((0 : Int) < (m : Int) + 1) = true := by simp <;> omega
  go_enter Try.func46, Try.ntmps46
  go_wp2_with fail
  go_ret
  exact ⟨rfl, rfl⟩
/-- A store far from the gate. -/
theorem far_rep {w : World} {g gw gl next : Nat} {vs : List Value} {rows : List (List Int)} (h : GateRep w g gw gl vs rows next) {p : Addr} (hp : ¬ gateF g gw vs p.block) (u : Value) : GateRep (w.setCell p u) g gw gl vs rows next := by
  refine ⟨?_, ?_, h.ne, h.nev⟩
  · rw [Below.heap_setCell _ _ _ _ (fun e => hp (.inl e.symm))]; exact h.blk
  · refine h.nest.keep (row := some p.block) ⟨rfl, rfl, rfl, by rw [size_setCell]; exact Nat.le_refl _, fun k _ hk => Below.heap_setCell _ _ _ _ (fun e => hk (by rw [e]))⟩ (fun e => by injection e with e; exact hp (.inr (.inl e))) (fun v hv => .inr (fun e => hp (.inr (.inr ⟨v, hv, e⟩))))
theorem take_end {w W2 w1 : World} {g gw gl next i m : Nat} {vs : List Value} {rows : List (List Int)} {v v' : Value} {xs : List Int} {o1 o2 : Obj} (h : GateRep w g gw gl vs rows next) (hm : m = xs.length) (hv : vs[i]? = some v) (hW : W2 = (w.alloc o1).alloc o2)
    (hown : w1.ownsRow 0 99 4 v' m (xs.flatMap itCells)) (hg : W2.drew.grownBy w1 (Value.ownBlock (.slice none 0 0))) (hat : v'.ownBlock = Value.ownBlock (.slice none 0 0) ∨ v'.ownBlock = some W2.drew.heap.size) (u0 u1 u2 u3 : Value) :
    ∃ vs', GateRep (((((w1.setCell ⟨gw, i, none⟩ v').setCell ⟨w.heap.size, 0, none⟩ u0).setCell ⟨w.heap.size, 1, none⟩ u1).setCell ⟨w.heap.size, 2, none⟩ u2).setCell ⟨w.heap.size, 3, none⟩ u3) g gw gl vs' (rows.set i xs) next ∧
      (∀ k, gateF g gw vs' k → gateF g gw vs k ∨ (w.heap.size ≤ k ∧ k < (((((w1.setCell ⟨gw, i, none⟩ v').setCell ⟨w.heap.size, 0, none⟩ u0).setCell ⟨w.heap.size, 1, none⟩ u1).setCell ⟨w.heap.size, 2, none⟩ u2).setCell ⟨w.heap.size, 3, none⟩ u3).heap.size)) ∧
      Frm (gateF g gw vs) w (((((w1.setCell ⟨gw, i, none⟩ v').setCell ⟨w.heap.size, 0, none⟩ u0).setCell ⟨w.heap.size, 1, none⟩ u1).setCell ⟨w.heap.size, 2, none⟩ u2).setCell ⟨w.heap.size, 3, none⟩ u3) := by
  have hz : W2.heap.size = w.heap.size + 2 := by rw [hW]; simp
  have h2 : GateRep W2 g gw gl vs rows next := by rw [hW]; exact (h.alloc o1).alloc o2
  have hg2 : W2.grownBy w1 none := ⟨hg.os, hg.tape, hg.output, hg.size, fun k hk _ => hg.block k hk (by simp [Value.ownBlock])⟩
  have hown2 : w1.ownsRow 0 99 4 v' xs.length (xs.flatMap itCells) := by rw [← hm]; exact hown
  obtain ⟨r1, r2, r3⟩ := row_rep h2 hv hown2 (grown_any hg2) (by
    rcases hat with e | e
    · exact .inr (.inl (by rw [e]; rfl))
    · exact .inr (.inr ⟨_, e, Nat.le_refl _⟩))
  have hlt : ∀ k, gateF g gw vs k → k < w.heap.size := by
    rintro k (rfl | rfl | ⟨u, hu, e⟩)
    · exact block_lt h.blk
    · exact h.nest.lt
    · obtain ⟨j, hj⟩ := List.getElem?_of_mem hu
      have hjl : j < vs.length := (List.getElem?_eq_some_iff.1 hj).1
      exact ((h.nest.own j u _ _ hj (List.getElem?_eq_getElem (by rw [← h.nest.len]; exact hjl)) (List.getElem?_eq_getElem (by rw [h.nest.lenN, ← h.nest.len]; exact hjl))).lt k e).2
  have hfar : ¬ gateF g gw (vs.set i v') w.heap.size := by
    rintro (e | e | ⟨u, hu, e⟩)
    · have := hlt g (.inl rfl); omega
    · have := hlt gw (.inr (.inl rfl)); omega
    · rcases List.mem_or_eq_of_mem_set hu with h1 | h1
      · have := hlt _ (.inr (.inr ⟨u, h1, e⟩)); omega
      · subst h1
        rcases hat with e1 | e1
        · rw [e1] at e; cases e
        · rw [e1] at e; injection e with e
          have : W2.drew.heap.size = W2.heap.size := rfl
          omega
  have hzz : w.heap.size + 2 ≤ w1.heap.size := by have := hg2.size; omega
  refine ⟨vs.set i v', far_rep (far_rep (far_rep (far_rep r1 hfar u0) hfar u1) hfar u2) hfar u3, fun k hk => ?_, ?_⟩
  · simp only [size_setCell]
    rcases r2 k hk with h4 | ⟨h4, h5⟩
    · exact .inl h4
    · rw [size_setCell] at h5; exact .inr ⟨by omega, h5⟩
  · have h5 : Frm (gateF g gw vs) w W2 := by rw [hW]; exact ((Frm.refl _ _).alloc _).alloc _
    have h6 := h5.trans r3 (fun k h => h) (fun k h => .inl h)
    exact (((h6.setCell (.inr (Nat.le_refl _)) u0).setCell (.inr (Nat.le_refl _)) u1).setCell (.inr (Nat.le_refl _)) u2).setCell (.inr (Nat.le_refl _)) u3
set_option maxRecDepth 100000 in
set_option maxHeartbeats 4000000 in
theorem take_ok (g gw gl next i : Nat) (vs : List Value) (rows : List (List Int)) (x : Int) (xs : List Int) (w : World) (h : GateRep w g gw gl vs rows next) (hi : rows[i]? = some (x :: xs)) (hn : rows.length ≤ 64) (hl : xs.length < 400) :
    Calls Try.prog 47 #[.pointer (some ⟨g, 0, none⟩), .int .i64 i] w fun e w' => e = .returned (.agg #[.string ByteArray.empty, .int .i64 x, .int .i64 0, .int .i64 0]) ∧
      ∃ vs', GateRep w' g gw gl vs' (rows.set i xs) next ∧ (∀ k, gateF g gw vs' k → gateF g gw vs k ∨ (w.heap.size ≤ k ∧ k < w'.heap.size)) ∧ Frm (gateF g gw vs) w w' := by
  obtain ⟨v, hv, hc, hfz, hown⟩ := h.row hi
  obtain ⟨gv, c, rfl, hlc, hcm, hgv, hcell⟩ := row_head hown
  have c0 := cell_of_row w g 0 _ _ _ h.blk
  simp at c0
  have d0 := hcell 0 (.string ByteArray.empty) rfl
  have d1 := hcell 1 (.int .i64 x) rfl
  have d2 := hcell 2 (.int .i64 0) rfl
  have d3 := hcell 3 (.int .i64 0) rfl
  have hi' : i < rows.length := (List.getElem?_eq_some_iff.1 hi).1
  have hgl := block_lt h.blk
  have hgw := h.nest.lt
  have HH := Lib.hid h
  have HV := Lib.hid hv
  have HO := Lib.hid hown
  have HC := Lib.hid hcell
  have HI := Lib.hid hi
  clear h hown hv hi hcell
  obtain ⟨m, hm⟩ : ∃ m, m = xs.length := ⟨_, rfl⟩
  rw [← hm] at hc hlc hl
  obtain ⟨n, hn'⟩ : ∃ n, n = rows.length := ⟨_, rfl⟩
  rw [← hn'] at c0 hn hi'
  have HM := Lib.hid hm
  have HN := Lib.hid hn'
  clear hm hn'
  unfold maxLen at hcm
  obtain ⟨W2, hW2⟩ : ∃ W, W = (w.alloc (.cells #[.string ⟨#[]⟩, .int .i64 0, .int .i64 0, .int .i64 0] 99)).alloc (.cells #[.string ByteArray.empty, .int .i64 x, .int .i64 0, .int .i64 0] 99) := ⟨_, rfl⟩
  have hz2 : W2.heap.size = w.heap.size + 2 := by rw [hW2]; simp
  have hbl : ∀ k, k < w.heap.size → W2.heap[k]? = w.heap[k]? := fun k hk => by
    rw [hW2, Below.heap_alloc _ _ _ (by simp; omega), Below.heap_alloc _ _ _ hk]
  have hb0 : W2.heap[w.heap.size]? = some (.cells #[.string ⟨#[]⟩, .int .i64 0, .int .i64 0, .int .i64 0] 99) := by
    rw [hW2, Below.heap_alloc _ _ _ (by simp), heap_alloc_new]
  have hb1 : W2.heap[w.heap.size + 1]? = some (.cells #[.string ByteArray.empty, .int .i64 x, .int .i64 0, .int .i64 0] 99) := by
    have := heap_alloc_new (w.alloc (.cells #[.string ⟨#[]⟩, .int .i64 0, .int .i64 0, .int .i64 0] 99)) (.cells #[.string ByteArray.empty, .int .i64 x, .int .i64 0, .int .i64 0] 99)
    rw [hW2]; simpa using this
  have hsrc : ∀ ad c', (ad = ⟨gv, 4, none⟩ ∨ m = 0) → Src Try.prog 4 97 (.slice (some ad) m c') m (xs.flatMap itCells) W2.drew := by
    intro ad c' had
    refine Src.ofSlice _ Try.underlying97 ad m c' _ ?_ ?_ ?_
    · rw [HM.out]; exact items_len xs
    · intro j u hj
      rcases had with rfl | h0
      · rw [add_plain]
        refine (World.cell?_of_block (w := w) (a := ⟨gv, 4 + j, none⟩) (hbl gv hgv)).trans (HC.out (4 + j) u ?_)
        rw [List.flatMap_cons, List.getElem?_append_right (by simp [itCells])]
        simpa [itCells] using hj
      · have : xs = [] := List.eq_nil_of_length_eq_zero (by rw [← HM.out]; exact h0)
        subst this
        simp at hj
    · intro u hu
      obtain ⟨y, _, hy⟩ := List.mem_flatMap.1 hu
      simp [itCells] at hy
      rcases hy with rfl | rfl | rfl | rfl <;> rfl
  have HS := Lib.hid hsrc
  have HB := Lib.hid hbl
  have HB0 := Lib.hid hb0
  have HB1 := Lib.hid hb1
  have HZ := Lib.hid hz2
  have HW := Lib.hid hW2
  clear hsrc hbl hb0 hb1 hz2 hW2
  by_cases hc1 : c = 1
  · subst hc1
    have hm0 : m = 0 := by omega
    subst hm0
    go_enter Try.func47, Try.ntmps47
    go_wp2_with fail
    go_region_law (refine step_append_src (w := ((w.alloc (.cells #[.string ⟨#[]⟩, .int .i64 0, .int .i64 0, .int .i64 0] 99)).alloc (.cells #[.string ByteArray.empty, .int .i64 x, .int .i64 0, .int .i64 0] 99)).drew) rfl (.const (.slice none 0 0)) (.tmp 27) 97 97 rfl 0 99 _ 4 40 Try.underlying97 info_item rfl (by decide) (.slice none 0 0) 0 [] (by simp [Act.eval]) (World.ownsRow_nil _ _ _ _) (.slice (some ⟨gv, 0, none⟩) 0 0) (by simp [Act.eval, Act.put]) 0 (xs.flatMap itCells) (by rw [← HW.out]; exact HS.out _ _ (.inr (by first | trivial | rfl))) (by unfold maxLen; omega) (by omega) (Nat.zero_le _) ?_; intro v' w1 hown1 hg1 hat1; simp only [Nat.zero_add, List.nil_append] at hown1; rw [← HW.out] at hg1 hat1; have kk : ∀ k, k < W2.heap.size → w1.heap[k]? = W2.heap[k]? := fun k hk => hg1.block k hk (by simp [Value.ownBlock]); have K := Lib.hid kk; clear kk; have c1 : w1.cell? ⟨g, 0, none⟩ = some (.slice (some ⟨gw, 0, none⟩) n n) := (World.cell?_of_block (a := ⟨g, 0, none⟩) ((K.out g (by rw [HZ.out]; omega)).trans (HB.out g hgl))).trans c0; have c2 : w1.cell? ⟨gw, i, none⟩ = some (.slice (some ⟨gv, 0, none⟩) (0 + 1) 1) := (World.cell?_of_block (a := ⟨gw, i, none⟩) ((K.out gw (by rw [HZ.out]; omega)).trans (HB.out gw hgw))).trans hc; have f1 : w1.frozen? ⟨gw, i, none⟩ = false := (World.frozen?_of_block (a := ⟨gw, i, none⟩) ((K.out gw (by rw [HZ.out]; omega)).trans (HB.out gw hgw))).trans hfz; obtain ⟨A', c', rfl, _, _⟩ := row_form hown1)
    all_goals
      clear c1 c2 f1
      have q0 := (K.out w.heap.size (by rw [HZ.out]; omega)).trans HB0.out
      have q1 := (K.out (w.heap.size + 1) (by rw [HZ.out]; omega)).trans HB1.out
      have z0 := cell_of_row w1 w.heap.size 0 _ _ _ q0
      have z1 := cell_of_row w1 w.heap.size 1 _ _ _ q0
      have z2 := cell_of_row w1 w.heap.size 2 _ _ _ q0
      have z3 := cell_of_row w1 w.heap.size 3 _ _ _ q0
      have y0 := cell_of_row w1 (w.heap.size + 1) 0 _ _ _ q1
      have y1 := cell_of_row w1 (w.heap.size + 1) 1 _ _ _ q1
      have y2 := cell_of_row w1 (w.heap.size + 1) 2 _ _ _ q1
      have y3 := cell_of_row w1 (w.heap.size + 1) 3 _ _ _ q1
      simp at z0 z1 z2 z3 y0 y1 y2 y3
      have fz : ∀ j, w1.frozen? ⟨w.heap.size, j, none⟩ = false := fun j => by simp [World.frozen?, q0]
      have f0 := fz 0
      have f1 := fz 1
      have f2 := fz 2
      have f3 := fz 3
      have hz1 : w.heap.size + 2 ≤ w1.heap.size := by have := hg1.size; rw [← HZ.out]; exact this
      clear q0 q1 fz
      go_wp2_with fail
      refine bodyPost_ret (v := .agg #[.string ByteArray.empty, .int .i64 x, .int .i64 0, .int .i64 0]) (by simp [results, Try.results47, go_sem, z0, z1, z2, z3]) rfl ⟨rfl, take_end HH.out HM.out HV.out HW.out hown1 hg1 hat1 _ _ _ _⟩
  · have hdc : (c == 1) = false := beq_eq_false_iff_ne.2 hc1
    have h11 : (1 : Int) ≤ (m : Int) + 1 := by omega
    go_enter Try.func47, Try.ntmps47
    go_wp2_with fail
    go_region_law (refine step_append_src (w := ((w.alloc (.cells #[.string ⟨#[]⟩, .int .i64 0, .int .i64 0, .int .i64 0] 99)).alloc (.cells #[.string ByteArray.empty, .int .i64 x, .int .i64 0, .int .i64 0] 99)).drew) rfl (.const (.slice none 0 0)) (.tmp 27) 97 97 rfl 0 99 _ 4 40 Try.underlying97 info_item rfl (by decide) (.slice none 0 0) 0 [] (by simp [Act.eval]) (World.ownsRow_nil _ _ _ _) (.slice (some ⟨gv, 4, none⟩) m (c - 1)) (by simp [Act.eval, Act.put]) m (xs.flatMap itCells) (by rw [← HW.out]; exact HS.out _ _ (.inl rfl)) (by unfold maxLen; omega) (by omega) (Nat.zero_le _) ?_; intro v' w1 hown1 hg1 hat1; simp only [Nat.zero_add, List.nil_append] at hown1; rw [← HW.out] at hg1 hat1; have kk : ∀ k, k < W2.heap.size → w1.heap[k]? = W2.heap[k]? := fun k hk => hg1.block k hk (by simp [Value.ownBlock]); have K := Lib.hid kk; clear kk; have c1 : w1.cell? ⟨g, 0, none⟩ = some (.slice (some ⟨gw, 0, none⟩) n n) := (World.cell?_of_block (a := ⟨g, 0, none⟩) ((K.out g (by rw [HZ.out]; omega)).trans (HB.out g hgl))).trans c0; have c2 : w1.cell? ⟨gw, i, none⟩ = some (.slice (some ⟨gv, 0, none⟩) (m + 1) c) := (World.cell?_of_block (a := ⟨gw, i, none⟩) ((K.out gw (by rw [HZ.out]; omega)).trans (HB.out gw hgw))).trans hc; have f1 : w1.frozen? ⟨gw, i, none⟩ = false := (World.frozen?_of_block (a := ⟨gw, i, none⟩) ((K.out gw (by rw [HZ.out]; omega)).trans (HB.out gw hgw))).trans hfz; obtain ⟨A', c', rfl, _, _⟩ := row_form hown1)
    all_goals
      clear c1 c2 f1
      have q0 := (K.out w.heap.size (by rw [HZ.out]; omega)).trans HB0.out
      have q1 := (K.out (w.heap.size + 1) (by rw [HZ.out]; omega)).trans HB1.out
      have z0 := cell_of_row w1 w.heap.size 0 _ _ _ q0
      have z1 := cell_of_row w1 w.heap.size 1 _ _ _ q0
      have z2 := cell_of_row w1 w.heap.size 2 _ _ _ q0
      have z3 := cell_of_row w1 w.heap.size 3 _ _ _ q0
      have y0 := cell_of_row w1 (w.heap.size + 1) 0 _ _ _ q1
      have y1 := cell_of_row w1 (w.heap.size + 1) 1 _ _ _ q1
      have y2 := cell_of_row w1 (w.heap.size + 1) 2 _ _ _ q1
      have y3 := cell_of_row w1 (w.heap.size + 1) 3 _ _ _ q1
      simp at z0 z1 z2 z3 y0 y1 y2 y3
      have fz : ∀ j, w1.frozen? ⟨w.heap.size, j, none⟩ = false := fun j => by simp [World.frozen?, q0]
      have f0 := fz 0
      have f1 := fz 1
      have f2 := fz 2
      have f3 := fz 3
      have hz1 : w.heap.size + 2 ≤ w1.heap.size := by have := hg1.size; rw [← HZ.out]; exact this
      clear q0 q1 fz
      go_wp2_with fail
      refine bodyPost_ret (v := .agg #[.string ByteArray.empty, .int .i64 x, .int .i64 0, .int .i64 0]) (by simp [results, Try.results47, go_sem, z0, z1, z2, z3]) rfl ⟨rfl, take_end HH.out HM.out HV.out HW.out hown1 hg1 hat1 _ _ _ _⟩
end Go.Proofs.Ytggihfllbfbbgaa
