/-
  The walk of GateFair: it returns true. No condition.
-/
import Derived.Test.YtggihfllbfbbgaaGateNext
namespace Go.Proofs.Ytggihfllbfbbgaa
open Go.RowKit Go.ChangeShapes Go.WideShapes
set_option linter.unusedVariables false

/-! ### Plain: the rows -/
def nums (l : List Nat) : List Int := l.map Int.ofNat
def upR (n k i : Nat) : List (List Int) := (List.range n).map fun j => nums (List.range (if j < i then k + 1 else k))
def dnR (n m k i : Nat) : List (List Int) := (List.range n).map fun j => nums ((List.range m).drop (if j < i then k + 1 else k))
theorem upR_length (n k i : Nat) : (upR n k i).length = n := by simp [upR]
theorem dnR_length (n m k i : Nat) : (dnR n m k i).length = n := by simp [dnR]
theorem upR_get (n k i j : Nat) (h : j < n) : (upR n k i)[j]? = some (nums (List.range (if j < i then k + 1 else k))) := by
  simp only [upR]
  rw [List.getElem?_map, List.getElem?_range h]; rfl
theorem dnR_get (n m k i j : Nat) (h : j < n) : (dnR n m k i)[j]? = some (nums ((List.range m).drop (if j < i then k + 1 else k))) := by
  simp only [dnR]
  rw [List.getElem?_map, List.getElem?_range h]; rfl
theorem rows_ext {a b : List (List Int)} (n : Nat) (ha : a.length = n) (hb : b.length = n) (h : ∀ j, j < n → a[j]? = b[j]?) : a = b := by
  apply List.ext_getElem?
  intro j
  by_cases hj : j < n
  · exact h j hj
  · rw [List.getElem?_eq_none (by omega), List.getElem?_eq_none (by omega)]
theorem upR_set (n k i : Nat) (h : i < n) : (upR n k i).set i (nums (List.range k) ++ [(k : Int)]) = upR n k (i + 1) := by
  refine rows_ext n (by rw [List.length_set, upR_length]) (upR_length _ _ _) fun j hj => ?_
  rw [List.getElem?_set, upR_get n k i j hj, upR_get n k (i + 1) j hj, upR_length]
  by_cases e : i = j
  · subst e
    rw [if_pos rfl, if_pos h, if_pos (by omega), List.range_succ]
    simp [nums]
  · rw [if_neg e]
    by_cases h2 : j < i
    · rw [if_pos h2, if_pos (by omega)]
    · rw [if_neg h2, if_neg (by omega)]
theorem upR_all (n k : Nat) : upR n k n = upR n (k + 1) 0 := by
  refine rows_ext n (upR_length _ _ _) (upR_length _ _ _) fun j hj => ?_
  rw [upR_get n k n j hj, upR_get n (k + 1) 0 j hj, if_pos hj, if_neg (by omega)]
theorem dnR_all (n m k : Nat) : dnR n m k n = dnR n m (k + 1) 0 := by
  refine rows_ext n (dnR_length _ _ _ _) (dnR_length _ _ _ _) fun j hj => ?_
  rw [dnR_get n m k n j hj, dnR_get n m (k + 1) 0 j hj, if_pos hj, if_neg (by omega)]
theorem up_dn (n m : Nat) : upR n m 0 = dnR n m 0 0 := by
  refine rows_ext n (upR_length _ _ _) (dnR_length _ _ _ _) fun j hj => ?_
  rw [upR_get n m 0 j hj, dnR_get n m 0 0 j hj]; simp
theorem up_nil (n : Nat) : List.replicate n [] = upR n 0 0 := by
  refine rows_ext n (by simp) (upR_length _ _ _) fun j hj => ?_
  rw [upR_get n 0 0 j hj, List.getElem?_replicate, if_pos hj, if_neg (by omega)]; rfl
theorem dn_head (n m k i : Nat) (hi : i < n) (hk : k < m) : (dnR n m k i)[i]? = some ((k : Int) :: nums ((List.range m).drop (k + 1))) := by
  rw [dnR_get n m k i i hi, if_neg (by omega), List.drop_eq_getElem_cons (by simpa using hk)]
  simp [nums]
theorem dn_set (n m k i : Nat) (hi : i < n) (hk : k < m) : (dnR n m k i).set i (nums ((List.range m).drop (k + 1))) = dnR n m k (i + 1) := by
  refine rows_ext n (by rw [List.length_set, dnR_length]) (dnR_length _ _ _ _) fun j hj => ?_
  rw [List.getElem?_set, dnR_get n m k i j hj, dnR_get n m k (i + 1) j hj, dnR_length]
  by_cases e : i = j
  · subst e
    rw [if_pos rfl, if_pos hi, if_pos (by omega)]
  · rw [if_neg e]
    by_cases h2 : j < i
    · rw [if_pos h2, if_pos (by omega)]
    · rw [if_neg h2, if_neg (by omega)]
theorem dn_none (n m j : Nat) (hj : j < n) : (dnR n m m 0)[j]? = some [] := by
  rw [dnR_get n m m 0 j hj, if_neg (by omega), List.drop_eq_nil_of_le (by simp)]; rfl
theorem nums_le (m k : Nat) : (nums ((List.range m).drop k)).length ≤ m := by simp [nums]

/-! ### Kept -/
theorem GateAt.keep {w w' : World} {F : Nat → Prop} {g next : Nat} {rows : List (List Int)} (h : GateAt w F g rows next) (hs : Same F w w') (hz : w.heap.size ≤ w'.heap.size) : GateAt w' F g rows next := by
  obtain ⟨gw, gl, vs, h, hf⟩ := h
  refine ⟨gw, gl, vs, ⟨(hs g (hf g (.inl rfl))).trans h.blk, ⟨(hs gw (hf gw (.inr (.inl rfl)))).trans h.nest.blk, h.nest.base, h.nest.ne, h.nest.len, h.nest.lenN, fun j v xs n hv hx hn => ?_, h.nest.apart⟩, h.ne, h.nev⟩, hf⟩
  obtain ⟨h1, h2⟩ := h.nest.own j v xs n hv hx hn
  refine ⟨h1, ?_⟩
  rcases h2 with h2 | ⟨g', cap, cur, rfl, hb, hh, r⟩
  · exact .inl h2
  · exact .inr ⟨g', cap, cur, rfl, hb, (hs g' (hf g' (.inr (.inr ⟨_, List.mem_of_getElem? hv, rfl⟩)))).trans hh, r⟩
theorem GateAt.more {w : World} {F G : Nat → Prop} {g next : Nat} {rows : List (List Int)} (h : GateAt w F g rows next) (hF : ∀ k, F k → G k) : GateAt w G g rows next := by
  obtain ⟨gw, gl, vs, h, hf⟩ := h
  exact ⟨gw, gl, vs, h, fun k hk => hF k (hf k hk)⟩
theorem GateAt.lt {w : World} {F : Nat → Prop} {g next : Nat} {rows : List (List Int)} (h : GateAt w F g rows next) : ∃ F', GateAt w F' g rows next ∧ (∀ k, F' k → F k) ∧ ∀ k, F' k → k < w.heap.size := by
  obtain ⟨gw, gl, vs, h, hf⟩ := h
  exact ⟨gateF g gw vs, ⟨gw, gl, vs, h, fun _ h => h⟩, hf, gateF_lt h⟩

/-- The gate is the call's own. -/
def GInv (w wr : World) (g : Nat) (rows : List (List Int)) (next : Nat) : Prop := GateAt wr (fun k => w.heap.size ≤ k ∧ k < wr.heap.size) g rows next ∧ Below w.heap.size w wr
def seenCells (n i : Nat) : Array Value := ((List.range n).map fun j => Value.bool (decide (j < i))).toArray
/-- Beside it the list of those that were seen. -/
def SInv (w wr : World) (g : Nat) (rows : List (List Int)) (next gs n i : Nat) : Prop :=
  (∃ F : Nat → Prop, GateAt wr F g rows next ∧ (∀ k, F k → w.heap.size ≤ k ∧ k < wr.heap.size) ∧ ¬ F gs) ∧ w.heap.size ≤ gs ∧ wr.heap[gs]? = some (.cells (seenCells n i) 4 (0, 0)) ∧ Below w.heap.size w wr

theorem GInv.alloc {w wr : World} {g next : Nat} {rows : List (List Int)} (h : GInv w wr g rows next) (o : Obj) : GInv w (wr.alloc o) g rows next :=
  ⟨(h.1.keep (fun k hk => Below.heap_alloc _ _ _ hk.2) (by simp)).more fun k hk => ⟨hk.1, by have := hk.2; simp; omega⟩, h.2.alloc h.2.size o⟩
theorem GInv.step {w wr w2 : World} {g next next2 : Nat} {rows rows2 : List (List Int)} (h : GInv w wr g rows next) (h2 : GateAt w2 (fun k => (w.heap.size ≤ k ∧ k < wr.heap.size) ∨ (wr.heap.size ≤ k ∧ k < w2.heap.size)) g rows2 next2)
    (h3 : Frm (fun k => w.heap.size ≤ k ∧ k < wr.heap.size) wr w2) : GInv w w2 g rows2 next2 := by
  have hz := h.2.size
  have hz2 := h3.size
  refine ⟨h2.more fun k hk => by rcases hk with hk | hk <;> omega, ⟨h3.os.trans h.2.os, h3.tape.trans h.2.tape, h3.output.trans h.2.output, by omega, fun k hk => ?_⟩⟩
  exact (h3.block k (by omega) (by omega)).trans (h.2.block k hk)
theorem SInv.alloc {w wr : World} {g next gs n i : Nat} {rows : List (List Int)} (h : SInv w wr g rows next gs n i) (o : Obj) : SInv w (wr.alloc o) g rows next gs n i := by
  obtain ⟨⟨F, h1, h2, h3⟩, h4, h5, h6⟩ := h
  exact ⟨⟨F, h1.keep (fun k hk => Below.heap_alloc _ _ _ (h2 k hk).2) (by simp), fun k hk => ⟨(h2 k hk).1, by have := (h2 k hk).2; simp; omega⟩, h3⟩, h4, (Below.heap_alloc _ _ _ (block_lt h5)).trans h5, h6.alloc h6.size o⟩
theorem SInv.gate {w wr : World} {g next gs n i : Nat} {rows : List (List Int)} (h : SInv w wr g rows next gs n i) : GInv w wr g rows next := by
  obtain ⟨⟨F, h1, h2, h3⟩, h4, h5, h6⟩ := h
  exact ⟨h1.more h2, h6⟩
theorem SInv.step {w wr w2 : World} {F : Nat → Prop} {g next2 gs n i : Nat} {rows2 : List (List Int)} (hF : ∀ k, F k → w.heap.size ≤ k ∧ k < wr.heap.size) (hgs : ¬ F gs) (h4 : w.heap.size ≤ gs) (h5 : wr.heap[gs]? = some (.cells (seenCells n i) 4 (0, 0))) (h6 : Below w.heap.size w wr)
    (h2 : GateAt w2 (fun k => F k ∨ (wr.heap.size ≤ k ∧ k < w2.heap.size)) g rows2 next2) (h3 : Frm F wr w2) : SInv w w2 g rows2 next2 gs n i := by
  have hl := block_lt h5
  have hz := h3.size
  have hz6 := h6.size
  refine ⟨⟨_, h2, fun k hk => ?_, fun hk => ?_⟩, h4, (h3.block gs hl hgs).trans h5, ⟨h3.os.trans h6.os, h3.tape.trans h6.tape, h3.output.trans h6.output, by omega, fun k hk => (h3.block k (by omega) (fun e => by have := hF k e; omega)).trans (h6.block k hk)⟩⟩
  · rcases hk with hk | hk
    · have := hF k hk; omega
    · omega
  · rcases hk with hk | hk
    · exact hgs hk
    · omega
theorem SInv.mark {w wr : World} {g next gs n i : Nat} {rows : List (List Int)} (h : SInv w wr g rows next gs n i) (hi : i < n) : SInv w (wr.setCell ⟨gs, i, none⟩ (.bool true)) g rows next gs n (i + 1) := by
  obtain ⟨⟨F, h1, h2, h3⟩, h4, h5, h6⟩ := h
  refine ⟨⟨F, h1.keep (fun k hk => Below.heap_setCell _ _ _ _ (fun e => h3 (by rw [show gs = k from e.symm]; exact hk))) (by rw [size_setCell]; exact Nat.le_refl _), fun k hk => by rw [size_setCell]; exact h2 k hk, h3⟩, h4, ?_, h6.setCell h4 _⟩
  have e1 : (wr.setCell ⟨gs, i, none⟩ (.bool true)).heap[gs]? = some (.cells ((seenCells n i).setIfInBounds i (.bool true)) 4 (0, 0)) := by
    simp [World.setCell, Array.getElem?_modify, h5]
  rw [e1]
  congr 2
  apply Array.ext'
  rw [Array.toList_setIfInBounds]
  simp only [seenCells]
  apply List.ext_getElem?
  intro j
  rw [List.getElem?_set]
  by_cases hj : j < n
  · simp only [List.getElem?_map, List.getElem?_range hj, Option.map_some, List.length_map, List.length_range]
    by_cases e : i = j
    · subst e; simp [hj]
    · rw [if_neg e]
      congr 2
      by_cases h2 : j < i
      · simp [h2]; omega
      · simp [h2]; omega
  · have hl1 : ((List.range n).map fun j => Value.bool (decide (j < i)))[j]? = none := List.getElem?_eq_none (by simp; omega)
    have hl2 : ((List.range n).map fun j => Value.bool (decide (j < i + 1)))[j]? = none := List.getElem?_eq_none (by simp; omega)
    rw [hl1, hl2]
    by_cases e : i = j
    · omega
    · rw [if_neg e]

theorem seen_made (w : World) (n : Nat) : (w.alloc (.cells (madeCells #[.bool false] n) 4)).heap[w.heap.size]? = some (.cells (seenCells n 0) 4 (0, 0)) := by
  rw [heap_alloc_new w _]
  congr 2
  apply Array.ext'
  rw [toList_madeCells_one]
  simp only [seenCells]
  apply List.ext_getElem?
  intro j
  rw [List.getElem?_replicate]
  by_cases hj : j < n
  · rw [if_pos hj, List.getElem?_map, List.getElem?_range hj]; simp
  · rw [if_neg hj, List.getElem?_eq_none (by simp; omega)]
theorem info_bool : (Try.prog.info? 4).map (fun i => (i.zero, i.size, i.bytes)) = some (some (.bool false), 1, 1) := by kernel_rfl

set_option maxRecDepth 100000 in
set_option maxHeartbeats 8000000 in
theorem gateFair_walk (n m : Int) (w : World) (_ : (Lit.int .i64 n).wf = true) (_ : (Lit.int .i64 m).wf = true) :
    Calls Try.prog 11 #[.int .i64 n, .int .i64 m] w fun e w' => e = .returned (.bool true) ∧ Below w.heap.size w w' := by
  by_cases hok : 1 ≤ n ∧ n ≤ 20 ∧ 0 ≤ m ∧ m ≤ 20
  · obtain ⟨h1, h2, h3, h4⟩ := hok
    obtain ⟨n, rfl⟩ : ∃ k : Nat, n = (k : Int) := ⟨n.toNat, by omega⟩
    obtain ⟨m, rfl⟩ : ∃ k : Nat, m = (k : Int) := ⟨m.toNat, by omega⟩
    have hmk : ∀ u : World, (Instr.makeSlice 71 (.int .i64 (n : Int)) (.int .i64 (n : Int))).run Try.prog u = .ok (.slice (some ⟨u.heap.size, 0, none⟩) n n) (u.alloc (.cells (madeCells #[.bool false] n) 4)) := fun u =>
      run_make_row' (P := Try.prog) 71 4 (.bool false) 1 Try.underlying71 info_bool rfl .i64 .i64 n (by omega) (by omega) u
    go_enter Try.func11, Try.ntmps11
    go_wp2_with fail
    refine (newGate_ok 2 _ (by omega) (by omega)).mono ?_; rintro e w1 ⟨g1, rfl, ha1, hb1⟩
    have A1 := Lib.hid ha1
    have B1 := Lib.hid hb1
    clear ha1 hb1
    go_wp2_with fail
    refine (push_ok g1 0 1 5 _ [] _ _ A1.out rfl (by simp) (by simp)).mono ?_; rintro e w2 ⟨rfl, ha2, hb2⟩
    have A2 : Hid (GInv w w2 g1 [[], [5]] 0) := GInv.step (w := w) ⟨A1.out, B1.out⟩ ha2 hb2
    clear ha2 hb2 A1 B1
    go_wp2_with fail
    refine (next_some g1 0 1 [[], [5]] 5 [] _ _ A2.out.1 (by simp) (by simp) (by simp) (by intro j hj; obtain rfl : j = 0 := (by omega); rfl) rfl (by simp)).mono ?_; rintro e w3 ⟨rfl, ha3, hb3⟩
    have A3 : Hid (GInv w w3 g1 _ _) := GInv.step A2.out ha3 hb3
    clear ha3 hb3 A2
    go_wp2_with fail
    refine (newGate_ok n _ (by omega) (by omega)).mono ?_; rintro e w4 ⟨g, rfl, ha4, hb4⟩
    have A4 : Hid (GInv w w4 g (upR n 0 0) 0) := by
      have hz3 := A3.out.2.size
      have hz4 := hb4.size
      simp at hz4
      refine ⟨by rw [← up_nil]; exact ha4.more (fun k hk => ⟨by have := hk.1; simp at this; omega, hk.2⟩), ?_⟩
      exact ((A3.out.2.alloc A3.out.2.size _).trans (hb4.mono (by simp; omega)))
    clear ha4 hb4 A3
    go_wp2_with fail
    go_loopw [12] (fun kv wr => ∃ k : Nat, k ≤ m ∧ kv = .int .i64 k ∧ Hid (GInv w wr g (upR n k 0) 0)) (fun kv _ => m - (intOf kv).toNat)
    case atStart => exact ⟨0, Nat.zero_le _, rfl, A4⟩
    case round =>
      clear A4
      obtain ⟨k, hk, rfl, A4⟩ := hrel
      by_cases hkm : k < m
      · obtain ⟨wo, hwo⟩ : ∃ wo : World, wo = wr := ⟨_, rfl⟩
        rw [← hwo]
        rw [← hwo] at A4
        clear hwo
        go_wp2_with fail
        go_loopw [13] (fun iv wr => ∃ i : Nat, i ≤ n ∧ iv = .int .i64 i ∧ Hid (GInv w wr g (upR n k i) 0)) (fun iv _ => n - (intOf iv).toNat)
        case atStart => exact ⟨0, Nat.zero_le _, rfl, A4⟩
        case round =>
          clear A4
          obtain ⟨i, hi, rfl, A4⟩ := hrel
          by_cases hin : i < n
          · go_wp2_with fail
            refine (push_ok g 0 i k (upR n k i) (nums (List.range k)) _ _ A4.out.1 (by rw [upR_get n k i i hin, if_neg (by omega)]) (by rw [upR_length]; omega) (by simp [nums]; omega)).mono ?_; rintro e w5 ⟨rfl, ha5, hb5⟩
            have A5 : Hid (GInv w w5 g (upR n k (i + 1)) 0) := by rw [← upR_set n k i hin]; exact GInv.step A4.out ha5 hb5
            clear ha5 hb5 A4
            go_wp2_with fail
            go_roundw
            case rel => exact ⟨i + 1, by omega, by go_num, A5⟩
            case measure => simp [intOf]; omega
          · obtain rfl : i = n := by omega
            go_wp2_with fail
            go_roundw
            case rel => exact ⟨k + 1, by omega, by go_num, by rw [← upR_all]; exact A4⟩
            case measure => simp [intOf]; omega
      · obtain rfl : k = m := by omega
        rw [up_dn] at A4
        obtain ⟨w6, hw6⟩ : ∃ w6 : World, w6 = wr := ⟨_, rfl⟩
        rw [← hw6]
        rw [← hw6] at A4
        clear hw6
        go_wp2_with fail
        go_loopw [15] (fun kv wr => ∃ q : Nat, q ≤ k ∧ kv = .int .i64 q ∧ Hid (GInv w wr g (dnR n k q 0) 0)) (fun kv _ => k - (intOf kv).toNat)
        case atStart => exact ⟨0, Nat.zero_le _, rfl, A4⟩
        case round =>
          clear A4
          obtain ⟨q, hq, rfl, A4⟩ := hrel
          by_cases hqk : q < k
          · obtain ⟨wo, hwo⟩ : ∃ wo : World, wo = wr := ⟨_, rfl⟩
            rw [← hwo]
            rw [← hwo] at A4
            clear hwo
            have A5 : Hid (SInv w (wo.alloc (.cells (madeCells #[.bool false] n) 4)) g (dnR n k q 0) (0 % n) wo.heap.size n 0) := by
              rw [Nat.zero_mod]
              exact ⟨⟨_, A4.out.1.keep (fun k hk => Below.heap_alloc _ _ _ hk.2) (by simp), fun k hk => ⟨hk.1, by have := hk.2; simp; omega⟩, fun hk => by have := hk.2; omega⟩, A4.out.2.size, seen_made wo n, A4.out.2.alloc A4.out.2.size _⟩
            have hzo := A4.out.2.size
            clear A4
            go_wp2_with fail
            go_loopw [17] (fun iv wr => ∃ i : Nat, i ≤ n ∧ iv = .int .i64 i ∧ Hid (SInv w wr g (dnR n k q i) (i % n) wo.heap.size n i)) (fun iv _ => n - (intOf iv).toNat)
            case atStart => exact ⟨0, Nat.zero_le _, rfl, A5⟩
            case round =>
              clear A5
              obtain ⟨i, hi, rfl, A5⟩ := hrel
              by_cases hin : i < n
              · obtain ⟨⟨F, q1, q2, q3⟩, q4, q5, q6⟩ := A5.out
                rw [Nat.mod_eq_of_lt hin] at q1
                have hc := next_some g i 0 (dnR n k q i) (q : Int) (nums ((List.range k).drop (q + 1))) F wr q1 (by rw [dnR_length]; omega) (by rw [dnR_length]; exact hin) (by rw [dnR_length]; omega) (by intro j hj; omega) (by rw [dnR_length, Nat.add_zero, Nat.mod_eq_of_lt hin]; exact dn_head n k q i hin hqk) (by have := nums_le k (q + 1); omega)
                rw [dnR_length, Nat.add_zero, Nat.mod_eq_of_lt hin, dn_set n k q i hin hqk] at hc
                have Q2 := Lib.hid q2
                have Q3 := Lib.hid q3
                have Q5 := Lib.hid q5
                have Q6 := Lib.hid q6
                have HC := Lib.hid hc
                clear q1 q2 q3 q4 q5 q6 hc A5
                go_wp2_with fail
                refine HC.out.mono ?_; rintro e w8 ⟨rfl, ha8, hb8⟩
                have A8 : Hid (SInv w w8 g (dnR n k q (i + 1)) ((i + 1) % n) wo.heap.size n i) := SInv.step Q2.out Q3.out hzo Q5.out Q6.out ha8 hb8
                clear ha8 hb8 HC Q2 Q3 Q5 Q6
                have hb := A8.out.2.2.1
                have hgs := block_lt hb
                have hf : w8.frozen? ⟨wo.heap.size, i, none⟩ = false := by simp [World.frozen?, hb]
                have hc := cell_of_row w8 wo.heap.size i _ _ _ hb
                have e1 : (seenCells n i)[i]? = some (.bool false) := by simp [seenCells, hin]
                rw [e1] at hc
                have d1 : decide (n ≤ i) = false := by simp; omega
                have d2 : decide ((n : Int) ≤ (i : Int)) = false := by simp; omega
                clear hb e1
                go_wp2_with fail
                go_roundw
                case rel =>
                  refine ⟨i + 1, by omega, by go_num, ?_⟩
                  exact (A8.out.mark hin).alloc _
                case measure => simp [intOf]; omega
              · obtain rfl : i = n := by omega
                go_wp2_with fail
                go_roundw
                case rel =>
                  refine ⟨q + 1, by omega, by go_num, ?_⟩
                  have := A5.out.gate
                  rw [Nat.mod_self, dnR_all] at this
                  exact this
                case measure => simp [intOf]; omega
          · obtain rfl : q = k := by omega
            go_wp2_with fail
            refine (next_none g 0 (dnR n q q 0) _ _ A4.out.1 (by rw [dnR_length]; omega) (by rw [dnR_length]; omega) (fun j hj => dn_none n q j (by rw [dnR_length] at hj; exact hj))).mono ?_; rintro e w5 ⟨rfl, ha5, hb5⟩
            have A5 : Hid (GInv w w5 g (dnR n q q 0) 0) := GInv.step A4.out ha5 hb5
            clear ha5 hb5 A4
            go_wp2_with (go_at_call 34; refine (waiting_none g 0 (dnR n q q 0) _ _ (A5.out.alloc _).1 (by rw [dnR_length]; omega) (fun j hj => dn_none n q j (by rw [dnR_length] at hj; exact hj))).mono ?_; rintro e w' ⟨rfl, rfl⟩)
            go_ret
            exact ⟨rfl, A5.out.2.alloc A5.out.2.size _⟩
  · rcases (show n < 1 ∨ (1 ≤ n ∧ 20 < n) ∨ (1 ≤ n ∧ n ≤ 20 ∧ m < 0) ∨ (1 ≤ n ∧ n ≤ 20 ∧ 0 ≤ m ∧ 20 < m) by omega) with h | ⟨h1, h2⟩ | ⟨h1, h2, h3⟩ | ⟨h1, h2, h3, h4⟩
    all_goals
      go_enter Try.func11, Try.ntmps11
      go_wp2_with fail
      refine (newGate_ok 2 _ (by omega) (by omega)).mono ?_; rintro e w1 ⟨g1, rfl, ha1, hb1⟩
      have A1 := Lib.hid ha1
      have B1 := Lib.hid hb1
      clear ha1 hb1
      go_wp2_with fail
      refine (push_ok g1 0 1 5 _ [] _ _ A1.out rfl (by simp) (by simp)).mono ?_; rintro e w2 ⟨rfl, ha2, hb2⟩
      have A2 : Hid (GInv w w2 g1 [[], [5]] 0) := GInv.step (w := w) ⟨A1.out, B1.out⟩ ha2 hb2
      clear ha2 hb2 A1 B1
      go_wp2_with fail
      refine (next_some g1 0 1 [[], [5]] 5 [] _ _ A2.out.1 (by simp) (by simp) (by simp) (by intro j hj; obtain rfl : j = 0 := (by omega); rfl) rfl (by simp)).mono ?_; rintro e w3 ⟨rfl, ha3, hb3⟩
      have A3 : Hid (GInv w w3 g1 _ _) := GInv.step A2.out ha3 hb3
      clear ha3 hb3 A2
      go_wp2_with fail
      go_ret
      exact ⟨rfl, A3.out.2.alloc A3.out.2.size _⟩
end Go.Proofs.Ytggihfllbfbbgaa
