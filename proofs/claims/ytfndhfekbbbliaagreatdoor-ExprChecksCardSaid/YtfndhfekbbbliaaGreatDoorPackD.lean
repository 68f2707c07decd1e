/-
  Several texts of this claim in one, in build order; each begins with its own remark, which says what it proves and under which conditions.
-/
import Derived.Test.YtfndhfekbbbliaaGreatDoorPackC
import Derived.Lib.ItoaNum
import Derived.Test.YtfndhfekbbbliaaGreatDoorPackB

/-
  Package expr: the contract of parse: a tree, or where the text is wrong, and how. Conditions: the two variables that Atoi's errors hold are there; the text is no longer than a string may be.
-/
namespace Go.Proofs.YtfndhfekbbbliaaGreatDoor
open Go.RowKit Go.Shelf
set_option linter.unusedVariables false

theorem step_all {W : Reads} {m : Nat} (hS : ∀ d, Short (W d)) (hW : ReadsLt_ W m) : ReadsAs 84 (wholeStep W) m :=
  whole_reads hS (cmp_reads hS (less_reads (one_reads hS hW))) hW
theorem whole_all (k : Nat) : ReadsAs 84 (wholeRd k) k := by
  induction k with
  | zero => exact step_all (bad_short 2) fun R s l d w _ _ _ h => absurd h (Nat.not_lt_zero _)
  | succ k ih => exact step_all (whole_short k) fun R s l d w h1 h2 h3 h4 h5 => ih R s l d w h1 h2 h3 (by omega) h5

theorem frame_eq (p q r X : Value) : (#[p, q, r] ++ ((Array.replicate 19 undef).setIfInBounds 3 X).setIfInBounds 0 X) = #[p, q, r, X, undef, undef, X, undef, undef, undef, undef, undef, undef, undef, undef, undef, undef, undef, undef, undef, undef, undef] := by kernel_rfl
/-- parse's deferred closure: a fault is caught. -/
def TV3 (w : World) (a b c : Nat) (x y z u v : Value) : Prop := TVar w a x y z ∧ w.heap[b]? = some (.cells #[u] 3 (0, 0)) ∧ w.heap[c]? = some (.cells #[v] 28 (0, 0))
set_option maxRecDepth 100000 in
set_option maxHeartbeats 1000000 in
theorem catch_fault (a b c p : Nat) (k : Int) (x y z u v : Value) (older : List PanicEntry) (w : World) (h : TV3 w a b c x y z u v) (hab : a ≠ b) (hac : a ≠ c) (hbc : b ≠ c) :
    CallsD Tryz.prog 83 #[.pointer (some ⟨a, 0, none⟩), .pointer (some ⟨b, 0, none⟩), .pointer (some ⟨c, 0, none⟩)] (.panicking ({ v := faultV p k, recovered := false } :: older)) w fun e u' w' =>
      e = .returned (.tuple #[]) ∧ u' = .panicking ({ v := faultV p k, recovered := true } :: older) ∧ TV3 w' a b c (.int .u8 0) (.int .i64 0) (.slice none 0 0) (.int .i64 p) (.iface 89 (.int .i64 k)) ∧ (∀ j, j < w.heap.size → j ≠ a → j ≠ b → j ≠ c → w'.heap[j]? = w.heap[j]?) ∧ Frm (fun j => j = a ∨ j = b ∨ j = c) w w' := by
  obtain ⟨h1, h2, h3⟩ := h
  have hal := block_lt h1
  have hbl := block_lt h2
  have hcl := block_lt h3
  have hna : w.heap.size ≠ a := by omega
  have hnb : w.heap.size ≠ b := by omega
  have hnc : w.heap.size ≠ c := by omega
  obtain ⟨c0, c1, c2, cf⟩ := h1.allocs
  obtain ⟨g0, g1, g2, gf⟩ := h1.cells
  have d1 : w.cell? ⟨b, 0, none⟩ = some u := (cell_of_row w b 0 _ _ _ h2).trans rfl
  have e1 : w.cell? ⟨c, 0, none⟩ = some v := (cell_of_row w c 0 _ _ _ h3).trans rfl
  have df1 : w.frozen? ⟨b, 0, none⟩ = false := by simp [World.frozen?, h2]
  have ef1 : w.frozen? ⟨c, 0, none⟩ = false := by simp [World.frozen?, h3]
  have d0 : ∀ ob, (w.alloc ob).cell? ⟨b, 0, none⟩ = some u := fun ob => (cell_of_row (w.alloc ob) b 0 _ _ _ ((heap_alloc_old _ _ hbl).trans h2)).trans rfl
  have e0 : ∀ ob, (w.alloc ob).cell? ⟨c, 0, none⟩ = some v := fun ob => (cell_of_row (w.alloc ob) c 0 _ _ _ ((heap_alloc_old _ _ hcl).trans h3)).trans rfl
  have df : ∀ ob, (w.alloc ob).frozen? ⟨b, 0, none⟩ = false := fun ob => by simp [World.frozen?, (heap_alloc_old w ob hbl).trans h2]
  have ef : ∀ ob, (w.alloc ob).frozen? ⟨c, 0, none⟩ = false := fun ob => by simp [World.frozen?, (heap_alloc_old w ob hcl).trans h3]
  refine callsD_of_wpS Tryz.func83 rfl fun c₀ cs hu => ?_
  apply wpS_seq
  apply wpS_region
  simp [wpOpsS, go_sem, recoverD, hu, Tryz.ntmps83, Exit.thenS, faultV]
  refine wpS_of_wp ?_
  rw [frame_eq]
  have hta : ∀ (v : Value) (w : World), (Instr.typeAssert (.iface 147 v) 20 147 true).run Tryz.prog w = .ok (.tuple #[v, .bool true]) w := fun _ _ => rfl
  go_wp2_with fail
  go_region
  obtain ⟨w9, hw9⟩ : ∃ w9, w9 = tset w a (.int .u8 0) (.int .i64 0) (.slice none 0 0) := ⟨_, rfl⟩
  have v9 : TVar w9 a (.int .u8 0) (.int .i64 0) (.slice none 0 0) := by rw [hw9]; exact h1.put _ _ _
  have o9 : ∀ j, j ≠ a → w9.heap[j]? = w.heap[j]? := fun j hj => by rw [hw9]; exact tset_far _ hj _ _ _
  have s9 : w9.heap.size = w.heap.size := by rw [hw9]; exact tset_size _ _ _ _ _
  have f9 : Frm (fun j => j = a ∨ j = b ∨ j = c) w w9 := by rw [hw9]; exact (Frm.refl _ _).tset (.inl (.inl rfl)) _ _ _
  simp only [tset] at hw9
  rw [← hw9]
  obtain ⟨w10, hw10⟩ : ∃ w10, w10 = (w9.setCell ⟨b, 0, none⟩ (.int .i64 p)).setCell ⟨c, 0, none⟩ (.iface 89 (.int .i64 k)) := ⟨_, rfl⟩
  have o10 : ∀ j, j ≠ b → j ≠ c → w10.heap[j]? = w9.heap[j]? := fun j hb hc => by
    rw [hw10, Below.heap_setCell _ _ _ _ (by simpa using hc), Below.heap_setCell _ _ _ _ (by simpa using hb)]
  have b10 : w10.heap[b]? = some (.cells #[.int .i64 p] 3 (0, 0)) := by
    rw [hw10, Below.heap_setCell _ _ _ _ (by simpa using hbc)]
    have h2' : w9.heap[b]? = _ := (o9 b (Ne.symm hab)).trans h2
    simp [World.setCell, Array.getElem?_modify, h2']
  have c10 : w10.heap[c]? = some (.cells #[.iface 89 (.int .i64 k)] 28 (0, 0)) := by
    rw [hw10]
    have h3' : (w9.setCell ⟨b, 0, none⟩ (.int .i64 p)).heap[c]? = _ := (Below.heap_setCell _ _ _ _ (by simpa using Ne.symm hbc)).trans ((o9 c (Ne.symm hac)).trans h3)
    simp [World.setCell, Array.getElem?_modify] at h3' ⊢
    simp [h3']
  have f10 : Frm (fun j => j = a ∨ j = b ∨ j = c) w w10 := by rw [hw10]; exact (f9.setCell (p := ⟨b, 0, none⟩) (.inl (.inr (.inl rfl))) _).setCell (p := ⟨c, 0, none⟩) (.inl (.inr (.inr rfl))) _
  have s10 : w10.heap.size = w.heap.size := by rw [hw10]; simp [s9]
  rw [← hw10]
  have key : TV3 (w10.alloc (.cells #[.int .i64 p, .iface 89 (.int .i64 k)] 147)).drew a b c (.int .u8 0) (.int .i64 0) (.slice none 0 0) (.int .i64 p) (.iface 89 (.int .i64 k)) :=
    ⟨(heap_alloc_old w10 _ (by omega)).trans ((o10 a hab hac).trans v9), (heap_alloc_old w10 _ (by omega)).trans b10, (heap_alloc_old w10 _ (by omega)).trans c10⟩
  have frm := (f10.alloc (.cells #[.int .i64 p, .iface 89 (.int .i64 k)] 147)).drew
  have far : ∀ j, j < w.heap.size → j ≠ a → j ≠ b → j ≠ c → (w10.alloc (.cells #[.int .i64 p, .iface 89 (.int .i64 k)] 147)).drew.heap[j]? = w.heap[j]? := fun j h1 h2 h3 h4 => (heap_alloc_old w10 _ (by omega)).trans ((o10 j h3 h4).trans (o9 j h2))
  exact ⟨rfl, _, rfl, .tuple #[], by simp [results, Tryz.results83, go_sem], rfl, rfl, key, far, frm⟩
set_option maxRecDepth 100000 in
theorem catch_idle (a b c : Nat) (w : World) :
    CallsD Tryz.prog 83 #[.pointer (some ⟨a, 0, none⟩), .pointer (some ⟨b, 0, none⟩), .pointer (some ⟨c, 0, none⟩)] .returning w fun e u' w' => e = .returned (.tuple #[]) ∧ u' = .returning ∧ w' = w := by
  refine callsD_of_wpS Tryz.func83 rfl fun c₀ cs hu => ?_
  apply wpS_seq
  apply wpS_region
  simp [wpOpsS, go_sem, recoverD, hu, Tryz.ntmps83, Exit.thenS]
  refine wpS_of_wp ?_
  rw [frame_eq]
  go_wp2_with fail
  cases c₀
  simp_all [bodyPostS, results, Tryz.results83]
theorem TV3.put {w : World} {a b c : Nat} {x y z u v : Value} (h : TV3 w a b c x y z u v) (hab : a ≠ b) (hac : a ≠ c) (hbc : b ≠ c) (x' y' z' u' v' : Value) : TV3 (((tset w a x' y' z').setCell ⟨b, 0, none⟩ u').setCell ⟨c, 0, none⟩ v') a b c x' y' z' u' v' ∧
    (∀ j, j ≠ a → j ≠ b → j ≠ c → (((tset w a x' y' z').setCell ⟨b, 0, none⟩ u').setCell ⟨c, 0, none⟩ v').heap[j]? = w.heap[j]?) ∧ Frm (fun j => j = a ∨ j = b ∨ j = c) w (((tset w a x' y' z').setCell ⟨b, 0, none⟩ u').setCell ⟨c, 0, none⟩ v') := by
  obtain ⟨h1, h2, h3⟩ := h
  obtain ⟨w9, hw9⟩ : ∃ w9, w9 = tset w a x' y' z' := ⟨_, rfl⟩
  have v9 : TVar w9 a x' y' z' := by rw [hw9]; exact h1.put _ _ _
  have o9 : ∀ j, j ≠ a → w9.heap[j]? = w.heap[j]? := fun j hj => by rw [hw9]; exact tset_far _ hj _ _ _
  have f9 : Frm (fun j => j = a ∨ j = b ∨ j = c) w w9 := by rw [hw9]; exact (Frm.refl _ _).tset (.inl (.inl rfl)) _ _ _
  rw [← hw9]
  have o10 : ∀ j, j ≠ b → j ≠ c → ((w9.setCell ⟨b, 0, none⟩ u').setCell ⟨c, 0, none⟩ v').heap[j]? = w9.heap[j]? := fun j hb hc => by
    rw [Below.heap_setCell _ _ _ _ (by simpa using hc), Below.heap_setCell _ _ _ _ (by simpa using hb)]
  refine ⟨⟨(o10 a hab hac).trans v9, ?_, ?_⟩, fun j h1 h2 h3 => (o10 j h2 h3).trans (o9 j h1), (f9.setCell (p := ⟨b, 0, none⟩) (.inl (.inr (.inl rfl))) _).setCell (p := ⟨c, 0, none⟩) (.inl (.inr (.inr rfl))) _⟩
  · rw [Below.heap_setCell _ _ _ _ (by simpa using hbc)]
    have h2' : w9.heap[b]? = _ := (o9 b (Ne.symm hab)).trans h2
    simp [World.setCell, Array.getElem?_modify, h2']
  · have h3' : (w9.setCell ⟨b, 0, none⟩ u').heap[c]? = _ := (Below.heap_setCell _ _ _ _ (by simpa using Ne.symm hbc)).trans ((o9 c (Ne.symm hac)).trans h3)
    simp [World.setCell, Array.getElem?_modify] at h3' ⊢
    simp [h3']
def parsedOf (n : Nat) (r : Rd) : Parsed := match r with
  | .ok t [] => .tree t
  | .ok _ (_ :: r) => .fault (n - (r.length + 1)) 2
  | .bad k e => .fault (n - k) e
theorem parse_of {s : List UInt8} (h : ¬ 120 < s.length) : parseT s = parsedOf s.length (wholeRd s.length 0 s) := by
  unfold parseT parsedOf; rw [if_neg h]; rfl
/-- How parse reads: the variables of its three results, made first. -/
def ParsePost (s : ByteArray) (w : World) (e : Ending) (w' : World) : Prop := match parseT s.data.toList with
  | .tree t => ∃ o n A c, e = .returned (.tuple #[.agg (trA o n A c), .int .i64 0, .nilIface]) ∧ TrC (w.heap.size ≤ ·) w' t (trL o n A c)
  | .fault p k => e = .returned (.tuple #[.agg (trA 0 0 none 0), .int .i64 (p : Int), .iface 89 (.int .i64 k)])
/-- The variables of Atoi's errors. -/
def ErrVars (w : World) : Prop := (∃ ev, w.cell? ⟨Tryz.atoi_ren.g 15, 0, none⟩ = some ev ∧ (ev = .nilIface ∨ ∃ te pe, ev = .iface te pe)) ∧ (∃ ev, w.cell? ⟨Tryz.atoi_ren.g 16, 0, none⟩ = some ev ∧ (ev = .nilIface ∨ ∃ te pe, ev = .iface te pe))
theorem ErrVars.below {w w' : World} (h : ErrVars w) (hb : Below w.heap.size w w') : ErrVars w' := by
  obtain ⟨⟨e1, h1, h2⟩, ⟨e2, h3, h4⟩⟩ := h
  exact ⟨⟨e1, (hb.cell (cell_lt h1)).trans h1, h2⟩, ⟨e2, (hb.cell (cell_lt h3)).trans h3, h4⟩⟩
theorem ErrVars.num {w : World} (h : ErrVars w) {w' : World} (hb : Below w.heap.size w w') {R : Nat} (hR : w.heap.size ≤ R) : NumVars w' R := by
  obtain ⟨⟨e1, h1, h2⟩, ⟨e2, h3, h4⟩⟩ := h
  have l1 : Tryz.atoi_ren.g 15 < w.heap.size := cell_lt h1
  have l2 : Tryz.atoi_ren.g 16 < w.heap.size := cell_lt h3
  exact ⟨⟨by omega, e1, (hb.cell l1).trans h1, h2⟩, ⟨by omega, e2, (hb.cell l2).trans h3, h4⟩⟩
set_option maxRecDepth 100000 in
set_option maxHeartbeats 4000000 in
theorem parse_reads (s : ByteArray) (w : World) (hv : ErrVars w) (hsz : s.size ≤ maxLen) : Calls Tryz.prog 37 #[.string s] w fun e w' => ParsePost s w e w' ∧ Below w.heap.size w w' := by
  have hmf : ∀ (fn : Fn) (first cap : Array Value) (w : World), (Instr.makeFunc fn first cap).run Tryz.prog w = .ok (.func fn first cap) w := fun _ _ _ _ => rfl
  have hln : s.data.toList.length = s.size := by simp
  by_cases hlong : 120 < s.size
  · have d1 : decide ((120 : Int) < (s.size : Int)) = true := decide_eq_true (by omega)
    have d2 : decide (120 < s.size) = true := decide_eq_true hlong
    go_enter_defers Tryz.func37, Tryz.ntmps37
    go_wp2_with fail
    have hp : parseT s.data.toList = .fault 0 4 := by unfold parseT; rw [if_pos (by omega)]
    refine ⟨.tuple #[.agg (trA 0 0 none 0), .int .i64 0, .iface 89 (.int .i64 4)], ?_, ?_, ((((Below.refl _ _).alloc (Nat.le_refl _) _).alloc (by simp) _).alloc (by simp; omega) _)⟩
    · simp only [results, Tryz.results37]
      simp [go_sem, trA]
    · unfold ParsePost; rw [hp]; rfl
  · have d1 : decide ((120 : Int) < (s.size : Int)) = false := decide_eq_false (by omega)
    have d2 : decide (120 < s.size) = false := decide_eq_false hlong
    go_enter_defers Tryz.func37, Tryz.ntmps37
    go_wp2_with fail
    obtain ⟨W1, hW1⟩ : ∃ W1, W1 = (((w.alloc (.cells #[.int .u8 0, .int .i64 0, .slice none 0 0] 86)).alloc (.cells #[.int .i64 0] 3)).alloc (.cells #[.nilIface] 28)).alloc (.cells #[.string s, .int .i64 0, .int .i64 0] 151) := ⟨_, rfl⟩
    have hW : W1.heap.size = w.heap.size + 4 ∧ TV3 W1 w.heap.size (w.heap.size + 1) (w.heap.size + 2) (.int .u8 0) (.int .i64 0) (.slice none 0 0) (.int .i64 0) .nilIface ∧ RdAt W1 (w.heap.size + 3) s 0 0 ∧ Below w.heap.size w W1 := by
      obtain ⟨wa, hwa⟩ : ∃ wa, wa = w.alloc (.cells #[.int .u8 0, .int .i64 0, .slice none 0 0] 86) := ⟨_, rfl⟩
      have sa : wa.heap.size = w.heap.size + 1 := by rw [hwa]; simp
      have na : TVar wa w.heap.size (.int .u8 0) (.int .i64 0) (.slice none 0 0) := by rw [hwa]; exact TVar.new _ _ _ _
      have ba : Below w.heap.size w wa := by rw [hwa]; exact (Below.refl _ _).alloc (Nat.le_refl _) _
      rw [← hwa] at hW1
      obtain ⟨wb, hwb⟩ : ∃ wb, wb = wa.alloc (.cells #[.int .i64 0] 3) := ⟨_, rfl⟩
      have sb : wb.heap.size = w.heap.size + 2 := by rw [hwb]; simp [sa]
      have nb : wb.heap[w.heap.size + 1]? = some (.cells #[.int .i64 0] 3 (0, 0)) := by rw [hwb, ← sa]; exact heap_alloc_new _ _
      have ob : ∀ j, j < wa.heap.size → wb.heap[j]? = wa.heap[j]? := fun j hj => by rw [hwb]; exact heap_alloc_old _ _ hj
      have bb : Below w.heap.size w wb := by rw [hwb]; exact ba.alloc (by omega) _
      rw [← hwb] at hW1
      obtain ⟨wc, hwc⟩ : ∃ wc, wc = wb.alloc (.cells #[.nilIface] 28) := ⟨_, rfl⟩
      have sc : wc.heap.size = w.heap.size + 3 := by rw [hwc]; simp [sb]
      have nc : wc.heap[w.heap.size + 2]? = some (.cells #[.nilIface] 28 (0, 0)) := by rw [hwc, ← sb]; exact heap_alloc_new _ _
      have oc : ∀ j, j < wb.heap.size → wc.heap[j]? = wb.heap[j]? := fun j hj => by rw [hwc]; exact heap_alloc_old _ _ hj
      have bc : Below w.heap.size w wc := by rw [hwc]; exact bb.alloc (by omega) _
      rw [← hwc] at hW1
      have od : ∀ j, j < wc.heap.size → W1.heap[j]? = wc.heap[j]? := fun j hj => by rw [hW1]; exact heap_alloc_old _ _ hj
      refine ⟨by rw [hW1]; simp [sc], ⟨(od _ (by omega)).trans ((oc _ (by omega)).trans ((ob _ (by omega)).trans na)), (od _ (by omega)).trans ((oc _ (by omega)).trans nb), (od _ (by omega)).trans nc⟩, by rw [hW1, ← sc]; exact heap_alloc_new _ _, by rw [hW1]; exact bc.alloc (by omega) _⟩
    obtain ⟨hs1, hT1, hR1, hB1⟩ := hW
    have HRL : Hid (RdL W1 (w.heap.size + 3) s s.data.toList 0) := ⟨by omega, by rw [hln, Nat.sub_self]; rfl, by rw [hln, Nat.sub_self]; exact hR1⟩
    have HT1 := Lib.hid hT1
    have HB1 := Lib.hid hB1
    have hnv : NumVars W1 (w.heap.size + 3) := hv.num hB1 (by omega)
    obtain ⟨r0, hr0⟩ : ∃ r0, r0 = wholeRd s.data.toList.length 0 s.data.toList := ⟨_, rfl⟩
    have hcall := whole_all s.data.toList.length (w.heap.size + 3) s s.data.toList 0 W1 HRL.out (by omega) (by omega) (Nat.le_refl _) hnv
    rw [← hr0] at hcall
    have hpt0 := parse_of (s := s.data.toList) (by omega)
    rw [← hr0] at hpt0
    have HPT := Lib.hid hpt0
    clear hpt0
    rw [← hW1]
    clear hW1 hT1 hR1 hB1 hr0 d1 d2
    refine hcall.mono ?_
    clear hcall
    intro e w2 hr
    cases r0 with
    | bad k j =>
      obtain ⟨rfl, hp, hf⟩ := hr
      simp only [faultE]
      have hpt : parseT s.data.toList = .fault (s.size - k) j := by rw [HPT.out, hln]; rfl
      have hT2 : TV3 w2 w.heap.size (w.heap.size + 1) (w.heap.size + 2) (.int .u8 0) (.int .i64 0) (.slice none 0 0) (.int .i64 0) .nilIface := ⟨(hf.block _ (by omega) (by omega)).trans HT1.out.1, (hf.block _ (by omega) (by omega)).trans HT1.out.2.1, (hf.block _ (by omega) (by omega)).trans HT1.out.2.2⟩
      have hB2 : Below w.heap.size w w2 := HB1.out.trans (hf.below (by omega) (fun k h => by omega))
      refine leaves_cons (f := 83) (args := #[.pointer (some ⟨w.heap.size, 0, none⟩), .pointer (some ⟨w.heap.size + 1, 0, none⟩), .pointer (some ⟨w.heap.size + 2, 0, none⟩)]) (by simp) (by simp [go_sem]) ?_
      refine (catch_fault w.heap.size (w.heap.size + 1) (w.heap.size + 2) (s.size - k) j _ _ _ _ _ [] w2 hT2 (by omega) (by omega) (by omega)).mono ?_
      rintro e u' w3 ⟨rfl, rfl, hT3, hfar, hF3⟩
      obtain ⟨q0, q1, q2, qf⟩ := hT3.1.cells
      have b0 : w3.cell? ⟨w.heap.size + 1, 0, none⟩ = some (.int .i64 ((s.size - k : Nat) : Int)) := (cell_of_row w3 _ 0 _ _ _ hT3.2.1).trans rfl
      have e0 : w3.cell? ⟨w.heap.size + 2, 0, none⟩ = some (.iface 89 (.int .i64 j)) := (cell_of_row w3 _ 0 _ _ _ hT3.2.2).trans rfl
      refine ⟨.tuple #[.agg (trA 0 0 none 0), .int .i64 ((s.size - k : Nat) : Int), .iface 89 (.int .i64 j)], ?_, ?_, hB2.trans (hF3.below (hB2.size) (fun k h => by omega))⟩
      · simp only [results, Tryz.results37]
        simp [go_sem, q0, q1, q2, b0, e0, trA]
      · unfold ParsePost; rw [hpt]
    | ok t rest =>
      obtain ⟨o, n, A, c, rfl, ht, hl, hf⟩ := hr
      have hT2 : TV3 w2 w.heap.size (w.heap.size + 1) (w.heap.size + 2) (.int .u8 0) (.int .i64 0) (.slice none 0 0) (.int .i64 0) .nilIface := ⟨(hf.block _ (by omega) (by omega)).trans HT1.out.1, (hf.block _ (by omega) (by omega)).trans HT1.out.2.1, (hf.block _ (by omega) (by omega)).trans HT1.out.2.2⟩
      have hB2 : Below w.heap.size w w2 := HB1.out.trans (hf.below (by omega) (fun k h => by omega))
      have h2s := hf.size
      obtain ⟨W3, hW3⟩ : ∃ W3, W3 = tset w2 w.heap.size (.int .u8 o) (.int .i64 n) (.slice A c c) := ⟨_, rfl⟩
      have o3 : ∀ j, j ≠ w.heap.size → W3.heap[j]? = w2.heap[j]? := fun j hj => by rw [hW3]; exact tset_far _ hj _ _ _
      have s3 : W3.heap.size = w2.heap.size := by rw [hW3]; exact tset_size _ _ _ _ _
      have hT3 : TV3 W3 w.heap.size (w.heap.size + 1) (w.heap.size + 2) (.int .u8 o) (.int .i64 n) (.slice A c c) (.int .i64 0) .nilIface := ⟨by rw [hW3]; exact hT2.1.put _ _ _, (o3 _ (by omega)).trans hT2.2.1, (o3 _ (by omega)).trans hT2.2.2⟩
      have hL3 : RdL W3 (w.heap.size + 3) s rest 0 := hl.keep (o3 _ (by omega))
      have hB3 : Below w.heap.size w W3 := by
        rw [hW3]
        have h := (Frm.ofBelow (F := fun j => j = w.heap.size) hB2).tset (k := w.heap.size) (.inl rfl) (.int .u8 o) (.int .i64 n) (.slice A c c)
        exact h.below (Nat.le_refl _) (fun k h => by omega)
      have hTr2 : TrC (fun j => w.heap.size + 2 < j) W3 t (trL o n A c) := (ht.in_ (G := fun j => W1.heap.size ≤ j) fun j h _ => h).keep (fun j hj => o3 j (by omega)) |>.in_ fun j hj _ => by omega
      have HTR2 := Lib.hid hTr2
      have hTr : TrC (w.heap.size < ·) W3 t (trL o n A c) := (ht.in_ (G := fun j => W1.heap.size ≤ j) fun j h _ => h).keep (fun j hj => o3 j (by omega)) |>.in_ fun j hj _ => by omega
      obtain ⟨v0, v1, v2, vf⟩ := hT2.1.cells
      obtain ⟨p0, p1, p2, pf⟩ := hL3.2.2.cells
      have HT3 := Lib.hid hT3
      have HL3 := Lib.hid hL3
      have HB3 := Lib.hid hB3
      have HTR := Lib.hid hTr
      simp only [tset] at hW3
      have hc3 : W3.cell? ⟨w.heap.size + 1 + 1 + 1, 1, none⟩ = some (.int .i64 ((s.size - rest.length : Nat) : Int)) := p1
      clear ht hl hf hT2 hB2 hT3 hL3 hB3 hTr hTr2 o3 p0 p1 p2 pf HRL HT1 HB1 hnv
      simp only [trA]
      cases rest with
      | nil =>
        have hpt : parseT s.data.toList = .tree t := HPT.out
        have d3 : decide (s.size < s.size) = false := by simp
        simp only [List.length_nil, Nat.sub_zero] at hc3
        go_upto_region 6 with (fail)
        rw [← hW3]
        clear v0 v1 v2 vf hW3
        obtain ⟨v0, v1, v2, vf⟩ := HT3.out.1.cells
        go_upto_region 8 with (fail)
        have b0 : W3.cell? ⟨w.heap.size + 1, 0, none⟩ = some (.int .i64 0) := (cell_of_row W3 _ 0 _ _ _ HT3.out.2.1).trans rfl
        have e0 : W3.cell? ⟨w.heap.size + 1 + 1, 0, none⟩ = some .nilIface := (cell_of_row W3 _ 0 _ _ _ HT3.out.2.2).trans rfl
        have bf : W3.frozen? ⟨w.heap.size + 1, 0, none⟩ = false := by simp [World.frozen?, HT3.out.2.1]
        have ef : W3.frozen? ⟨w.heap.size + 1 + 1, 0, none⟩ = false := by simp [World.frozen?, show W3.heap[w.heap.size + 1 + 1]? = _ from HT3.out.2.2]
        go_wp2_with fail
        obtain ⟨hT5, hO5, hF5⟩ := HT3.out.put (by omega) (by omega) (by omega) (.int .u8 o) (.int .i64 n) (.slice A c c) (.int .i64 0) .nilIface
        simp only [tset] at hT5 hO5 hF5
        obtain ⟨W5, hW5⟩ : ∃ W5, W5 = (((((W3.setCell ⟨w.heap.size, 0, none⟩ (.int .u8 o)).setCell ⟨w.heap.size, 1, none⟩ (.int .i64 n)).setCell ⟨w.heap.size, 2, none⟩ (.slice A c c)).setCell ⟨w.heap.size + 1, 0, none⟩ (.int .i64 0)).setCell ⟨w.heap.size + 1 + 1, 0, none⟩ .nilIface) := ⟨_, rfl⟩
        have hT6 : TV3 W5 w.heap.size (w.heap.size + 1) (w.heap.size + 2) (.int .u8 o) (.int .i64 n) (.slice A c c) (.int .i64 0) .nilIface := by rw [hW5]; exact hT5
        have hO6 : ∀ j, j ≠ w.heap.size → j ≠ w.heap.size + 1 → j ≠ w.heap.size + 2 → W5.heap[j]? = W3.heap[j]? := by rw [hW5]; exact hO5
        have hF6 : Frm (fun j => j = w.heap.size ∨ j = w.heap.size + 1 ∨ j = w.heap.size + 2) W3 W5 := by rw [hW5]; exact hF5
        rw [← hW5]
        clear hT5 hO5 hF5 hW5
        obtain ⟨q0, q1, q2, qf⟩ := hT6.1.cells
        have b5 : W5.cell? ⟨w.heap.size + 1, 0, none⟩ = some (.int .i64 0) := (cell_of_row W5 _ 0 _ _ _ hT6.2.1).trans rfl
        have e5 : W5.cell? ⟨w.heap.size + 1 + 1, 0, none⟩ = some .nilIface := (cell_of_row W5 _ 0 _ _ _ hT6.2.2).trans rfl
        refine leaves_cons (f := 83) (args := #[.pointer (some ⟨w.heap.size, 0, none⟩), .pointer (some ⟨w.heap.size + 1, 0, none⟩), .pointer (some ⟨w.heap.size + 2, 0, none⟩)]) (by simp) (by simp [go_sem]) ?_
        refine (catch_idle w.heap.size (w.heap.size + 1) (w.heap.size + 2) W5).mono ?_
        rintro e u' w4 ⟨rfl, rfl, rfl⟩
        refine ⟨.tuple #[.agg (trA o n A c), .int .i64 0, .nilIface], ?_, ?_, HB3.out.trans (hF6.below HB3.out.size (fun k h => by omega))⟩
        · simp only [results, Tryz.results37]
          simp [go_sem, q0, q1, q2, b5, e5, trA]
        · unfold ParsePost; rw [hpt]
          refine ⟨o, n, A, c, rfl, ?_⟩
          have h7 : TrC (fun j => w.heap.size + 2 < j) W3 t (trL o n A c) := HTR2.out
          exact (h7.keep fun j hj => hO6 j (by omega) (by omega) (by omega)).in_ fun j hj _ => by omega
      | cons x r =>
        have hll := HL3.out.1
        simp only [List.length_cons] at hll
        have hpt : parseT s.data.toList = .fault (s.size - (r.length + 1)) 2 := by rw [HPT.out, hln]; rfl
        have d3 : decide (s.size - (r.length + 1) < s.size) = true := decide_eq_true (by omega)
        simp only [List.length_cons] at hc3
        go_upto_region 6 with (fail)
        rw [← hW3]
        clear v0 v1 v2 vf hW3
        go_wp2_with fail
        refine (fail_ok (w.heap.size + 3) (s.size - (r.length + 1)) 2 W3).mono ?_
        rintro e w5 ⟨rfl, rfl⟩
        simp only [faultE]
        refine leaves_cons (f := 83) (args := #[.pointer (some ⟨w.heap.size, 0, none⟩), .pointer (some ⟨w.heap.size + 1, 0, none⟩), .pointer (some ⟨w.heap.size + 2, 0, none⟩)]) (by simp) (by simp [go_sem]) ?_
        refine (catch_fault w.heap.size (w.heap.size + 1) (w.heap.size + 2) (s.size - (r.length + 1)) 2 _ _ _ _ _ [] _ HT3.out (by omega) (by omega) (by omega)).mono ?_
        rintro e u' w6 ⟨rfl, rfl, hT6, hfar, hF6⟩
        obtain ⟨q0, q1, q2, qf⟩ := hT6.1.cells
        have b0 : w6.cell? ⟨w.heap.size + 1, 0, none⟩ = some (.int .i64 ((s.size - (r.length + 1) : Nat) : Int)) := (cell_of_row w6 _ 0 _ _ _ hT6.2.1).trans rfl
        have e0 : w6.cell? ⟨w.heap.size + 2, 0, none⟩ = some (.iface 89 (.int .i64 2)) := (cell_of_row w6 _ 0 _ _ _ hT6.2.2).trans rfl
        refine ⟨.tuple #[.agg (trA 0 0 none 0), .int .i64 ((s.size - (r.length + 1) : Nat) : Int), .iface 89 (.int .i64 2)], ?_, ?_, HB3.out.trans (hF6.below HB3.out.size (fun k h => by omega))⟩
        · simp only [results, Tryz.results37]
          simp [go_sem, q0, q1, q2, b0, e0, trA]
        · unfold ParsePost; rw [hpt]
end Go.Proofs.YtfndhfekbbbliaaGreatDoor

/-
  Expressions, plain: the shortest text of a tree; how long it is, how deep it goes; what is read is no shorter and no less deep. No condition: plain definitions and lemmas.
-/
namespace Go.Proofs.YtfndhfekbbbliaaGreatDoor
open Go.RowKit
set_option linter.unusedVariables false

def tightOp (op : UInt8) : Nat := if op = 61 ∨ op = 60 ∨ op = 62 then 1 else if op = 43 ∨ op = 45 then 2 else if op = 42 ∨ op = 47 ∨ op = 37 then 3 else 5
def Tr.tight : Tr → Nat
  | .num _ => 5
  | .nam _ => 5
  | .neg _ => 4
  | .bin op _ _ => tightOp op
  | .sel _ _ _ => 0
def brk (b : Bool) (r : List UInt8) : List UInt8 := if b then 40 :: (r ++ [41]) else r
def less_ (t : Tr) (least : Nat) : Bool := decide (t.tight < least)
/-- How tight the first operand of an operator so tight has to be. -/
def leftOf (k : Nat) : Nat := if k = 1 then 2 else k
def Tr.raw : Tr → List UInt8
  | .num k => Lib.itoa k
  | .nam n => if n then [110] else [115]
  | .neg a => 45 :: brk (decide (a.tight < 4)) a.raw
  | .bin op a b => if op = 109 then 109 :: 105 :: 110 :: 40 :: (a.raw ++ 44 :: (b.raw ++ [41])) else if op = 77 then 109 :: 97 :: 120 :: 40 :: (a.raw ++ 44 :: (b.raw ++ [41]))
    else brk (decide (a.tight < leftOf (tightOp op))) a.raw ++ op :: brk (decide (b.tight < tightOp op + 1)) b.raw
  | .sel a b c => brk (decide (a.tight < 1)) a.raw ++ 63 :: (b.raw ++ 58 :: c.raw)
/-- A tree's text where it has to be so tight. -/
def Tr.at_ (L : Nat) (t : Tr) : List UInt8 := brk (decide (t.tight < L)) t.raw
def Tr.need : Tr → Nat
  | .num _ => 0
  | .nam _ => 0
  | .neg a => 1 + (a.need + if a.tight < 4 then 1 else 0)
  | .bin op a b => if op = 109 ∨ op = 77 then 1 + max a.need b.need else max (a.need + if a.tight < leftOf (tightOp op) then 1 else 0) (b.need + if b.tight < tightOp op + 1 then 1 else 0)
  | .sel a b c => max (a.need + if a.tight < 1 then 1 else 0) (max (1 + b.need) (1 + c.need))
def Tr.needs (L : Nat) (t : Tr) : Nat := t.need + if t.tight < L then 1 else 0
def isOp (op : UInt8) : Bool := op == 109 || op == 77 || op == 61 || op == 60 || op == 62 || op == 43 || op == 45 || op == 42 || op == 47 || op == 37
def Tr.fine : Tr → Prop
  | .num k => 0 ≤ k ∧ k ≤ 9223372036854775807
  | .nam _ => True
  | .neg a => a.fine
  | .bin op a b => isOp op = true ∧ a.fine ∧ b.fine
  | .sel a b c => a.fine ∧ b.fine ∧ c.fine
theorem brk_length (b : Bool) (r : List UInt8) : (brk b r).length = r.length + if b then 2 else 0 := by cases b <;> simp [brk]
theorem at_length (L : Nat) (t : Tr) : (t.at_ L).length = t.raw.length + if t.tight < L then 2 else 0 := by
  unfold Tr.at_; rw [brk_length]; by_cases h : t.tight < L <;> simp [h]
theorem at_mono {L M : Nat} (h : L ≤ M) (t : Tr) : (t.at_ L).length ≤ (t.at_ M).length := by
  rw [at_length, at_length]; split <;> split <;> omega
theorem needs_mono {L M : Nat} (h : L ≤ M) (t : Tr) : t.needs L ≤ t.needs M := by
  unfold Tr.needs; split <;> split <;> omega
theorem at_zero (t : Tr) : t.at_ 0 = t.raw := by unfold Tr.at_; simp [brk]
theorem needs_zero (t : Tr) : t.needs 0 = t.need := by unfold Tr.needs; simp
theorem at_up {L : Nat} (t : Tr) : (t.at_ L).length ≤ t.raw.length + 2 := by rw [at_length]; split <;> omega
theorem needs_up {L : Nat} (t : Tr) : t.needs L ≤ t.need + 1 := by unfold Tr.needs; split <;> omega

/-! ### Digits -/
theorem dec_step {u : Nat} (h : ¬ u < 10) : Lib.decDigits u = Lib.decDigits (u / 10) ++ [UInt8.ofNat (48 + u % 10)] := by
  rw [Lib.decDigits, dif_neg h]
theorem dec_small {u : Nat} (h : u < 10) : Lib.decDigits u = [UInt8.ofNat (48 + u)] := by rw [Lib.decDigits, dif_pos h]
theorem digVal_snoc (l : List UInt8) (c : UInt8) : digVal (l ++ [c]) = digVal l * 10 + (c.toNat - 48) := by simp [digVal, List.foldl_append]
theorem dig_byte {k : Nat} (h : k < 10) : (UInt8.ofNat (48 + k)).toNat = 48 + k ∧ isDig (UInt8.ofNat (48 + k)) = true := by
  have e : (UInt8.ofNat (48 + k)).toNat = 48 + k := by rw [UInt8.toNat_ofNat']; omega
  refine ⟨e, ?_⟩
  unfold isDig
  rw [e]; simp; omega
theorem dec_val (u : Nat) : digVal (Lib.decDigits u) = u := by
  induction u using Nat.strongRecOn with
  | _ u ih =>
    by_cases h : u < 10
    · rw [dec_small h]; simp [digVal]; omega
    · rw [dec_step h, digVal_snoc, ih (u / 10) (by omega), (dig_byte (by omega)).1]; omega
theorem dec_digs (u : Nat) : ∀ c ∈ Lib.decDigits u, isDig c = true := by
  induction u using Nat.strongRecOn with
  | _ u ih =>
    by_cases h : u < 10
    · rw [dec_small h]; intro c hc; rw [List.mem_singleton.1 hc]; exact (dig_byte h).2
    · rw [dec_step h]; intro c hc
      rcases List.mem_append.1 hc with hc | hc
      · exact ih (u / 10) (by omega) c hc
      · rw [List.mem_singleton.1 hc]; exact (dig_byte (by omega)).2
theorem dec_head (u : Nat) (h : 0 < u) : ∃ c r, Lib.decDigits u = c :: r ∧ c ≠ 48 := by
  induction u using Nat.strongRecOn with
  | _ u ih =>
    by_cases hu : u < 10
    · rw [dec_small hu]
      refine ⟨_, _, rfl, fun e => ?_⟩
      have := (dig_byte hu).1
      rw [e] at this
      have h48 : (48 : UInt8).toNat = 48 := rfl
      omega
    · obtain ⟨c, r, e, hc⟩ := ih (u / 10) (by omega) (by omega)
      rw [dec_step hu, e]
      exact ⟨c, _, rfl, hc⟩
theorem digVal_lt (ds : List UInt8) (hd : ∀ c ∈ ds, isDig c = true) (a : Nat) : ds.foldl (fun a c => a * 10 + (c.toNat - 48)) a < (a + 1) * 10 ^ ds.length := by
  induction ds generalizing a with
  | nil => simp
  | cons c r ih =>
    have hc := hd c List.mem_cons_self
    unfold isDig at hc
    rw [Bool.and_eq_true, decide_eq_true_iff, decide_eq_true_iff] at hc
    have h1 := ih (fun c h => hd c (List.mem_cons_of_mem _ h)) (a * 10 + (c.toNat - 48))
    rw [List.foldl_cons, List.length_cons, Nat.pow_succ]
    have h2 : (a * 10 + (c.toNat - 48) + 1) * 10 ^ r.length ≤ ((a + 1) * 10) * 10 ^ r.length := Nat.mul_le_mul_right _ (by omega)
    have h3 : (a + 1) * 10 * 10 ^ r.length = (a + 1) * (10 ^ r.length * 10) := by rw [Nat.mul_assoc, Nat.mul_comm 10]
    omega
theorem dec_len (ds : List UInt8) (h : ds ≠ []) (hd : ∀ c ∈ ds, isDig c = true) : (Lib.decDigits (digVal ds)).length ≤ ds.length := by
  have hlt : digVal ds < 10 ^ ds.length := by have := digVal_lt ds hd 0; simpa [digVal] using this
  have hlen : 0 < ds.length := List.length_pos_iff.2 h
  have key : ∀ n u : Nat, 0 < n → u < 10 ^ n → (Lib.decDigits u).length ≤ n := by
    intro n
    induction n with
    | zero => intro u h; omega
    | succ n ih =>
      intro u _ hu
      by_cases h10 : u < 10
      · rw [dec_small h10]; simp
      · have hn : 0 < n := by
          rcases Nat.eq_zero_or_pos n with rfl | h
          · simp at hu; omega
          · exact h
        rw [dec_step h10, List.length_append, List.length_singleton]
        have := ih (u / 10) hn (by rw [Nat.pow_succ] at hu; omega)
        omega
  exact key _ _ hlen hlt
theorem itoa_nat_ (u : Nat) : Lib.itoa (u : Int) = Lib.decDigits u := by
  unfold Lib.itoa; rw [if_neg (by omega)]; simp
theorem numOf_dig (l : List UInt8) : ∀ c ∈ numOf l, isDig c = true := by
  have h : ∀ c ∈ digsOf l, isDig c = true := fun c hc => by
    unfold digsOf at hc
    exact List.all_eq_true.1 List.all_takeWhile c hc
  unfold numOf
  split
  · rename_i c d r e
    rw [e] at h
    split
    · intro c hc; rw [List.mem_singleton.1 hc]; decide
    · exact h
  · exact h

/-! ### What is read is no shorter than its text, and goes no less deep -/
def Fits (L d : Nat) (l : List UInt8) (t : Tr) (r : List UInt8) : Prop := t.fine ∧ (t.at_ L).length + r.length ≤ l.length ∧ d + t.needs L ≤ 20
theorem Fits.down {L M d : Nat} {l r : List UInt8} {t : Tr} (h : Fits M d l t r) (hL : L ≤ M) : Fits L d l t r :=
  ⟨h.1, by have := h.2.1; have := at_mono hL t; omega, by have := h.2.2; have := needs_mono hL t; omega⟩
def FitsX (L : Nat) (X : Reads) : Prop := ∀ d l t r, d ≤ 20 → X d l = .ok t r → Fits L d l t r
theorem min_len_ (op : UInt8) (h : op = 109 ∨ op = 77) (a b : Tr) : ((Tr.bin op a b).raw).length = a.raw.length + b.raw.length + 6 ∧ (Tr.bin op a b).need = 1 + max a.need b.need ∧ (Tr.bin op a b).tight = 5 := by
  rcases h with rfl | rfl
  · refine ⟨?_, rfl, rfl⟩; simp [Tr.raw]; omega
  · refine ⟨?_, rfl, rfl⟩; simp [Tr.raw]; omega
theorem at_of_tight {L : Nat} {t : Tr} (h : L ≤ t.tight) : t.at_ L = t.raw ∧ t.needs L = t.need := by
  unfold Tr.at_ Tr.needs
  rw [decide_eq_false (by omega), if_neg (by omega)]; exact ⟨rfl, rfl⟩
theorem two_fits {W : Reads} (hW : FitsX 0 W) (op : UInt8) (ho : op = 109 ∨ op = 77) {d : Nat} {l : List UInt8} {t : Tr} {r : List UInt8} (hd : d + 1 ≤ 20) (h : twoRd W op (d + 1) l = .ok t r) (n : Nat) (hn : n = l.length + 4) : t.fine ∧ (t.at_ 5).length + r.length ≤ n ∧ d + t.needs 5 ≤ 20 := by
  obtain ⟨a, l1, h1, h⟩ := Rd.bind_ok h
  obtain ⟨l2, rfl, h⟩ := want_ok h
  obtain ⟨b, l3, h3, h⟩ := Rd.bind_ok h
  obtain ⟨l4, rfl, h⟩ := want_ok h
  injection h with e h; subst h; subst e
  obtain ⟨a1, a2, a3⟩ := hW _ _ _ _ hd h1
  obtain ⟨b1, b2, b3⟩ := hW _ _ _ _ hd h3
  obtain ⟨m1, m2, m3⟩ := min_len_ op ho a b
  obtain ⟨e1, e2⟩ := at_of_tight (L := 5) (t := .bin op a b) (by rw [m3]; exact Nat.le_refl _)
  rw [at_zero] at a2 b2
  rw [needs_zero] at a3 b3
  rw [e1, e2, m1, m2]
  refine ⟨⟨by rcases ho with rfl | rfl <;> rfl, a1, b1⟩, ?_, ?_⟩
  · simp only [List.length_cons] at *; omega
  · omega
theorem one_fits {W : Reads} (hW : FitsX 0 W) : FitsX 5 (oneRd W) := fun d l t r hd h => by
  unfold oneRd at h
  split at h
  · obtain ⟨h20, h⟩ := deep_ok h
    exact two_fits hW 109 (.inl rfl) (by omega) h _ rfl
  · obtain ⟨h20, h⟩ := deep_ok h
    exact two_fits hW 77 (.inr rfl) (by omega) h _ rfl
  · injection h with e h; subst h; subst e
    refine ⟨trivial, ?_, ?_⟩
    · simp [at_length, Tr.raw, Tr.tight]; omega
    · simp [Tr.needs, Tr.need, Tr.tight]; exact hd
  · injection h with e h; subst h; subst e
    refine ⟨trivial, ?_, ?_⟩
    · simp [at_length, Tr.raw, Tr.tight]; omega
    · simp [Tr.needs, Tr.need, Tr.tight]; exact hd
  · obtain ⟨h20, h⟩ := deep_ok h
    obtain ⟨a, l1, h1, h⟩ := Rd.bind_ok h
    obtain ⟨l2, rfl, h⟩ := want_ok h
    injection h with e h; subst h; subst e
    obtain ⟨a1, a2, a3⟩ := hW _ _ _ _ (by omega) h1
    rw [at_zero] at a2
    rw [needs_zero] at a3
    have := at_up (L := 5) a
    have := needs_up (L := 5) a
    refine ⟨a1, ?_, by omega⟩
    simp only [List.length_cons] at *; omega
  · obtain ⟨h1, h2, rfl, rfl⟩ := num_ok h
    refine ⟨⟨by omega, by omega⟩, ?_, ?_⟩
    · obtain ⟨e1, e2⟩ := at_of_tight (L := 5) (t := .num (digVal (numOf l))) (Nat.le_refl _)
      rw [e1]
      show (Lib.itoa _).length + _ ≤ _
      rw [itoa_nat_, List.length_drop]
      have := dec_len (numOf l) h1 (numOf_dig l)
      have := numOf_le l
      omega
    · simp [Tr.needs, Tr.need, Tr.tight]; exact hd
theorem less_fits {W : Reads} (hW : FitsX 0 W) : FitsX 4 (lessRd W) := by
  intro d l
  induction l generalizing d with
  | nil => intro t r _ h; cases h
  | cons c l ih =>
    intro t r hd h
    by_cases e : c = 45
    · subst e
      rw [less_minus] at h
      obtain ⟨h20, h⟩ := deep_ok h
      obtain ⟨a, l1, h1, h⟩ := Rd.bind_ok h
      injection h with e h; subst h; subst e
      obtain ⟨a1, a2, a3⟩ := ih (d + 1) _ _ (by omega) h1
      obtain ⟨e1, e2⟩ := at_of_tight (L := 4) (t := .neg a) (Nat.le_refl _)
      refine ⟨a1, ?_, ?_⟩
      · rw [e1]
        show (45 :: a.at_ 4).length + _ ≤ _
        simp only [List.length_cons]; omega
      · rw [e2]
        show d + (1 + a.needs 4) ≤ 20
        omega
    · rw [less_other _ _ _ e] at h
      exact (one_fits hW d _ _ _ hd h).down (by decide)
/-- A row of operators, each so tight. -/
theorem loop_fits {next : Reads} {ops : List UInt8} {L : Nat} (hL : L = 2 ∨ L = 3) (hops : ∀ c ∈ ops, isOp c = true ∧ tightOp c = L ∧ c ≠ 109 ∧ c ≠ 77) (hn : FitsX (L + 1) next) (d : Nat) (hd : d ≤ 20) (l0 : List UInt8) : ∀ k a l t r, Fits L d l0 a l → loopRd (next d) ops k a l = .ok t r → Fits L d l0 t r := by
  intro k
  induction k with
  | zero => intro a l t r h0 h; injection h with e h; subst h; subst e; exact h0
  | succ k ih =>
    intro a l t r h0 h
    cases l with
    | nil => injection h with e h; subst h; subst e; exact h0
    | cons c l =>
      simp only [loopRd] at h
      split at h
      · rename_i hc
        obtain ⟨b, l1, h1, h⟩ := Rd.bind_ok h
        refine ih _ _ _ _ ?_ h
        obtain ⟨b1, b2, b3⟩ := hn _ _ _ _ hd h1
        obtain ⟨a1, a2, a3⟩ := h0
        obtain ⟨o1, o2, o3, o4⟩ := hops c hc
        have ht : (Tr.bin c a b).tight = L := o2
        have hl : leftOf L = L := by rcases hL with rfl | rfl <;> rfl
        obtain ⟨e1, e2⟩ := at_of_tight (L := L) (t := .bin c a b) (by rw [ht]; exact Nat.le_refl _)
        refine ⟨⟨o1, a1, b1⟩, ?_, ?_⟩
        · rw [e1]
          have : (Tr.bin c a b).raw = a.at_ L ++ c :: b.at_ (L + 1) := by
            simp only [Tr.raw, if_neg o3, if_neg o4, o2, hl]; rfl
          rw [this]
          simp only [List.length_append, List.length_cons] at *; omega
        · rw [e2]
          have : (Tr.bin c a b).need = max (a.needs L) (b.needs (L + 1)) := by
            simp only [Tr.need, if_neg (show ¬ (c = 109 ∨ c = 77) from fun h => h.elim o3 o4), o2, hl]; rfl
          rw [this]; omega
      · injection h with e h; subst h; subst e; exact h0
theorem row_fits {next : Reads} {ops : List UInt8} {L : Nat} (hL : L = 2 ∨ L = 3) (hops : ∀ c ∈ ops, isOp c = true ∧ tightOp c = L ∧ c ≠ 109 ∧ c ≠ 77) (hn : FitsX (L + 1) next) : FitsX L (fun d => rowRd (next d) ops) := fun d l t r hd h => by
  obtain ⟨a, l1, h1, h⟩ := Rd.bind_ok h
  exact loop_fits hL hops hn d hd l _ _ _ _ _ ((hn _ _ _ _ hd h1).down (by omega)) h
theorem mul_fits {W : Reads} (hW : FitsX 0 W) : FitsX 3 (mulRd W) := row_fits (.inr rfl) (by decide) (less_fits hW)
theorem add_fits {W : Reads} (hW : FitsX 0 W) : FitsX 2 (addRd W) := row_fits (.inl rfl) (by decide) (mul_fits hW)
theorem cmp_fits {W : Reads} (hW : FitsX 0 W) : FitsX 1 (cmpRd W) := fun d l t r hd h => by
  obtain ⟨a, l1, h1, h⟩ := Rd.bind_ok h
  have g1 := add_fits hW _ _ _ _ hd h1
  cases l1 with
  | nil => injection h with e h; subst h; subst e; exact g1.down (by decide)
  | cons c l1 =>
    simp only [cmpTl] at h
    split at h
    · rename_i hc
      obtain ⟨b, l2, h2, h⟩ := Rd.bind_ok h
      injection h with e h; subst h; subst e
      obtain ⟨a1, a2, a3⟩ := g1
      obtain ⟨b1, b2, b3⟩ := add_fits hW _ _ _ _ hd h2
      have hops : isOp c = true ∧ tightOp c = 1 ∧ c ≠ 109 ∧ c ≠ 77 := by
        simp only [List.mem_cons, List.not_mem_nil, or_false] at hc
        rcases hc with rfl | rfl | rfl <;> decide
      obtain ⟨o1, o2, o3, o4⟩ := hops
      obtain ⟨e1, e2⟩ := at_of_tight (L := 1) (t := .bin c a b) (by show 1 ≤ tightOp c; rw [o2]; exact Nat.le_refl _)
      refine ⟨⟨o1, a1, b1⟩, ?_, ?_⟩
      · rw [e1]
        have : (Tr.bin c a b).raw = a.at_ 2 ++ c :: b.at_ 2 := by
          simp only [Tr.raw, if_neg o3, if_neg o4, o2]; rfl
        rw [this]
        simp only [List.length_append, List.length_cons] at *; omega
      · rw [e2]
        have : (Tr.bin c a b).need = max (a.needs 2) (b.needs 2) := by
          simp only [Tr.need, if_neg (show ¬ (c = 109 ∨ c = 77) from fun h => h.elim o3 o4), o2]; rfl
        rw [this]; omega
    · injection h with e h; subst h; subst e; exact g1.down (by decide)
theorem step_fits {W : Reads} (hW : FitsX 0 W) : FitsX 0 (wholeStep W) := fun d l t r hd h => by
  obtain ⟨a, l1, h1, h⟩ := Rd.bind_ok h
  have g1 := cmp_fits hW _ _ _ _ hd h1
  cases l1 with
  | nil => injection h with e h; subst h; subst e; exact g1.down (by decide)
  | cons x l1 =>
    simp only [selRd] at h
    split at h
    · obtain ⟨h20, h⟩ := deep_ok h
      obtain ⟨b, l2, h2, h⟩ := Rd.bind_ok h
      obtain ⟨l3, rfl, h⟩ := want_ok h
      obtain ⟨c, l4, h4, h⟩ := Rd.bind_ok h
      injection h with e h; subst h; subst e
      obtain ⟨a1, a2, a3⟩ := g1
      obtain ⟨b1, b2, b3⟩ := hW _ _ _ _ (by omega) h2
      obtain ⟨c1, c2, c3⟩ := hW _ _ _ _ (by omega) h4
      rw [at_zero] at b2 c2
      rw [needs_zero] at b3 c3
      obtain ⟨e1, e2⟩ := at_of_tight (L := 0) (t := .sel a b c) (Nat.zero_le _)
      refine ⟨⟨a1, b1, c1⟩, ?_, ?_⟩
      · rw [e1]
        have : (Tr.sel a b c).raw = a.at_ 1 ++ 63 :: (b.raw ++ 58 :: c.raw) := rfl
        rw [this]
        simp only [List.length_append, List.length_cons] at *; omega
      · rw [e2]
        have : (Tr.sel a b c).need = max (a.needs 1) (max (1 + b.need) (1 + c.need)) := rfl
        rw [this]; omega
    · injection h with e h; subst h; subst e; exact g1.down (by decide)
theorem whole_fits (k : Nat) : FitsX 0 (wholeRd k) := by
  induction k with
  | zero => exact step_fits (fun d l t r _ h => by cases h)
  | succ k ih => exact step_fits ih
end Go.Proofs.YtfndhfekbbbliaaGreatDoor

/-
  Package expr: the contract of (tree).eval: what a tree comes to. Condition: its numbers are ints, its operators are some.
-/
namespace Go.Proofs.YtfndhfekbbbliaaGreatDoor
open Go.RowKit Go.Shelf
set_option linter.unusedVariables false

def I64_ (n : Int) : Prop := -9223372036854775808 ≤ n ∧ n ≤ 9223372036854775807
theorem isOp_cases {op : UInt8} (h : isOp op = true) : op = 109 ∨ op = 77 ∨ op = 61 ∨ op = 60 ∨ op = 62 ∨ op = 43 ∨ op = 45 ∨ op = 42 ∨ op = 47 ∨ op = 37 := by
  unfold isOp at h
  simpa [or_assoc] using h
theorem wrap_bounds (x : Int) : I64_ (wrap64 x) := by unfold wrap64 I64_; omega
theorem b2i_bounds (b : Bool) : I64_ (b2i b) := by cases b <;> (unfold b2i I64_; decide)
theorem tdiv_bounds {a b : Int} (ha : I64_ a) (h0 : b ≠ 0) (h1 : b ≠ -1) : I64_ (a.tdiv b) := by
  unfold I64_ at *
  by_cases e : b = 1
  · subst e; rw [Int.tdiv_one]; exact ha
  · have h := Int.natAbs_tdiv a b
    have h2 : (a.tdiv b).natAbs ≤ a.natAbs / 2 := by
      rw [h]; exact Nat.div_le_div_left (by omega) (by omega)
    omega
theorem tmod_bounds {a b : Int} (ha : I64_ a) : I64_ (a.tmod b) := by
  unfold I64_ at *
  have h : (a.tmod b).natAbs = a.natAbs % b.natAbs := Int.natAbs_tmod a b
  have h2 : (a.tmod b).natAbs ≤ a.natAbs := by rw [h]; exact Nat.mod_le _ _
  rcases Int.le_total 0 a with g | g
  · have := Int.tmod_nonneg b g; omega
  · have := Int.tmod_nonneg b (a := -a) (by omega); rw [Int.neg_tmod] at this; omega
theorem op_bounds (op : UInt8) {a b : Int} (ha : I64_ a) (hb : I64_ b) : I64_ (opVal op a b) := by
  unfold opVal
  repeat' split
  · unfold I64_ at *; omega
  · unfold I64_ at *; omega
  · exact wrap_bounds _
  · exact wrap_bounds _
  · exact wrap_bounds _
  · exact b2i_bounds _
  · exact b2i_bounds _
  · exact b2i_bounds _
  · unfold I64_; omega
  · unfold I64_; omega
  · exact wrap_bounds _
  · exact tdiv_bounds ha ‹_› ‹_›
  · exact tmod_bounds ha
theorem val_bounds {t : Tr} {n s : Int} (hf : t.fine) (hn : I64_ n) (hs : I64_ s) : I64_ (t.val n s) := by
  induction t with
  | num k => unfold Tr.fine at hf; unfold Tr.val I64_; omega
  | nam b => unfold Tr.val; split <;> assumption
  | neg a ih => exact wrap_bounds _
  | bin op a b iha ihb => exact op_bounds op (iha hf.2.1) (ihb hf.2.2)
  | sel a b c iha ihb ihc => unfold Tr.val; split; exact ihc hf.2.2; exact ihb hf.2.1
set_option maxRecDepth 100000 in
theorem is_ok (b : Bool) (w : World) : Calls Tryz.prog 95 #[.bool b] w fun e w' => e = .returned (.int .i64 (b2i b)) ∧ w' = w := by
  cases b
  · go_enter Tryz.func95, Tryz.ntmps95
    go_wp2
    go_ret
    exact ⟨rfl, rfl⟩
  · go_enter Tryz.func95, Tryz.ntmps95
    go_wp2
    go_ret
    exact ⟨rfl, rfl⟩
/-- A region that draws its order, whose operations all yield one value in each world of a class: one walk in the text's order. -/
theorem region_class {P : Program} {C : World → Prop} {id : Nat} {Q : Exit → Act → World → Prop} {a : Act} {w : World} {l : List Oper} (hm : P.follows .mixedOrders = true) (hB : Region.lexB .any l.toArray = true) (hC : C w.drew)
    (h : wpQuiet P l.toArray C (fun a' => ∀ w', C w' → Q .normal a' w') l a) : (Code.region id l.toArray true).wp P Q a w :=
  wp_region_quiet (C := C) hm hB hC (by simpa using h)
/-- A world that grew out of w. -/
structure GrownW (w : World) where
  val : World
  bel : Below w.heap.size w val
set_option maxRecDepth 100000 in
set_option maxHeartbeats 4000000 in
theorem eval_ok (t : Tr) (hf : t.fine) (n s : Int) (hn : I64_ n) (hs : I64_ s) : ∀ (o k : Int) (A : Option Addr) (c : Nat) (w : World), TrC (· < w.heap.size) w t (trL o k A c) →
    Calls Tryz.prog 48 #[.agg #[.int .u8 o, .int .i64 k, .slice A c c], .int .i64 n, .int .i64 s] w fun e w' => e = .returned (.int .i64 (t.val n s)) ∧ Below w.heap.size w w' := by
  induction t with
  | num v =>
    intro o k A c w h
    obtain ⟨rfl, rfl, rfl, rfl⟩ : o = 48 ∧ k = v ∧ A = none ∧ c = 0 := by
      have h : trL o k A c = _ := h
      simp [trL] at h; exact h
    go_enter Tryz.func48, Tryz.ntmps48
    go_wp2_with fail
    go_ret
    exact ⟨rfl, (Below.refl _ _).alloc (Nat.le_refl _) _⟩
  | nam b =>
    intro o k A c w h
    obtain ⟨rfl, rfl, rfl, rfl⟩ : o = (if b then 110 else 115) ∧ k = 0 ∧ A = none ∧ c = 0 := by
      have h : trL o k A c = _ := h
      simp [trL] at h; exact h
    cases b
    · simp only [Bool.false_eq_true, if_false]
      go_enter Tryz.func48, Tryz.ntmps48
      go_wp2_with fail
      go_ret
      exact ⟨rfl, (Below.refl _ _).alloc (Nat.le_refl _) _⟩
    · simp only [if_true]
      go_enter Tryz.func48, Tryz.ntmps48
      go_wp2_with fail
      go_ret
      exact ⟨rfl, (Below.refl _ _).alloc (Nat.le_refl _) _⟩
  | neg a ih =>
    intro o k A c w h
    obtain ⟨g, ca, he, hk, ha⟩ := h
    obtain ⟨rfl, rfl, rfl, rfl⟩ : o = 126 ∧ k = 0 ∧ A = some ⟨g, 0, none⟩ ∧ c = 1 := by simp [trL] at he; exact he
    obtain ⟨o1, k1, A1, c1, rfl⟩ := ha.three
    obtain ⟨x0, x1, x2, xf⟩ := (TVar.allocs (w := w) (k := g) hk.2)
    have HIH := Lib.hid (ih hf)
    have HA := Lib.hid ha
    clear ih ha hk he
    go_enter Tryz.func48, Tryz.ntmps48
    go_wp2_with fail
    have hb1 : Below w.heap.size w (w.alloc (.cells #[.int .u8 126, .int .i64 0, .slice (some ⟨g, 0, none⟩) 1 1] 86)) := (Below.refl _ _).alloc (Nat.le_refl _) _
    refine (HIH.out o1 k1 A1 c1 _ ((HA.out.keep fun j hj => heap_alloc_old _ _ hj).in_ fun j hj hj2 => hj2)).mono ?_
    rintro e w2 ⟨rfl, hb2⟩
    have HB := Lib.hid (hb1.trans (hb2.mono hb1.size))
    clear hb1 hb2 HIH HA x0 x1 x2 xf
    go_wp2_with fail
    go_ret
    exact ⟨rfl, HB.out⟩
  | bin op a b iha ihb =>
    intro o k A c w h
    obtain ⟨g, ca, cb, he, hk, ha, hb⟩ := h
    obtain ⟨rfl, rfl, rfl, rfl⟩ : o = (op.toNat : Int) ∧ k = 0 ∧ A = some ⟨g, 0, none⟩ ∧ c = 2 := by simp [trL] at he; exact he
    obtain ⟨o1, k1, A1, c1, rfl⟩ := ha.three
    obtain ⟨o2, k2, A2, c2, rfl⟩ := hb.three
    obtain ⟨hop, hfa, hfb⟩ := hf
    have hgl := block_lt hk.2
    have HA := Lib.hid ha
    have HB := Lib.hid hb
    have HIA := Lib.hid (iha hfa)
    have HIB := Lib.hid (ihb hfb)
    have hk2 := hk.2
    obtain ⟨W1, hW1⟩ : ∃ W1, W1 = w.alloc (.cells #[.int .u8 (op.toNat : Int), .int .i64 0, .slice (some ⟨g, 0, none⟩) 2 2] 86) := ⟨_, rfl⟩
    have hb1 : Below w.heap.size w W1 := by rw [hW1]; exact (Below.refl _ _).alloc (Nat.le_refl _) _
    have hv1 : TVar W1 w.heap.size (.int .u8 (op.toNat : Int)) (.int .i64 0) (.slice (some ⟨g, 0, none⟩) 2 2) := by rw [hW1]; exact TVar.new _ _ _ _
    have hall : ∀ V : GrownW W1, V.val.cell? ⟨g, 0, none⟩ = some (.int .u8 o1) ∧ V.val.cell? ⟨g, 1, none⟩ = some (.int .i64 k1) ∧ V.val.cell? ⟨g, 2, none⟩ = some (.slice A1 c1 c1) ∧ V.val.cell? ⟨g, 3, none⟩ = some (.int .u8 o2) ∧ V.val.cell? ⟨g, 4, none⟩ = some (.int .i64 k2) ∧ V.val.cell? ⟨g, 5, none⟩ = some (.slice A2 c2 c2) ∧
        V.val.cell? ⟨w.heap.size, 0, none⟩ = some (.int .u8 (op.toNat : Int)) ∧ V.val.cell? ⟨w.heap.size, 2, none⟩ = some (.slice (some ⟨g, 0, none⟩) 2 2) := fun V => by
      have h : V.val.heap[g]? = _ := (V.bel.block g (by have := hb1.size; omega)).trans ((hb1.block g hgl).trans hk2)
      have h2 : TVar V.val w.heap.size (.int .u8 (op.toNat : Int)) (.int .i64 0) (.slice (some ⟨g, 0, none⟩) 2 2) := (V.bel.block _ (block_lt hv1)).trans hv1
      exact ⟨(cell_of_row V.val g 0 _ _ _ h).trans rfl, (cell_of_row V.val g 1 _ _ _ h).trans rfl, (cell_of_row V.val g 2 _ _ _ h).trans rfl, (cell_of_row V.val g 3 _ _ _ h).trans rfl, (cell_of_row V.val g 4 _ _ _ h).trans rfl, (cell_of_row V.val g 5 _ _ _ h).trans rfl, h2.cells.1, h2.cells.2.2.1⟩
    have x0 := fun V => (hall V).1
    have x1 := fun V => (hall V).2.1
    have x2 := fun V => (hall V).2.2.1
    have x3 := fun V => (hall V).2.2.2.1
    have x4 := fun V => (hall V).2.2.2.2.1
    have x5 := fun V => (hall V).2.2.2.2.2.1
    have x6 := fun V => (hall V).2.2.2.2.2.2.1
    have x7 := fun V => (hall V).2.2.2.2.2.2.2
    have m0 := x6 ⟨W1, Below.refl _ _⟩
    have HB1 := Lib.hid hb1
    have hne : ∀ c : UInt8, isOp c = false → ((op.toNat : Int) == (c.toNat : Int)) = false := fun c hc => beq_eq_false_iff_ne.2 fun e => by
      have : op = c := UInt8.toNat_inj.1 (by omega)
      rw [this, hc] at hop; cases hop
    have n1 : ((op.toNat : Int) == 110) = false := hne 110 rfl
    have n2 : ((op.toNat : Int) == 115) = false := hne 115 rfl
    have n3 : ((op.toNat : Int) == 48) = false := hne 48 rfl
    have n4 : ((op.toNat : Int) == 63) = false := hne 63 rfl
    have n5 : ((op.toNat : Int) == 126) = false := hne 126 rfl
    clear iha ihb ha hb he hk hall hb1 hv1 hk2 hne
    go_enter Tryz.func48, Tryz.ntmps48
    go_upto_region 1 with (fail)
    rw [← hW1]
    clear hW1
    go_upto_region 14 with (fail)
    refine region_class (C := fun W => ∃ V : GrownW W1, W = V.val) (by kernel_rfl) (by kernel_rfl) ⟨⟨W1.drew, (Below.refl _ _).drew⟩, rfl⟩ ?_
    have HCA : Hid (∀ V : GrownW W1, Calls Tryz.prog 48 #[.agg #[.int .u8 o1, .int .i64 k1, .slice A1 c1 c1], .int .i64 n, .int .i64 s] V.val fun e w' => e = .returned (.int .i64 (a.val n s)) ∧ ∃ V' : GrownW W1, w' = V'.val) := fun V => by
      refine (HIA.out o1 k1 A1 c1 V.val ((HA.out.keep fun j hj => (V.bel.block j (by have := HB1.out.size; omega)).trans (HB1.out.block j hj)).in_ fun j _ h => h)).mono ?_
      rintro e w' ⟨rfl, hb⟩
      exact ⟨rfl, ⟨w', V.bel.trans (hb.mono V.bel.size)⟩, rfl⟩
    have HCB : Hid (∀ V : GrownW W1, Calls Tryz.prog 48 #[.agg #[.int .u8 o2, .int .i64 k2, .slice A2 c2 c2], .int .i64 n, .int .i64 s] V.val fun e w' => e = .returned (.int .i64 (b.val n s)) ∧ ∃ V' : GrownW W1, w' = V'.val) := fun V => by
      refine (HIB.out o2 k2 A2 c2 V.val ((HB.out.keep fun j hj => (V.bel.block j (by have := HB1.out.size; omega)).trans (HB1.out.block j hj)).in_ fun j _ h => h)).mono ?_
      rintro e w' ⟨rfl, hb⟩
      exact ⟨rfl, ⟨w', V.bel.trans (hb.mono V.bel.size)⟩, rfl⟩
    have hne : Nonempty (GrownW W1) := ⟨⟨W1, Below.refl _ _⟩⟩
    repeat go_big_quiet_step (first | with_reducible exact HCA.out _ | with_reducible exact HCB.out _)
    refine wpQuiet_nil ?_
    intro _ hw'
    obtain ⟨V, rfl⟩ := hw'
    have HV := Lib.hid (HB1.out.trans (V.bel.mono HB1.out.size))
    have y0 := x6 V
    have HVL : Hid ((Tr.bin op a b).val n s = opVal op (a.val n s) (b.val n s)) := rfl
    obtain ⟨bA1, bA2⟩ := val_bounds hfa hn hs
    obtain ⟨bB1, bB2⟩ := val_bounds hfb hn hs
    generalize a.val n s = va at HVL bA1 bA2 ⊢
    generalize b.val n s = vb at HVL bB1 bB2 ⊢
    generalize V.val = W2 at HV y0 ⊢
    clear HCA HCB hne x0 x1 x2 x3 x4 x5 x6 x7 m0 HIA HIB HA HB V
    have hcs := isOp_cases hop
    clear n1 n2 n3 n4 n5 hop
    rcases hcs with rfl | rfl | rfl | rfl | rfl | rfl | rfl | rfl | rfl | rfl
    · go_wp2_with fail
      go_ret
      exact ⟨by rw [HVL.out]; rfl, HV.out⟩
    · go_wp2_with fail
      go_ret
      exact ⟨by rw [HVL.out]; rfl, HV.out⟩
    · go_wp2_with fail
      refine (is_ok _ _).mono ?_
      rintro e w' ⟨rfl, rfl⟩
      go_wp2_with fail
      go_ret
      exact ⟨by rw [HVL.out]; rfl, HV.out⟩
    · go_wp2_with fail
      refine (is_ok _ _).mono ?_
      rintro e w' ⟨rfl, rfl⟩
      go_wp2_with fail
      go_ret
      exact ⟨by rw [HVL.out]; rfl, HV.out⟩
    · go_wp2_with fail
      refine (is_ok _ _).mono ?_
      rintro e w' ⟨rfl, rfl⟩
      go_wp2_with fail
      go_ret
      exact ⟨by rw [HVL.out]; rfl, HV.out⟩
    · go_wp2_with fail
      go_ret
      exact ⟨by rw [HVL.out]; rfl, HV.out⟩
    · go_wp2_with fail
      go_ret
      exact ⟨by rw [HVL.out]; rfl, HV.out⟩
    · go_wp2_with fail
      go_ret
      exact ⟨by rw [HVL.out]; rfl, HV.out⟩
    · by_cases h0 : vb = 0
      · subst h0
        go_wp2_with fail
        go_ret
        exact ⟨by rw [HVL.out]; rfl, HV.out⟩
      · have e0 : (vb == 0) = false := by simp [h0]
        by_cases h1 : vb = -1
        · subst h1
          go_wp2_with fail
          go_ret
          exact ⟨by rw [HVL.out]; rfl, HV.out⟩
        · have e1 : (vb == -1) = false := by simp [h1]
          have ho : opVal 47 va vb = wrap64 (va.tdiv vb) := by
            have hb := tdiv_bounds ⟨bA1, bA2⟩ h0 h1
            have e : opVal 47 va vb = va.tdiv vb := by unfold opVal; simp [h0, h1]
            rw [e]; unfold I64_ at hb; unfold wrap64; omega
          have HO := Lib.hid ho
          clear ho
          go_wp2_with fail
          go_ret
          exact ⟨by rw [HVL.out, HO.out]; rfl, HV.out⟩
    · by_cases h0 : vb = 0
      · subst h0
        go_wp2_with fail
        go_ret
        exact ⟨by rw [HVL.out]; rfl, HV.out⟩
      · have e0 : (vb == 0) = false := by simp [h0]
        by_cases h1 : vb = -1
        · subst h1
          go_wp2_with fail
          go_ret
          exact ⟨by rw [HVL.out]; rfl, HV.out⟩
        · have e1 : (vb == -1) = false := by simp [h1]
          have ho : opVal 37 va vb = va.tmod vb := by unfold opVal; simp [h0, h1]
          have HO := Lib.hid ho
          clear ho
          go_wp2_with fail
          go_ret
          exact ⟨by rw [HVL.out, HO.out]; rfl, HV.out⟩
  | sel a b d iha ihb ihd =>
    intro o k A c w h
    obtain ⟨g, ca, cb, cd, he, hk, ha, hb, hd⟩ := h
    obtain ⟨rfl, rfl, rfl, rfl⟩ : o = 63 ∧ k = 0 ∧ A = some ⟨g, 0, none⟩ ∧ c = 3 := by simp [trL] at he; exact he
    obtain ⟨o1, k1, A1, c1, rfl⟩ := ha.three
    obtain ⟨o2, k2, A2, c2, rfl⟩ := hb.three
    obtain ⟨o3, k3, A3, c3, rfl⟩ := hd.three
    obtain ⟨hfa, hfb, hfd⟩ := hf
    have hrow : ∀ W : World, W.heap[g]? = w.heap[g]? → W.cell? ⟨g, 0, none⟩ = some (.int .u8 o1) ∧ W.cell? ⟨g, 1, none⟩ = some (.int .i64 k1) ∧ W.cell? ⟨g, 2, none⟩ = some (.slice A1 c1 c1) ∧ W.cell? ⟨g, 3, none⟩ = some (.int .u8 o2) ∧ W.cell? ⟨g, 4, none⟩ = some (.int .i64 k2) ∧ W.cell? ⟨g, 5, none⟩ = some (.slice A2 c2 c2) ∧ W.cell? ⟨g, 6, none⟩ = some (.int .u8 o3) ∧ W.cell? ⟨g, 7, none⟩ = some (.int .i64 k3) ∧ W.cell? ⟨g, 8, none⟩ = some (.slice A3 c3 c3) := fun W hW => by
      have h := hW.trans hk.2
      exact ⟨(cell_of_row W g 0 _ _ _ h).trans rfl, (cell_of_row W g 1 _ _ _ h).trans rfl, (cell_of_row W g 2 _ _ _ h).trans rfl, (cell_of_row W g 3 _ _ _ h).trans rfl, (cell_of_row W g 4 _ _ _ h).trans rfl, (cell_of_row W g 5 _ _ _ h).trans rfl, (cell_of_row W g 6 _ _ _ h).trans rfl, (cell_of_row W g 7 _ _ _ h).trans rfl, (cell_of_row W g 8 _ _ _ h).trans rfl⟩
    have HROW := Lib.hid hrow
    have hgl := block_lt hk.2
    have HA := Lib.hid ha
    have HB := Lib.hid hb
    have HD := Lib.hid hd
    have HIA := Lib.hid (iha hfa)
    have HIB := Lib.hid (ihb hfb)
    have HID := Lib.hid (ihd hfd)
    clear iha ihb ihd ha hb hd he hk hrow
    obtain ⟨W1, hW1⟩ : ∃ W1, W1 = w.alloc (.cells #[.int .u8 63, .int .i64 0, .slice (some ⟨g, 0, none⟩) 3 3] 86) := ⟨_, rfl⟩
    have hb1 : Below w.heap.size w W1 := by rw [hW1]; exact (Below.refl _ _).alloc (Nat.le_refl _) _
    have hv1 : TVar W1 w.heap.size (.int .u8 63) (.int .i64 0) (.slice (some ⟨g, 0, none⟩) 3 3) := by rw [hW1]; exact TVar.new _ _ _ _
    obtain ⟨x0, x1, x2, x3, x4, x5, x6, x7, x8⟩ := HROW.out W1 (hb1.block g hgl)
    obtain ⟨v0, v1, v2, vf⟩ := hv1.cells
    have HB1 := Lib.hid hb1
    have HV1 := Lib.hid hv1
    clear hb1 hv1
    go_enter Tryz.func48, Tryz.ntmps48
    go_upto_region 1 with (fail)
    rw [← hW1]
    clear hW1
    go_wp2_with fail
    refine (HIA.out o1 k1 A1 c1 W1 ((HA.out.keep fun j hj => HB1.out.block j hj).in_ fun j hj hj2 => hj2)).mono ?_
    rintro e w2 ⟨rfl, hb2⟩
    have HB2 := Lib.hid (HB1.out.trans (hb2.mono HB1.out.size))
    have hv2 : TVar w2 w.heap.size (.int .u8 63) (.int .i64 0) (.slice (some ⟨g, 0, none⟩) 3 3) := (hb2.block _ (block_lt HV1.out)).trans HV1.out
    obtain ⟨y0, y1, y2, y3, y4, y5, y6, y7, y8⟩ := HROW.out w2 (HB2.out.block g hgl)
    obtain ⟨u0, u1, u2, uf⟩ := hv2.cells
    have HVL : Hid ((Tr.sel a b d).val n s = if a.val n s = 0 then d.val n s else b.val n s) := rfl
    clear hb2 hv2 x0 x1 x2 x3 x4 x5 x6 x7 x8 v0 v1 v2 vf HB1 HV1
    generalize a.val n s = va at HVL ⊢
    by_cases h0 : va = 0
    · subst h0
      go_wp2_with fail
      refine (HID.out o3 k3 A3 c3 w2 ((HD.out.keep fun j hj => HB2.out.block j hj).in_ fun j hj hj2 => hj2)).mono ?_
      rintro e w3 ⟨rfl, hb3⟩
      have HB3 := Lib.hid (HB2.out.trans (hb3.mono HB2.out.size))
      clear hb3
      go_wp2_with fail
      go_ret
      exact ⟨by rw [HVL.out]; rfl, HB3.out⟩
    · have hne : (va != 0) = true := by simp [h0]
      go_wp2_with fail
      refine (HIB.out o2 k2 A2 c2 w2 ((HB.out.keep fun j hj => HB2.out.block j hj).in_ fun j hj hj2 => hj2)).mono ?_
      rintro e w3 ⟨rfl, hb3⟩
      have HB3 := Lib.hid (HB2.out.trans (hb3.mono HB2.out.size))
      clear hb3
      go_wp2_with fail
      go_ret
      exact ⟨by rw [HVL.out, if_neg h0]; rfl, HB3.out⟩
end Go.Proofs.YtfndhfekbbbliaaGreatDoor

/-
  Package expr: the contract of Check. Conditions: the text's length; the two variables of Atoi's errors hold errors.
-/
namespace Go.Proofs.YtfndhfekbbbliaaGreatDoor
open Go.RowKit Go.Shelf
set_option linter.unusedVariables false

def errV (e : Int) : Value := .iface 89 (.int .i64 e)
theorem parse_tree {s : ByteArray} {w : World} {e : Ending} {w' : World} {t : Tr} (h : ParsePost s w e w') (hp : parseT s.data.toList = .tree t) :
    ∃ o n A c, e = .returned (.tuple #[.agg (trA o n A c), .int .i64 0, .nilIface]) ∧ TrC (w.heap.size ≤ ·) w' t (trL o n A c) := by
  unfold ParsePost at h; rw [hp] at h; exact h
theorem parse_fault {s : ByteArray} {w : World} {e : Ending} {w' : World} {k : Nat} {j : Int} (h : ParsePost s w e w') (hp : parseT s.data.toList = .fault k j) :
    e = .returned (.tuple #[.agg (trA 0 0 none 0), .int .i64 k, errV j]) := by
  unfold ParsePost at h; rw [hp] at h; exact h
def atOf : Parsed → Int
  | .tree _ => 0
  | .fault k _ => k
def errOf : Parsed → Value
  | .tree _ => .nilIface
  | .fault _ j => errV j
set_option maxRecDepth 100000 in
theorem check_ok (s : ByteArray) (w : World) (hv : ErrVars w) (hsz : s.size ≤ maxLen) :
    Calls Tryz.prog 10 #[.string s] w fun e w' => e = .returned (.tuple #[.int .i64 (atOf (parseT s.data.toList)), errOf (parseT s.data.toList)]) ∧ Below w.heap.size w w' := by
  have HPR := Lib.hid (parse_reads s w hv hsz)
  clear hv
  go_enter Tryz.func10, Tryz.ntmps10
  go_wp2_with fail
  refine HPR.out.mono ?_
  clear HPR
  rintro e w1 ⟨h1, hb⟩
  have HB := Lib.hid hb
  clear hb
  cases hp : parseT s.data.toList with
  | tree t =>
    obtain ⟨o, k, A, c, rfl, ht⟩ := parse_tree h1 hp
    have HP := Lib.hid hp
    clear h1 hp ht
    unfold trA
    go_wp2_with fail
    go_ret2
    exact ⟨by rw [HP.out]; rfl, (HB.out.alloc HB.out.size _)⟩
  | fault k j =>
    have h2 := parse_fault h1 hp
    subst h2
    have HP := Lib.hid hp
    clear h1 hp
    unfold trA errV
    go_wp2_with fail
    go_ret2
    exact ⟨by rw [HP.out]; rfl, (HB.out.alloc HB.out.size _)⟩
end Go.Proofs.YtfndhfekbbbliaaGreatDoor

/-
  Expressions, plain: two in brackets with an operator between, one of two that a third one chooses, the least and the greatest of two: what they are read as. No condition: plain lemmas.
-/
namespace Go.Proofs.YtfndhfekbbbliaaGreatDoor
open Go.RowKit
set_option linter.unusedVariables false

/-- Read as t, r is left; or (where p) it is too deep. -/
def Is (p : Prop) (A : Rd) (t : Tr) (r : List UInt8) : Prop := A = .ok t r ∨ (p ∧ ∃ k, A = .bad k 4)
section
variable {p : Prop}
theorem Is.bind {A : Rd} {t t' : Tr} {r r' : List UInt8} {f : Tr → List UInt8 → Rd} (h : Is p A t r) (hf : Is p (f t r) t' r') : Is p (A.bind f) t' r' := by
  rcases h with rfl | ⟨h, k, rfl⟩
  · exact hf
  · exact .inr ⟨h, k, rfl⟩
theorem Is.deep {d k : Nat} {A : Rd} {t : Tr} {r : List UInt8} (hd : d = 20 → p) (h : d ≠ 20 → Is p A t r) : Is p (deepRd d k A) t r := by
  unfold deepRd
  by_cases e : d = 20
  · rw [if_pos e]; exact .inr ⟨hd e, k, rfl⟩
  · rw [if_neg e]; exact h e
theorem Is.want {c : UInt8} {l : List UInt8} {f : List UInt8 → Rd} {t : Tr} {r : List UInt8} (h : Is p (f l) t r) : Is p (wantRd c (c :: l) f) t r := by
  simp only [wantRd, if_true]; exact h
theorem row_one {next : List UInt8 → Rd} {ops : List UInt8} {L v : List UInt8} {t : Tr} (h : Is p (next L) t v) (hv : ∀ c r, v = c :: r → c ∉ ops) : Is p (rowRd next ops L) t v :=
  h.bind (.inl (loop_stop hv _ _))
theorem row_two {next : List UInt8 → Rd} {ops : List UInt8} {L r v : List UInt8} {c : UInt8} {t u : Tr} (h : Is p (next L) t (c :: r)) (hc : c ∈ ops) (h2 : Is p (next r) u v) (hv : ∀ c r, v = c :: r → c ∉ ops) : Is p (rowRd next ops L) (.bin c t u) v := by
  refine h.bind ?_
  simp only [List.length_cons, loopRd, if_pos hc]
  exact h2.bind (.inl (loop_stop hv _ _))
variable {W : Reads} {d : Nat}
theorem less_one {L v : List UInt8} {t : Tr} (h : Is p (oneRd W d L) t v) (hL : ∀ r, L ≠ 45 :: r) : Is p (lessRd W d L) t v := by
  cases L with
  | nil => exact h
  | cons c r => rw [less_other _ _ _ (fun e => hL r (e ▸ rfl))]; exact h
/-- What a text that stands behind begins with: nothing that goes on with a row. -/
def Past (ops : List UInt8) (v : List UInt8) : Prop := ∀ c r, v = c :: r → c ∉ ops
theorem past_nil (ops : List UInt8) : Past ops [] := fun c r h => by cases h
theorem past_cons {ops : List UInt8} {c : UInt8} {r : List UInt8} (h : c ∉ ops) : Past ops (c :: r) := fun c' r' e => by injection e with e _; subst e; exact h
theorem whole_of_add {L v : List UInt8} {t : Tr} (h : Is p (addRd W d L) t v) (hv : Past [61, 60, 62, 63] v) : Is p (wholeStep W d L) t v := by
  refine (show Is p (cmpRd W d L) t v from h.bind ?_).bind ?_
  · cases v with
    | nil => exact .inl rfl
    | cons c r =>
      have := hv c r rfl
      exact .inl (by simp only [cmpTl]; rw [if_neg (fun h => this (by simp only [List.mem_cons, List.not_mem_nil, or_false] at h ⊢; rcases h with h | h | h <;> simp [h]))])
  · cases v with
    | nil => exact .inl rfl
    | cons c r =>
      have := hv c r rfl
      exact .inl (by simp only [selRd]; rw [if_neg (fun h => this (by simp [h]))])
theorem whole_of_cmp {L r v : List UInt8} {c : UInt8} {t u : Tr} (h : Is p (addRd W d L) t (c :: r)) (hc : c ∈ ([61, 60, 62] : List UInt8)) (h2 : Is p (addRd W d r) u v) (hv : Past [63] v) : Is p (wholeStep W d L) (.bin c t u) v := by
  refine (show Is p (cmpRd W d L) (.bin c t u) v from h.bind ?_).bind ?_
  · simp only [cmpTl, if_pos hc]; exact h2.bind (.inl rfl)
  · cases v with
    | nil => exact .inl rfl
    | cons c r =>
      have := hv c r rfl
      exact .inl (by simp only [selRd]; rw [if_neg (fun h => this (by simp [h]))])
theorem whole_of_sel {L r r2 v : List UInt8} {t u s : Tr} (h : Is p (addRd W d L) t (63 :: r)) (hd : d = 20 → p) (h2 : d ≠ 20 → Is p (W (d + 1) r) u (58 :: r2)) (h3 : d ≠ 20 → Is p (W (d + 1) r2) s v) : Is p (wholeStep W d L) (.sel t u s) v := by
  refine (show Is p (cmpRd W d L) t (63 :: r) from h.bind ?_).bind ?_
  · exact .inl rfl
  · simp only [selRd, if_true]
    exact Is.deep hd fun e => (h2 e).bind (Is.want ((h3 e).bind (.inl rfl)))
end

/-! ### Of two texts that are read whole -/
/-- a is read as t, at depth d; where p, it may be too deep. -/
def Reads1 (p : Prop) (a : List UInt8) (t : Tr) : Prop := ∀ k v, a.length ≤ k → Stops v → Is p (wholeRd k 1 (a ++ v)) t v
theorem reads_any {a : List UInt8} {t : Tr} (h : wholeRd a.length 0 a = .ok t []) : Reads1 True a t := fun k v hk hv => by
  have := whole_ext (p := True) hv _ _ hk 0 1 a (by omega) (by omega) (fun _ => trivial)
  rw [h] at this
  exact this
theorem reads_sure {a : List UInt8} {t : Tr} (h : wholeRd a.length 1 a = .ok t []) : Reads1 False a t := fun k v hk hv => by
  have := whole_ext (p := False) hv _ _ hk 1 1 a (by omega) (by omega) (fun h => absurd h (by omega))
  rw [h] at this
  exact this
theorem reads_deep {a : List UInt8} {e : Nat} (h : wholeRd a.length 1 a = .bad e 4) : ∀ k v, a.length ≤ k → Stops v → ∃ j, wholeRd k 1 (a ++ v) = .bad j 4 := fun k v hk hv => by
  have := whole_ext (p := False) hv _ _ hk 1 1 a (by omega) (by omega) (fun h => absurd h (by omega))
  rw [h] at this
  exact this rfl
/-- What was read at depth 0 is read so at depth 1, or it is too deep there. -/
theorem reads_one {a : List UInt8} {t : Tr} (h : wholeRd a.length 0 a = .ok t []) : wholeRd a.length 1 a = .ok t [] ∨ ∃ e, wholeRd a.length 1 a = .bad e 4 := by
  have := reads_any h a.length [] (Nat.le_refl _) (.inl rfl)
  rw [List.append_nil] at this
  rcases this with h | ⟨_, h⟩
  · exact .inl h
  · exact .inr h
section
variable {p : Prop} {a b c : List UInt8} {t u s : Tr} {k : Nat}
theorem stop_close (v : List UInt8) : Stops (41 :: v) := .inr ⟨41, v, rfl, .inl rfl⟩
theorem stop_comma (v : List UInt8) : Stops (44 :: v) := .inr ⟨44, v, rfl, .inr (.inl rfl)⟩
/-- In brackets. -/
theorem paren_is (h : Reads1 p a t) (hk : a.length ≤ k) (v : List UInt8) : Is p (oneRd (wholeRd k) 0 (40 :: (a ++ 41 :: v))) t v :=
  Is.deep (fun e => absurd e (by decide)) fun _ => (h k (41 :: v) hk (stop_close v)).bind (Is.want (.inl rfl))
theorem less_paren (h : Reads1 p a t) (hk : a.length ≤ k) (v : List UInt8) : Is p (lessRd (wholeRd k) 0 (40 :: (a ++ 41 :: v))) t v :=
  less_one (paren_is h hk v) fun r e => by injection e with e _; exact absurd e (by decide)
theorem mul_paren (h : Reads1 p a t) (hk : a.length ≤ k) {v : List UInt8} (hv : Past [42, 47, 37] v) : Is p (mulRd (wholeRd k) 0 (40 :: (a ++ 41 :: v))) t v :=
  row_one (less_paren h hk v) hv
theorem add_paren (h : Reads1 p a t) (hk : a.length ≤ k) {v : List UInt8} (hv : Past [42, 47, 37] v) (hv2 : Past [43, 45] v) : Is p (addRd (wholeRd k) 0 (40 :: (a ++ 41 :: v))) t v :=
  row_one (mul_paren h hk hv) hv2
def joinB (op : UInt8) (a b : List UInt8) : List UInt8 := 40 :: (a ++ 41 :: op :: 40 :: (b ++ [41]))
def selB (a b c : List UInt8) : List UInt8 := 40 :: (a ++ 41 :: 63 :: 40 :: (b ++ 41 :: 58 :: 40 :: (c ++ [41])))
def minB (x y : UInt8) (a b : List UInt8) : List UInt8 := 109 :: x :: y :: 40 :: (a ++ 44 :: (b ++ [41]))
theorem join_whole (op : UInt8) (ho : op = 43 ∨ op = 42 ∨ op = 60 ∨ op = 62 ∨ op = 61) (ha : Reads1 p a t) (hb : Reads1 p b u) (hka : a.length ≤ k) (hkb : b.length ≤ k) : Is p (wholeStep (wholeRd k) 0 (joinB op a b)) (.bin op t u) [] := by
  rcases ho with rfl | rfl | ho
  · refine whole_of_add ?_ (past_nil _)
    exact row_two (mul_paren ha hka (past_cons (by decide))) (by decide) (mul_paren hb hkb (past_nil _)) (past_nil _)
  · refine whole_of_add ?_ (past_nil _)
    exact row_one (row_two (less_paren ha hka _) (by decide) (less_paren hb hkb []) (past_nil _)) (past_nil _)
  · have h1 : op ∈ ([61, 60, 62] : List UInt8) := by rcases ho with rfl | rfl | rfl <;> decide
    have h2 : op ∉ ([42, 47, 37] : List UInt8) := by rcases ho with rfl | rfl | rfl <;> decide
    have h3 : op ∉ ([43, 45] : List UInt8) := by rcases ho with rfl | rfl | rfl <;> decide
    exact whole_of_cmp (add_paren ha hka (past_cons h2) (past_cons h3)) h1 (add_paren hb hkb (past_nil _) (past_nil _)) (past_nil _)
theorem min_whole (x y : UInt8) (op : UInt8) (ho : (x = 105 ∧ y = 110 ∧ op = 109) ∨ (x = 97 ∧ y = 120 ∧ op = 77)) (ha : Reads1 p a t) (hb : Reads1 p b u) (hka : a.length ≤ k) (hkb : b.length ≤ k) : Is p (wholeStep (wholeRd k) 0 (minB x y a b)) (.bin op t u) [] := by
  have h2 : Is p (twoRd (wholeRd k) op 1 (a ++ 44 :: (b ++ [41]))) (.bin op t u) [] :=
    (ha k _ hka (stop_comma _)).bind (Is.want ((hb k [41] hkb (stop_close [])).bind (Is.want (.inl rfl))))
  have h1 : Is p (oneRd (wholeRd k) 0 (minB x y a b)) (.bin op t u) [] := by
    rcases ho with ⟨rfl, rfl, rfl⟩ | ⟨rfl, rfl, rfl⟩
    · exact Is.deep (fun e => absurd e (by decide)) fun _ => h2
    · exact Is.deep (fun e => absurd e (by decide)) fun _ => h2
  exact whole_of_add (row_one (row_one (less_one h1 fun r e => by injection e with e _; exact absurd e (by decide)) (past_nil _)) (past_nil _)) (past_nil _)
/-- The third one is at the end: nothing is behind it. -/
theorem sel_whole (ha : Reads1 p a t) (hb : Reads1 p b u) (hc : Reads1 p c s) (hb2 : ∀ v, Stops v → Is p (wholeRd k 1 (40 :: (b ++ 41 :: v))) u v) (hc2 : Is p (wholeRd k 1 (40 :: (c ++ [41]))) s []) (hka : a.length ≤ k) : Is p (wholeStep (wholeRd k) 0 (selB a b c)) (.sel t u s) [] :=
  whole_of_sel (add_paren ha hka (past_cons (by decide)) (past_cons (by decide))) (fun e => absurd e (by decide)) (fun _ => hb2 _ (.inr ⟨58, _, rfl, .inr (.inr rfl)⟩)) (fun _ => hc2)
end
/-- In brackets, at depth 1, where p holds. -/
theorem deep_paren {b : List UInt8} {u : Tr} (h : wholeRd b.length 0 b = .ok u []) {k : Nat} (hk : b.length + 1 ≤ k) (v : List UInt8) (hv : Stops v) : Is True (wholeRd k 1 (40 :: (b ++ 41 :: v))) u v := by
  obtain ⟨k2, rfl⟩ : ∃ k2, k = k2 + 1 := ⟨k - 1, by omega⟩
  have hb : Is True (wholeRd k2 2 (b ++ 41 :: v)) u (41 :: v) := by
    have := whole_ext (p := True) (stop_close v) _ _ (show b.length ≤ k2 by omega) 0 2 b (by omega) (by omega) (fun _ => trivial)
    rw [h] at this
    exact this
  have h1 : Is True (oneRd (wholeRd k2) 1 (40 :: (b ++ 41 :: v))) u v := Is.deep (fun e => absurd e (by decide)) fun _ => hb.bind (Is.want (.inl rfl))
  have hp : ∀ ops : List UInt8, 41 ∉ ops → 44 ∉ ops → 58 ∉ ops → Past ops v := fun ops h1 h2 h3 c r e => by
    rcases hv.head e with rfl | rfl | rfl
    · exact h1
    · exact h2
    · exact h3
  exact whole_of_add (row_one (row_one (less_one h1 fun r e => by injection e with e _; exact absurd e (by decide)) (hp _ (by decide) (by decide) (by decide))) (hp _ (by decide) (by decide) (by decide))) (hp _ (by decide) (by decide) (by decide))

/-! ### Texts -/
def IsTree (s : List UInt8) (t : Tr) : Prop := parseT s = .tree t ∨ ∃ k, parseT s = .fault k 4
theorem parse_ok {s : List UInt8} {t : Tr} (h : parseT s = .tree t) : s.length ≤ 120 ∧ wholeRd s.length 0 s = .ok t [] := by
  unfold parseT at h
  split at h
  · cases h
  · refine ⟨by omega, ?_⟩
    split at h
    · rename_i e; injection h with h; subst h; exact e
    · cases h
    · cases h
theorem parse_is {p : Prop} {s : List UInt8} {t : Tr} (hl : s.length ≤ 120) (h : Is p (wholeRd s.length 0 s) t []) : parseT s = .tree t ∨ (p ∧ ∃ k, parseT s = .fault k 4) := by
  unfold parseT
  rw [if_neg (by omega)]
  rcases h with h | ⟨hp, k, h⟩
  · rw [h]; exact .inl rfl
  · rw [h]; exact .inr ⟨hp, _, rfl⟩
theorem whole_succ {s : List UInt8} (h : 0 < s.length) : wholeRd s.length = wholeStep (wholeRd (s.length - 1)) := by
  obtain ⟨n, hn⟩ : ∃ n, s.length = n + 1 := ⟨s.length - 1, by omega⟩
  rw [hn]; rfl
theorem long_fault {s : List UInt8} (h : 120 < s.length) : parseT s = .fault 0 4 := by unfold parseT; rw [if_pos h]
theorem join_tree (op : UInt8) (ho : op = 43 ∨ op = 42 ∨ op = 60 ∨ op = 62 ∨ op = 61) {a b : List UInt8} {t u : Tr} (ha : parseT a = .tree t) (hb : parseT b = .tree u) : IsTree (joinB op a b) (.bin op t u) := by
  rcases Nat.lt_or_ge 120 (joinB op a b).length with hl | hl
  · exact .inr ⟨_, long_fault hl⟩
  · have hlen : (joinB op a b).length = a.length + b.length + 5 := by simp [joinB]; omega
    have h := join_whole (k := (joinB op a b).length - 1) op ho (reads_any (parse_ok ha).2) (reads_any (parse_ok hb).2) (by omega) (by omega)
    rw [← whole_succ (by omega)] at h
    rcases parse_is hl h with h | ⟨_, h⟩
    · exact .inl h
    · exact .inr h
theorem min_tree (x y : UInt8) (op : UInt8) (ho : (x = 105 ∧ y = 110 ∧ op = 109) ∨ (x = 97 ∧ y = 120 ∧ op = 77)) {a b : List UInt8} {t u : Tr} (ha : parseT a = .tree t) (hb : parseT b = .tree u) : IsTree (minB x y a b) (.bin op t u) := by
  rcases Nat.lt_or_ge 120 (minB x y a b).length with hl | hl
  · exact .inr ⟨_, long_fault hl⟩
  · have hlen : (minB x y a b).length = a.length + b.length + 6 := by simp [minB]; omega
    have h := min_whole (k := (minB x y a b).length - 1) x y op ho (reads_any (parse_ok ha).2) (reads_any (parse_ok hb).2) (by omega) (by omega)
    rw [← whole_succ (by omega)] at h
    rcases parse_is hl h with h | ⟨_, h⟩
    · exact .inl h
    · exact .inr h
theorem sel_tree {a b c : List UInt8} {t u s : Tr} (ha : parseT a = .tree t) (hb : parseT b = .tree u) (hc : parseT c = .tree s) : IsTree (selB a b c) (.sel t u s) := by
  rcases Nat.lt_or_ge 120 (selB a b c).length with hl | hl
  · exact .inr ⟨_, long_fault hl⟩
  · have hlen : (selB a b c).length = a.length + b.length + c.length + 8 := by simp [selB]; omega
    have h := sel_whole (k := (selB a b c).length - 1) (reads_any (parse_ok ha).2) (reads_any (parse_ok hb).2) (reads_any (parse_ok hc).2) (fun v hv => deep_paren (parse_ok hb).2 (by omega) v hv) (deep_paren (parse_ok hc).2 (by omega) [] (.inl rfl)) (by omega)
    rw [← whole_succ (by omega)] at h
    rcases parse_is hl h with h | ⟨_, h⟩
    · exact .inl h
    · exact .inr h

/-! ### Where one is right, all are -/
theorem sure_of_join {a b : List UInt8} {t u w : Tr} (ha : parseT a = .tree t) (hb : parseT b = .tree u) (h : parseT (joinB 43 a b) = .tree w) : wholeRd a.length 1 a = .ok t [] ∧ wholeRd b.length 1 b = .ok u [] := by
  have h1 := (parse_ok h).2
  have hlen : (joinB 43 a b).length = a.length + b.length + 5 := by simp [joinB]; omega
  rw [whole_succ (by omega)] at h1
  have hka : a.length ≤ (joinB 43 a b).length - 1 := by omega
  have hkb : b.length ≤ (joinB 43 a b).length - 1 := by omega
  generalize (joinB 43 a b).length - 1 = k at h1 hka hkb
  obtain ⟨a1, l1, h1, -⟩ := Rd.bind_ok h1
  obtain ⟨a2, l2, h2, -⟩ := Rd.bind_ok h1
  have hadd := h2
  obtain ⟨a3, l3, h3, -⟩ := Rd.bind_ok h2
  obtain ⟨a4, l4, h4, -⟩ := Rd.bind_ok h3
  have hl : lessRd (wholeRd k) 0 (joinB 43 a b) = oneRd (wholeRd k) 0 (joinB 43 a b) := less_other _ _ _ (by decide)
  rw [hl] at h4
  obtain ⟨a5, l5, h5, -⟩ := Rd.bind_ok (deep_ok h4).2
  have hA : wholeRd a.length 1 a = .ok t [] := by
    rcases reads_one (parse_ok ha).2 with hA | ⟨e, hA⟩
    · exact hA
    · obtain ⟨j, hj⟩ := reads_deep hA k _ hka (stop_close (43 :: 40 :: (b ++ [41])))
      rw [hj] at h5; cases h5
  refine ⟨hA, ?_⟩
  rcases reads_one (parse_ok hb).2 with hB | ⟨e, hB⟩
  · exact hB
  exfalso
  obtain ⟨j, hj⟩ := reads_deep hB k _ hkb (stop_close [])
  have hbad : oneRd (wholeRd k) 0 (40 :: (b ++ [41])) = .bad j 4 := by
    show deepRd 0 _ _ = _
    unfold deepRd
    rw [if_neg (by decide), hj]; rfl
  have hless : lessRd (wholeRd k) 0 (40 :: (b ++ [41])) = .bad j 4 := (less_other _ _ _ (by decide)).trans hbad
  have hmul : mulRd (wholeRd k) 0 (40 :: (b ++ [41])) = .bad j 4 := by unfold mulRd rowRd; rw [hless]; rfl
  rcases mul_paren (reads_sure hA) hka (v := 43 :: 40 :: (b ++ [41])) (past_cons (by decide)) with hm | ⟨hm, _⟩
  · have : addRd (wholeRd k) 0 (joinB 43 a b) = .bad j 4 := by
      show (mulRd (wholeRd k) 0 (joinB 43 a b)).bind _ = _
      rw [show mulRd (wholeRd k) 0 (joinB 43 a b) = _ from hm]
      simp only [Rd.bind, List.length_cons, loopRd]
      rw [if_pos (by decide), hmul]
    rw [this] at hadd; cases hadd
  · exact hm
section
variable {a b : List UInt8} {t u : Tr} (hA : wholeRd a.length 1 a = .ok t []) (hB : wholeRd b.length 1 b = .ok u [])
include hA hB
theorem join_sure (op : UInt8) (ho : op = 43 ∨ op = 42 ∨ op = 60 ∨ op = 62 ∨ op = 61) (hl : a.length + b.length + 5 ≤ 120) : parseT (joinB op a b) = .tree (.bin op t u) := by
  have hlen : (joinB op a b).length = a.length + b.length + 5 := by simp [joinB]; omega
  have h := join_whole (k := (joinB op a b).length - 1) op ho (reads_sure hA) (reads_sure hB) (by omega) (by omega)
  rw [← whole_succ (by omega)] at h
  rcases parse_is (by omega) h with h | ⟨h, _⟩
  · exact h
  · exact absurd h id
theorem min_sure (x y : UInt8) (op : UInt8) (ho : (x = 105 ∧ y = 110 ∧ op = 109) ∨ (x = 97 ∧ y = 120 ∧ op = 77)) (hl : a.length + b.length + 6 ≤ 120) : parseT (minB x y a b) = .tree (.bin op t u) := by
  have hlen : (minB x y a b).length = a.length + b.length + 6 := by simp [minB]; omega
  have h := min_whole (k := (minB x y a b).length - 1) x y op ho (reads_sure hA) (reads_sure hB) (by omega) (by omega)
  rw [← whole_succ (by omega)] at h
  rcases parse_is (by omega) h with h | ⟨h, _⟩
  · exact h
  · exact absurd h id
end
theorem join_len {op : UInt8} {a b : List UInt8} {w : Tr} (h : parseT (joinB op a b) = .tree w) : a.length + b.length + 5 ≤ 120 := by
  have := (parse_ok h).1
  have hlen : (joinB op a b).length = a.length + b.length + 5 := by simp [joinB]; omega
  omega
theorem min_len {x y : UInt8} {a b : List UInt8} {w : Tr} (h : parseT (minB x y a b) = .tree w) : a.length + b.length + 6 ≤ 120 := by
  have := (parse_ok h).1
  have hlen : (minB x y a b).length = a.length + b.length + 6 := by simp [minB]; omega
  omega
end Go.Proofs.YtfndhfekbbbliaaGreatDoor

/-
  Expressions, plain: a tree's text is read as that tree. Conditions: its numbers and operators are some, its depth is at most 20, its text is short enough.
-/
namespace Go.Proofs.YtfndhfekbbbliaaGreatDoor
open Go.RowKit
set_option linter.unusedVariables false

/-- What stands behind does not go on with what is so tight. -/
def PastL (L : Nat) (v : List UInt8) : Prop := ∀ c r, v = c :: r → isDig c = false ∧ (L ≤ 3 → c ∉ ([42, 47, 37] : List UInt8)) ∧ (L ≤ 2 → c ∉ ([43, 45] : List UInt8)) ∧ (L ≤ 1 → c ∉ ([61, 60, 62] : List UInt8)) ∧ (L ≤ 0 → c ≠ 63)
theorem pastL_nil (L : Nat) : PastL L [] := fun c r h => by cases h
theorem pastL_cons {L : Nat} {c : UInt8} (r : List UInt8) (h : isDig c = false ∧ (L ≤ 3 → c ∉ ([42, 47, 37] : List UInt8)) ∧ (L ≤ 2 → c ∉ ([43, 45] : List UInt8)) ∧ (L ≤ 1 → c ∉ ([61, 60, 62] : List UInt8)) ∧ (L ≤ 0 → c ≠ 63)) : PastL L (c :: r) := fun c' r' e => by injection e with e _; subst e; exact h
theorem PastL.up {L M : Nat} {v : List UInt8} (h : PastL L v) (hL : L ≤ M) : PastL M v := fun c r e => by
  obtain ⟨h1, h2, h3, h4, h5⟩ := h c r e
  exact ⟨h1, fun x => h2 (by omega), fun x => h3 (by omega), fun x => h4 (by omega), fun x => h5 (by omega)⟩
/-- The reader of each level. -/
def lvl (W : Reads) : Nat → Reads
  | 0 => wholeStep W
  | 1 => cmpRd W
  | 2 => addRd W
  | 3 => mulRd W
  | 4 => lessRd W
  | _ => oneRd W
theorem lift_one {W : Reads} {L d : Nat} {x v : List UInt8} {t : Tr} (hL : L < 5) (h : lvl W (L + 1) d x = .ok t v) (hv : PastL L v) : lvl W L d x = .ok t v := by
  match L, hL with
  | 4, _ =>
    cases x with
    | nil => exact h
    | cons c r =>
      show lessRd W d (c :: r) = _
      rw [less_other]
      · exact h
      · rintro rfl
        have h : oneRd W d (45 :: r) = .ok t v := h
        have : oneRd W d (45 :: r) = numRd (45 :: r) := by
          unfold oneRd
          split
          · rename_i e; injection e with e _; exact absurd e (by decide)
          · rename_i e; injection e with e _; exact absurd e (by decide)
          · rename_i e; injection e with e _; exact absurd e (by decide)
          · rename_i e; injection e with e _; exact absurd e (by decide)
          · rename_i e; injection e with e _; exact absurd e (by decide)
          · rfl
        rw [this] at h
        obtain ⟨c, r2, e, hc⟩ := num_head (num_ok h).1
        injection e with e _; subst e; exact absurd hc (by decide)
  | 3, _ =>
    have h : lessRd W d x = .ok t v := h
    show (lessRd W d x).bind _ = _
    rw [h]
    exact loop_stop (fun c r e => (hv c r e).2.1 (by omega)) _ _
  | 2, _ =>
    have h : mulRd W d x = .ok t v := h
    show (mulRd W d x).bind _ = _
    rw [h]
    exact loop_stop (fun c r e => (hv c r e).2.2.1 (by omega)) _ _
  | 1, _ =>
    have h : addRd W d x = .ok t v := h
    show (addRd W d x).bind _ = _
    rw [h]
    cases v with
    | nil => rfl
    | cons c r =>
      show cmpTl W d t (c :: r) = _
      simp only [cmpTl, if_neg ((hv c r rfl).2.2.2.1 (by omega))]
  | 0, _ =>
    have h : cmpRd W d x = .ok t v := h
    show (cmpRd W d x).bind _ = _
    rw [h]
    cases v with
    | nil => rfl
    | cons c r =>
      show selRd W d t (c :: r) = _
      simp only [selRd, if_neg ((hv c r rfl).2.2.2.2 (by omega))]
theorem lift {W : Reads} {L M d : Nat} {x v : List UInt8} {t : Tr} (hLM : L ≤ M) (hM : M ≤ 5) (h : lvl W M d x = .ok t v) (hv : PastL L v) : lvl W L d x = .ok t v := by
  obtain ⟨n, rfl⟩ : ∃ n, M = L + n := ⟨M - L, by omega⟩
  induction n with
  | zero => exact h
  | succ n ih => exact ih (by omega) (by omega) (lift_one (L := L + n) (by omega) h (hv.up (by omega)))

/-! ### The loop, whatever its fuel -/
theorem loop_fuel {next : List UInt8 → Rd} {ops : List UInt8} (hn : Short next) : ∀ k k' a l, l.length ≤ k → l.length ≤ k' → loopRd next ops k a l = loopRd next ops k' a l := by
  intro k
  induction k with
  | zero =>
    intro k' a l h1 h2
    obtain rfl := List.eq_nil_of_length_eq_zero (Nat.le_zero.1 h1)
    cases k' <;> rfl
  | succ k ih =>
    intro k' a l h1 h2
    cases l with
    | nil => cases k' <;> rfl
    | cons c r =>
      obtain ⟨k2, rfl⟩ : ∃ k2, k' = k2 + 1 := ⟨k' - 1, by simp only [List.length_cons] at h2; omega⟩
      simp only [loopRd, List.length_cons] at h1 h2 ⊢
      split
      · cases h : next r with
        | ok b l1 =>
          have := hn _ _ _ h
          exact ih k2 _ l1 (by omega) (by omega)
        | bad k e => rfl
      · rfl

/-! ### Texts are read back -/
/-- t's text, where it has to be L tight, is read at level L as t. -/
def BackL (t : Tr) (L : Nat) : Prop := ∀ k d v, (t.at_ L).length + v.length ≤ k + 1 → d + t.needs L ≤ 20 → PastL L v → lvl (wholeRd k) L d (t.at_ L ++ v) = .ok t v
/-- t's text, where it goes on: at the levels of rows. -/
def BackR (t : Tr) (L : Nat) (next : Nat → Reads) (ops : List UInt8) : Prop := ∀ k d v, (t.at_ L).length + v.length ≤ k + 1 → d + t.needs L ≤ 20 → PastL (L + 1) v → rowRd (next k d) ops (t.at_ L ++ v) = loopRd (next k d) ops v.length t v
structure Back (t : Tr) : Prop where
  all : ∀ L, L ≤ 5 → BackL t L
  mul : BackR t 3 (fun k => lessRd (wholeRd k)) [42, 47, 37]
  add : BackR t 2 (fun k => mulRd (wholeRd k)) [43, 45]
theorem at_pos (t : Tr) : 0 < t.raw.length := by
  cases t with
  | num k =>
    show 0 < (Lib.itoa k).length
    unfold Lib.itoa
    split
    · simp
    · rw [Lib.decDigits_length]; exact Lib.nDigits_pos _
  | nam n => cases n <;> simp [Tr.raw]
  | neg a => simp [Tr.raw]
  | bin op a b => simp only [Tr.raw]; split <;> (try split) <;> simp <;> omega
  | sel a b c => simp [Tr.raw]; omega
theorem at_pos' (t : Tr) (L : Nat) : 0 < (t.at_ L).length := by have := at_pos t; rw [at_length]; omega
/-- A reader of whole expressions, of strictly less. -/
theorem whole_of {k d : Nat} {x v : List UInt8} {t : Tr} (hx : 0 < x.length) (hk : x.length ≤ k) (h : ∀ k2, k = k2 + 1 → lvl (wholeRd k2) 0 d x = .ok t v) : wholeRd k d x = .ok t v := by
  obtain ⟨k2, rfl⟩ : ∃ k2, k = k2 + 1 := ⟨k - 1, by omega⟩
  exact h k2 rfl
/-- From the text itself to all levels. -/
theorem back_all {t : Tr} (h : ∀ k d v, t.raw.length + v.length ≤ k + 1 → d + t.need ≤ 20 → PastL t.tight v → lvl (wholeRd k) t.tight d (t.raw ++ v) = .ok t v) (ht : t.tight ≤ 5) : ∀ L, L ≤ 5 → BackL t L := by
  intro L hL k d v hlen hd hv
  by_cases hb : t.tight < L
  · have e1 : t.at_ L = 40 :: (t.raw ++ [41]) := by unfold Tr.at_; rw [decide_eq_true hb]; rfl
    have e2 : t.needs L = t.need + 1 := by unfold Tr.needs; rw [if_pos hb]
    rw [e1] at hlen ⊢
    rw [e2] at hd
    have hstop : ∀ M, PastL M (41 :: v) := fun M => pastL_cons v ⟨by decide, fun _ => by decide, fun _ => by decide, fun _ => by decide, fun _ => by decide⟩
    have hW : wholeRd k (d + 1) (t.raw ++ 41 :: v) = .ok t (41 :: v) := by
      simp only [List.length_append, List.length_cons, List.length_nil] at hlen
      refine whole_of (by have := at_pos t; rw [List.length_append]; omega) (by simp only [List.length_append, List.length_cons]; omega) fun k2 hk2 => ?_
      exact lift (Nat.zero_le _) ht (h k2 (d + 1) (41 :: v) (by simp only [List.length_cons]; omega) (by omega) (hstop _)) (hstop _)
    have h5 : lvl (wholeRd k) 5 d (40 :: (t.raw ++ [41]) ++ v) = .ok t v := by
      show oneRd (wholeRd k) d (40 :: ((t.raw ++ [41]) ++ v)) = _
      rw [List.append_assoc]
      show deepRd d _ _ = _
      unfold deepRd
      rw [if_neg (by omega), List.singleton_append, hW]
      simp [Rd.bind, wantRd]
    exact lift hL (Nat.le_refl _) h5 hv
  · obtain ⟨e1, e2⟩ := at_of_tight (t := t) (L := L) (by omega)
    rw [e1] at hlen ⊢
    rw [e2] at hd
    exact lift (by omega) ht (h k d v hlen hd (hv.up (by omega))) hv
/-- A row's text where it begins no row of its own. -/
theorem back_row {t : Tr} {L : Nat} (hL : L = 2 ∨ L = 3) (h : BackL t (L + 1)) (ht : t.at_ L = t.at_ (L + 1)) (ht2 : t.needs L = t.needs (L + 1)) (ops : List UInt8) : BackR t L (fun k => lvl (wholeRd k) (L + 1)) ops := by
  intro k d v hlen hd hv
  rw [ht] at hlen ⊢
  rw [ht2] at hd
  show (lvl (wholeRd k) (L + 1) d _).bind _ = _
  rw [h k d v hlen hd hv]
  rfl
theorem at_same {t : Tr} {L : Nat} (h : t.tight ≠ L) : t.at_ L = t.at_ (L + 1) ∧ t.needs L = t.needs (L + 1) := by
  unfold Tr.at_ Tr.needs
  by_cases h1 : t.tight < L
  · rw [decide_eq_true h1, decide_eq_true (show t.tight < L + 1 by omega), if_pos h1, if_pos (show t.tight < L + 1 by omega)]; exact ⟨rfl, rfl⟩
  · rw [decide_eq_false h1, decide_eq_false (show ¬ t.tight < L + 1 by omega), if_neg h1, if_neg (show ¬ t.tight < L + 1 by omega)]; exact ⟨rfl, rfl⟩
theorem back_of {t : Tr} (ht : t.tight ≤ 5) (h2 : t.tight ≠ 2) (h3 : t.tight ≠ 3) (h : ∀ k d v, t.raw.length + v.length ≤ k + 1 → d + t.need ≤ 20 → PastL t.tight v → lvl (wholeRd k) t.tight d (t.raw ++ v) = .ok t v) : Back t := by
  have ha := back_all h ht
  exact ⟨ha, back_row (.inr rfl) (ha 4 (by omega)) (at_same h3).1 (at_same h3).2 _, back_row (.inl rfl) (ha 3 (by omega)) (at_same h2).1 (at_same h2).2 _⟩

theorem isDig_no {c : UInt8} (h : c.toNat < 48 ∨ 57 < c.toNat) : isDig c = false := by
  unfold isDig
  rcases h with h | h
  · rw [decide_eq_false (by omega)]; rfl
  · rw [Bool.and_eq_false_iff]; right; exact decide_eq_false (by omega)
theorem digs_past {ds v : List UInt8} (h : ∀ c ∈ ds, isDig c = true) (hv : ∀ c r, v = c :: r → isDig c = false) : digsOf (ds ++ v) = ds := by
  induction ds with
  | nil =>
    cases v with
    | nil => rfl
    | cons c r => simp [digsOf, hv c r rfl]
  | cons c r ih =>
    unfold digsOf at ih ⊢
    rw [List.cons_append, List.takeWhile_cons, h c List.mem_cons_self, if_pos rfl, ih fun c hc => h c (List.mem_cons_of_mem _ hc)]
theorem num_back {k : Int} (h1 : 0 ≤ k) (h2 : k ≤ 9223372036854775807) {v : List UInt8} (hv : ∀ c r, v = c :: r → isDig c = false) : numRd (Lib.itoa k ++ v) = .ok (.num k) v := by
  obtain ⟨n, rfl⟩ := Int.eq_ofNat_of_zero_le h1
  rw [itoa_nat_]
  have hd : digsOf (Lib.decDigits n ++ v) = Lib.decDigits n := digs_past (dec_digs n) hv
  have hn : numOf (Lib.decDigits n ++ v) = Lib.decDigits n := by
    unfold numOf
    rw [hd]
    split
    · rename_i c d r e
      rw [if_neg]
      · exact e.symm
      · rintro rfl
        rcases Nat.eq_zero_or_pos n with rfl | hn
        · rw [dec_small (by decide)] at e; injection e with _ e; cases e
        · obtain ⟨c, r2, e2, hc⟩ := dec_head n hn
          rw [e] at e2; injection e2 with e2 _; exact hc e2.symm
    · rfl
  unfold numRd
  rw [hn, dec_val]
  have hne : Lib.decDigits n ≠ [] := fun e => by
    have := Lib.decDigits_length n
    rw [e] at this
    have := Lib.nDigits_pos n
    simp at *; omega
  rw [if_neg (by rintro (h | h); exact hne h; omega), List.drop_append_of_le_length (Nat.le_refl _), List.drop_length]
  rfl
theorem min_back {x y op : UInt8} (ho : (x = 105 ∧ y = 110 ∧ op = 109) ∨ (x = 97 ∧ y = 120 ∧ op = 77)) {a b : Tr} (ha : BackL a 0) (hb : BackL b 0) {k d : Nat} {v : List UInt8} (hlen : a.raw.length + b.raw.length + 6 + v.length ≤ k + 1) (hd : d + (1 + max a.need b.need) ≤ 20) :
    oneRd (wholeRd k) d ((109 :: x :: y :: 40 :: (a.raw ++ 44 :: (b.raw ++ [41]))) ++ v) = .ok (.bin op a b) v := by
  have e : (109 :: x :: y :: 40 :: (a.raw ++ 44 :: (b.raw ++ [41]))) ++ v = 109 :: x :: y :: 40 :: (a.raw ++ 44 :: (b.raw ++ 41 :: v)) := by simp
  have h1 : wholeRd k (d + 1) (a.raw ++ 44 :: (b.raw ++ 41 :: v)) = .ok a (44 :: (b.raw ++ 41 :: v)) := by
    refine whole_of (by have := at_pos a; rw [List.length_append]; omega) (by simp only [List.length_append, List.length_cons]; omega) fun k2 hk2 => ?_
    have := ha k2 (d + 1) (44 :: (b.raw ++ 41 :: v)) (by rw [at_zero]; simp only [List.length_append, List.length_cons]; omega) (by rw [needs_zero]; omega) (pastL_cons _ ⟨by decide, fun _ => by decide, fun _ => by decide, fun _ => by decide, fun _ => by decide⟩)
    rw [at_zero] at this; exact this
  have h2 : wholeRd k (d + 1) (b.raw ++ 41 :: v) = .ok b (41 :: v) := by
    refine whole_of (by have := at_pos b; rw [List.length_append]; omega) (by simp only [List.length_append, List.length_cons]; omega) fun k2 hk2 => ?_
    have := hb k2 (d + 1) (41 :: v) (by rw [at_zero]; simp only [List.length_cons]; omega) (by rw [needs_zero]; omega) (pastL_cons _ ⟨by decide, fun _ => by decide, fun _ => by decide, fun _ => by decide, fun _ => by decide⟩)
    rw [at_zero] at this; exact this
  have h3 : ∀ op, twoRd (wholeRd k) op (d + 1) (a.raw ++ 44 :: (b.raw ++ 41 :: v)) = .ok (.bin op a b) v := fun op => by
    unfold twoRd
    rw [h1]
    simp only [Rd.bind, wantRd, if_true, h2]
  rw [e]
  rcases ho with ⟨rfl, rfl, rfl⟩ | ⟨rfl, rfl, rfl⟩
  · show deepRd d _ _ = _
    unfold deepRd
    rw [if_neg (by omega)]; exact h3 _
  · show deepRd d _ _ = _
    unfold deepRd
    rw [if_neg (by omega)]; exact h3 _
/-- An operator of a row: its text goes on. -/
theorem bin_row {L : Nat} {ops : List UInt8} (hL : L = 2 ∨ L = 3) {op : UInt8} (ho : op ∈ ops) (hpast : ∀ r, PastL (L + 1) (op :: r)) {a b : Tr} (hS : ∀ k d, Short (lvl (wholeRd k) (L + 1) d)) (ha : BackR a L (fun k => lvl (wholeRd k) (L + 1)) ops) (hb : BackL b (L + 1)) {k d : Nat} {v : List UInt8}
    (hlen : (a.at_ L).length + (1 + (b.at_ (L + 1)).length) + v.length ≤ k + 1) (hd1 : d + a.needs L ≤ 20) (hd2 : d + b.needs (L + 1) ≤ 20) (hv : PastL (L + 1) v) :
    rowRd (lvl (wholeRd k) (L + 1) d) ops ((a.at_ L ++ op :: b.at_ (L + 1)) ++ v) = loopRd (lvl (wholeRd k) (L + 1) d) ops v.length (.bin op a b) v := by
  have e : (a.at_ L ++ op :: b.at_ (L + 1)) ++ v = a.at_ L ++ (op :: (b.at_ (L + 1) ++ v)) := by simp
  rw [e, ha k d (op :: (b.at_ (L + 1) ++ v)) (by simp only [List.length_cons, List.length_append]; omega) hd1 (hpast _)]
  simp only [List.length_cons, loopRd, if_pos ho]
  rw [hb k d v (by omega) hd2 hv]
  exact loop_fuel (hS k d) _ _ _ _ (by rw [List.length_append]; omega) (Nat.le_refl _)
theorem bin_parts {op : UInt8} {a b : Tr} (h1 : op ≠ 109) (h2 : op ≠ 77) : (Tr.bin op a b).raw = a.at_ (leftOf (tightOp op)) ++ op :: b.at_ (tightOp op + 1) ∧ (Tr.bin op a b).need = max (a.needs (leftOf (tightOp op))) (b.needs (tightOp op + 1)) := by
  refine ⟨?_, ?_⟩
  · simp only [Tr.raw, if_neg h1, if_neg h2]; rfl
  · simp only [Tr.need, if_neg (show ¬ (op = 109 ∨ op = 77) from fun h => h.elim h1 h2)]; rfl
theorem row_back {L : Nat} {ops : List UInt8} (hL : L = 2 ∨ L = 3) {op : UInt8} {a b : Tr} (ht : tightOp op = L) (hraw : (Tr.bin op a b).raw = a.at_ L ++ op :: b.at_ (L + 1)) (hneed : (Tr.bin op a b).need = max (a.needs L) (b.needs (L + 1)))
    (hlv : ∀ k d x, lvl (wholeRd k) L d x = rowRd (lvl (wholeRd k) (L + 1) d) ops x) (hstop : ∀ v, PastL L v → ∀ c r, v = c :: r → c ∉ ops)
    (hrow : ∀ k d v, (a.at_ L).length + (1 + (b.at_ (L + 1)).length) + v.length ≤ k + 1 → d + a.needs L ≤ 20 → d + b.needs (L + 1) ≤ 20 → PastL (L + 1) v → rowRd (lvl (wholeRd k) (L + 1) d) ops ((a.at_ L ++ op :: b.at_ (L + 1)) ++ v) = loopRd (lvl (wholeRd k) (L + 1) d) ops v.length (.bin op a b) v) :
    (∀ M, M ≤ 5 → BackL (.bin op a b) M) ∧ BackR (.bin op a b) L (fun k => lvl (wholeRd k) (L + 1)) ops := by
  have htt : (Tr.bin op a b).tight = L := ht
  obtain ⟨e1, e2⟩ := at_of_tight (t := .bin op a b) (L := L) (by rw [htt]; exact Nat.le_refl _)
  refine ⟨back_all (fun k d v hlen hd hv => ?_) (by rw [htt]; omega), fun k d v hlen hd hv => ?_⟩
  · rw [htt] at hv ⊢
    rw [hraw] at hlen ⊢
    rw [hneed] at hd
    rw [hlv, hrow k d v (by simp only [List.length_append, List.length_cons] at hlen; omega) (by omega) (by omega) (hv.up (by omega))]
    exact loop_stop (hstop v hv) _ _
  · rw [e1, hraw] at hlen ⊢
    rw [e2, hneed] at hd
    exact hrow k d v (by simp only [List.length_append, List.length_cons] at hlen; omega) (by omega) (by omega) hv
theorem back (t : Tr) (hf : t.fine) : Back t := by
  induction t with
  | num k =>
    refine back_of (Nat.le_refl _) (show (5 : Nat) ≠ 2 by omega) (show (5 : Nat) ≠ 3 by omega) fun k' d v hlen hd hv => ?_
    show oneRd _ d (Lib.itoa k ++ v) = _
    have hn : numRd (Lib.itoa k ++ v) = .ok (.num k) v := num_back hf.1 hf.2 fun c r e => (hv c r e).1
    obtain ⟨c, r, e, hc⟩ := num_head (num_ok hn).1
    rw [← hn, e]
    exact one_dig _ _ _ hc
  | nam n =>
    refine back_of (Nat.le_refl _) (show (5 : Nat) ≠ 2 by omega) (show (5 : Nat) ≠ 3 by omega) fun k' d v hlen hd hv => ?_
    cases n <;> rfl
  | neg a ih =>
    have ha := (ih hf).all 4 (by omega)
    refine back_of (show 4 ≤ 5 by omega) (show (4 : Nat) ≠ 2 by omega) (show (4 : Nat) ≠ 3 by omega) fun k d v hlen hd hv => ?_
    have e1 : (Tr.neg a).raw = 45 :: a.at_ 4 := rfl
    have e2 : (Tr.neg a).need = 1 + a.needs 4 := rfl
    rw [e1] at hlen ⊢
    rw [e2] at hd
    show lessRd _ d (45 :: (a.at_ 4 ++ v)) = _
    rw [less_minus]
    unfold deepRd
    rw [if_neg (by omega)]
    have h : lessRd (wholeRd k) (d + 1) (a.at_ 4 ++ v) = .ok a v := ha k (d + 1) v (by simp only [List.length_cons] at hlen; omega) (by omega) hv
    rw [h]; rfl
  | sel a b c iha ihb ihc =>
    obtain ⟨hfa, hfb, hfc⟩ := hf
    refine back_of (Nat.zero_le _) (show (0 : Nat) ≠ 2 by omega) (show (0 : Nat) ≠ 3 by omega) fun k d v hlen hd hv => ?_
    have e1 : (Tr.sel a b c).raw = a.at_ 1 ++ 63 :: (b.raw ++ 58 :: c.raw) := rfl
    have e2 : (Tr.sel a b c).need = max (a.needs 1) (max (1 + b.need) (1 + c.need)) := rfl
    rw [e1] at hlen ⊢
    rw [e2] at hd
    simp only [List.length_append, List.length_cons] at hlen
    have e3 : a.at_ 1 ++ 63 :: (b.raw ++ 58 :: c.raw) ++ v = a.at_ 1 ++ 63 :: (b.raw ++ 58 :: (c.raw ++ v)) := by simp
    have h1 : cmpRd (wholeRd k) d (a.at_ 1 ++ 63 :: (b.raw ++ 58 :: (c.raw ++ v))) = .ok a (63 :: (b.raw ++ 58 :: (c.raw ++ v))) :=
      (iha hfa).all 1 (by omega) k d _ (by simp only [List.length_append, List.length_cons]; omega) (by omega) (pastL_cons _ ⟨by decide, fun _ => by decide, fun _ => by decide, fun _ => by decide, fun h => absurd h (by omega)⟩)
    have h2 : wholeRd k (d + 1) (b.raw ++ 58 :: (c.raw ++ v)) = .ok b (58 :: (c.raw ++ v)) := by
      refine whole_of (by have := at_pos b; rw [List.length_append]; omega) (by simp only [List.length_append, List.length_cons]; omega) fun k2 hk2 => ?_
      have := (ihb hfb).all 0 (by omega) k2 (d + 1) (58 :: (c.raw ++ v)) (by rw [at_zero]; simp only [List.length_append, List.length_cons]; omega) (by rw [needs_zero]; omega) (pastL_cons _ ⟨by decide, fun _ => by decide, fun _ => by decide, fun _ => by decide, fun _ => by decide⟩)
      rw [at_zero] at this; exact this
    have h3 : wholeRd k (d + 1) (c.raw ++ v) = .ok c v := by
      refine whole_of (by have := at_pos c; rw [List.length_append]; omega) (by simp only [List.length_append]; omega) fun k2 hk2 => ?_
      have := (ihc hfc).all 0 (by omega) k2 (d + 1) v (by rw [at_zero]; omega) (by rw [needs_zero]; omega) hv
      rw [at_zero] at this; exact this
    rw [e3]
    show (cmpRd _ d _).bind _ = _
    rw [h1]
    show selRd _ d a (63 :: _) = _
    simp only [selRd, if_true]
    unfold deepRd
    rw [if_neg (by omega), h2]
    simp only [Rd.bind, wantRd, if_true, h3]
  | bin op a b iha ihb =>
    obtain ⟨ho, hfa, hfb⟩ := hf
    have ha := iha hfa
    have hb := ihb hfb
    have ho' : op = 109 ∨ op = 77 ∨ (op = 61 ∨ op = 60 ∨ op = 62) ∨ (op = 43 ∨ op = 45) ∨ (op = 42 ∨ op = 47 ∨ op = 37) := by
      simp only [isOp, Bool.or_eq_true, beq_iff_eq] at ho
      rcases ho with ((((((((h | h) | h) | h) | h) | h) | h) | h) | h) | h <;> simp [h]
    rcases ho' with rfl | rfl | ho | ho | ho
    · refine back_of (Nat.le_refl _) (show (5 : Nat) ≠ 2 by omega) (show (5 : Nat) ≠ 3 by omega) fun k d v hlen hd hv => ?_
      exact min_back (.inl ⟨rfl, rfl, rfl⟩) (ha.all 0 (by omega)) (hb.all 0 (by omega)) (by simp only [Tr.raw, if_true, List.length_append, List.length_cons, List.length_nil] at hlen; omega) hd
    · refine back_of (Nat.le_refl _) (show (5 : Nat) ≠ 2 by omega) (show (5 : Nat) ≠ 3 by omega) fun k d v hlen hd hv => ?_
      exact min_back (.inr ⟨rfl, rfl, rfl⟩) (ha.all 0 (by omega)) (hb.all 0 (by omega)) (by have e := (min_len_ 77 (.inr rfl) a b).1; rw [e] at hlen; omega) hd
    · have hk : tightOp op = 1 ∧ op ≠ 109 ∧ op ≠ 77 := by rcases ho with rfl | rfl | rfl <;> decide
      obtain ⟨hk, n1, n2⟩ := hk
      obtain ⟨p1, p2⟩ := bin_parts (a := a) (b := b) n1 n2
      rw [hk] at p1 p2
      have htt : (Tr.bin op a b).tight = 1 := hk
      refine back_of (by rw [htt]; omega) (by rw [htt]; omega) (by rw [htt]; omega) fun k d v hlen hd hv => ?_
      rw [htt] at hv ⊢
      have q1 : (Tr.bin op a b).raw = a.at_ 2 ++ op :: b.at_ 2 := p1
      have q2 : (Tr.bin op a b).need = max (a.needs 2) (b.needs 2) := p2
      rw [q1] at hlen ⊢
      rw [q2] at hd
      simp only [List.length_append, List.length_cons] at hlen
      have e3 : a.at_ 2 ++ op :: b.at_ 2 ++ v = a.at_ 2 ++ op :: (b.at_ 2 ++ v) := by simp
      have h1 : addRd (wholeRd k) d (a.at_ 2 ++ op :: (b.at_ 2 ++ v)) = .ok a (op :: (b.at_ 2 ++ v)) :=
        ha.all 2 (by omega) k d _ (by simp only [List.length_append, List.length_cons]; omega) (by omega) (pastL_cons _ (by rcases ho with rfl | rfl | rfl <;> exact ⟨by decide, fun _ => by decide, fun _ => by decide, fun h => absurd h (by omega), fun h => absurd h (by omega)⟩))
      have h2 : addRd (wholeRd k) d (b.at_ 2 ++ v) = .ok b v := hb.all 2 (by omega) k d v (by omega) (by omega) (hv.up (by omega))
      rw [e3]
      show (addRd _ d _).bind _ = _
      rw [h1]
      show cmpTl _ d a (op :: _) = _
      have hm : op ∈ ([61, 60, 62] : List UInt8) := by rcases ho with rfl | rfl | rfl <;> decide
      simp only [cmpTl, if_pos hm, h2, Rd.bind]
    · have hk : tightOp op = 2 ∧ op ≠ 109 ∧ op ≠ 77 := by rcases ho with rfl | rfl <;> decide
      obtain ⟨hk, n1, n2⟩ := hk
      obtain ⟨p1, p2⟩ := bin_parts (a := a) (b := b) n1 n2
      rw [hk] at p1 p2
      have hm : op ∈ ([43, 45] : List UInt8) := by rcases ho with rfl | rfl <;> decide
      have hp : ∀ r, PastL 3 (op :: r) := fun r => pastL_cons _ (by rcases ho with rfl | rfl <;> exact ⟨by decide, fun _ => by decide, fun h => absurd h (by omega), fun h => absurd h (by omega), fun h => absurd h (by omega)⟩)
      obtain ⟨r1, r2⟩ := row_back (ops := [43, 45]) (.inl rfl) hk p1 p2 (fun k d x => rfl) (fun v hv c r e => (hv c r e).2.2.1 (by omega)) (fun k d v g1 g2 g3 g4 => bin_row (.inl rfl) hm hp (fun k d => row_short (less_short (whole_short k) d) _) ha.add (hb.all 3 (by omega)) g1 g2 g3 g4)
      have htt : (Tr.bin op a b).tight = 2 := hk
      exact ⟨r1, back_row (.inr rfl) (r1 4 (by omega)) (at_same (by rw [htt]; omega)).1 (at_same (by rw [htt]; omega)).2 _, r2⟩
    · have hk : tightOp op = 3 ∧ op ≠ 109 ∧ op ≠ 77 := by rcases ho with rfl | rfl | rfl <;> decide
      obtain ⟨hk, n1, n2⟩ := hk
      obtain ⟨p1, p2⟩ := bin_parts (a := a) (b := b) n1 n2
      rw [hk] at p1 p2
      have hm : op ∈ ([42, 47, 37] : List UInt8) := by rcases ho with rfl | rfl | rfl <;> decide
      have hp : ∀ r, PastL 4 (op :: r) := fun r => pastL_cons _ (by rcases ho with rfl | rfl | rfl <;> exact ⟨by decide, fun h => absurd h (by omega), fun h => absurd h (by omega), fun h => absurd h (by omega), fun h => absurd h (by omega)⟩)
      obtain ⟨r1, r2⟩ := row_back (ops := [42, 47, 37]) (.inr rfl) hk p1 p2 (fun k d x => rfl) (fun v hv c r e => (hv c r e).2.1 (by omega)) (fun k d v g1 g2 g3 g4 => bin_row (.inr rfl) hm hp (fun k d => less_short (whole_short k) d) ha.mul (hb.all 4 (by omega)) g1 g2 g3 g4)
      have htt : (Tr.bin op a b).tight = 3 := hk
      exact ⟨r1, r2, back_row (.inl rfl) (r1 3 (by omega)) (at_same (by rw [htt]; omega)).1 (at_same (by rw [htt]; omega)).2 _⟩

/-- What is printed is read as it was, and is no longer. -/
theorem print_back {s : List UInt8} {t : Tr} (h : parseT s = .tree t) : parseT t.raw = .tree t ∧ t.raw.length ≤ s.length ∧ t.fine := by
  obtain ⟨hl, h⟩ := parse_ok h
  obtain ⟨hf, h1, h2⟩ := whole_fits _ _ _ _ _ (by omega) h
  rw [at_zero] at h1
  rw [needs_zero] at h2
  have hlen : t.raw.length ≤ s.length := by simpa using h1
  refine ⟨?_, hlen, hf⟩
  unfold parseT
  rw [if_neg (by omega)]
  have hp := at_pos t
  rw [whole_succ hp]
  have hb := (back t hf).all 0 (by omega) (t.raw.length - 1) 0 [] (by rw [at_zero]; simp; omega) (by rw [needs_zero]; omega) (pastL_nil 0)
  rw [at_zero, List.append_nil] at hb
  rw [show wholeStep (wholeRd (t.raw.length - 1)) 0 t.raw = _ from hb]
end Go.Proofs.YtfndhfekbbbliaaGreatDoor

/-
  Package expr: the contract of Eval. Conditions: the text's length; the two variables of Atoi's errors hold errors.
-/
namespace Go.Proofs.YtfndhfekbbbliaaGreatDoor
open Go.RowKit Go.Shelf
set_option linter.unusedVariables false

theorem fine_of {s : List UInt8} {t : Tr} (h : parseT s = .tree t) : t.fine := (print_back h).2.2
set_option maxRecDepth 100000 in
theorem eval_fault (s : ByteArray) (n sv : Int) (w : World) (hv : ErrVars w) (hsz : s.size ≤ maxLen) {k : Nat} {j : Int} (hp : parseT s.data.toList = .fault k j) :
    Calls Tryz.prog 15 #[.string s, .int .i64 n, .int .i64 sv] w fun e w' => e = .returned (.tuple #[.int .i64 0, errV j]) ∧ Below w.heap.size w w' := by
  have HPR := Lib.hid (parse_reads s w hv hsz)
  have HP := Lib.hid hp
  clear hp hv
  go_enter Tryz.func15, Tryz.ntmps15
  go_wp2_with fail
  refine HPR.out.mono ?_
  rintro e w1 ⟨h1, hb⟩
  have h2 := parse_fault h1 HP.out
  subst h2
  have HB := Lib.hid hb
  clear hb h1 HP HPR
  unfold errV trA
  go_wp2_with fail
  go_ret2
  exact ⟨rfl, (HB.out.alloc HB.out.size _)⟩
set_option maxRecDepth 100000 in
theorem eval_tree (s : ByteArray) (n sv : Int) (w : World) (hv : ErrVars w) (hsz : s.size ≤ maxLen) (hn : I64_ n) (hs : I64_ sv) {t : Tr} (hp : parseT s.data.toList = .tree t) :
    Calls Tryz.prog 15 #[.string s, .int .i64 n, .int .i64 sv] w fun e w' => e = .returned (.tuple #[.int .i64 (t.val n sv), .nilIface]) ∧ Below w.heap.size w w' := by
  have HPR := Lib.hid (parse_reads s w hv hsz)
  have HEV := Lib.hid (eval_ok t (fine_of hp) n sv hn hs)
  have HP := Lib.hid hp
  clear hp hv
  go_enter Tryz.func15, Tryz.ntmps15
  go_wp2_with fail
  refine HPR.out.mono ?_
  rintro e w1 ⟨h1, hb⟩
  obtain ⟨o, k, A, c, rfl, ht⟩ := parse_tree h1 HP.out
  have HB := Lib.hid hb
  have HT := Lib.hid ht
  clear hb h1 HP HPR ht
  unfold trA
  go_wp2_with fail
  have hb1 : Below w.heap.size w (w1.alloc (.cells #[.int .u8 o, .int .i64 k, .slice A c c] 86)) := HB.out.alloc HB.out.size _
  refine (HEV.out o k A c _ (((HT.out.in_ (G := fun j => j < w1.heap.size) fun j _ h => h).keep fun j hj => heap_alloc_old _ _ hj).in_ fun j hj hj2 => hj2)).mono ?_
  rintro e w2 ⟨rfl, hb2⟩
  have HB2 := Lib.hid (hb1.trans (hb2.mono hb1.size))
  clear hb1 hb2 HEV HT HB
  go_wp2_with fail
  go_ret2
  exact ⟨rfl, HB2.out⟩
end Go.Proofs.YtfndhfekbbbliaaGreatDoor

/-
  Package expr: the texts that the laws put together, as lists of bytes; how an error tells a tree. No condition: plain lemmas.
-/
namespace Go.Proofs.YtfndhfekbbbliaaGreatDoor
open Go.RowKit Go.Shelf
set_option linter.unusedVariables false

theorem i64_of_wf {n : Int} (h : (Lit.int .i64 n).wf = true) : I64_ n := by
  have := bounds_i64 h
  unfold I64_; omega
theorem ba_mk (x : Array UInt8) : (ByteArray.mk x).size = x.size := rfl
theorem join_list (op : UInt8) (a b : ByteArray) : ((⟨#[40]⟩ : ByteArray) ++ a ++ ⟨#[41, op, 40]⟩ ++ b ++ ⟨#[41]⟩).data.toList = joinB op a.data.toList b.data.toList := by simp [joinB, ByteArray.data_append]
theorem min_list (x y : UInt8) (a b : ByteArray) : ((⟨#[109, x, y, 40]⟩ : ByteArray) ++ a ++ ⟨#[44]⟩ ++ b ++ ⟨#[41]⟩).data.toList = minB x y a.data.toList b.data.toList := by simp [minB, ByteArray.data_append]
theorem sel_list (a b c : ByteArray) : ((⟨#[40]⟩ : ByteArray) ++ a ++ ⟨#[41, 63, 40]⟩ ++ b ++ ⟨#[41, 58, 40]⟩ ++ c ++ ⟨#[41]⟩).data.toList = selB a.data.toList b.data.toList c.data.toList := by simp [selB, ByteArray.data_append]
theorem err_cases (P : Parsed) : (errOf P = .nilIface ∧ ∃ t, P = .tree t) ∨ (∃ k j, P = .fault k j ∧ errOf P = errV j) := by
  cases P with
  | tree t => exact .inl ⟨rfl, t, rfl⟩
  | fault k j => exact .inr ⟨k, j, rfl, rfl⟩
/-- What Eval returns, whatever the text. -/
def valOf (n s : Int) : Parsed → Int
  | .tree t => t.val n s
  | .fault _ _ => 0
theorem eval_ok_any (x : ByteArray) (n s : Int) (w : World) (hv : ErrVars w) (hsz : x.size ≤ maxLen) (hn : I64_ n) (hs : I64_ s) :
    Calls Tryz.prog 15 #[.string x, .int .i64 n, .int .i64 s] w fun e w' => e = .returned (.tuple #[.int .i64 (valOf n s (parseT x.data.toList)), errOf (parseT x.data.toList)]) ∧ Below w.heap.size w w' := by
  cases h : parseT x.data.toList with
  | tree t => exact eval_tree x n s w hv hsz hn hs h
  | fault k j => exact eval_fault x n s w hv hsz h
end Go.Proofs.YtfndhfekbbbliaaGreatDoor
