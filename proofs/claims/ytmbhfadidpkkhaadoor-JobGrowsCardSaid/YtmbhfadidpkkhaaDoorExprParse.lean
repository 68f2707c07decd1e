/-
  Package expr: the contract of parse: a tree, or where the text is wrong, and how. Conditions: the two variables that Atoi's errors hold are there; the text is no longer than a string may be.
-/
import Derived.Test.YtmbhfadidpkkhaaDoorExprOne
import Derived.Test.YtmbhfadidpkkhaaDoorExprCmp
import Derived.Test.YtmbhfadidpkkhaaDoorExprWhole
namespace Go.Proofs.YtmbhfadidpkkhaaDoor
open Go.RowKit Go.Shelf
set_option linter.unusedVariables false

theorem step_all {W : Reads} {m : Nat} (hS : ∀ d, Short (W d)) (hW : ReadsLt_ W m) : ReadsAs 24 (wholeStep W) m :=
  whole_reads hS (cmp_reads hS (less_reads (one_reads hS hW))) hW
theorem whole_all (k : Nat) : ReadsAs 24 (wholeRd k) k := by
  induction k with
  | zero => exact step_all (bad_short 2) fun R s l d w _ _ _ h => absurd h (Nat.not_lt_zero _)
  | succ k ih => exact step_all (whole_short k) fun R s l d w h1 h2 h3 h4 h5 => ih R s l d w h1 h2 h3 (by omega) h5

theorem frame_eq (p q r X : Value) : (#[p, q, r] ++ ((Array.replicate 19 undef).setIfInBounds 3 X).setIfInBounds 0 X) = #[p, q, r, X, undef, undef, X, undef, undef, undef, undef, undef, undef, undef, undef, undef, undef, undef, undef, undef, undef, undef] := by kernel_rfl
/-- parse's deferred closure: a fault is caught. -/
def TV3 (w : World) (a b c : Nat) (x y z u v : Value) : Prop := TVar w a x y z ∧ w.heap[b]? = some (.cells #[u] 3 (0, 0)) ∧ w.heap[c]? = some (.cells #[v] 24 (0, 0))
set_option maxRecDepth 100000 in
set_option maxHeartbeats 1000000 in
theorem catch_fault (a b c p : Nat) (k : Int) (x y z u v : Value) (older : List PanicEntry) (w : World) (h : TV3 w a b c x y z u v) (hab : a ≠ b) (hac : a ≠ c) (hbc : b ≠ c) :
    CallsD Tryd.prog 23 #[.pointer (some ⟨a, 0, none⟩), .pointer (some ⟨b, 0, none⟩), .pointer (some ⟨c, 0, none⟩)] (.panicking ({ v := faultV p k, recovered := false } :: older)) w fun e u' w' =>
      e = .returned (.tuple #[]) ∧ u' = .panicking ({ v := faultV p k, recovered := true } :: older) ∧ TV3 w' a b c (.int .u8 0) (.int .i64 0) (.slice none 0 0) (.int .i64 p) (.iface 36 (.int .i64 k)) ∧ (∀ j, j < w.heap.size → j ≠ a → j ≠ b → j ≠ c → w'.heap[j]? = w.heap[j]?) ∧ Frm (fun j => j = a ∨ j = b ∨ j = c) w w' := by
  obtain ⟨h1, h2, h3⟩ := h
  have hal := block_lt h1
  have hbl := block_lt h2
  have hcl := block_lt h3
  have hna : w.heap.size ≠ a := by omega
  have hnb : w.heap.size ≠ b := by omega
  have hnc : w.heap.size ≠ c := by omega
  obtain ⟨c0, c1, c2, cf⟩ := h1.allocs
  obtain ⟨g0, g1, g2, gf⟩ := h1.cells
  have d1 : w.cell? ⟨b, 0, none⟩ = some u := (cell_of_row w b 0 _ _ _ h2).trans rfl
  have e1 : w.cell? ⟨c, 0, none⟩ = some v := (cell_of_row w c 0 _ _ _ h3).trans rfl
  have df1 : w.frozen? ⟨b, 0, none⟩ = false := by simp [World.frozen?, h2]
  have ef1 : w.frozen? ⟨c, 0, none⟩ = false := by simp [World.frozen?, h3]
  have d0 : ∀ ob, (w.alloc ob).cell? ⟨b, 0, none⟩ = some u := fun ob => (cell_of_row (w.alloc ob) b 0 _ _ _ ((heap_alloc_old _ _ hbl).trans h2)).trans rfl
  have e0 : ∀ ob, (w.alloc ob).cell? ⟨c, 0, none⟩ = some v := fun ob => (cell_of_row (w.alloc ob) c 0 _ _ _ ((heap_alloc_old _ _ hcl).trans h3)).trans rfl
  have df : ∀ ob, (w.alloc ob).frozen? ⟨b, 0, none⟩ = false := fun ob => by simp [World.frozen?, (heap_alloc_old w ob hbl).trans h2]
  have ef : ∀ ob, (w.alloc ob).frozen? ⟨c, 0, none⟩ = false := fun ob => by simp [World.frozen?, (heap_alloc_old w ob hcl).trans h3]
  refine callsD_of_wpS Tryd.func23 rfl fun c₀ cs hu => ?_
  apply wpS_seq
  apply wpS_region
  simp [wpOpsS, go_sem, recoverD, hu, Tryd.ntmps23, Exit.thenS, faultV]
  refine wpS_of_wp ?_
  rw [frame_eq]
  have hta : ∀ (v : Value) (w : World), (Instr.typeAssert (.iface 55 v) 20 55 true).run Tryd.prog w = .ok (.tuple #[v, .bool true]) w := fun _ _ => rfl
  go_wp2_with fail
  go_region
  obtain ⟨w9, hw9⟩ : ∃ w9, w9 = tset w a (.int .u8 0) (.int .i64 0) (.slice none 0 0) := ⟨_, rfl⟩
  have v9 : TVar w9 a (.int .u8 0) (.int .i64 0) (.slice none 0 0) := by rw [hw9]; exact h1.put _ _ _
  have o9 : ∀ j, j ≠ a → w9.heap[j]? = w.heap[j]? := fun j hj => by rw [hw9]; exact tset_far _ hj _ _ _
  have s9 : w9.heap.size = w.heap.size := by rw [hw9]; exact tset_size _ _ _ _ _
  have f9 : Frm (fun j => j = a ∨ j = b ∨ j = c) w w9 := by rw [hw9]; exact (Frm.refl _ _).tset (.inl (.inl rfl)) _ _ _
  simp only [tset] at hw9
  rw [← hw9]
  obtain ⟨w10, hw10⟩ : ∃ w10, w10 = (w9.setCell ⟨b, 0, none⟩ (.int .i64 p)).setCell ⟨c, 0, none⟩ (.iface 36 (.int .i64 k)) := ⟨_, rfl⟩
  have o10 : ∀ j, j ≠ b → j ≠ c → w10.heap[j]? = w9.heap[j]? := fun j hb hc => by
    rw [hw10, Below.heap_setCell _ _ _ _ (by simpa using hc), Below.heap_setCell _ _ _ _ (by simpa using hb)]
  have b10 : w10.heap[b]? = some (.cells #[.int .i64 p] 3 (0, 0)) := by
    rw [hw10, Below.heap_setCell _ _ _ _ (by simpa using hbc)]
    have h2' : w9.heap[b]? = _ := (o9 b (Ne.symm hab)).trans h2
    simp [World.setCell, Array.getElem?_modify, h2']
  have c10 : w10.heap[c]? = some (.cells #[.iface 36 (.int .i64 k)] 24 (0, 0)) := by
    rw [hw10]
    have h3' : (w9.setCell ⟨b, 0, none⟩ (.int .i64 p)).heap[c]? = _ := (Below.heap_setCell _ _ _ _ (by simpa using Ne.symm hbc)).trans ((o9 c (Ne.symm hac)).trans h3)
    simp [World.setCell, Array.getElem?_modify] at h3' ⊢
    simp [h3']
  have f10 : Frm (fun j => j = a ∨ j = b ∨ j = c) w w10 := by rw [hw10]; exact (f9.setCell (p := ⟨b, 0, none⟩) (.inl (.inr (.inl rfl))) _).setCell (p := ⟨c, 0, none⟩) (.inl (.inr (.inr rfl))) _
  have s10 : w10.heap.size = w.heap.size := by rw [hw10]; simp [s9]
  rw [← hw10]
  have key : TV3 (w10.alloc (.cells #[.int .i64 p, .iface 36 (.int .i64 k)] 55)).drew a b c (.int .u8 0) (.int .i64 0) (.slice none 0 0) (.int .i64 p) (.iface 36 (.int .i64 k)) :=
    ⟨(heap_alloc_old w10 _ (by omega)).trans ((o10 a hab hac).trans v9), (heap_alloc_old w10 _ (by omega)).trans b10, (heap_alloc_old w10 _ (by omega)).trans c10⟩
  have frm := (f10.alloc (.cells #[.int .i64 p, .iface 36 (.int .i64 k)] 55)).drew
  have far : ∀ j, j < w.heap.size → j ≠ a → j ≠ b → j ≠ c → (w10.alloc (.cells #[.int .i64 p, .iface 36 (.int .i64 k)] 55)).drew.heap[j]? = w.heap[j]? := fun j h1 h2 h3 h4 => (heap_alloc_old w10 _ (by omega)).trans ((o10 j h3 h4).trans (o9 j h2))
  exact ⟨rfl, _, rfl, .tuple #[], by simp [results, Tryd.results23, go_sem], rfl, rfl, key, far, frm⟩
set_option maxRecDepth 100000 in
theorem catch_idle (a b c : Nat) (w : World) :
    CallsD Tryd.prog 23 #[.pointer (some ⟨a, 0, none⟩), .pointer (some ⟨b, 0, none⟩), .pointer (some ⟨c, 0, none⟩)] .returning w fun e u' w' => e = .returned (.tuple #[]) ∧ u' = .returning ∧ w' = w := by
  refine callsD_of_wpS Tryd.func23 rfl fun c₀ cs hu => ?_
  apply wpS_seq
  apply wpS_region
  simp [wpOpsS, go_sem, recoverD, hu, Tryd.ntmps23, Exit.thenS]
  refine wpS_of_wp ?_
  rw [frame_eq]
  go_wp2_with fail
  cases c₀
  simp_all [bodyPostS, results, Tryd.results23]
theorem TV3.put {w : World} {a b c : Nat} {x y z u v : Value} (h : TV3 w a b c x y z u v) (hab : a ≠ b) (hac : a ≠ c) (hbc : b ≠ c) (x' y' z' u' v' : Value) : TV3 (((tset w a x' y' z').setCell ⟨b, 0, none⟩ u').setCell ⟨c, 0, none⟩ v') a b c x' y' z' u' v' ∧
    (∀ j, j ≠ a → j ≠ b → j ≠ c → (((tset w a x' y' z').setCell ⟨b, 0, none⟩ u').setCell ⟨c, 0, none⟩ v').heap[j]? = w.heap[j]?) ∧ Frm (fun j => j = a ∨ j = b ∨ j = c) w (((tset w a x' y' z').setCell ⟨b, 0, none⟩ u').setCell ⟨c, 0, none⟩ v') := by
  obtain ⟨h1, h2, h3⟩ := h
  obtain ⟨w9, hw9⟩ : ∃ w9, w9 = tset w a x' y' z' := ⟨_, rfl⟩
  have v9 : TVar w9 a x' y' z' := by rw [hw9]; exact h1.put _ _ _
  have o9 : ∀ j, j ≠ a → w9.heap[j]? = w.heap[j]? := fun j hj => by rw [hw9]; exact tset_far _ hj _ _ _
  have f9 : Frm (fun j => j = a ∨ j = b ∨ j = c) w w9 := by rw [hw9]; exact (Frm.refl _ _).tset (.inl (.inl rfl)) _ _ _
  rw [← hw9]
  have o10 : ∀ j, j ≠ b → j ≠ c → ((w9.setCell ⟨b, 0, none⟩ u').setCell ⟨c, 0, none⟩ v').heap[j]? = w9.heap[j]? := fun j hb hc => by
    rw [Below.heap_setCell _ _ _ _ (by simpa using hc), Below.heap_setCell _ _ _ _ (by simpa using hb)]
  refine ⟨⟨(o10 a hab hac).trans v9, ?_, ?_⟩, fun j h1 h2 h3 => (o10 j h2 h3).trans (o9 j h1), (f9.setCell (p := ⟨b, 0, none⟩) (.inl (.inr (.inl rfl))) _).setCell (p := ⟨c, 0, none⟩) (.inl (.inr (.inr rfl))) _⟩
  · rw [Below.heap_setCell _ _ _ _ (by simpa using hbc)]
    have h2' : w9.heap[b]? = _ := (o9 b (Ne.symm hab)).trans h2
    simp [World.setCell, Array.getElem?_modify, h2']
  · have h3' : (w9.setCell ⟨b, 0, none⟩ u').heap[c]? = _ := (Below.heap_setCell _ _ _ _ (by simpa using Ne.symm hbc)).trans ((o9 c (Ne.symm hac)).trans h3)
    simp [World.setCell, Array.getElem?_modify] at h3' ⊢
    simp [h3']
def parsedOf (n : Nat) (r : Rd) : Parsed := match r with
  | .ok t [] => .tree t
  | .ok _ (_ :: r) => .fault (n - (r.length + 1)) 2
  | .bad k e => .fault (n - k) e
theorem parse_of {s : List UInt8} (h : ¬ 120 < s.length) : parseT s = parsedOf s.length (wholeRd s.length 0 s) := by
  unfold parseT parsedOf; rw [if_neg h]; rfl
/-- How parse reads: the variables of its three results, made first. -/
def ParsePost (s : ByteArray) (w : World) (e : Ending) (w' : World) : Prop := match parseT s.data.toList with
  | .tree t => ∃ o n A c, e = .returned (.tuple #[.agg (trA o n A c), .int .i64 0, .nilIface]) ∧ TrC (w.heap.size ≤ ·) w' t (trL o n A c)
  | .fault p k => e = .returned (.tuple #[.agg (trA 0 0 none 0), .int .i64 (p : Int), .iface 36 (.int .i64 k)])
/-- The variables of Atoi's errors. -/
def ErrVars (w : World) : Prop := (∃ ev, w.cell? ⟨Tryd.atoi_ren.g 15, 0, none⟩ = some ev ∧ (ev = .nilIface ∨ ∃ te pe, ev = .iface te pe)) ∧ (∃ ev, w.cell? ⟨Tryd.atoi_ren.g 16, 0, none⟩ = some ev ∧ (ev = .nilIface ∨ ∃ te pe, ev = .iface te pe))
theorem ErrVars.below {w w' : World} (h : ErrVars w) (hb : Below w.heap.size w w') : ErrVars w' := by
  obtain ⟨⟨e1, h1, h2⟩, ⟨e2, h3, h4⟩⟩ := h
  exact ⟨⟨e1, (hb.cell (cell_lt h1)).trans h1, h2⟩, ⟨e2, (hb.cell (cell_lt h3)).trans h3, h4⟩⟩
theorem ErrVars.num {w : World} (h : ErrVars w) {w' : World} (hb : Below w.heap.size w w') {R : Nat} (hR : w.heap.size ≤ R) : NumVars w' R := by
  obtain ⟨⟨e1, h1, h2⟩, ⟨e2, h3, h4⟩⟩ := h
  have l1 : Tryd.atoi_ren.g 15 < w.heap.size := cell_lt h1
  have l2 : Tryd.atoi_ren.g 16 < w.heap.size := cell_lt h3
  exact ⟨⟨by omega, e1, (hb.cell l1).trans h1, h2⟩, ⟨by omega, e2, (hb.cell l2).trans h3, h4⟩⟩
set_option maxRecDepth 100000 in
set_option maxHeartbeats 4000000 in
theorem parse_reads (s : ByteArray) (w : World) (hv : ErrVars w) (hsz : s.size ≤ maxLen) : Calls Tryd.prog 21 #[.string s] w fun e w' => ParsePost s w e w' ∧ Below w.heap.size w w' := by
  have hmf : ∀ (fn : Fn) (first cap : Array Value) (w : World), (Instr.makeFunc fn first cap).run Tryd.prog w = .ok (.func fn first cap) w := fun _ _ _ _ => rfl
  have hln : s.data.toList.length = s.size := by simp
  by_cases hlong : 120 < s.size
  · have d1 : decide ((120 : Int) < (s.size : Int)) = true := decide_eq_true (by omega)
    have d2 : decide (120 < s.size) = true := decide_eq_true hlong
    go_enter_defers Tryd.func21, Tryd.ntmps21
    go_wp2_with fail
    have hp : parseT s.data.toList = .fault 0 4 := by unfold parseT; rw [if_pos (by omega)]
    refine ⟨.tuple #[.agg (trA 0 0 none 0), .int .i64 0, .iface 36 (.int .i64 4)], ?_, ?_, ((((Below.refl _ _).alloc (Nat.le_refl _) _).alloc (by simp) _).alloc (by simp; omega) _)⟩
    · simp only [results, Tryd.results21]
      simp [go_sem, trA]
    · unfold ParsePost; rw [hp]; rfl
  · have d1 : decide ((120 : Int) < (s.size : Int)) = false := decide_eq_false (by omega)
    have d2 : decide (120 < s.size) = false := decide_eq_false hlong
    go_enter_defers Tryd.func21, Tryd.ntmps21
    go_wp2_with fail
    obtain ⟨W1, hW1⟩ : ∃ W1, W1 = (((w.alloc (.cells #[.int .u8 0, .int .i64 0, .slice none 0 0] 50)).alloc (.cells #[.int .i64 0] 3)).alloc (.cells #[.nilIface] 24)).alloc (.cells #[.string s, .int .i64 0, .int .i64 0] 59) := ⟨_, rfl⟩
    have hW : W1.heap.size = w.heap.size + 4 ∧ TV3 W1 w.heap.size (w.heap.size + 1) (w.heap.size + 2) (.int .u8 0) (.int .i64 0) (.slice none 0 0) (.int .i64 0) .nilIface ∧ RdAt W1 (w.heap.size + 3) s 0 0 ∧ Below w.heap.size w W1 := by
      obtain ⟨wa, hwa⟩ : ∃ wa, wa = w.alloc (.cells #[.int .u8 0, .int .i64 0, .slice none 0 0] 50) := ⟨_, rfl⟩
      have sa : wa.heap.size = w.heap.size + 1 := by rw [hwa]; simp
      have na : TVar wa w.heap.size (.int .u8 0) (.int .i64 0) (.slice none 0 0) := by rw [hwa]; exact TVar.new _ _ _ _
      have ba : Below w.heap.size w wa := by rw [hwa]; exact (Below.refl _ _).alloc (Nat.le_refl _) _
      rw [← hwa] at hW1
      obtain ⟨wb, hwb⟩ : ∃ wb, wb = wa.alloc (.cells #[.int .i64 0] 3) := ⟨_, rfl⟩
      have sb : wb.heap.size = w.heap.size + 2 := by rw [hwb]; simp [sa]
      have nb : wb.heap[w.heap.size + 1]? = some (.cells #[.int .i64 0] 3 (0, 0)) := by rw [hwb, ← sa]; exact heap_alloc_new _ _
      have ob : ∀ j, j < wa.heap.size → wb.heap[j]? = wa.heap[j]? := fun j hj => by rw [hwb]; exact heap_alloc_old _ _ hj
      have bb : Below w.heap.size w wb := by rw [hwb]; exact ba.alloc (by omega) _
      rw [← hwb] at hW1
      obtain ⟨wc, hwc⟩ : ∃ wc, wc = wb.alloc (.cells #[.nilIface] 24) := ⟨_, rfl⟩
      have sc : wc.heap.size = w.heap.size + 3 := by rw [hwc]; simp [sb]
      have nc : wc.heap[w.heap.size + 2]? = some (.cells #[.nilIface] 24 (0, 0)) := by rw [hwc, ← sb]; exact heap_alloc_new _ _
      have oc : ∀ j, j < wb.heap.size → wc.heap[j]? = wb.heap[j]? := fun j hj => by rw [hwc]; exact heap_alloc_old _ _ hj
      have bc : Below w.heap.size w wc := by rw [hwc]; exact bb.alloc (by omega) _
      rw [← hwc] at hW1
      have od : ∀ j, j < wc.heap.size → W1.heap[j]? = wc.heap[j]? := fun j hj => by rw [hW1]; exact heap_alloc_old _ _ hj
      refine ⟨by rw [hW1]; simp [sc], ⟨(od _ (by omega)).trans ((oc _ (by omega)).trans ((ob _ (by omega)).trans na)), (od _ (by omega)).trans ((oc _ (by omega)).trans nb), (od _ (by omega)).trans nc⟩, by rw [hW1, ← sc]; exact heap_alloc_new _ _, by rw [hW1]; exact bc.alloc (by omega) _⟩
    obtain ⟨hs1, hT1, hR1, hB1⟩ := hW
    have HRL : Hid (RdL W1 (w.heap.size + 3) s s.data.toList 0) := ⟨by omega, by rw [hln, Nat.sub_self]; rfl, by rw [hln, Nat.sub_self]; exact hR1⟩
    have HT1 := Lib.hid hT1
    have HB1 := Lib.hid hB1
    have hnv : NumVars W1 (w.heap.size + 3) := hv.num hB1 (by omega)
    obtain ⟨r0, hr0⟩ : ∃ r0, r0 = wholeRd s.data.toList.length 0 s.data.toList := ⟨_, rfl⟩
    have hcall := whole_all s.data.toList.length (w.heap.size + 3) s s.data.toList 0 W1 HRL.out (by omega) (by omega) (Nat.le_refl _) hnv
    rw [← hr0] at hcall
    have hpt0 := parse_of (s := s.data.toList) (by omega)
    rw [← hr0] at hpt0
    have HPT := Lib.hid hpt0
    clear hpt0
    rw [← hW1]
    clear hW1 hT1 hR1 hB1 hr0 d1 d2
    refine hcall.mono ?_
    clear hcall
    intro e w2 hr
    cases r0 with
    | bad k j =>
      obtain ⟨rfl, hp, hf⟩ := hr
      simp only [faultE]
      have hpt : parseT s.data.toList = .fault (s.size - k) j := by rw [HPT.out, hln]; rfl
      have hT2 : TV3 w2 w.heap.size (w.heap.size + 1) (w.heap.size + 2) (.int .u8 0) (.int .i64 0) (.slice none 0 0) (.int .i64 0) .nilIface := ⟨(hf.block _ (by omega) (by omega)).trans HT1.out.1, (hf.block _ (by omega) (by omega)).trans HT1.out.2.1, (hf.block _ (by omega) (by omega)).trans HT1.out.2.2⟩
      have hB2 : Below w.heap.size w w2 := HB1.out.trans (hf.below (by omega) (fun k h => by omega))
      refine leaves_cons (f := 23) (args := #[.pointer (some ⟨w.heap.size, 0, none⟩), .pointer (some ⟨w.heap.size + 1, 0, none⟩), .pointer (some ⟨w.heap.size + 2, 0, none⟩)]) (by simp) (by simp [go_sem]) ?_
      refine (catch_fault w.heap.size (w.heap.size + 1) (w.heap.size + 2) (s.size - k) j _ _ _ _ _ [] w2 hT2 (by omega) (by omega) (by omega)).mono ?_
      rintro e u' w3 ⟨rfl, rfl, hT3, hfar, hF3⟩
      obtain ⟨q0, q1, q2, qf⟩ := hT3.1.cells
      have b0 : w3.cell? ⟨w.heap.size + 1, 0, none⟩ = some (.int .i64 ((s.size - k : Nat) : Int)) := (cell_of_row w3 _ 0 _ _ _ hT3.2.1).trans rfl
      have e0 : w3.cell? ⟨w.heap.size + 2, 0, none⟩ = some (.iface 36 (.int .i64 j)) := (cell_of_row w3 _ 0 _ _ _ hT3.2.2).trans rfl
      refine ⟨.tuple #[.agg (trA 0 0 none 0), .int .i64 ((s.size - k : Nat) : Int), .iface 36 (.int .i64 j)], ?_, ?_, hB2.trans (hF3.below (hB2.size) (fun k h => by omega))⟩
      · simp only [results, Tryd.results21]
        simp [go_sem, q0, q1, q2, b0, e0, trA]
      · unfold ParsePost; rw [hpt]
    | ok t rest =>
      obtain ⟨o, n, A, c, rfl, ht, hl, hf⟩ := hr
      have hT2 : TV3 w2 w.heap.size (w.heap.size + 1) (w.heap.size + 2) (.int .u8 0) (.int .i64 0) (.slice none 0 0) (.int .i64 0) .nilIface := ⟨(hf.block _ (by omega) (by omega)).trans HT1.out.1, (hf.block _ (by omega) (by omega)).trans HT1.out.2.1, (hf.block _ (by omega) (by omega)).trans HT1.out.2.2⟩
      have hB2 : Below w.heap.size w w2 := HB1.out.trans (hf.below (by omega) (fun k h => by omega))
      have h2s := hf.size
      obtain ⟨W3, hW3⟩ : ∃ W3, W3 = tset w2 w.heap.size (.int .u8 o) (.int .i64 n) (.slice A c c) := ⟨_, rfl⟩
      have o3 : ∀ j, j ≠ w.heap.size → W3.heap[j]? = w2.heap[j]? := fun j hj => by rw [hW3]; exact tset_far _ hj _ _ _
      have s3 : W3.heap.size = w2.heap.size := by rw [hW3]; exact tset_size _ _ _ _ _
      have hT3 : TV3 W3 w.heap.size (w.heap.size + 1) (w.heap.size + 2) (.int .u8 o) (.int .i64 n) (.slice A c c) (.int .i64 0) .nilIface := ⟨by rw [hW3]; exact hT2.1.put _ _ _, (o3 _ (by omega)).trans hT2.2.1, (o3 _ (by omega)).trans hT2.2.2⟩
      have hL3 : RdL W3 (w.heap.size + 3) s rest 0 := hl.keep (o3 _ (by omega))
      have hB3 : Below w.heap.size w W3 := by
        rw [hW3]
        have h := (Frm.ofBelow (F := fun j => j = w.heap.size) hB2).tset (k := w.heap.size) (.inl rfl) (.int .u8 o) (.int .i64 n) (.slice A c c)
        exact h.below (Nat.le_refl _) (fun k h => by omega)
      have hTr2 : TrC (fun j => w.heap.size + 2 < j) W3 t (trL o n A c) := (ht.in_ (G := fun j => W1.heap.size ≤ j) fun j h _ => h).keep (fun j hj => o3 j (by omega)) |>.in_ fun j hj _ => by omega
      have HTR2 := Lib.hid hTr2
      have hTr : TrC (w.heap.size < ·) W3 t (trL o n A c) := (ht.in_ (G := fun j => W1.heap.size ≤ j) fun j h _ => h).keep (fun j hj => o3 j (by omega)) |>.in_ fun j hj _ => by omega
      obtain ⟨v0, v1, v2, vf⟩ := hT2.1.cells
      obtain ⟨p0, p1, p2, pf⟩ := hL3.2.2.cells
      have HT3 := Lib.hid hT3
      have HL3 := Lib.hid hL3
      have HB3 := Lib.hid hB3
      have HTR := Lib.hid hTr
      simp only [tset] at hW3
      have hc3 : W3.cell? ⟨w.heap.size + 1 + 1 + 1, 1, none⟩ = some (.int .i64 ((s.size - rest.length : Nat) : Int)) := p1
      clear ht hl hf hT2 hB2 hT3 hL3 hB3 hTr hTr2 o3 p0 p1 p2 pf HRL HT1 HB1 hnv
      simp only [trA]
      cases rest with
      | nil =>
        have hpt : parseT s.data.toList = .tree t := HPT.out
        have d3 : decide (s.size < s.size) = false := by simp
        simp only [List.length_nil, Nat.sub_zero] at hc3
        go_upto_region 6 with (fail)
        rw [← hW3]
        clear v0 v1 v2 vf hW3
        obtain ⟨v0, v1, v2, vf⟩ := HT3.out.1.cells
        go_upto_region 8 with (fail)
        have b0 : W3.cell? ⟨w.heap.size + 1, 0, none⟩ = some (.int .i64 0) := (cell_of_row W3 _ 0 _ _ _ HT3.out.2.1).trans rfl
        have e0 : W3.cell? ⟨w.heap.size + 1 + 1, 0, none⟩ = some .nilIface := (cell_of_row W3 _ 0 _ _ _ HT3.out.2.2).trans rfl
        have bf : W3.frozen? ⟨w.heap.size + 1, 0, none⟩ = false := by simp [World.frozen?, HT3.out.2.1]
        have ef : W3.frozen? ⟨w.heap.size + 1 + 1, 0, none⟩ = false := by simp [World.frozen?, show W3.heap[w.heap.size + 1 + 1]? = _ from HT3.out.2.2]
        go_wp2_with fail
        obtain ⟨hT5, hO5, hF5⟩ := HT3.out.put (by omega) (by omega) (by omega) (.int .u8 o) (.int .i64 n) (.slice A c c) (.int .i64 0) .nilIface
        simp only [tset] at hT5 hO5 hF5
        obtain ⟨W5, hW5⟩ : ∃ W5, W5 = (((((W3.setCell ⟨w.heap.size, 0, none⟩ (.int .u8 o)).setCell ⟨w.heap.size, 1, none⟩ (.int .i64 n)).setCell ⟨w.heap.size, 2, none⟩ (.slice A c c)).setCell ⟨w.heap.size + 1, 0, none⟩ (.int .i64 0)).setCell ⟨w.heap.size + 1 + 1, 0, none⟩ .nilIface) := ⟨_, rfl⟩
        have hT6 : TV3 W5 w.heap.size (w.heap.size + 1) (w.heap.size + 2) (.int .u8 o) (.int .i64 n) (.slice A c c) (.int .i64 0) .nilIface := by rw [hW5]; exact hT5
        have hO6 : ∀ j, j ≠ w.heap.size → j ≠ w.heap.size + 1 → j ≠ w.heap.size + 2 → W5.heap[j]? = W3.heap[j]? := by rw [hW5]; exact hO5
        have hF6 : Frm (fun j => j = w.heap.size ∨ j = w.heap.size + 1 ∨ j = w.heap.size + 2) W3 W5 := by rw [hW5]; exact hF5
        rw [← hW5]
        clear hT5 hO5 hF5 hW5
        obtain ⟨q0, q1, q2, qf⟩ := hT6.1.cells
        have b5 : W5.cell? ⟨w.heap.size + 1, 0, none⟩ = some (.int .i64 0) := (cell_of_row W5 _ 0 _ _ _ hT6.2.1).trans rfl
        have e5 : W5.cell? ⟨w.heap.size + 1 + 1, 0, none⟩ = some .nilIface := (cell_of_row W5 _ 0 _ _ _ hT6.2.2).trans rfl
        refine leaves_cons (f := 23) (args := #[.pointer (some ⟨w.heap.size, 0, none⟩), .pointer (some ⟨w.heap.size + 1, 0, none⟩), .pointer (some ⟨w.heap.size + 2, 0, none⟩)]) (by simp) (by simp [go_sem]) ?_
        refine (catch_idle w.heap.size (w.heap.size + 1) (w.heap.size + 2) W5).mono ?_
        rintro e u' w4 ⟨rfl, rfl, rfl⟩
        refine ⟨.tuple #[.agg (trA o n A c), .int .i64 0, .nilIface], ?_, ?_, HB3.out.trans (hF6.below HB3.out.size (fun k h => by omega))⟩
        · simp only [results, Tryd.results21]
          simp [go_sem, q0, q1, q2, b5, e5, trA]
        · unfold ParsePost; rw [hpt]
          refine ⟨o, n, A, c, rfl, ?_⟩
          have h7 : TrC (fun j => w.heap.size + 2 < j) W3 t (trL o n A c) := HTR2.out
          exact (h7.keep fun j hj => hO6 j (by omega) (by omega) (by omega)).in_ fun j hj _ => by omega
      | cons x r =>
        have hll := HL3.out.1
        simp only [List.length_cons] at hll
        have hpt : parseT s.data.toList = .fault (s.size - (r.length + 1)) 2 := by rw [HPT.out, hln]; rfl
        have d3 : decide (s.size - (r.length + 1) < s.size) = true := decide_eq_true (by omega)
        simp only [List.length_cons] at hc3
        go_upto_region 6 with (fail)
        rw [← hW3]
        clear v0 v1 v2 vf hW3
        go_wp2_with fail
        refine (fail_ok (w.heap.size + 3) (s.size - (r.length + 1)) 2 W3).mono ?_
        rintro e w5 ⟨rfl, rfl⟩
        simp only [faultE]
        refine leaves_cons (f := 23) (args := #[.pointer (some ⟨w.heap.size, 0, none⟩), .pointer (some ⟨w.heap.size + 1, 0, none⟩), .pointer (some ⟨w.heap.size + 2, 0, none⟩)]) (by simp) (by simp [go_sem]) ?_
        refine (catch_fault w.heap.size (w.heap.size + 1) (w.heap.size + 2) (s.size - (r.length + 1)) 2 _ _ _ _ _ [] _ HT3.out (by omega) (by omega) (by omega)).mono ?_
        rintro e u' w6 ⟨rfl, rfl, hT6, hfar, hF6⟩
        obtain ⟨q0, q1, q2, qf⟩ := hT6.1.cells
        have b0 : w6.cell? ⟨w.heap.size + 1, 0, none⟩ = some (.int .i64 ((s.size - (r.length + 1) : Nat) : Int)) := (cell_of_row w6 _ 0 _ _ _ hT6.2.1).trans rfl
        have e0 : w6.cell? ⟨w.heap.size + 2, 0, none⟩ = some (.iface 36 (.int .i64 2)) := (cell_of_row w6 _ 0 _ _ _ hT6.2.2).trans rfl
        refine ⟨.tuple #[.agg (trA 0 0 none 0), .int .i64 ((s.size - (r.length + 1) : Nat) : Int), .iface 36 (.int .i64 2)], ?_, ?_, HB3.out.trans (hF6.below HB3.out.size (fun k h => by omega))⟩
        · simp only [results, Tryd.results21]
          simp [go_sem, q0, q1, q2, b0, e0, trA]
        · unfold ParsePost; rw [hpt]
end Go.Proofs.YtmbhfadidpkkhaaDoor
