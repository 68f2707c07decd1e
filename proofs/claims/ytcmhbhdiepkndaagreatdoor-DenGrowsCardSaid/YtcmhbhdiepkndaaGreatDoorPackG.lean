/-
  Several texts of this claim in one, in build order; each begins with its own remark, which says what it proves and under which conditions.
-/
import Derived.Test.YtcmhbhdiepkndaaGreatDoorPackB
import Derived.Test.YtcmhbhdiepkndaaGreatDoorPackF
import Derived.Lib.ItoaLen

/-
  The flow, plain: how long lines grow at most. No condition: plain definitions and lemmas.
-/
namespace Go.Proofs.YtcmhbhdiepkndaaGreatDoor
open Go.RowKit
set_option linter.unusedVariables false

/-- No count is past its bound, and s lines more may be written. -/
def Room (n s : Nat) (f : Flw) : Prop := Okf n f ∧ (s : Int) ≤ 48 * f.gv.sum ∧ (∀ m ∈ f.ln, (m.length : Int) + s ≤ 48 * f.gv.sum ∧ ∀ p ∈ m, (p.2.length : Int) + s ≤ 48 * f.gv.sum) ∧ ∀ c ∈ f.gv, 0 ≤ c
theorem sum_le {l : List Int} (h : ∀ c ∈ l, c ≤ 2000) : l.sum ≤ 2000 * (l.length : Int) := by
  induction l with
  | nil => simp
  | cons x l ih =>
    have h1 := h x List.mem_cons_self
    have h2 := ih fun c hc => h c (List.mem_cons_of_mem _ hc)
    rw [List.sum_cons, List.length_cons]
    omega
theorem sum_set {l : List Int} {i : Nat} {c : Int} (h : l[i]? = some c) : (l.set i (c + 1)).sum = l.sum + 1 := by
  induction l generalizing i with
  | nil => cases h
  | cons x l ih =>
    cases i with
    | zero =>
      simp at h; subst h
      rw [List.set_cons_zero, List.sum_cons, List.sum_cons]; omega
    | succ i =>
      rw [List.set_cons_succ, List.sum_cons, List.sum_cons, ih (by simpa using h)]; omega
theorem Room.less {n s t : Nat} {f : Flw} (h : Room n t f) (hs : s ≤ t) : Room n s f := ⟨h.1, by have := h.2.1; omega, fun m hm => ⟨by have := (h.2.2.1 m hm).1; omega, fun p hp => by have := (h.2.2.1 m hm).2 p hp; omega⟩, h.2.2.2⟩
theorem Room.keys {n s : Nat} {f : Flw} (h : Room n s f) (hn : n ≤ 12) {m : List (ByteArray × List Int)} (hm : m ∈ f.ln) : m.length ≤ 2000000 := by
  have h1 := sum_le h.1.2
  rw [h.1.1] at h1
  have := (h.2.2.1 m hm).1
  omega
theorem Room.small {n s : Nat} {f : Flw} (h : Room n (s + 1) f) (hn : n ≤ 12) {m : List (ByteArray × List Int)} (hm : m ∈ f.ln) (k : ByteArray) : ((pget m k).getD []).length + 1 ≤ 2000000 := by
  have h1 := sum_le h.1.2
  rw [h.1.1] at h1
  by_cases hk : k ∈ pkeys m
  · obtain ⟨a, v, b, e, ha⟩ := split_pkey hk
    rw [e, pget_split ha]
    have := (h.2.2.1 m hm).2 (k, v) (by rw [e]; simp)
    simp only [Option.getD_some]
    simp only at this
    omega
  · rw [pget_none hk]; simp
theorem pset_mem {α : Type} {m : List (ByteArray × α)} {k : ByteArray} {v : α} {p : ByteArray × α} (h : p ∈ pset m k v) : p = (k, v) ∨ p ∈ m := by
  induction m with
  | nil => left; simpa [pset] using h
  | cons q m ih =>
    simp only [pset] at h
    split at h
    · rcases List.mem_cons.1 h with h | h
      · exact .inl h
      · exact .inr (List.mem_cons_of_mem _ h)
    · rcases List.mem_cons.1 h with h | h
      · exact .inr (h ▸ List.mem_cons_self)
      · exact (ih h).imp_right (List.mem_cons_of_mem _)
theorem pset_len {α : Type} (m : List (ByteArray × α)) (k : ByteArray) (v : α) : (pset m k v).length ≤ m.length + 1 := by
  induction m with
  | nil => simp [pset]
  | cons q m ih =>
    simp only [pset]
    split
    · simp
    · simp only [List.length_cons]; omega
theorem Room.line {n s : Nat} {f : Flw} (h : Room n (s + 1) f) (u : Nat) (r : Rec) : Room n s { f with ln := f.ln.modify u fun m => addLine m r } := by
  refine ⟨h.1, by have := h.2.1; show (s : Int) ≤ 48 * f.gv.sum; omega, fun m hm => ?_, h.2.2.2⟩
  show (m.length : Int) + s ≤ 48 * f.gv.sum ∧ ∀ p ∈ m, (p.2.length : Int) + s ≤ 48 * f.gv.sum
  obtain ⟨j, hj⟩ := List.getElem?_of_mem (show m ∈ f.ln.modify u _ from hm)
  rw [List.getElem?_modify] at hj
  cases hm0 : f.ln[j]? with
  | none => rw [hm0] at hj; cases hj
  | some m0 =>
    rw [hm0] at hj
    obtain ⟨hlen0, hall⟩ := h.2.2.1 m0 (List.mem_of_getElem? hm0)
    have hz := h.2.1
    by_cases e : u = j
    · have hj : some (addLine m0 r) = some m := by
        rw [← hj]; show _ = some ((fun a => if u = j then addLine a r else a) m0); simp [e]
      injection hj with hj
      subst hj
      refine ⟨by have := pset_len m0 r.key ((pget m0 r.key).getD [] ++ [r.num]); show ((pset m0 r.key _).length : Int) + s ≤ _; omega, fun p hp => ?_⟩
      rcases pset_mem hp with rfl | h1
      · show ((((pget m0 r.key).getD [] ++ [r.num]).length : Nat) : Int) + s ≤ _
        rw [List.length_append]
        by_cases hk : r.key ∈ pkeys m0
        · obtain ⟨a, v, b, e, ha⟩ := split_pkey hk
          have := hall (r.key, v) (by rw [e]; simp)
          rw [e, pget_split ha]
          simp only [Option.getD_some, List.length_singleton]
          simp only at this
          omega
        · rw [pget_none hk]
          simp only [Option.getD_none, List.length_nil, List.length_singleton]
          omega
      · have := hall p h1; omega
    · have hj : some m0 = some m := by
        rw [← hj]; show _ = some ((fun a => if u = j then addLine a r else a) m0); simp [e]
      injection hj with hj
      subst hj
      exact ⟨by omega, fun p hp => by have := hall p hp; omega⟩
theorem Room.state {n s : Nat} {f : Flw} (h : Room n s f) (st : List (List (ByteArray × Hld))) : Room n s { f with st := st } := h
theorem Room.bump {n s : Nat} {f : Flw} (h : Room n s f) {i : Nat} {c : Int} (hc : f.gv[i]? = some c) (h2 : c + 1 ≤ 2000) : Room n (s + 48) (bump i f) := by
  have hsum : (Go.Proofs.YtcmhbhdiepkndaaGreatDoor.bump i f).gv.sum = f.gv.sum + 1 := by show (f.gv.set i ((f.gv[i]?.getD 0) + 1)).sum = _; rw [hc]; exact sum_set hc
  refine ⟨⟨by show (f.gv.set i _).length = _; rw [List.length_set]; exact h.1.1, fun x hx => ?_⟩, ?_, fun m hm => ⟨?_, fun p hp => ?_⟩, fun x hx => ?_⟩
  · rcases List.mem_or_eq_of_mem_set (show x ∈ f.gv.set i _ from hx) with h1 | h1
    · exact h.1.2 x h1
    · rw [h1, hc]; exact h2
  · rw [hsum]; have := h.2.1; omega
  · rw [hsum]; have := (h.2.2.1 m hm).1; omega
  · rw [hsum]; have := (h.2.2.1 m hm).2 p hp; omega
  · rcases List.mem_or_eq_of_mem_set (show x ∈ f.gv.set i _ from hx) with h1 | h1
    · exact h.2.2.2 x h1
    · rw [h1, hc]
      have := h.2.2.2 c (List.mem_of_getElem? hc)
      simp only [Option.getD_some]; omega
theorem foldM_room {α : Type} {n : Nat} {g : α → Flw → Option Flw} {s : Nat} (hg : ∀ a f f', Room n s f → g a f = some f' → Room n s f') (l : List α) : ∀ f f', Room n s f → l.foldlM (fun f a => g a f) f = some f' → Room n s f' := by
  induction l with
  | nil => intro f f' h e; injection e with e; exact e ▸ h
  | cons a l ih =>
    intro f f' h e
    rw [List.foldlM_cons] at e
    cases h1 : g a f with
    | none => rw [h1] at e; cases e
    | some f1 => rw [h1] at e; exact ih f1 f' (hg a f f1 h h1) e
theorem foldM_room1 {α : Type} {n : Nat} {g : α → Flw → Option Flw} (hg : ∀ s a f f', Room n (s + 1) f → g a f = some f' → Room n s f') (l : List α) : ∀ s f f', Room n (s + l.length) f → l.foldlM (fun f a => g a f) f = some f' → Room n s f' := by
  induction l with
  | nil => intro s f f' h e; injection e with e; exact e ▸ h
  | cons a l ih =>
    intro s f f' h e
    rw [List.foldlM_cons] at e
    cases h1 : g a f with
    | none => rw [h1] at e; cases e
    | some f1 =>
      rw [h1] at e
      exact ih s f1 f' (hg _ a f f1 (by rw [List.length_cons] at h; exact h) h1) e
theorem get_room {J : List Nod} {H : Nat → Rec → Flw → Option Flw} {n : Nat} (hH : ∀ s u x f f', Room n s f → H u x f = some f' → Room n s f') (s u : Nat) (r : Rec) (input : Nat) (f f' : Flw) (h : Room n (s + 1) f) (e : getF J H u r input f = some f') : Room n s f' := by
  unfold getF at e
  split at e
  · cases e
  · split at e
    · injection e with e; rw [← e]; exact h.line u r
    · refine foldM_room (g := fun x f => H u x f) (fun x f f' => hH s u x f f') _ _ _ ?_ e
      split
      · exact (h.less (Nat.le_succ s)).state _
      · exact h.less (Nat.le_succ s)
theorem from_four {J : List Nod} (hJ : jobErr J = 0) {u : Nat} {n : Nod} (hn : J[u]? = some n) : n.from_.length ≤ 4 := by
  obtain ⟨hu, he⟩ := List.getElem?_eq_some_iff.1 hn
  have h0 := nodes_zero J 0 (job_parts hJ).2.1 u hu
  rw [he] at h0
  unfold nodeErr at h0
  split at h0
  · cases h0
  · split at h0
    · cases h0
    · rename_i h5
      have : inHigh n.kind ≤ 4 := by unfold inHigh; split <;> (try split) <;> omega
      omega
theorem sum_nat_le {l : List Nat} {b : Nat} (h : ∀ c ∈ l, c ≤ b) : l.sum ≤ b * l.length := by
  induction l with
  | nil => simp
  | cons x l ih =>
    have h1 := h x List.mem_cons_self
    have h2 := ih fun c hc => h c (List.mem_cons_of_mem _ hc)
    rw [List.sum_cons, List.length_cons, Nat.mul_succ]
    omega
theorem targets_le {J : List Nod} (hJ : jobErr J = 0) {i : Nat} (hi : i < J.length) : (targets J (usesAll J) i).length ≤ 48 := by
  unfold targets usesAll
  rw [List.getElem?_map, List.getElem?_range hi]
  simp only [Option.map_some, Option.getD_some]
  rw [List.length_flatMap]
  have h12 := (job_parts hJ).1
  have hu : (usesOf J (i : Int)).length ≤ J.length := by
    unfold usesOf
    rw [List.length_map]
    refine Nat.le_trans (List.length_filter_le _ _) ?_
    rw [List.length_zipIdx]; exact Nat.le_refl _
  refine Nat.le_trans (sum_nat_le (b := 4) fun c hc => ?_) (by rw [List.length_map]; omega)
  obtain ⟨y, hy, rfl⟩ := List.mem_map.1 hc
  obtain ⟨u, n, rfl, hn, _⟩ := uses_mem hy
  rw [List.length_map]
  refine Nat.le_trans (List.length_filter_le _ _) ?_
  rw [List.length_zipIdx, Int.toNat_natCast, hn]
  exact from_four hJ hn
theorem hand_room {J : List Nod} (hJ : jobErr J = 0) : ∀ k s i r f f', Room J.length s f → handF J (usesAll J) k i r f = some f' → Room J.length s f' := by
  intro k
  induction k with
  | zero => intro s i r f f' _ e; cases e
  | succ k ih =>
    intro s i r f f' h e
    unfold handF at e
    simp only at e
    split at e
    · cases e
    · rename_i hb
      by_cases hi : i < J.length
      · have hil : i < f.gv.length := by rw [h.1.1]; exact hi
        have hc : f.gv[i]? = some f.gv[i] := List.getElem?_eq_getElem hil
        have h48 := h.bump hc (by rw [hc] at hb; simp only [Option.getD_some] at hb; omega)
        exact foldM_room1 (g := fun (p : Nat × Nat) f => getF J (handF J (usesAll J) k) p.1 r p.2 f) (fun s p f f' => get_room ih s p.1 r p.2 f f') _ s _ _ (h48.less (by have := targets_le hJ hi; omega)) e
      · have ht : targets J (usesAll J) i = [] := by
          unfold targets usesAll
          rw [List.getElem?_eq_none (by simp; omega)]
          rfl
        rw [ht] at e
        injection e with e
        rw [← e]
        refine ⟨⟨by show (f.gv.set i _).length = _; rw [List.length_set]; exact h.1.1, ?_⟩, ?_, ?_, ?_⟩
        · rw [List.set_eq_of_length_le (by rw [h.1.1]; omega)]; exact h.1.2
        · rw [List.set_eq_of_length_le (by rw [h.1.1]; omega)]; exact h.2.1
        · rw [List.set_eq_of_length_le (by rw [h.1.1]; omega)]; exact h.2.2.1
        · show ∀ c ∈ f.gv.set i _, _
          rw [List.set_eq_of_length_le (by rw [h.1.1]; omega)]; exact h.2.2.2
end Go.Proofs.YtcmhbhdiepkndaaGreatDoor

/-
  Package den: the contract of Apply, kind by kind (printed by denapply.py). Conditions: the node's text is a string's, the numbers are ints, the two variables of Atoi's errors hold errors.
-/
namespace Go.Proofs.YtcmhbhdiepkndaaGreatDoor
open Go.RowKit Go.Shelf
set_option linter.unusedVariables false

/-- A row that lies past the variables stays as a variable is zeroed. -/
theorem Vars.own_zero {w W : World} {b0 : Nat} {n0 n1 n2 n3 : Value} {b1 b2 b3 : Nat} {h : Hld} {r : Rec} (v : Vars w W b0 n0 n1 n2 n3 b1 b2 b3 h r) {l : List Rec} {A : Option Addr} {c m : Nat}
    (ho : OwnS W 30 3 A c l.length (l.flatMap recCells)) (hA : ∀ k, blk A = some k → m ≤ k) (hm : b1 < m) :
    OwnS ((((W.setCell ⟨b1, 0, none⟩ (.int .i64 0)).setCell ⟨b1, 1, none⟩ (.string ⟨#[]⟩)).setCell ⟨b1, 2, none⟩ (.int .i64 0)).setCell ⟨b1, 3, none⟩ (.int .i64 0)) 30 3 A c l.length (l.flatMap recCells) := by
  have hne : ∀ i, blk A ≠ some (⟨b1, i, none⟩ : Addr).block := fun i e => by have := hA _ e; simp at this; omega
  exact (((ho.setFar (hne 0) _).setFar (hne 1) _).setFar (hne 2) _).setFar (hne 3) _
set_option maxRecDepth 100000 in
set_option maxHeartbeats 1000000 in
theorem dapply_map_has (n : Nod) (A0 : Option Addr) (c0 : Nat) (h : Hld) (r : Rec) (input : Int) (w : World) (hv : ErrVars w) (hsz : n.text.size ≤ maxLen) (hr : RecOk r) (hi : I64 h.a ∧ I64 h.b) (hk : n.kind = 2) :
    Calls Tryz.prog 40 #[.agg #[.int .i64 n.kind, .slice A0 n.from_.length c0, .string n.text, .int .i64 n.n], hldV h, .bool true, recV r, .int .i64 input] w (AppPost (applyN n h true r input) w) := by
  obtain ⟨kind, from_, text, nn⟩ := n
  obtain ⟨hn, hkey, ha, hb⟩ := h
  obtain ⟨key, num, time⟩ := r
  simp only at hk hsz hi
  subst hk
  have HP : Hid (applyN ⟨2, from_, text, nn⟩ ⟨hn, hkey, ha, hb⟩ true ⟨key, num, time⟩ input = ⟨passR ⟨key, evalOf text num 0, time⟩, ⟨0, key, ha, hb⟩, true⟩) := rfl
  show Calls _ _ #[.agg #[.int .i64 2, .slice A0 from_.length c0, .string text, .int .i64 nn], .agg #[.int .i64 hn, .string hkey, .int .i64 ha, .int .i64 hb], .bool true, .agg #[.string key, .int .i64 num, .int .i64 time], .int .i64 input] w _
  have HR := Lib.hid hr
  have HV := Lib.hid hv
  have HI := Lib.hid hi
  clear hr hv hi
  go_enter Tryz.func40, Tryz.ntmps40
  go_upto_region 3 with (fail)
  go_region
  go_upto_region 6 with (fail)
  have hV := Vars.mk_ w (.int .i64 2) (.slice A0 from_.length c0) (.string text) (.int .i64 nn) ⟨0, key, ha, hb⟩ ⟨key, num, time⟩
  generalize ((((w.alloc _).alloc _).alloc _).alloc _).drew = W1 at hV ⊢
  generalize w.heap.size + 1 + 1 + 1 = b3 at hV ⊢
  generalize w.heap.size + 1 + 1 = b2 at hV ⊢
  generalize w.heap.size + 1 = b1 at hV ⊢
  generalize w.heap.size = b0 at hV ⊢
  obtain ⟨⟨n0, n2, n3⟩, ⟨h10, h11, h12, h13, h1f⟩, ⟨r0, r1, r2, rf⟩, ⟨_, _, _, _, s0, s1, s2, s3⟩, sf⟩ := hV.cells
  have HW := Lib.hid hV
  clear hV
  go_wp2_with fail
  have hb0 := HW.out.below
  refine (eval_ok_any text num 0 W1 (HV.out.below hb0) hsz (i64_of_wf HR.out.2.1) ⟨by omega, by omega⟩).mono ?_
  rintro e w2 ⟨rfl, hb2⟩
  have hV2 := HW.out.next hb2
  clear HW n0 n2 n3 h10 h11 h12 h13 h1f r0 r1 r2 rf s0 s1 s2 s3 sf hb0 hb2
  rw [← evalOf_val]
  obtain ⟨⟨n0, n2, n3⟩, ⟨h10, h11, h12, h13, h1f⟩, ⟨r0, r1, r2, rf⟩, ⟨_, _, _, _, s0, s1, s2, s3⟩, sf⟩ := hV2.cells
  have HW := Lib.hid hV2
  clear hV2
  generalize evalOf text num 0 = x at HP ⊢
  go_upto_region 10 with (fail)
  have hV3 := (HW.out.num (x))
  clear HW n0 n2 n3 h10 h11 h12 h13 h1f r0 r1 r2 rf s0 s1 s2 s3 sf
  generalize w2.setCell ⟨b2, 1, none⟩ (.int .i64 (x)) = W3 at hV3 ⊢
  obtain ⟨⟨n0, n2, n3⟩, ⟨h10, h11, h12, h13, h1f⟩, ⟨r0, r1, r2, rf⟩, ⟨_, _, _, _, s0, s1, s2, s3⟩, sf⟩ := hV3.cells
  have HW := Lib.hid hV3
  clear hV3
  go_wp2_with fail
  refine (dpass_ok ⟨key, x, time⟩ W3 (HR.out.1)).mono ?_
  rintro e w4 ⟨A, c, rfl, ho, hbl, hb4⟩
  have hV4 := HW.out.next hb4
  have HO := Lib.hid ho
  have HBL := Lib.hid hbl
  have HLT := Lib.hid HW.out.lt3
  have HLW := Lib.hid HW.out.below.size
  have HLB := Lib.hid HW.out.lt1
  clear HW n0 n2 n3 h10 h11 h12 h13 h1f r0 r1 r2 rf s0 s1 s2 s3 sf ho hbl hb4
  obtain ⟨⟨n0, n2, n3⟩, ⟨h10, h11, h12, h13, h1f⟩, ⟨r0, r1, r2, rf⟩, ⟨_, _, _, _, s0, s1, s2, s3⟩, sf⟩ := hV4.cells
  have HW := Lib.hid hV4
  clear hV4
  go_upto_region 46 with (fail)
  go_region
  have hF := HW.out.fin HO.out HBL.out HLT.out HLW.out 0 (key) (ha) (hb)
  clear HW n0 n2 n3 h10 h11 h12 h13 h1f r0 r1 r2 rf s0 s1 s2 s3 sf HO HBL
  generalize ((((w4.setCell ⟨b3, 0, none⟩ _).setCell _ _).setCell _ _).setCell _ _).drew = W5 at hF ⊢
  obtain ⟨hh, h1, h2, h3⟩ := hF
  obtain ⟨s0, s1, s2, s3, sf⟩ := hh.cells
  have HX := Lib.hid (And.intro h1 (And.intro h2 h3))
  clear h1 h2 h3 hh
  go_wp2_with fail
  refine bodyPost_ret (v := .tuple #[.slice A (passR ⟨key, x, time⟩).length c, .agg #[.int .i64 0, .string (key), .int .i64 (ha), .int .i64 (hb)], .bool true]) (by simp [results, Tryz.results40, go_sem, s0, s1, s2, s3]) rfl ?_
  rw [HP.out]
  exact ⟨A, c, rfl, HX.out⟩
set_option maxRecDepth 100000 in
set_option maxHeartbeats 1000000 in
theorem dapply_other_has (n : Nod) (A0 : Option Addr) (c0 : Nat) (h : Hld) (r : Rec) (input : Int) (w : World) (hv : ErrVars w) (hsz : n.text.size ≤ maxLen) (hr : RecOk r) (hi : I64 h.a ∧ I64 h.b) (hk : ∀ j, 2 ≤ j → j ≤ 9 → n.kind ≠ j) :
    Calls Tryz.prog 40 #[.agg #[.int .i64 n.kind, .slice A0 n.from_.length c0, .string n.text, .int .i64 n.n], hldV h, .bool true, recV r, .int .i64 input] w (AppPost (applyN n h true r input) w) := by
  obtain ⟨kind, from_, text, nn⟩ := n
  obtain ⟨hn, hkey, ha, hb⟩ := h
  obtain ⟨key, num, time⟩ := r
  simp only at hk hsz hi
  have q2 := beq_eq_false_iff_ne.2 (hk 2 (by omega) (by omega))
  have q3 := beq_eq_false_iff_ne.2 (hk 3 (by omega) (by omega))
  have q4 := beq_eq_false_iff_ne.2 (hk 4 (by omega) (by omega))
  have q5 := beq_eq_false_iff_ne.2 (hk 5 (by omega) (by omega))
  have q6 := beq_eq_false_iff_ne.2 (hk 6 (by omega) (by omega))
  have q7 := beq_eq_false_iff_ne.2 (hk 7 (by omega) (by omega))
  have q8 := beq_eq_false_iff_ne.2 (hk 8 (by omega) (by omega))
  have q9 := beq_eq_false_iff_ne.2 (hk 9 (by omega) (by omega))
  have HP : Hid (applyN ⟨kind, from_, text, nn⟩ ⟨hn, hkey, ha, hb⟩ true ⟨key, num, time⟩ input = ⟨passR ⟨key, num, time⟩, ⟨0, key, ha, hb⟩, true⟩) := by have k2 := hk 2 (by omega) (by omega); have k3 := hk 3 (by omega) (by omega); have k4 := hk 4 (by omega) (by omega); have k5 := hk 5 (by omega) (by omega); have k6 := hk 6 (by omega) (by omega); have k7 := hk 7 (by omega) (by omega); have k8 := hk 8 (by omega) (by omega); have k9 := hk 9 (by omega) (by omega); show _ = _; unfold applyN; simp only [if_neg k2, if_neg k3, if_neg k4, if_neg k5, if_neg k6, if_neg k7, if_neg k8, if_neg k9]; rfl
  show Calls _ _ #[.agg #[.int .i64 kind, .slice A0 from_.length c0, .string text, .int .i64 nn], .agg #[.int .i64 hn, .string hkey, .int .i64 ha, .int .i64 hb], .bool true, .agg #[.string key, .int .i64 num, .int .i64 time], .int .i64 input] w _
  have HR := Lib.hid hr
  have HV := Lib.hid hv
  have HI := Lib.hid hi
  clear hr hv hi hk
  go_enter Tryz.func40, Tryz.ntmps40
  go_upto_region 3 with (fail)
  go_region
  go_upto_region 6 with (fail)
  have hV := Vars.mk_ w (.int .i64 kind) (.slice A0 from_.length c0) (.string text) (.int .i64 nn) ⟨0, key, ha, hb⟩ ⟨key, num, time⟩
  generalize ((((w.alloc _).alloc _).alloc _).alloc _).drew = W1 at hV ⊢
  generalize w.heap.size + 1 + 1 + 1 = b3 at hV ⊢
  generalize w.heap.size + 1 + 1 = b2 at hV ⊢
  generalize w.heap.size + 1 = b1 at hV ⊢
  generalize w.heap.size = b0 at hV ⊢
  obtain ⟨⟨n0, n2, n3⟩, ⟨h10, h11, h12, h13, h1f⟩, ⟨r0, r1, r2, rf⟩, ⟨_, _, _, _, s0, s1, s2, s3⟩, sf⟩ := hV.cells
  have HW := Lib.hid hV
  clear hV
  go_wp2_with fail
  refine (dpass_ok ⟨key, num, time⟩ W1 (HR.out.1)).mono ?_
  rintro e w4 ⟨A, c, rfl, ho, hbl, hb4⟩
  have hV4 := HW.out.next hb4
  have HO := Lib.hid ho
  have HBL := Lib.hid hbl
  have HLT := Lib.hid HW.out.lt3
  have HLW := Lib.hid HW.out.below.size
  have HLB := Lib.hid HW.out.lt1
  clear HW n0 n2 n3 h10 h11 h12 h13 h1f r0 r1 r2 rf s0 s1 s2 s3 sf ho hbl hb4
  obtain ⟨⟨n0, n2, n3⟩, ⟨h10, h11, h12, h13, h1f⟩, ⟨r0, r1, r2, rf⟩, ⟨_, _, _, _, s0, s1, s2, s3⟩, sf⟩ := hV4.cells
  have HW := Lib.hid hV4
  clear hV4
  go_upto_region 46 with (fail)
  go_region
  have hF := HW.out.fin HO.out HBL.out HLT.out HLW.out 0 (key) (ha) (hb)
  clear HW n0 n2 n3 h10 h11 h12 h13 h1f r0 r1 r2 rf s0 s1 s2 s3 sf HO HBL
  generalize ((((w4.setCell ⟨b3, 0, none⟩ _).setCell _ _).setCell _ _).setCell _ _).drew = W5 at hF ⊢
  obtain ⟨hh, h1, h2, h3⟩ := hF
  obtain ⟨s0, s1, s2, s3, sf⟩ := hh.cells
  have HX := Lib.hid (And.intro h1 (And.intro h2 h3))
  clear h1 h2 h3 hh
  go_wp2_with fail
  refine bodyPost_ret (v := .tuple #[.slice A (passR ⟨key, num, time⟩).length c, .agg #[.int .i64 0, .string (key), .int .i64 (ha), .int .i64 (hb)], .bool true]) (by simp [results, Tryz.results40, go_sem, s0, s1, s2, s3]) rfl ?_
  rw [HP.out]
  exact ⟨A, c, rfl, HX.out⟩
set_option maxRecDepth 100000 in
set_option maxHeartbeats 1000000 in
theorem dapply_first_has (n : Nod) (A0 : Option Addr) (c0 : Nat) (h : Hld) (r : Rec) (input : Int) (w : World) (hv : ErrVars w) (hsz : n.text.size ≤ maxLen) (hr : RecOk r) (hi : I64 h.a ∧ I64 h.b) (hk : n.kind = 9) :
    Calls Tryz.prog 40 #[.agg #[.int .i64 n.kind, .slice A0 n.from_.length c0, .string n.text, .int .i64 n.n], hldV h, .bool true, recV r, .int .i64 input] w (AppPost (applyN n h true r input) w) := by
  obtain ⟨kind, from_, text, nn⟩ := n
  obtain ⟨hn, hkey, ha, hb⟩ := h
  obtain ⟨key, num, time⟩ := r
  simp only at hk hsz hi
  subst hk
  have HP : Hid (applyN ⟨9, from_, text, nn⟩ ⟨hn, hkey, ha, hb⟩ true ⟨key, num, time⟩ input = ⟨[], ⟨0, key, 1, hb⟩, true⟩) := rfl
  show Calls _ _ #[.agg #[.int .i64 9, .slice A0 from_.length c0, .string text, .int .i64 nn], .agg #[.int .i64 hn, .string hkey, .int .i64 ha, .int .i64 hb], .bool true, .agg #[.string key, .int .i64 num, .int .i64 time], .int .i64 input] w _
  have HR := Lib.hid hr
  have HV := Lib.hid hv
  have HI := Lib.hid hi
  clear hr hv hi
  go_enter Tryz.func40, Tryz.ntmps40
  go_upto_region 3 with (fail)
  go_region
  go_upto_region 6 with (fail)
  have hV := Vars.mk_ w (.int .i64 9) (.slice A0 from_.length c0) (.string text) (.int .i64 nn) ⟨0, key, ha, hb⟩ ⟨key, num, time⟩
  generalize ((((w.alloc _).alloc _).alloc _).alloc _).drew = W1 at hV ⊢
  generalize w.heap.size + 1 + 1 + 1 = b3 at hV ⊢
  generalize w.heap.size + 1 + 1 = b2 at hV ⊢
  generalize w.heap.size + 1 = b1 at hV ⊢
  generalize w.heap.size = b0 at hV ⊢
  obtain ⟨⟨n0, n2, n3⟩, ⟨h10, h11, h12, h13, h1f⟩, ⟨r0, r1, r2, rf⟩, ⟨_, _, _, _, s0, s1, s2, s3⟩, sf⟩ := hV.cells
  have HW := Lib.hid hV
  clear hV
  go_upto_region 44 with (fail)
  have hV3 := (HW.out.a (1))
  clear HW n0 n2 n3 h10 h11 h12 h13 h1f r0 r1 r2 rf s0 s1 s2 s3 sf
  generalize W1.setCell ⟨b1, 2, none⟩ (.int .i64 (1)) = W3 at hV3 ⊢
  obtain ⟨⟨n0, n2, n3⟩, ⟨h10, h11, h12, h13, h1f⟩, ⟨r0, r1, r2, rf⟩, ⟨_, _, _, _, s0, s1, s2, s3⟩, sf⟩ := hV3.cells
  have HW := Lib.hid hV3
  clear hV3
  have HO := Lib.hid (show OwnS W3 30 3 none 0 ([] : List Rec).length (([] : List Rec).flatMap recCells) from OwnS.nil _ _ _)
  have HBL : Hid (∀ k, blk none = some k → W3.heap.size ≤ k) := nofun
  have HLT := Lib.hid HW.out.lt3
  have HLW := Lib.hid HW.out.below.size
  have HLB := Lib.hid HW.out.lt1
  go_upto_region 46 with (fail)
  go_region
  have hF := HW.out.fin HO.out HBL.out HLT.out HLW.out 0 (key) (1) (hb)
  clear HW n0 n2 n3 h10 h11 h12 h13 h1f r0 r1 r2 rf s0 s1 s2 s3 sf HO HBL
  generalize ((((W3.setCell ⟨b3, 0, none⟩ _).setCell _ _).setCell _ _).setCell _ _).drew = W5 at hF ⊢
  obtain ⟨hh, h1, h2, h3⟩ := hF
  obtain ⟨s0, s1, s2, s3, sf⟩ := hh.cells
  have HX := Lib.hid (And.intro h1 (And.intro h2 h3))
  clear h1 h2 h3 hh
  go_wp2_with fail
  refine bodyPost_ret (v := .tuple #[.slice none 0 0, .agg #[.int .i64 0, .string (key), .int .i64 (1), .int .i64 (hb)], .bool true]) (by simp [results, Tryz.results40, go_sem, s0, s1, s2, s3]) rfl ?_
  rw [HP.out]
  exact ⟨none, 0, rfl, HX.out⟩
set_option maxRecDepth 100000 in
set_option maxHeartbeats 1000000 in
theorem dapply_fold_has (n : Nod) (A0 : Option Addr) (c0 : Nat) (h : Hld) (r : Rec) (input : Int) (w : World) (hv : ErrVars w) (hsz : n.text.size ≤ maxLen) (hr : RecOk r) (hi : I64 h.a ∧ I64 h.b) (hk : n.kind = 7) :
    Calls Tryz.prog 40 #[.agg #[.int .i64 n.kind, .slice A0 n.from_.length c0, .string n.text, .int .i64 n.n], hldV h, .bool true, recV r, .int .i64 input] w (AppPost (applyN n h true r input) w) := by
  obtain ⟨kind, from_, text, nn⟩ := n
  obtain ⟨hn, hkey, ha, hb⟩ := h
  obtain ⟨key, num, time⟩ := r
  simp only at hk hsz hi
  subst hk
  have HP : Hid (applyN ⟨7, from_, text, nn⟩ ⟨hn, hkey, ha, hb⟩ true ⟨key, num, time⟩ input = ⟨passR ⟨key, evalOf text num ha, time⟩, ⟨0, key, evalOf text num ha, hb⟩, true⟩) := rfl
  show Calls _ _ #[.agg #[.int .i64 7, .slice A0 from_.length c0, .string text, .int .i64 nn], .agg #[.int .i64 hn, .string hkey, .int .i64 ha, .int .i64 hb], .bool true, .agg #[.string key, .int .i64 num, .int .i64 time], .int .i64 input] w _
  have HR := Lib.hid hr
  have HV := Lib.hid hv
  have HI := Lib.hid hi
  clear hr hv hi
  go_enter Tryz.func40, Tryz.ntmps40
  go_upto_region 3 with (fail)
  go_region
  go_upto_region 6 with (fail)
  have hV := Vars.mk_ w (.int .i64 7) (.slice A0 from_.length c0) (.string text) (.int .i64 nn) ⟨0, key, ha, hb⟩ ⟨key, num, time⟩
  generalize ((((w.alloc _).alloc _).alloc _).alloc _).drew = W1 at hV ⊢
  generalize w.heap.size + 1 + 1 + 1 = b3 at hV ⊢
  generalize w.heap.size + 1 + 1 = b2 at hV ⊢
  generalize w.heap.size + 1 = b1 at hV ⊢
  generalize w.heap.size = b0 at hV ⊢
  obtain ⟨⟨n0, n2, n3⟩, ⟨h10, h11, h12, h13, h1f⟩, ⟨r0, r1, r2, rf⟩, ⟨_, _, _, _, s0, s1, s2, s3⟩, sf⟩ := hV.cells
  have HW := Lib.hid hV
  clear hV
  go_wp2_with fail
  have hb0 := HW.out.below
  refine (eval_ok_any text num ha W1 (HV.out.below hb0) hsz (i64_of_wf HR.out.2.1) (i64_of_wf HI.out.1)).mono ?_
  rintro e w2 ⟨rfl, hb2⟩
  have hV2 := HW.out.next hb2
  clear HW n0 n2 n3 h10 h11 h12 h13 h1f r0 r1 r2 rf s0 s1 s2 s3 sf hb0 hb2
  rw [← evalOf_val]
  obtain ⟨⟨n0, n2, n3⟩, ⟨h10, h11, h12, h13, h1f⟩, ⟨r0, r1, r2, rf⟩, ⟨_, _, _, _, s0, s1, s2, s3⟩, sf⟩ := hV2.cells
  have HW := Lib.hid hV2
  clear hV2
  generalize evalOf text num ha = x at HP ⊢
  go_upto_region 31 with (fail)
  have hV3 := ((HW.out.a (x)).num (x))
  clear HW n0 n2 n3 h10 h11 h12 h13 h1f r0 r1 r2 rf s0 s1 s2 s3 sf
  generalize (w2.setCell ⟨b1, 2, none⟩ (.int .i64 (x))).setCell ⟨b2, 1, none⟩ (.int .i64 (x)) = W3 at hV3 ⊢
  obtain ⟨⟨n0, n2, n3⟩, ⟨h10, h11, h12, h13, h1f⟩, ⟨r0, r1, r2, rf⟩, ⟨_, _, _, _, s0, s1, s2, s3⟩, sf⟩ := hV3.cells
  have HW := Lib.hid hV3
  clear hV3
  go_wp2_with fail
  refine (dpass_ok ⟨key, x, time⟩ W3 (HR.out.1)).mono ?_
  rintro e w4 ⟨A, c, rfl, ho, hbl, hb4⟩
  have hV4 := HW.out.next hb4
  have HO := Lib.hid ho
  have HBL := Lib.hid hbl
  have HLT := Lib.hid HW.out.lt3
  have HLW := Lib.hid HW.out.below.size
  have HLB := Lib.hid HW.out.lt1
  clear HW n0 n2 n3 h10 h11 h12 h13 h1f r0 r1 r2 rf s0 s1 s2 s3 sf ho hbl hb4
  obtain ⟨⟨n0, n2, n3⟩, ⟨h10, h11, h12, h13, h1f⟩, ⟨r0, r1, r2, rf⟩, ⟨_, _, _, _, s0, s1, s2, s3⟩, sf⟩ := hV4.cells
  have HW := Lib.hid hV4
  clear hV4
  go_upto_region 46 with (fail)
  go_region
  have hF := HW.out.fin HO.out HBL.out HLT.out HLW.out 0 (key) (x) (hb)
  clear HW n0 n2 n3 h10 h11 h12 h13 h1f r0 r1 r2 rf s0 s1 s2 s3 sf HO HBL
  generalize ((((w4.setCell ⟨b3, 0, none⟩ _).setCell _ _).setCell _ _).setCell _ _).drew = W5 at hF ⊢
  obtain ⟨hh, h1, h2, h3⟩ := hF
  obtain ⟨s0, s1, s2, s3, sf⟩ := hh.cells
  have HX := Lib.hid (And.intro h1 (And.intro h2 h3))
  clear h1 h2 h3 hh
  go_wp2_with fail
  refine bodyPost_ret (v := .tuple #[.slice A (passR ⟨key, x, time⟩).length c, .agg #[.int .i64 0, .string (key), .int .i64 (x), .int .i64 (hb)], .bool true]) (by simp [results, Tryz.results40, go_sem, s0, s1, s2, s3]) rfl ?_
  rw [HP.out]
  exact ⟨A, c, rfl, HX.out⟩
set_option maxRecDepth 100000 in
set_option maxHeartbeats 1000000 in
theorem dapply_map_new (n : Nod) (A0 : Option Addr) (c0 : Nat) (h : Hld) (r : Rec) (input : Int) (w : World) (hv : ErrVars w) (hsz : n.text.size ≤ maxLen) (hr : RecOk r) (hi : I64 h.a ∧ I64 h.b) (hk : n.kind = 2) :
    Calls Tryz.prog 40 #[.agg #[.int .i64 n.kind, .slice A0 n.from_.length c0, .string n.text, .int .i64 n.n], hldV h, .bool false, recV r, .int .i64 input] w (AppPost (applyN n h false r input) w) := by
  obtain ⟨kind, from_, text, nn⟩ := n
  obtain ⟨hn, hkey, ha, hb⟩ := h
  obtain ⟨key, num, time⟩ := r
  simp only at hk hsz hi
  subst hk
  have HP : Hid (applyN ⟨2, from_, text, nn⟩ ⟨hn, hkey, ha, hb⟩ false ⟨key, num, time⟩ input = ⟨passR ⟨key, evalOf text num 0, time⟩, zeroH, false⟩) := rfl
  show Calls _ _ #[.agg #[.int .i64 2, .slice A0 from_.length c0, .string text, .int .i64 nn], .agg #[.int .i64 hn, .string hkey, .int .i64 ha, .int .i64 hb], .bool false, .agg #[.string key, .int .i64 num, .int .i64 time], .int .i64 input] w _
  have HR := Lib.hid hr
  have HV := Lib.hid hv
  have HI := Lib.hid hi
  clear hr hv hi
  go_enter Tryz.func40, Tryz.ntmps40
  go_upto_region 3 with (fail)
  go_region
  go_upto_region 6 with (fail)
  have hV := Vars.mk_ w (.int .i64 2) (.slice A0 from_.length c0) (.string text) (.int .i64 nn) ⟨0, key, 0, 0⟩ ⟨key, num, time⟩
  generalize ((((w.alloc _).alloc _).alloc _).alloc _).drew = W1 at hV ⊢
  generalize w.heap.size + 1 + 1 + 1 = b3 at hV ⊢
  generalize w.heap.size + 1 + 1 = b2 at hV ⊢
  generalize w.heap.size + 1 = b1 at hV ⊢
  generalize w.heap.size = b0 at hV ⊢
  obtain ⟨⟨n0, n2, n3⟩, ⟨h10, h11, h12, h13, h1f⟩, ⟨r0, r1, r2, rf⟩, ⟨_, _, _, _, s0, s1, s2, s3⟩, sf⟩ := hV.cells
  have HW := Lib.hid hV
  clear hV
  go_wp2_with fail
  have hb0 := HW.out.below
  refine (eval_ok_any text num 0 W1 (HV.out.below hb0) hsz (i64_of_wf HR.out.2.1) ⟨by omega, by omega⟩).mono ?_
  rintro e w2 ⟨rfl, hb2⟩
  have hV2 := HW.out.next hb2
  clear HW n0 n2 n3 h10 h11 h12 h13 h1f r0 r1 r2 rf s0 s1 s2 s3 sf hb0 hb2
  rw [← evalOf_val]
  obtain ⟨⟨n0, n2, n3⟩, ⟨h10, h11, h12, h13, h1f⟩, ⟨r0, r1, r2, rf⟩, ⟨_, _, _, _, s0, s1, s2, s3⟩, sf⟩ := hV2.cells
  have HW := Lib.hid hV2
  clear hV2
  generalize evalOf text num 0 = x at HP ⊢
  go_upto_region 10 with (fail)
  have hV3 := (HW.out.num (x))
  clear HW n0 n2 n3 h10 h11 h12 h13 h1f r0 r1 r2 rf s0 s1 s2 s3 sf
  generalize w2.setCell ⟨b2, 1, none⟩ (.int .i64 (x)) = W3 at hV3 ⊢
  obtain ⟨⟨n0, n2, n3⟩, ⟨h10, h11, h12, h13, h1f⟩, ⟨r0, r1, r2, rf⟩, ⟨_, _, _, _, s0, s1, s2, s3⟩, sf⟩ := hV3.cells
  have HW := Lib.hid hV3
  clear hV3
  go_wp2_with fail
  refine (dpass_ok ⟨key, x, time⟩ W3 (HR.out.1)).mono ?_
  rintro e w4 ⟨A, c, rfl, ho, hbl, hb4⟩
  have hV4 := HW.out.next hb4
  have HO := Lib.hid ho
  have HBL := Lib.hid hbl
  have HLT := Lib.hid HW.out.lt3
  have HLW := Lib.hid HW.out.below.size
  have HLB := Lib.hid HW.out.lt1
  clear HW n0 n2 n3 h10 h11 h12 h13 h1f r0 r1 r2 rf s0 s1 s2 s3 sf ho hbl hb4
  obtain ⟨⟨n0, n2, n3⟩, ⟨h10, h11, h12, h13, h1f⟩, ⟨r0, r1, r2, rf⟩, ⟨_, _, _, _, s0, s1, s2, s3⟩, sf⟩ := hV4.cells
  have HW := Lib.hid hV4
  clear hV4
  go_upto_region 46 with (fail)
  have hV5 := HW.out.zero
  have ho5 : OwnS ((((w4.setCell ⟨b1, 0, none⟩ (.int .i64 0)).setCell ⟨b1, 1, none⟩ (.string ⟨#[]⟩)).setCell ⟨b1, 2, none⟩ (.int .i64 0)).setCell ⟨b1, 3, none⟩ (.int .i64 0)) 30 3 A c (passR ⟨key, x, time⟩).length ((passR ⟨key, x, time⟩).flatMap recCells) := HW.out.own_zero HO.out HBL.out HLB.out
  clear HW HO n0 n2 n3 h10 h11 h12 h13 h1f r0 r1 r2 rf s0 s1 s2 s3 sf
  generalize (((w4.setCell _ _).setCell _ _).setCell _ _).setCell _ _ = W6 at hV5 ho5 ⊢
  have HO := Lib.hid ho5
  clear ho5
  obtain ⟨⟨n0, n2, n3⟩, ⟨h10, h11, h12, h13, h1f⟩, ⟨r0, r1, r2, rf⟩, ⟨_, _, _, _, s0, s1, s2, s3⟩, sf⟩ := hV5.cells
  have HW := Lib.hid hV5
  clear hV5
  go_region
  have hF := HW.out.fin HO.out HBL.out HLT.out HLW.out 0 (⟨#[]⟩) (0) (0)
  clear HW n0 n2 n3 h10 h11 h12 h13 h1f r0 r1 r2 rf s0 s1 s2 s3 sf HO HBL
  generalize ((((W6.setCell ⟨b3, 0, none⟩ _).setCell _ _).setCell _ _).setCell _ _).drew = W5 at hF ⊢
  obtain ⟨hh, h1, h2, h3⟩ := hF
  obtain ⟨s0, s1, s2, s3, sf⟩ := hh.cells
  have HX := Lib.hid (And.intro h1 (And.intro h2 h3))
  clear h1 h2 h3 hh
  go_wp2_with fail
  refine bodyPost_ret (v := .tuple #[.slice A (passR ⟨key, x, time⟩).length c, .agg #[.int .i64 0, .string (⟨#[]⟩), .int .i64 (0), .int .i64 (0)], .bool false]) (by simp [results, Tryz.results40, go_sem, s0, s1, s2, s3]) rfl ?_
  rw [HP.out]
  exact ⟨A, c, rfl, HX.out⟩
set_option maxRecDepth 100000 in
set_option maxHeartbeats 1000000 in
theorem dapply_other_new (n : Nod) (A0 : Option Addr) (c0 : Nat) (h : Hld) (r : Rec) (input : Int) (w : World) (hv : ErrVars w) (hsz : n.text.size ≤ maxLen) (hr : RecOk r) (hi : I64 h.a ∧ I64 h.b) (hk : ∀ j, 2 ≤ j → j ≤ 9 → n.kind ≠ j) :
    Calls Tryz.prog 40 #[.agg #[.int .i64 n.kind, .slice A0 n.from_.length c0, .string n.text, .int .i64 n.n], hldV h, .bool false, recV r, .int .i64 input] w (AppPost (applyN n h false r input) w) := by
  obtain ⟨kind, from_, text, nn⟩ := n
  obtain ⟨hn, hkey, ha, hb⟩ := h
  obtain ⟨key, num, time⟩ := r
  simp only at hk hsz hi
  have q2 := beq_eq_false_iff_ne.2 (hk 2 (by omega) (by omega))
  have q3 := beq_eq_false_iff_ne.2 (hk 3 (by omega) (by omega))
  have q4 := beq_eq_false_iff_ne.2 (hk 4 (by omega) (by omega))
  have q5 := beq_eq_false_iff_ne.2 (hk 5 (by omega) (by omega))
  have q6 := beq_eq_false_iff_ne.2 (hk 6 (by omega) (by omega))
  have q7 := beq_eq_false_iff_ne.2 (hk 7 (by omega) (by omega))
  have q8 := beq_eq_false_iff_ne.2 (hk 8 (by omega) (by omega))
  have q9 := beq_eq_false_iff_ne.2 (hk 9 (by omega) (by omega))
  have HP : Hid (applyN ⟨kind, from_, text, nn⟩ ⟨hn, hkey, ha, hb⟩ false ⟨key, num, time⟩ input = ⟨passR ⟨key, num, time⟩, zeroH, false⟩) := by have k2 := hk 2 (by omega) (by omega); have k3 := hk 3 (by omega) (by omega); have k4 := hk 4 (by omega) (by omega); have k5 := hk 5 (by omega) (by omega); have k6 := hk 6 (by omega) (by omega); have k7 := hk 7 (by omega) (by omega); have k8 := hk 8 (by omega) (by omega); have k9 := hk 9 (by omega) (by omega); show _ = _; unfold applyN; simp only [if_neg k2, if_neg k3, if_neg k4, if_neg k5, if_neg k6, if_neg k7, if_neg k8, if_neg k9]; rfl
  show Calls _ _ #[.agg #[.int .i64 kind, .slice A0 from_.length c0, .string text, .int .i64 nn], .agg #[.int .i64 hn, .string hkey, .int .i64 ha, .int .i64 hb], .bool false, .agg #[.string key, .int .i64 num, .int .i64 time], .int .i64 input] w _
  have HR := Lib.hid hr
  have HV := Lib.hid hv
  have HI := Lib.hid hi
  clear hr hv hi hk
  go_enter Tryz.func40, Tryz.ntmps40
  go_upto_region 3 with (fail)
  go_region
  go_upto_region 6 with (fail)
  have hV := Vars.mk_ w (.int .i64 kind) (.slice A0 from_.length c0) (.string text) (.int .i64 nn) ⟨0, key, 0, 0⟩ ⟨key, num, time⟩
  generalize ((((w.alloc _).alloc _).alloc _).alloc _).drew = W1 at hV ⊢
  generalize w.heap.size + 1 + 1 + 1 = b3 at hV ⊢
  generalize w.heap.size + 1 + 1 = b2 at hV ⊢
  generalize w.heap.size + 1 = b1 at hV ⊢
  generalize w.heap.size = b0 at hV ⊢
  obtain ⟨⟨n0, n2, n3⟩, ⟨h10, h11, h12, h13, h1f⟩, ⟨r0, r1, r2, rf⟩, ⟨_, _, _, _, s0, s1, s2, s3⟩, sf⟩ := hV.cells
  have HW := Lib.hid hV
  clear hV
  go_wp2_with fail
  refine (dpass_ok ⟨key, num, time⟩ W1 (HR.out.1)).mono ?_
  rintro e w4 ⟨A, c, rfl, ho, hbl, hb4⟩
  have hV4 := HW.out.next hb4
  have HO := Lib.hid ho
  have HBL := Lib.hid hbl
  have HLT := Lib.hid HW.out.lt3
  have HLW := Lib.hid HW.out.below.size
  have HLB := Lib.hid HW.out.lt1
  clear HW n0 n2 n3 h10 h11 h12 h13 h1f r0 r1 r2 rf s0 s1 s2 s3 sf ho hbl hb4
  obtain ⟨⟨n0, n2, n3⟩, ⟨h10, h11, h12, h13, h1f⟩, ⟨r0, r1, r2, rf⟩, ⟨_, _, _, _, s0, s1, s2, s3⟩, sf⟩ := hV4.cells
  have HW := Lib.hid hV4
  clear hV4
  go_upto_region 46 with (fail)
  have hV5 := HW.out.zero
  have ho5 : OwnS ((((w4.setCell ⟨b1, 0, none⟩ (.int .i64 0)).setCell ⟨b1, 1, none⟩ (.string ⟨#[]⟩)).setCell ⟨b1, 2, none⟩ (.int .i64 0)).setCell ⟨b1, 3, none⟩ (.int .i64 0)) 30 3 A c (passR ⟨key, num, time⟩).length ((passR ⟨key, num, time⟩).flatMap recCells) := HW.out.own_zero HO.out HBL.out HLB.out
  clear HW HO n0 n2 n3 h10 h11 h12 h13 h1f r0 r1 r2 rf s0 s1 s2 s3 sf
  generalize (((w4.setCell _ _).setCell _ _).setCell _ _).setCell _ _ = W6 at hV5 ho5 ⊢
  have HO := Lib.hid ho5
  clear ho5
  obtain ⟨⟨n0, n2, n3⟩, ⟨h10, h11, h12, h13, h1f⟩, ⟨r0, r1, r2, rf⟩, ⟨_, _, _, _, s0, s1, s2, s3⟩, sf⟩ := hV5.cells
  have HW := Lib.hid hV5
  clear hV5
  go_region
  have hF := HW.out.fin HO.out HBL.out HLT.out HLW.out 0 (⟨#[]⟩) (0) (0)
  clear HW n0 n2 n3 h10 h11 h12 h13 h1f r0 r1 r2 rf s0 s1 s2 s3 sf HO HBL
  generalize ((((W6.setCell ⟨b3, 0, none⟩ _).setCell _ _).setCell _ _).setCell _ _).drew = W5 at hF ⊢
  obtain ⟨hh, h1, h2, h3⟩ := hF
  obtain ⟨s0, s1, s2, s3, sf⟩ := hh.cells
  have HX := Lib.hid (And.intro h1 (And.intro h2 h3))
  clear h1 h2 h3 hh
  go_wp2_with fail
  refine bodyPost_ret (v := .tuple #[.slice A (passR ⟨key, num, time⟩).length c, .agg #[.int .i64 0, .string (⟨#[]⟩), .int .i64 (0), .int .i64 (0)], .bool false]) (by simp [results, Tryz.results40, go_sem, s0, s1, s2, s3]) rfl ?_
  rw [HP.out]
  exact ⟨A, c, rfl, HX.out⟩
set_option maxRecDepth 100000 in
set_option maxHeartbeats 1000000 in
theorem dapply_first_new (n : Nod) (A0 : Option Addr) (c0 : Nat) (h : Hld) (r : Rec) (input : Int) (w : World) (hv : ErrVars w) (hsz : n.text.size ≤ maxLen) (hr : RecOk r) (hi : I64 h.a ∧ I64 h.b) (hk : n.kind = 9) :
    Calls Tryz.prog 40 #[.agg #[.int .i64 n.kind, .slice A0 n.from_.length c0, .string n.text, .int .i64 n.n], hldV h, .bool false, recV r, .int .i64 input] w (AppPost (applyN n h false r input) w) := by
  obtain ⟨kind, from_, text, nn⟩ := n
  obtain ⟨hn, hkey, ha, hb⟩ := h
  obtain ⟨key, num, time⟩ := r
  simp only at hk hsz hi
  subst hk
  have HP : Hid (applyN ⟨9, from_, text, nn⟩ ⟨hn, hkey, ha, hb⟩ false ⟨key, num, time⟩ input = ⟨passR ⟨key, num, time⟩, ⟨0, key, 1, 0⟩, true⟩) := rfl
  show Calls _ _ #[.agg #[.int .i64 9, .slice A0 from_.length c0, .string text, .int .i64 nn], .agg #[.int .i64 hn, .string hkey, .int .i64 ha, .int .i64 hb], .bool false, .agg #[.string key, .int .i64 num, .int .i64 time], .int .i64 input] w _
  have HR := Lib.hid hr
  have HV := Lib.hid hv
  have HI := Lib.hid hi
  clear hr hv hi
  go_enter Tryz.func40, Tryz.ntmps40
  go_upto_region 3 with (fail)
  go_region
  go_upto_region 6 with (fail)
  have hV := Vars.mk_ w (.int .i64 9) (.slice A0 from_.length c0) (.string text) (.int .i64 nn) ⟨0, key, 0, 0⟩ ⟨key, num, time⟩
  generalize ((((w.alloc _).alloc _).alloc _).alloc _).drew = W1 at hV ⊢
  generalize w.heap.size + 1 + 1 + 1 = b3 at hV ⊢
  generalize w.heap.size + 1 + 1 = b2 at hV ⊢
  generalize w.heap.size + 1 = b1 at hV ⊢
  generalize w.heap.size = b0 at hV ⊢
  obtain ⟨⟨n0, n2, n3⟩, ⟨h10, h11, h12, h13, h1f⟩, ⟨r0, r1, r2, rf⟩, ⟨_, _, _, _, s0, s1, s2, s3⟩, sf⟩ := hV.cells
  have HW := Lib.hid hV
  clear hV
  go_wp2_with fail
  refine (dpass_ok ⟨key, num, time⟩ W1 (HR.out.1)).mono ?_
  rintro e w4 ⟨A, c, rfl, ho, hbl, hb4⟩
  have hV4 := HW.out.next hb4
  have HO := Lib.hid ho
  have HBL := Lib.hid hbl
  have HLT := Lib.hid HW.out.lt3
  have HLW := Lib.hid HW.out.below.size
  have HLB := Lib.hid HW.out.lt1
  clear HW n0 n2 n3 h10 h11 h12 h13 h1f r0 r1 r2 rf s0 s1 s2 s3 sf ho hbl hb4
  obtain ⟨⟨n0, n2, n3⟩, ⟨h10, h11, h12, h13, h1f⟩, ⟨r0, r1, r2, rf⟩, ⟨_, _, _, _, s0, s1, s2, s3⟩, sf⟩ := hV4.cells
  have HW := Lib.hid hV4
  clear hV4
  go_upto_region 44 with (fail)
  have hV3 := HW.out.a 1
  have ho3 : OwnS (w4.setCell ⟨b1, 2, none⟩ (.int .i64 1)) 30 3 A c (passR ⟨key, num, time⟩).length ((passR ⟨key, num, time⟩).flatMap recCells) := HO.out.setFar (fun e => by have h1 := HBL.out _ e; have h2 := HLB.out; simp at h1; omega) _
  clear HW HO n0 n2 n3 h10 h11 h12 h13 h1f r0 r1 r2 rf s0 s1 s2 s3 sf
  generalize w4.setCell ⟨b1, 2, none⟩ (.int .i64 1) = W7 at hV3 ho3 ⊢
  have HO := Lib.hid ho3
  clear ho3
  obtain ⟨⟨n0, n2, n3⟩, ⟨h10, h11, h12, h13, h1f⟩, ⟨r0, r1, r2, rf⟩, ⟨_, _, _, _, s0, s1, s2, s3⟩, sf⟩ := hV3.cells
  have HW := Lib.hid hV3
  clear hV3
  go_upto_region 46 with (fail)
  go_region
  have hF := HW.out.fin HO.out HBL.out HLT.out HLW.out 0 (key) (1) (0)
  clear HW n0 n2 n3 h10 h11 h12 h13 h1f r0 r1 r2 rf s0 s1 s2 s3 sf HO HBL
  generalize ((((W7.setCell ⟨b3, 0, none⟩ _).setCell _ _).setCell _ _).setCell _ _).drew = W5 at hF ⊢
  obtain ⟨hh, h1, h2, h3⟩ := hF
  obtain ⟨s0, s1, s2, s3, sf⟩ := hh.cells
  have HX := Lib.hid (And.intro h1 (And.intro h2 h3))
  clear h1 h2 h3 hh
  go_wp2_with fail
  refine bodyPost_ret (v := .tuple #[.slice A (passR ⟨key, num, time⟩).length c, .agg #[.int .i64 0, .string (key), .int .i64 (1), .int .i64 (0)], .bool true]) (by simp [results, Tryz.results40, go_sem, s0, s1, s2, s3]) rfl ?_
  rw [HP.out]
  exact ⟨A, c, rfl, HX.out⟩
set_option maxRecDepth 100000 in
set_option maxHeartbeats 1000000 in
theorem dapply_fold_new (n : Nod) (A0 : Option Addr) (c0 : Nat) (h : Hld) (r : Rec) (input : Int) (w : World) (hv : ErrVars w) (hsz : n.text.size ≤ maxLen) (hr : RecOk r) (hi : I64 h.a ∧ I64 h.b) (hk : n.kind = 7) :
    Calls Tryz.prog 40 #[.agg #[.int .i64 n.kind, .slice A0 n.from_.length c0, .string n.text, .int .i64 n.n], hldV h, .bool false, recV r, .int .i64 input] w (AppPost (applyN n h false r input) w) := by
  obtain ⟨kind, from_, text, nn⟩ := n
  obtain ⟨hn, hkey, ha, hb⟩ := h
  obtain ⟨key, num, time⟩ := r
  simp only at hk hsz hi
  subst hk
  have HP : Hid (applyN ⟨7, from_, text, nn⟩ ⟨hn, hkey, ha, hb⟩ false ⟨key, num, time⟩ input = ⟨passR ⟨key, evalOf text num 0, time⟩, ⟨0, key, evalOf text num 0, 0⟩, true⟩) := rfl
  show Calls _ _ #[.agg #[.int .i64 7, .slice A0 from_.length c0, .string text, .int .i64 nn], .agg #[.int .i64 hn, .string hkey, .int .i64 ha, .int .i64 hb], .bool false, .agg #[.string key, .int .i64 num, .int .i64 time], .int .i64 input] w _
  have HR := Lib.hid hr
  have HV := Lib.hid hv
  have HI := Lib.hid hi
  clear hr hv hi
  go_enter Tryz.func40, Tryz.ntmps40
  go_upto_region 3 with (fail)
  go_region
  go_upto_region 6 with (fail)
  have hV := Vars.mk_ w (.int .i64 7) (.slice A0 from_.length c0) (.string text) (.int .i64 nn) ⟨0, key, 0, 0⟩ ⟨key, num, time⟩
  generalize ((((w.alloc _).alloc _).alloc _).alloc _).drew = W1 at hV ⊢
  generalize w.heap.size + 1 + 1 + 1 = b3 at hV ⊢
  generalize w.heap.size + 1 + 1 = b2 at hV ⊢
  generalize w.heap.size + 1 = b1 at hV ⊢
  generalize w.heap.size = b0 at hV ⊢
  obtain ⟨⟨n0, n2, n3⟩, ⟨h10, h11, h12, h13, h1f⟩, ⟨r0, r1, r2, rf⟩, ⟨_, _, _, _, s0, s1, s2, s3⟩, sf⟩ := hV.cells
  have HW := Lib.hid hV
  clear hV
  go_wp2_with fail
  have hb0 := HW.out.below
  refine (eval_ok_any text num 0 W1 (HV.out.below hb0) hsz (i64_of_wf HR.out.2.1) ⟨by omega, by omega⟩).mono ?_
  rintro e w2 ⟨rfl, hb2⟩
  have hV2 := HW.out.next hb2
  clear HW n0 n2 n3 h10 h11 h12 h13 h1f r0 r1 r2 rf s0 s1 s2 s3 sf hb0 hb2
  rw [← evalOf_val]
  obtain ⟨⟨n0, n2, n3⟩, ⟨h10, h11, h12, h13, h1f⟩, ⟨r0, r1, r2, rf⟩, ⟨_, _, _, _, s0, s1, s2, s3⟩, sf⟩ := hV2.cells
  have HW := Lib.hid hV2
  clear hV2
  generalize evalOf text num 0 = x at HP ⊢
  go_upto_region 31 with (fail)
  have hV3 := ((HW.out.a (x)).num (x))
  clear HW n0 n2 n3 h10 h11 h12 h13 h1f r0 r1 r2 rf s0 s1 s2 s3 sf
  generalize (w2.setCell ⟨b1, 2, none⟩ (.int .i64 (x))).setCell ⟨b2, 1, none⟩ (.int .i64 (x)) = W3 at hV3 ⊢
  obtain ⟨⟨n0, n2, n3⟩, ⟨h10, h11, h12, h13, h1f⟩, ⟨r0, r1, r2, rf⟩, ⟨_, _, _, _, s0, s1, s2, s3⟩, sf⟩ := hV3.cells
  have HW := Lib.hid hV3
  clear hV3
  go_wp2_with fail
  refine (dpass_ok ⟨key, x, time⟩ W3 (HR.out.1)).mono ?_
  rintro e w4 ⟨A, c, rfl, ho, hbl, hb4⟩
  have hV4 := HW.out.next hb4
  have HO := Lib.hid ho
  have HBL := Lib.hid hbl
  have HLT := Lib.hid HW.out.lt3
  have HLW := Lib.hid HW.out.below.size
  have HLB := Lib.hid HW.out.lt1
  clear HW n0 n2 n3 h10 h11 h12 h13 h1f r0 r1 r2 rf s0 s1 s2 s3 sf ho hbl hb4
  obtain ⟨⟨n0, n2, n3⟩, ⟨h10, h11, h12, h13, h1f⟩, ⟨r0, r1, r2, rf⟩, ⟨_, _, _, _, s0, s1, s2, s3⟩, sf⟩ := hV4.cells
  have HW := Lib.hid hV4
  clear hV4
  go_upto_region 46 with (fail)
  go_region
  have hF := HW.out.fin HO.out HBL.out HLT.out HLW.out 0 (key) (x) (0)
  clear HW n0 n2 n3 h10 h11 h12 h13 h1f r0 r1 r2 rf s0 s1 s2 s3 sf HO HBL
  generalize ((((w4.setCell ⟨b3, 0, none⟩ _).setCell _ _).setCell _ _).setCell _ _).drew = W5 at hF ⊢
  obtain ⟨hh, h1, h2, h3⟩ := hF
  obtain ⟨s0, s1, s2, s3, sf⟩ := hh.cells
  have HX := Lib.hid (And.intro h1 (And.intro h2 h3))
  clear h1 h2 h3 hh
  go_wp2_with fail
  refine bodyPost_ret (v := .tuple #[.slice A (passR ⟨key, x, time⟩).length c, .agg #[.int .i64 0, .string (key), .int .i64 (x), .int .i64 (0)], .bool true]) (by simp [results, Tryz.results40, go_sem, s0, s1, s2, s3]) rfl ?_
  rw [HP.out]
  exact ⟨A, c, rfl, HX.out⟩
end Go.Proofs.YtcmhbhdiepkndaaGreatDoor

/-
  Package den: the contract of Apply, kind by kind (printed by denapply.py). Conditions: the node's text is a string's, the numbers are ints, the two variables of Atoi's errors hold errors.
-/
namespace Go.Proofs.YtcmhbhdiepkndaaGreatDoor
open Go.RowKit Go.Shelf
set_option linter.unusedVariables false

set_option maxRecDepth 100000 in
set_option maxHeartbeats 1000000 in
theorem dapply_filtered_has (n : Nod) (A0 : Option Addr) (c0 : Nat) (h : Hld) (r : Rec) (input : Int) (w : World) (hv : ErrVars w) (hsz : n.text.size ≤ maxLen) (hr : RecOk r) (hi : I64 h.a ∧ I64 h.b) (hk : n.kind = 3) (hx : evalOf n.text r.num 0 = 0) :
    Calls Tryz.prog 40 #[.agg #[.int .i64 n.kind, .slice A0 n.from_.length c0, .string n.text, .int .i64 n.n], hldV h, .bool true, recV r, .int .i64 input] w (AppPost (applyN n h true r input) w) := by
  obtain ⟨kind, from_, text, nn⟩ := n
  obtain ⟨hn, hkey, ha, hb⟩ := h
  obtain ⟨key, num, time⟩ := r
  simp only at hk hsz hi hx
  subst hk
  have HP : Hid (applyN ⟨3, from_, text, nn⟩ ⟨hn, hkey, ha, hb⟩ true ⟨key, num, time⟩ input = ⟨[], ⟨0, key, ha, hb⟩, true⟩) := by show _ = _; show ends_ (if evalOf text num 0 = 0 then [] else passR ⟨key, num, time⟩) _ _ = _; rw [if_pos hx]; rfl
  show Calls _ _ #[.agg #[.int .i64 3, .slice A0 from_.length c0, .string text, .int .i64 nn], .agg #[.int .i64 hn, .string hkey, .int .i64 ha, .int .i64 hb], .bool true, .agg #[.string key, .int .i64 num, .int .i64 time], .int .i64 input] w _
  have HR := Lib.hid hr
  have HV := Lib.hid hv
  have HI := Lib.hid hi
  clear hr hv hi
  go_enter Tryz.func40, Tryz.ntmps40
  go_upto_region 3 with (fail)
  go_region
  go_upto_region 6 with (fail)
  have hV := Vars.mk_ w (.int .i64 3) (.slice A0 from_.length c0) (.string text) (.int .i64 nn) ⟨0, key, ha, hb⟩ ⟨key, num, time⟩
  generalize ((((w.alloc _).alloc _).alloc _).alloc _).drew = W1 at hV ⊢
  generalize w.heap.size + 1 + 1 + 1 = b3 at hV ⊢
  generalize w.heap.size + 1 + 1 = b2 at hV ⊢
  generalize w.heap.size + 1 = b1 at hV ⊢
  generalize w.heap.size = b0 at hV ⊢
  obtain ⟨⟨n0, n2, n3⟩, ⟨h10, h11, h12, h13, h1f⟩, ⟨r0, r1, r2, rf⟩, ⟨_, _, _, _, s0, s1, s2, s3⟩, sf⟩ := hV.cells
  have HW := Lib.hid hV
  clear hV
  go_wp2_with fail
  have hb0 := HW.out.below
  refine (eval_ok_any text num 0 W1 (HV.out.below hb0) hsz (i64_of_wf HR.out.2.1) ⟨by omega, by omega⟩).mono ?_
  rintro e w2 ⟨rfl, hb2⟩
  have hV2 := HW.out.next hb2
  clear HW n0 n2 n3 h10 h11 h12 h13 h1f r0 r1 r2 rf s0 s1 s2 s3 sf hb0 hb2
  rw [← evalOf_val]
  obtain ⟨⟨n0, n2, n3⟩, ⟨h10, h11, h12, h13, h1f⟩, ⟨r0, r1, r2, rf⟩, ⟨_, _, _, _, s0, s1, s2, s3⟩, sf⟩ := hV2.cells
  have HW := Lib.hid hV2
  clear hV2
  generalize evalOf text num 0 = x at HP hx ⊢
  subst hx
  have HO := Lib.hid (show OwnS w2 30 3 none 0 ([] : List Rec).length (([] : List Rec).flatMap recCells) from OwnS.nil _ _ _)
  have HBL : Hid (∀ k, blk none = some k → w2.heap.size ≤ k) := nofun
  have HLT := Lib.hid HW.out.lt3
  have HLW := Lib.hid HW.out.below.size
  have HLB := Lib.hid HW.out.lt1
  go_upto_region 46 with (fail)
  go_region
  have hF := HW.out.fin HO.out HBL.out HLT.out HLW.out 0 (key) (ha) (hb)
  clear HW n0 n2 n3 h10 h11 h12 h13 h1f r0 r1 r2 rf s0 s1 s2 s3 sf HO HBL
  generalize ((((w2.setCell ⟨b3, 0, none⟩ _).setCell _ _).setCell _ _).setCell _ _).drew = W5 at hF ⊢
  obtain ⟨hh, h1, h2, h3⟩ := hF
  obtain ⟨s0, s1, s2, s3, sf⟩ := hh.cells
  have HX := Lib.hid (And.intro h1 (And.intro h2 h3))
  clear h1 h2 h3 hh
  go_wp2_with fail
  refine bodyPost_ret (v := .tuple #[.slice none 0 0, .agg #[.int .i64 0, .string (key), .int .i64 (ha), .int .i64 (hb)], .bool true]) (by simp [results, Tryz.results40, go_sem, s0, s1, s2, s3]) rfl ?_
  rw [HP.out]
  exact ⟨none, 0, rfl, HX.out⟩
set_option maxRecDepth 100000 in
set_option maxHeartbeats 1000000 in
theorem dapply_filter_has (n : Nod) (A0 : Option Addr) (c0 : Nat) (h : Hld) (r : Rec) (input : Int) (w : World) (hv : ErrVars w) (hsz : n.text.size ≤ maxLen) (hr : RecOk r) (hi : I64 h.a ∧ I64 h.b) (hk : n.kind = 3) (hx : ¬ evalOf n.text r.num 0 = 0) :
    Calls Tryz.prog 40 #[.agg #[.int .i64 n.kind, .slice A0 n.from_.length c0, .string n.text, .int .i64 n.n], hldV h, .bool true, recV r, .int .i64 input] w (AppPost (applyN n h true r input) w) := by
  obtain ⟨kind, from_, text, nn⟩ := n
  obtain ⟨hn, hkey, ha, hb⟩ := h
  obtain ⟨key, num, time⟩ := r
  simp only at hk hsz hi hx
  subst hk
  have HP : Hid (applyN ⟨3, from_, text, nn⟩ ⟨hn, hkey, ha, hb⟩ true ⟨key, num, time⟩ input = ⟨passR ⟨key, num, time⟩, ⟨0, key, ha, hb⟩, true⟩) := by show _ = _; show ends_ (if evalOf text num 0 = 0 then [] else passR ⟨key, num, time⟩) _ _ = _; rw [if_neg hx]; rfl
  show Calls _ _ #[.agg #[.int .i64 3, .slice A0 from_.length c0, .string text, .int .i64 nn], .agg #[.int .i64 hn, .string hkey, .int .i64 ha, .int .i64 hb], .bool true, .agg #[.string key, .int .i64 num, .int .i64 time], .int .i64 input] w _
  have HR := Lib.hid hr
  have HV := Lib.hid hv
  have HI := Lib.hid hi
  clear hr hv hi
  go_enter Tryz.func40, Tryz.ntmps40
  go_upto_region 3 with (fail)
  go_region
  go_upto_region 6 with (fail)
  have hV := Vars.mk_ w (.int .i64 3) (.slice A0 from_.length c0) (.string text) (.int .i64 nn) ⟨0, key, ha, hb⟩ ⟨key, num, time⟩
  generalize ((((w.alloc _).alloc _).alloc _).alloc _).drew = W1 at hV ⊢
  generalize w.heap.size + 1 + 1 + 1 = b3 at hV ⊢
  generalize w.heap.size + 1 + 1 = b2 at hV ⊢
  generalize w.heap.size + 1 = b1 at hV ⊢
  generalize w.heap.size = b0 at hV ⊢
  obtain ⟨⟨n0, n2, n3⟩, ⟨h10, h11, h12, h13, h1f⟩, ⟨r0, r1, r2, rf⟩, ⟨_, _, _, _, s0, s1, s2, s3⟩, sf⟩ := hV.cells
  have HW := Lib.hid hV
  clear hV
  go_wp2_with fail
  have hb0 := HW.out.below
  refine (eval_ok_any text num 0 W1 (HV.out.below hb0) hsz (i64_of_wf HR.out.2.1) ⟨by omega, by omega⟩).mono ?_
  rintro e w2 ⟨rfl, hb2⟩
  have hV2 := HW.out.next hb2
  clear HW n0 n2 n3 h10 h11 h12 h13 h1f r0 r1 r2 rf s0 s1 s2 s3 sf hb0 hb2
  rw [← evalOf_val]
  obtain ⟨⟨n0, n2, n3⟩, ⟨h10, h11, h12, h13, h1f⟩, ⟨r0, r1, r2, rf⟩, ⟨_, _, _, _, s0, s1, s2, s3⟩, sf⟩ := hV2.cells
  have HW := Lib.hid hV2
  clear hV2
  generalize evalOf text num 0 = x at HP hx ⊢
  have hx2 : (x == 0) = false := beq_eq_false_iff_ne.2 hx
  go_wp2_with fail
  refine (dpass_ok ⟨key, num, time⟩ w2 (HR.out.1)).mono ?_
  rintro e w4 ⟨A, c, rfl, ho, hbl, hb4⟩
  have hV4 := HW.out.next hb4
  have HO := Lib.hid ho
  have HBL := Lib.hid hbl
  have HLT := Lib.hid HW.out.lt3
  have HLW := Lib.hid HW.out.below.size
  have HLB := Lib.hid HW.out.lt1
  clear HW n0 n2 n3 h10 h11 h12 h13 h1f r0 r1 r2 rf s0 s1 s2 s3 sf ho hbl hb4
  obtain ⟨⟨n0, n2, n3⟩, ⟨h10, h11, h12, h13, h1f⟩, ⟨r0, r1, r2, rf⟩, ⟨_, _, _, _, s0, s1, s2, s3⟩, sf⟩ := hV4.cells
  have HW := Lib.hid hV4
  clear hV4
  go_upto_region 46 with (fail)
  go_region
  have hF := HW.out.fin HO.out HBL.out HLT.out HLW.out 0 (key) (ha) (hb)
  clear HW n0 n2 n3 h10 h11 h12 h13 h1f r0 r1 r2 rf s0 s1 s2 s3 sf HO HBL
  generalize ((((w4.setCell ⟨b3, 0, none⟩ _).setCell _ _).setCell _ _).setCell _ _).drew = W5 at hF ⊢
  obtain ⟨hh, h1, h2, h3⟩ := hF
  obtain ⟨s0, s1, s2, s3, sf⟩ := hh.cells
  have HX := Lib.hid (And.intro h1 (And.intro h2 h3))
  clear h1 h2 h3 hh
  go_wp2_with fail
  refine bodyPost_ret (v := .tuple #[.slice A (passR ⟨key, num, time⟩).length c, .agg #[.int .i64 0, .string (key), .int .i64 (ha), .int .i64 (hb)], .bool true]) (by simp [results, Tryz.results40, go_sem, s0, s1, s2, s3]) rfl ?_
  rw [HP.out]
  exact ⟨A, c, rfl, HX.out⟩
set_option maxRecDepth 100000 in
set_option maxHeartbeats 1000000 in
theorem dapply_filtered_new (n : Nod) (A0 : Option Addr) (c0 : Nat) (h : Hld) (r : Rec) (input : Int) (w : World) (hv : ErrVars w) (hsz : n.text.size ≤ maxLen) (hr : RecOk r) (hi : I64 h.a ∧ I64 h.b) (hk : n.kind = 3) (hx : evalOf n.text r.num 0 = 0) :
    Calls Tryz.prog 40 #[.agg #[.int .i64 n.kind, .slice A0 n.from_.length c0, .string n.text, .int .i64 n.n], hldV h, .bool false, recV r, .int .i64 input] w (AppPost (applyN n h false r input) w) := by
  obtain ⟨kind, from_, text, nn⟩ := n
  obtain ⟨hn, hkey, ha, hb⟩ := h
  obtain ⟨key, num, time⟩ := r
  simp only at hk hsz hi hx
  subst hk
  have HP : Hid (applyN ⟨3, from_, text, nn⟩ ⟨hn, hkey, ha, hb⟩ false ⟨key, num, time⟩ input = ⟨[], zeroH, false⟩) := by show _ = _; show ends_ (if evalOf text num 0 = 0 then [] else passR ⟨key, num, time⟩) _ _ = _; rw [if_pos hx]; rfl
  show Calls _ _ #[.agg #[.int .i64 3, .slice A0 from_.length c0, .string text, .int .i64 nn], .agg #[.int .i64 hn, .string hkey, .int .i64 ha, .int .i64 hb], .bool false, .agg #[.string key, .int .i64 num, .int .i64 time], .int .i64 input] w _
  have HR := Lib.hid hr
  have HV := Lib.hid hv
  have HI := Lib.hid hi
  clear hr hv hi
  go_enter Tryz.func40, Tryz.ntmps40
  go_upto_region 3 with (fail)
  go_region
  go_upto_region 6 with (fail)
  have hV := Vars.mk_ w (.int .i64 3) (.slice A0 from_.length c0) (.string text) (.int .i64 nn) ⟨0, key, 0, 0⟩ ⟨key, num, time⟩
  generalize ((((w.alloc _).alloc _).alloc _).alloc _).drew = W1 at hV ⊢
  generalize w.heap.size + 1 + 1 + 1 = b3 at hV ⊢
  generalize w.heap.size + 1 + 1 = b2 at hV ⊢
  generalize w.heap.size + 1 = b1 at hV ⊢
  generalize w.heap.size = b0 at hV ⊢
  obtain ⟨⟨n0, n2, n3⟩, ⟨h10, h11, h12, h13, h1f⟩, ⟨r0, r1, r2, rf⟩, ⟨_, _, _, _, s0, s1, s2, s3⟩, sf⟩ := hV.cells
  have HW := Lib.hid hV
  clear hV
  go_wp2_with fail
  have hb0 := HW.out.below
  refine (eval_ok_any text num 0 W1 (HV.out.below hb0) hsz (i64_of_wf HR.out.2.1) ⟨by omega, by omega⟩).mono ?_
  rintro e w2 ⟨rfl, hb2⟩
  have hV2 := HW.out.next hb2
  clear HW n0 n2 n3 h10 h11 h12 h13 h1f r0 r1 r2 rf s0 s1 s2 s3 sf hb0 hb2
  rw [← evalOf_val]
  obtain ⟨⟨n0, n2, n3⟩, ⟨h10, h11, h12, h13, h1f⟩, ⟨r0, r1, r2, rf⟩, ⟨_, _, _, _, s0, s1, s2, s3⟩, sf⟩ := hV2.cells
  have HW := Lib.hid hV2
  clear hV2
  generalize evalOf text num 0 = x at HP hx ⊢
  subst hx
  have HO := Lib.hid (show OwnS w2 30 3 none 0 ([] : List Rec).length (([] : List Rec).flatMap recCells) from OwnS.nil _ _ _)
  have HBL : Hid (∀ k, blk none = some k → w2.heap.size ≤ k) := nofun
  have HLT := Lib.hid HW.out.lt3
  have HLW := Lib.hid HW.out.below.size
  have HLB := Lib.hid HW.out.lt1
  go_upto_region 46 with (fail)
  have hV5 := HW.out.zero
  have ho5 : OwnS ((((w2.setCell ⟨b1, 0, none⟩ (.int .i64 0)).setCell ⟨b1, 1, none⟩ (.string ⟨#[]⟩)).setCell ⟨b1, 2, none⟩ (.int .i64 0)).setCell ⟨b1, 3, none⟩ (.int .i64 0)) 30 3 none 0 ([] : List Rec).length (([] : List Rec).flatMap recCells) := HW.out.own_zero HO.out HBL.out HLB.out
  clear HW HO n0 n2 n3 h10 h11 h12 h13 h1f r0 r1 r2 rf s0 s1 s2 s3 sf
  generalize (((w2.setCell _ _).setCell _ _).setCell _ _).setCell _ _ = W6 at hV5 ho5 ⊢
  have HO := Lib.hid ho5
  clear ho5
  obtain ⟨⟨n0, n2, n3⟩, ⟨h10, h11, h12, h13, h1f⟩, ⟨r0, r1, r2, rf⟩, ⟨_, _, _, _, s0, s1, s2, s3⟩, sf⟩ := hV5.cells
  have HW := Lib.hid hV5
  clear hV5
  go_region
  have hF := HW.out.fin HO.out HBL.out HLT.out HLW.out 0 (⟨#[]⟩) (0) (0)
  clear HW n0 n2 n3 h10 h11 h12 h13 h1f r0 r1 r2 rf s0 s1 s2 s3 sf HO HBL
  generalize ((((W6.setCell ⟨b3, 0, none⟩ _).setCell _ _).setCell _ _).setCell _ _).drew = W5 at hF ⊢
  obtain ⟨hh, h1, h2, h3⟩ := hF
  obtain ⟨s0, s1, s2, s3, sf⟩ := hh.cells
  have HX := Lib.hid (And.intro h1 (And.intro h2 h3))
  clear h1 h2 h3 hh
  go_wp2_with fail
  refine bodyPost_ret (v := .tuple #[.slice none ([] : List Rec).length 0, .agg #[.int .i64 0, .string (⟨#[]⟩), .int .i64 (0), .int .i64 (0)], .bool false]) (by simp [results, Tryz.results40, go_sem, s0, s1, s2, s3]) rfl ?_
  rw [HP.out]
  exact ⟨none, 0, rfl, HX.out⟩
set_option maxRecDepth 100000 in
set_option maxHeartbeats 1000000 in
theorem dapply_filter_new (n : Nod) (A0 : Option Addr) (c0 : Nat) (h : Hld) (r : Rec) (input : Int) (w : World) (hv : ErrVars w) (hsz : n.text.size ≤ maxLen) (hr : RecOk r) (hi : I64 h.a ∧ I64 h.b) (hk : n.kind = 3) (hx : ¬ evalOf n.text r.num 0 = 0) :
    Calls Tryz.prog 40 #[.agg #[.int .i64 n.kind, .slice A0 n.from_.length c0, .string n.text, .int .i64 n.n], hldV h, .bool false, recV r, .int .i64 input] w (AppPost (applyN n h false r input) w) := by
  obtain ⟨kind, from_, text, nn⟩ := n
  obtain ⟨hn, hkey, ha, hb⟩ := h
  obtain ⟨key, num, time⟩ := r
  simp only at hk hsz hi hx
  subst hk
  have HP : Hid (applyN ⟨3, from_, text, nn⟩ ⟨hn, hkey, ha, hb⟩ false ⟨key, num, time⟩ input = ⟨passR ⟨key, num, time⟩, zeroH, false⟩) := by show _ = _; show ends_ (if evalOf text num 0 = 0 then [] else passR ⟨key, num, time⟩) _ _ = _; rw [if_neg hx]; rfl
  show Calls _ _ #[.agg #[.int .i64 3, .slice A0 from_.length c0, .string text, .int .i64 nn], .agg #[.int .i64 hn, .string hkey, .int .i64 ha, .int .i64 hb], .bool false, .agg #[.string key, .int .i64 num, .int .i64 time], .int .i64 input] w _
  have HR := Lib.hid hr
  have HV := Lib.hid hv
  have HI := Lib.hid hi
  clear hr hv hi
  go_enter Tryz.func40, Tryz.ntmps40
  go_upto_region 3 with (fail)
  go_region
  go_upto_region 6 with (fail)
  have hV := Vars.mk_ w (.int .i64 3) (.slice A0 from_.length c0) (.string text) (.int .i64 nn) ⟨0, key, 0, 0⟩ ⟨key, num, time⟩
  generalize ((((w.alloc _).alloc _).alloc _).alloc _).drew = W1 at hV ⊢
  generalize w.heap.size + 1 + 1 + 1 = b3 at hV ⊢
  generalize w.heap.size + 1 + 1 = b2 at hV ⊢
  generalize w.heap.size + 1 = b1 at hV ⊢
  generalize w.heap.size = b0 at hV ⊢
  obtain ⟨⟨n0, n2, n3⟩, ⟨h10, h11, h12, h13, h1f⟩, ⟨r0, r1, r2, rf⟩, ⟨_, _, _, _, s0, s1, s2, s3⟩, sf⟩ := hV.cells
  have HW := Lib.hid hV
  clear hV
  go_wp2_with fail
  have hb0 := HW.out.below
  refine (eval_ok_any text num 0 W1 (HV.out.below hb0) hsz (i64_of_wf HR.out.2.1) ⟨by omega, by omega⟩).mono ?_
  rintro e w2 ⟨rfl, hb2⟩
  have hV2 := HW.out.next hb2
  clear HW n0 n2 n3 h10 h11 h12 h13 h1f r0 r1 r2 rf s0 s1 s2 s3 sf hb0 hb2
  rw [← evalOf_val]
  obtain ⟨⟨n0, n2, n3⟩, ⟨h10, h11, h12, h13, h1f⟩, ⟨r0, r1, r2, rf⟩, ⟨_, _, _, _, s0, s1, s2, s3⟩, sf⟩ := hV2.cells
  have HW := Lib.hid hV2
  clear hV2
  generalize evalOf text num 0 = x at HP hx ⊢
  have hx2 : (x == 0) = false := beq_eq_false_iff_ne.2 hx
  go_wp2_with fail
  refine (dpass_ok ⟨key, num, time⟩ w2 (HR.out.1)).mono ?_
  rintro e w4 ⟨A, c, rfl, ho, hbl, hb4⟩
  have hV4 := HW.out.next hb4
  have HO := Lib.hid ho
  have HBL := Lib.hid hbl
  have HLT := Lib.hid HW.out.lt3
  have HLW := Lib.hid HW.out.below.size
  have HLB := Lib.hid HW.out.lt1
  clear HW n0 n2 n3 h10 h11 h12 h13 h1f r0 r1 r2 rf s0 s1 s2 s3 sf ho hbl hb4
  obtain ⟨⟨n0, n2, n3⟩, ⟨h10, h11, h12, h13, h1f⟩, ⟨r0, r1, r2, rf⟩, ⟨_, _, _, _, s0, s1, s2, s3⟩, sf⟩ := hV4.cells
  have HW := Lib.hid hV4
  clear hV4
  go_upto_region 46 with (fail)
  have hV5 := HW.out.zero
  have ho5 : OwnS ((((w4.setCell ⟨b1, 0, none⟩ (.int .i64 0)).setCell ⟨b1, 1, none⟩ (.string ⟨#[]⟩)).setCell ⟨b1, 2, none⟩ (.int .i64 0)).setCell ⟨b1, 3, none⟩ (.int .i64 0)) 30 3 A c (passR ⟨key, num, time⟩).length ((passR ⟨key, num, time⟩).flatMap recCells) := HW.out.own_zero HO.out HBL.out HLB.out
  clear HW HO n0 n2 n3 h10 h11 h12 h13 h1f r0 r1 r2 rf s0 s1 s2 s3 sf
  generalize (((w4.setCell _ _).setCell _ _).setCell _ _).setCell _ _ = W6 at hV5 ho5 ⊢
  have HO := Lib.hid ho5
  clear ho5
  obtain ⟨⟨n0, n2, n3⟩, ⟨h10, h11, h12, h13, h1f⟩, ⟨r0, r1, r2, rf⟩, ⟨_, _, _, _, s0, s1, s2, s3⟩, sf⟩ := hV5.cells
  have HW := Lib.hid hV5
  clear hV5
  go_region
  have hF := HW.out.fin HO.out HBL.out HLT.out HLW.out 0 (⟨#[]⟩) (0) (0)
  clear HW n0 n2 n3 h10 h11 h12 h13 h1f r0 r1 r2 rf s0 s1 s2 s3 sf HO HBL
  generalize ((((W6.setCell ⟨b3, 0, none⟩ _).setCell _ _).setCell _ _).setCell _ _).drew = W5 at hF ⊢
  obtain ⟨hh, h1, h2, h3⟩ := hF
  obtain ⟨s0, s1, s2, s3, sf⟩ := hh.cells
  have HX := Lib.hid (And.intro h1 (And.intro h2 h3))
  clear h1 h2 h3 hh
  go_wp2_with fail
  refine bodyPost_ret (v := .tuple #[.slice A (passR ⟨key, num, time⟩).length c, .agg #[.int .i64 0, .string (⟨#[]⟩), .int .i64 (0), .int .i64 (0)], .bool false]) (by simp [results, Tryz.results40, go_sem, s0, s1, s2, s3]) rfl ?_
  rw [HP.out]
  exact ⟨A, c, rfl, HX.out⟩
end Go.Proofs.YtcmhbhdiepkndaaGreatDoor

/-
  Package den: the contract of Apply, kind by kind (printed by denapply.py). Conditions: the node's text is a string's, the numbers are ints, the two variables of Atoi's errors hold errors.
-/
namespace Go.Proofs.YtcmhbhdiepkndaaGreatDoor
open Go.RowKit Go.Shelf
set_option linter.unusedVariables false

set_option maxRecDepth 100000 in
set_option maxHeartbeats 1000000 in
theorem dapply_wait_has (n : Nod) (A0 : Option Addr) (c0 : Nat) (h : Hld) (r : Rec) (input : Int) (w : World) (hv : ErrVars w) (hsz : n.text.size ≤ maxLen) (hr : RecOk r) (hi : I64 h.a ∧ I64 h.b) (hk : n.kind = 8) (hx : ¬ n.n ≤ wrap64 (h.a + 1)) :
    Calls Tryz.prog 40 #[.agg #[.int .i64 n.kind, .slice A0 n.from_.length c0, .string n.text, .int .i64 n.n], hldV h, .bool true, recV r, .int .i64 input] w (AppPost (applyN n h true r input) w) := by
  obtain ⟨kind, from_, text, nn⟩ := n
  obtain ⟨hn, hkey, ha, hb⟩ := h
  obtain ⟨key, num, time⟩ := r
  simp only at hk hsz hi hx
  subst hk
  have HP : Hid (applyN ⟨8, from_, text, nn⟩ ⟨hn, hkey, ha, hb⟩ true ⟨key, num, time⟩ input = ⟨[], ⟨0, key, wrap64 (ha + 1), wrap64 (hb + num)⟩, true⟩) := by show _ = _; show (if nn ≤ wrap64 (ha + 1) then ends_ (passR ⟨key, wrap64 (hb + num), time⟩) ⟨0, key, 0, 0⟩ true else ends_ [] ⟨0, key, wrap64 (ha + 1), wrap64 (hb + num)⟩ true) = _; rw [if_neg hx]; rfl
  show Calls _ _ #[.agg #[.int .i64 8, .slice A0 from_.length c0, .string text, .int .i64 nn], .agg #[.int .i64 hn, .string hkey, .int .i64 ha, .int .i64 hb], .bool true, .agg #[.string key, .int .i64 num, .int .i64 time], .int .i64 input] w _
  have HR := Lib.hid hr
  have HV := Lib.hid hv
  have HI := Lib.hid hi
  clear hr hv hi
  go_enter Tryz.func40, Tryz.ntmps40
  go_upto_region 3 with (fail)
  go_region
  go_upto_region 6 with (fail)
  have hV := Vars.mk_ w (.int .i64 8) (.slice A0 from_.length c0) (.string text) (.int .i64 nn) ⟨0, key, ha, hb⟩ ⟨key, num, time⟩
  generalize ((((w.alloc _).alloc _).alloc _).alloc _).drew = W1 at hV ⊢
  generalize w.heap.size + 1 + 1 + 1 = b3 at hV ⊢
  generalize w.heap.size + 1 + 1 = b2 at hV ⊢
  generalize w.heap.size + 1 = b1 at hV ⊢
  generalize w.heap.size = b0 at hV ⊢
  obtain ⟨⟨n0, n2, n3⟩, ⟨h10, h11, h12, h13, h1f⟩, ⟨r0, r1, r2, rf⟩, ⟨_, _, _, _, s0, s1, s2, s3⟩, sf⟩ := hV.cells
  have HW := Lib.hid hV
  clear hV
  go_upto_region 36 with (fail)
  have hV3 := ((HW.out.a (wrap64 (ha + 1))).b (wrap64 (hb + num)))
  clear HW n0 n2 n3 h10 h11 h12 h13 h1f r0 r1 r2 rf s0 s1 s2 s3 sf
  generalize (W1.setCell ⟨b1, 2, none⟩ (.int .i64 (wrap64 (ha + 1)))).setCell ⟨b1, 3, none⟩ (.int .i64 (wrap64 (hb + num))) = W3 at hV3 ⊢
  obtain ⟨⟨n0, n2, n3⟩, ⟨h10, h11, h12, h13, h1f⟩, ⟨r0, r1, r2, rf⟩, ⟨_, _, _, _, s0, s1, s2, s3⟩, sf⟩ := hV3.cells
  have HW := Lib.hid hV3
  clear hV3
  have d2 : decide (nn ≤ wrap64 (ha + 1)) = false := decide_eq_false hx
  have HO := Lib.hid (show OwnS W3 30 3 none 0 ([] : List Rec).length (([] : List Rec).flatMap recCells) from OwnS.nil _ _ _)
  have HBL : Hid (∀ k, blk none = some k → W3.heap.size ≤ k) := nofun
  have HLT := Lib.hid HW.out.lt3
  have HLW := Lib.hid HW.out.below.size
  have HLB := Lib.hid HW.out.lt1
  go_upto_region 46 with (fail)
  go_region
  have hF := HW.out.fin HO.out HBL.out HLT.out HLW.out 0 (key) (wrap64 (ha + 1)) (wrap64 (hb + num))
  clear HW n0 n2 n3 h10 h11 h12 h13 h1f r0 r1 r2 rf s0 s1 s2 s3 sf HO HBL
  generalize ((((W3.setCell ⟨b3, 0, none⟩ _).setCell _ _).setCell _ _).setCell _ _).drew = W5 at hF ⊢
  obtain ⟨hh, h1, h2, h3⟩ := hF
  obtain ⟨s0, s1, s2, s3, sf⟩ := hh.cells
  have HX := Lib.hid (And.intro h1 (And.intro h2 h3))
  clear h1 h2 h3 hh
  go_wp2_with fail
  refine bodyPost_ret (v := .tuple #[.slice none 0 0, .agg #[.int .i64 0, .string (key), .int .i64 (wrap64 (ha + 1)), .int .i64 (wrap64 (hb + num))], .bool true]) (by simp [results, Tryz.results40, go_sem, s0, s1, s2, s3]) rfl ?_
  rw [HP.out]
  exact ⟨none, 0, rfl, HX.out⟩
set_option maxRecDepth 100000 in
set_option maxHeartbeats 1000000 in
theorem dapply_every_has (n : Nod) (A0 : Option Addr) (c0 : Nat) (h : Hld) (r : Rec) (input : Int) (w : World) (hv : ErrVars w) (hsz : n.text.size ≤ maxLen) (hr : RecOk r) (hi : I64 h.a ∧ I64 h.b) (hk : n.kind = 8) (hx : n.n ≤ wrap64 (h.a + 1)) :
    Calls Tryz.prog 40 #[.agg #[.int .i64 n.kind, .slice A0 n.from_.length c0, .string n.text, .int .i64 n.n], hldV h, .bool true, recV r, .int .i64 input] w (AppPost (applyN n h true r input) w) := by
  obtain ⟨kind, from_, text, nn⟩ := n
  obtain ⟨hn, hkey, ha, hb⟩ := h
  obtain ⟨key, num, time⟩ := r
  simp only at hk hsz hi hx
  subst hk
  have HP : Hid (applyN ⟨8, from_, text, nn⟩ ⟨hn, hkey, ha, hb⟩ true ⟨key, num, time⟩ input = ⟨passR ⟨key, wrap64 (hb + num), time⟩, ⟨0, key, 0, 0⟩, true⟩) := by show _ = _; show (if nn ≤ wrap64 (ha + 1) then ends_ (passR ⟨key, wrap64 (hb + num), time⟩) ⟨0, key, 0, 0⟩ true else ends_ [] ⟨0, key, wrap64 (ha + 1), wrap64 (hb + num)⟩ true) = _; rw [if_pos hx]; rfl
  show Calls _ _ #[.agg #[.int .i64 8, .slice A0 from_.length c0, .string text, .int .i64 nn], .agg #[.int .i64 hn, .string hkey, .int .i64 ha, .int .i64 hb], .bool true, .agg #[.string key, .int .i64 num, .int .i64 time], .int .i64 input] w _
  have HR := Lib.hid hr
  have HV := Lib.hid hv
  have HI := Lib.hid hi
  clear hr hv hi
  go_enter Tryz.func40, Tryz.ntmps40
  go_upto_region 3 with (fail)
  go_region
  go_upto_region 6 with (fail)
  have hV := Vars.mk_ w (.int .i64 8) (.slice A0 from_.length c0) (.string text) (.int .i64 nn) ⟨0, key, ha, hb⟩ ⟨key, num, time⟩
  generalize ((((w.alloc _).alloc _).alloc _).alloc _).drew = W1 at hV ⊢
  generalize w.heap.size + 1 + 1 + 1 = b3 at hV ⊢
  generalize w.heap.size + 1 + 1 = b2 at hV ⊢
  generalize w.heap.size + 1 = b1 at hV ⊢
  generalize w.heap.size = b0 at hV ⊢
  obtain ⟨⟨n0, n2, n3⟩, ⟨h10, h11, h12, h13, h1f⟩, ⟨r0, r1, r2, rf⟩, ⟨_, _, _, _, s0, s1, s2, s3⟩, sf⟩ := hV.cells
  have HW := Lib.hid hV
  clear hV
  go_upto_region 36 with (fail)
  have hV3 := ((HW.out.a (wrap64 (ha + 1))).b (wrap64 (hb + num)))
  clear HW n0 n2 n3 h10 h11 h12 h13 h1f r0 r1 r2 rf s0 s1 s2 s3 sf
  generalize (W1.setCell ⟨b1, 2, none⟩ (.int .i64 (wrap64 (ha + 1)))).setCell ⟨b1, 3, none⟩ (.int .i64 (wrap64 (hb + num))) = W3 at hV3 ⊢
  obtain ⟨⟨n0, n2, n3⟩, ⟨h10, h11, h12, h13, h1f⟩, ⟨r0, r1, r2, rf⟩, ⟨_, _, _, _, s0, s1, s2, s3⟩, sf⟩ := hV3.cells
  have HW := Lib.hid hV3
  clear hV3
  have d2 : decide (nn ≤ wrap64 (ha + 1)) = true := decide_eq_true hx
  go_upto_region 39 with (fail)
  have hV3 := (((HW.out.num (wrap64 (hb + num))).a (0)).b (0))
  clear HW n0 n2 n3 h10 h11 h12 h13 h1f r0 r1 r2 rf s0 s1 s2 s3 sf
  generalize ((W3.setCell ⟨b2, 1, none⟩ (.int .i64 (wrap64 (hb + num)))).setCell ⟨b1, 2, none⟩ (.int .i64 (0))).setCell ⟨b1, 3, none⟩ (.int .i64 (0)) = W7 at hV3 ⊢
  obtain ⟨⟨n0, n2, n3⟩, ⟨h10, h11, h12, h13, h1f⟩, ⟨r0, r1, r2, rf⟩, ⟨_, _, _, _, s0, s1, s2, s3⟩, sf⟩ := hV3.cells
  have HW := Lib.hid hV3
  clear hV3
  go_wp2_with fail
  refine (dpass_ok ⟨key, wrap64 (hb + num), time⟩ W7 (HR.out.1)).mono ?_
  rintro e w4 ⟨A, c, rfl, ho, hbl, hb4⟩
  have hV4 := HW.out.next hb4
  have HO := Lib.hid ho
  have HBL := Lib.hid hbl
  have HLT := Lib.hid HW.out.lt3
  have HLW := Lib.hid HW.out.below.size
  have HLB := Lib.hid HW.out.lt1
  clear HW n0 n2 n3 h10 h11 h12 h13 h1f r0 r1 r2 rf s0 s1 s2 s3 sf ho hbl hb4
  obtain ⟨⟨n0, n2, n3⟩, ⟨h10, h11, h12, h13, h1f⟩, ⟨r0, r1, r2, rf⟩, ⟨_, _, _, _, s0, s1, s2, s3⟩, sf⟩ := hV4.cells
  have HW := Lib.hid hV4
  clear hV4
  go_upto_region 46 with (fail)
  go_region
  have hF := HW.out.fin HO.out HBL.out HLT.out HLW.out 0 (key) (0) (0)
  clear HW n0 n2 n3 h10 h11 h12 h13 h1f r0 r1 r2 rf s0 s1 s2 s3 sf HO HBL
  generalize ((((w4.setCell ⟨b3, 0, none⟩ _).setCell _ _).setCell _ _).setCell _ _).drew = W5 at hF ⊢
  obtain ⟨hh, h1, h2, h3⟩ := hF
  obtain ⟨s0, s1, s2, s3, sf⟩ := hh.cells
  have HX := Lib.hid (And.intro h1 (And.intro h2 h3))
  clear h1 h2 h3 hh
  go_wp2_with fail
  refine bodyPost_ret (v := .tuple #[.slice A (passR ⟨key, wrap64 (hb + num), time⟩).length c, .agg #[.int .i64 0, .string (key), .int .i64 (0), .int .i64 (0)], .bool true]) (by simp [results, Tryz.results40, go_sem, s0, s1, s2, s3]) rfl ?_
  rw [HP.out]
  exact ⟨A, c, rfl, HX.out⟩
set_option maxRecDepth 100000 in
set_option maxHeartbeats 1000000 in
theorem dapply_wait_new (n : Nod) (A0 : Option Addr) (c0 : Nat) (h : Hld) (r : Rec) (input : Int) (w : World) (hv : ErrVars w) (hsz : n.text.size ≤ maxLen) (hr : RecOk r) (hi : I64 h.a ∧ I64 h.b) (hk : n.kind = 8) (hx : ¬ n.n ≤ wrap64 (0 + 1)) :
    Calls Tryz.prog 40 #[.agg #[.int .i64 n.kind, .slice A0 n.from_.length c0, .string n.text, .int .i64 n.n], hldV h, .bool false, recV r, .int .i64 input] w (AppPost (applyN n h false r input) w) := by
  obtain ⟨kind, from_, text, nn⟩ := n
  obtain ⟨hn, hkey, ha, hb⟩ := h
  obtain ⟨key, num, time⟩ := r
  simp only at hk hsz hi hx
  subst hk
  have HP : Hid (applyN ⟨8, from_, text, nn⟩ ⟨hn, hkey, ha, hb⟩ false ⟨key, num, time⟩ input = ⟨[], ⟨0, key, 1, wrap64 num⟩, true⟩) := by show _ = _; show (if nn ≤ wrap64 (0 + 1) then ends_ (passR ⟨key, wrap64 (0 + num), time⟩) ⟨0, key, 0, 0⟩ true else ends_ [] ⟨0, key, wrap64 (0 + 1), wrap64 (0 + num)⟩ true) = _; rw [if_neg hx, Int.zero_add, Int.zero_add, show wrap64 1 = 1 from by unfold wrap64; omega]; rfl
  show Calls _ _ #[.agg #[.int .i64 8, .slice A0 from_.length c0, .string text, .int .i64 nn], .agg #[.int .i64 hn, .string hkey, .int .i64 ha, .int .i64 hb], .bool false, .agg #[.string key, .int .i64 num, .int .i64 time], .int .i64 input] w _
  have HR := Lib.hid hr
  have HV := Lib.hid hv
  have HI := Lib.hid hi
  clear hr hv hi
  go_enter Tryz.func40, Tryz.ntmps40
  go_upto_region 3 with (fail)
  go_region
  go_upto_region 6 with (fail)
  have hV := Vars.mk_ w (.int .i64 8) (.slice A0 from_.length c0) (.string text) (.int .i64 nn) ⟨0, key, 0, 0⟩ ⟨key, num, time⟩
  generalize ((((w.alloc _).alloc _).alloc _).alloc _).drew = W1 at hV ⊢
  generalize w.heap.size + 1 + 1 + 1 = b3 at hV ⊢
  generalize w.heap.size + 1 + 1 = b2 at hV ⊢
  generalize w.heap.size + 1 = b1 at hV ⊢
  generalize w.heap.size = b0 at hV ⊢
  obtain ⟨⟨n0, n2, n3⟩, ⟨h10, h11, h12, h13, h1f⟩, ⟨r0, r1, r2, rf⟩, ⟨_, _, _, _, s0, s1, s2, s3⟩, sf⟩ := hV.cells
  have HW := Lib.hid hV
  clear hV
  rw [show wrap64 (0 + 1) = 1 from by unfold wrap64; omega] at hx
  go_upto_region 36 with (fail)
  have hV3 := ((HW.out.a (1)).b (wrap64 num))
  clear HW n0 n2 n3 h10 h11 h12 h13 h1f r0 r1 r2 rf s0 s1 s2 s3 sf
  generalize (W1.setCell ⟨b1, 2, none⟩ (.int .i64 (1))).setCell ⟨b1, 3, none⟩ (.int .i64 (wrap64 num)) = W3 at hV3 ⊢
  obtain ⟨⟨n0, n2, n3⟩, ⟨h10, h11, h12, h13, h1f⟩, ⟨r0, r1, r2, rf⟩, ⟨_, _, _, _, s0, s1, s2, s3⟩, sf⟩ := hV3.cells
  have HW := Lib.hid hV3
  clear hV3
  have d2 : decide (nn ≤ 1) = false := decide_eq_false hx
  have HO := Lib.hid (show OwnS W3 30 3 none 0 ([] : List Rec).length (([] : List Rec).flatMap recCells) from OwnS.nil _ _ _)
  have HBL : Hid (∀ k, blk none = some k → W3.heap.size ≤ k) := nofun
  have HLT := Lib.hid HW.out.lt3
  have HLW := Lib.hid HW.out.below.size
  have HLB := Lib.hid HW.out.lt1
  go_upto_region 46 with (fail)
  go_region
  have hF := HW.out.fin HO.out HBL.out HLT.out HLW.out 0 (key) (1) (wrap64 num)
  clear HW n0 n2 n3 h10 h11 h12 h13 h1f r0 r1 r2 rf s0 s1 s2 s3 sf HO HBL
  generalize ((((W3.setCell ⟨b3, 0, none⟩ _).setCell _ _).setCell _ _).setCell _ _).drew = W5 at hF ⊢
  obtain ⟨hh, h1, h2, h3⟩ := hF
  obtain ⟨s0, s1, s2, s3, sf⟩ := hh.cells
  have HX := Lib.hid (And.intro h1 (And.intro h2 h3))
  clear h1 h2 h3 hh
  go_wp2_with fail
  refine bodyPost_ret (v := .tuple #[.slice none 0 0, .agg #[.int .i64 0, .string (key), .int .i64 (1), .int .i64 (wrap64 num)], .bool true]) (by simp [results, Tryz.results40, go_sem, s0, s1, s2, s3]) rfl ?_
  rw [HP.out]
  exact ⟨none, 0, rfl, HX.out⟩
set_option maxRecDepth 100000 in
set_option maxHeartbeats 1000000 in
theorem dapply_every_new (n : Nod) (A0 : Option Addr) (c0 : Nat) (h : Hld) (r : Rec) (input : Int) (w : World) (hv : ErrVars w) (hsz : n.text.size ≤ maxLen) (hr : RecOk r) (hi : I64 h.a ∧ I64 h.b) (hk : n.kind = 8) (hx : n.n ≤ wrap64 (0 + 1)) :
    Calls Tryz.prog 40 #[.agg #[.int .i64 n.kind, .slice A0 n.from_.length c0, .string n.text, .int .i64 n.n], hldV h, .bool false, recV r, .int .i64 input] w (AppPost (applyN n h false r input) w) := by
  obtain ⟨kind, from_, text, nn⟩ := n
  obtain ⟨hn, hkey, ha, hb⟩ := h
  obtain ⟨key, num, time⟩ := r
  simp only at hk hsz hi hx
  subst hk
  have HP : Hid (applyN ⟨8, from_, text, nn⟩ ⟨hn, hkey, ha, hb⟩ false ⟨key, num, time⟩ input = ⟨passR ⟨key, wrap64 num, time⟩, ⟨0, key, 0, 0⟩, true⟩) := by show _ = _; show (if nn ≤ wrap64 (0 + 1) then ends_ (passR ⟨key, wrap64 (0 + num), time⟩) ⟨0, key, 0, 0⟩ true else ends_ [] ⟨0, key, wrap64 (0 + 1), wrap64 (0 + num)⟩ true) = _; rw [if_pos hx, Int.zero_add]; rfl
  show Calls _ _ #[.agg #[.int .i64 8, .slice A0 from_.length c0, .string text, .int .i64 nn], .agg #[.int .i64 hn, .string hkey, .int .i64 ha, .int .i64 hb], .bool false, .agg #[.string key, .int .i64 num, .int .i64 time], .int .i64 input] w _
  have HR := Lib.hid hr
  have HV := Lib.hid hv
  have HI := Lib.hid hi
  clear hr hv hi
  go_enter Tryz.func40, Tryz.ntmps40
  go_upto_region 3 with (fail)
  go_region
  go_upto_region 6 with (fail)
  have hV := Vars.mk_ w (.int .i64 8) (.slice A0 from_.length c0) (.string text) (.int .i64 nn) ⟨0, key, 0, 0⟩ ⟨key, num, time⟩
  generalize ((((w.alloc _).alloc _).alloc _).alloc _).drew = W1 at hV ⊢
  generalize w.heap.size + 1 + 1 + 1 = b3 at hV ⊢
  generalize w.heap.size + 1 + 1 = b2 at hV ⊢
  generalize w.heap.size + 1 = b1 at hV ⊢
  generalize w.heap.size = b0 at hV ⊢
  obtain ⟨⟨n0, n2, n3⟩, ⟨h10, h11, h12, h13, h1f⟩, ⟨r0, r1, r2, rf⟩, ⟨_, _, _, _, s0, s1, s2, s3⟩, sf⟩ := hV.cells
  have HW := Lib.hid hV
  clear hV
  rw [show wrap64 (0 + 1) = 1 from by unfold wrap64; omega] at hx
  go_upto_region 36 with (fail)
  have hV3 := ((HW.out.a (1)).b (wrap64 num))
  clear HW n0 n2 n3 h10 h11 h12 h13 h1f r0 r1 r2 rf s0 s1 s2 s3 sf
  generalize (W1.setCell ⟨b1, 2, none⟩ (.int .i64 (1))).setCell ⟨b1, 3, none⟩ (.int .i64 (wrap64 num)) = W3 at hV3 ⊢
  obtain ⟨⟨n0, n2, n3⟩, ⟨h10, h11, h12, h13, h1f⟩, ⟨r0, r1, r2, rf⟩, ⟨_, _, _, _, s0, s1, s2, s3⟩, sf⟩ := hV3.cells
  have HW := Lib.hid hV3
  clear hV3
  have d2 : decide (nn ≤ 1) = true := decide_eq_true hx
  go_upto_region 39 with (fail)
  have hV3 := (((HW.out.num (wrap64 num)).a (0)).b (0))
  clear HW n0 n2 n3 h10 h11 h12 h13 h1f r0 r1 r2 rf s0 s1 s2 s3 sf
  generalize ((W3.setCell ⟨b2, 1, none⟩ (.int .i64 (wrap64 num))).setCell ⟨b1, 2, none⟩ (.int .i64 (0))).setCell ⟨b1, 3, none⟩ (.int .i64 (0)) = W7 at hV3 ⊢
  obtain ⟨⟨n0, n2, n3⟩, ⟨h10, h11, h12, h13, h1f⟩, ⟨r0, r1, r2, rf⟩, ⟨_, _, _, _, s0, s1, s2, s3⟩, sf⟩ := hV3.cells
  have HW := Lib.hid hV3
  clear hV3
  go_wp2_with fail
  refine (dpass_ok ⟨key, wrap64 num, time⟩ W7 (HR.out.1)).mono ?_
  rintro e w4 ⟨A, c, rfl, ho, hbl, hb4⟩
  have hV4 := HW.out.next hb4
  have HO := Lib.hid ho
  have HBL := Lib.hid hbl
  have HLT := Lib.hid HW.out.lt3
  have HLW := Lib.hid HW.out.below.size
  have HLB := Lib.hid HW.out.lt1
  clear HW n0 n2 n3 h10 h11 h12 h13 h1f r0 r1 r2 rf s0 s1 s2 s3 sf ho hbl hb4
  obtain ⟨⟨n0, n2, n3⟩, ⟨h10, h11, h12, h13, h1f⟩, ⟨r0, r1, r2, rf⟩, ⟨_, _, _, _, s0, s1, s2, s3⟩, sf⟩ := hV4.cells
  have HW := Lib.hid hV4
  clear hV4
  go_upto_region 46 with (fail)
  go_region
  have hF := HW.out.fin HO.out HBL.out HLT.out HLW.out 0 (key) (0) (0)
  clear HW n0 n2 n3 h10 h11 h12 h13 h1f r0 r1 r2 rf s0 s1 s2 s3 sf HO HBL
  generalize ((((w4.setCell ⟨b3, 0, none⟩ _).setCell _ _).setCell _ _).setCell _ _).drew = W5 at hF ⊢
  obtain ⟨hh, h1, h2, h3⟩ := hF
  obtain ⟨s0, s1, s2, s3, sf⟩ := hh.cells
  have HX := Lib.hid (And.intro h1 (And.intro h2 h3))
  clear h1 h2 h3 hh
  go_wp2_with fail
  refine bodyPost_ret (v := .tuple #[.slice A (passR ⟨key, wrap64 num, time⟩).length c, .agg #[.int .i64 0, .string (key), .int .i64 (0), .int .i64 (0)], .bool true]) (by simp [results, Tryz.results40, go_sem, s0, s1, s2, s3]) rfl ?_
  rw [HP.out]
  exact ⟨A, c, rfl, HX.out⟩
end Go.Proofs.YtcmhbhdiepkndaaGreatDoor

/-
  Package den: the contract of Apply, kind by kind (printed by denapply.py). Conditions: the node's text is a string's, the numbers are ints, the two variables of Atoi's errors hold errors.
-/
namespace Go.Proofs.YtcmhbhdiepkndaaGreatDoor
open Go.RowKit Go.Shelf
set_option linter.unusedVariables false

set_option maxRecDepth 100000 in
set_option maxHeartbeats 1000000 in
theorem dapply_union_has (n : Nod) (A0 : Option Addr) (c0 : Nat) (h : Hld) (r : Rec) (input : Int) (w : World) (hv : ErrVars w) (hsz : n.text.size ≤ maxLen) (hr : RecOk r) (hi : I64 h.a ∧ I64 h.b) (hk : n.kind = 6) (hT : PowTab w) (hin : I64_ input) (hkl : r.key.size ≤ 40) :
    Calls Tryz.prog 40 #[.agg #[.int .i64 n.kind, .slice A0 n.from_.length c0, .string n.text, .int .i64 n.n], hldV h, .bool true, recV r, .int .i64 input] w (AppPost (applyN n h true r input) w) := by
  obtain ⟨kind, from_, text, nn⟩ := n
  obtain ⟨hn, hkey, ha, hb⟩ := h
  obtain ⟨key, num, time⟩ := r
  simp only at hk hsz hi hkl
  subst hk
  have HP : Hid (applyN ⟨6, from_, text, nn⟩ ⟨hn, hkey, ha, hb⟩ true ⟨key, num, time⟩ input = ⟨passR ⟨uniKey input key, num, time⟩, ⟨0, key, ha, hb⟩, true⟩) := rfl
  show Calls _ _ #[.agg #[.int .i64 6, .slice A0 from_.length c0, .string text, .int .i64 nn], .agg #[.int .i64 hn, .string hkey, .int .i64 ha, .int .i64 hb], .bool true, .agg #[.string key, .int .i64 num, .int .i64 time], .int .i64 input] w _
  have HR := Lib.hid hr
  have HV := Lib.hid hv
  have HI := Lib.hid hi
  clear hr hv hi
  go_enter Tryz.func40, Tryz.ntmps40
  go_upto_region 3 with (fail)
  go_region
  go_upto_region 6 with (fail)
  have hV := Vars.mk_ w (.int .i64 6) (.slice A0 from_.length c0) (.string text) (.int .i64 nn) ⟨0, key, ha, hb⟩ ⟨key, num, time⟩
  generalize ((((w.alloc _).alloc _).alloc _).alloc _).drew = W1 at hV ⊢
  generalize w.heap.size + 1 + 1 + 1 = b3 at hV ⊢
  generalize w.heap.size + 1 + 1 = b2 at hV ⊢
  generalize w.heap.size + 1 = b1 at hV ⊢
  generalize w.heap.size = b0 at hV ⊢
  obtain ⟨⟨n0, n2, n3⟩, ⟨h10, h11, h12, h13, h1f⟩, ⟨r0, r1, r2, rf⟩, ⟨_, _, _, _, s0, s1, s2, s3⟩, sf⟩ := hV.cells
  have HW := Lib.hid hV
  clear hV
  obtain ⟨s, hs⟩ : ∃ s : ByteArray, s = ⟨(Lib.itoa input).toArray⟩ := ⟨_, rfl⟩
  have hs2 : s.size ≤ 21 := by rw [hs]; show (Lib.itoa input).toArray.size ≤ 21; simpa using Go.Lib.itoa_length_le input hin.1 hin.2
  have HU : Hid (uniKey input key = s ++ ⟨#[58]⟩ ++ key) := by show _ = _; rw [hs]; rfl
  have HC : Hid (∀ W, Below W1.heap.size W1 W → Calls Tryz.prog 54 #[.int .i64 input] W fun e w' => e = .returned (.string s) ∧ Below W.heap.size W w') := fun W hb => by rw [hs]; exact itoa_ok input W hin ((hT.below HW.out.below).below hb)
  clear hT hs hin
  go_upto_region 25 with (fail)
  go_region_with (go_at_call 54; refine (HC.out _ (by first | exact Below.refl _ _ | exact (Below.refl _ _).drew)).mono ?_; rintro e w2 ⟨rfl, hb2⟩; have hV2 : Vars w w2 b0 (.int .i64 6) (.slice A0 from_.length c0) (.string text) (.int .i64 nn) b1 b2 b3 ⟨0, key, ha, hb⟩ ⟨key, num, time⟩ := HW.out.next (by first | exact hb2 | exact (((Below.refl _ _).drew).trans hb2)); clear n0 n2 n3 h10 h11 h12 h13 h1f r0 r1 r2 rf s0 s1 s2 s3 sf; obtain ⟨⟨n0, n2, n3⟩, ⟨h10, h11, h12, h13, h1f⟩, ⟨r0, r1, r2, rf⟩, ⟨_, _, _, _, s0, s1, s2, s3⟩, sf⟩ := hV2.cells; have HW2 := Lib.hid hV2; clear hV2 hb2)
  all_goals
    go_upto_region 26 with (fail)
    have hV3 := HW2.out.key (s ++ ⟨#[58]⟩ ++ key)
    have hks : (s ++ ⟨#[58]⟩ ++ key).size ≤ maxLen := by rw [ByteArray.size_append, ByteArray.size_append]; show s.size + 1 + key.size ≤ _; unfold maxLen; omega
    clear HW HW2 HC n0 n2 n3 h10 h11 h12 h13 h1f r0 r1 r2 rf s0 s1 s2 s3 sf
    generalize w2.setCell ⟨b2, 0, none⟩ (.string (s ++ ⟨#[58]⟩ ++ key)) = W3 at hV3 ⊢
    generalize s ++ ⟨#[58]⟩ ++ key = k2 at HU hks hV3 ⊢
    obtain ⟨⟨n0, n2, n3⟩, ⟨h10, h11, h12, h13, h1f⟩, ⟨r0, r1, r2, rf⟩, ⟨_, _, _, _, s0, s1, s2, s3⟩, sf⟩ := hV3.cells
    have HW := Lib.hid hV3
    clear hV3
    go_wp2_with fail
    refine (dpass_ok ⟨k2, num, time⟩ W3 (hks)).mono ?_
    rintro e w4 ⟨A, c, rfl, ho, hbl, hb4⟩
    have hV4 := HW.out.next hb4
    have HO := Lib.hid ho
    have HBL := Lib.hid hbl
    have HLT := Lib.hid HW.out.lt3
    have HLW := Lib.hid HW.out.below.size
    have HLB := Lib.hid HW.out.lt1
    clear HW n0 n2 n3 h10 h11 h12 h13 h1f r0 r1 r2 rf s0 s1 s2 s3 sf ho hbl hb4
    obtain ⟨⟨n0, n2, n3⟩, ⟨h10, h11, h12, h13, h1f⟩, ⟨r0, r1, r2, rf⟩, ⟨_, _, _, _, s0, s1, s2, s3⟩, sf⟩ := hV4.cells
    have HW := Lib.hid hV4
    clear hV4
    go_upto_region 46 with (fail)
    go_region
    have hF := HW.out.fin HO.out HBL.out HLT.out HLW.out 0 (key) (ha) (hb)
    clear HW n0 n2 n3 h10 h11 h12 h13 h1f r0 r1 r2 rf s0 s1 s2 s3 sf HO HBL
    generalize ((((w4.setCell ⟨b3, 0, none⟩ _).setCell _ _).setCell _ _).setCell _ _).drew = W5 at hF ⊢
    obtain ⟨hh, h1, h2, h3⟩ := hF
    obtain ⟨s0, s1, s2, s3, sf⟩ := hh.cells
    have HX := Lib.hid (And.intro h1 (And.intro h2 h3))
    clear h1 h2 h3 hh
    go_wp2_with fail
    refine bodyPost_ret (v := .tuple #[.slice A (passR ⟨k2, num, time⟩).length c, .agg #[.int .i64 0, .string (key), .int .i64 (ha), .int .i64 (hb)], .bool true]) (by simp [results, Tryz.results40, go_sem, s0, s1, s2, s3]) rfl ?_
    rw [HP.out, HU.out]
    exact ⟨A, c, rfl, HX.out⟩
set_option maxRecDepth 100000 in
set_option maxHeartbeats 1000000 in
theorem dapply_union_new (n : Nod) (A0 : Option Addr) (c0 : Nat) (h : Hld) (r : Rec) (input : Int) (w : World) (hv : ErrVars w) (hsz : n.text.size ≤ maxLen) (hr : RecOk r) (hi : I64 h.a ∧ I64 h.b) (hk : n.kind = 6) (hT : PowTab w) (hin : I64_ input) (hkl : r.key.size ≤ 40) :
    Calls Tryz.prog 40 #[.agg #[.int .i64 n.kind, .slice A0 n.from_.length c0, .string n.text, .int .i64 n.n], hldV h, .bool false, recV r, .int .i64 input] w (AppPost (applyN n h false r input) w) := by
  obtain ⟨kind, from_, text, nn⟩ := n
  obtain ⟨hn, hkey, ha, hb⟩ := h
  obtain ⟨key, num, time⟩ := r
  simp only at hk hsz hi hkl
  subst hk
  have HP : Hid (applyN ⟨6, from_, text, nn⟩ ⟨hn, hkey, ha, hb⟩ false ⟨key, num, time⟩ input = ⟨passR ⟨uniKey input key, num, time⟩, zeroH, false⟩) := rfl
  show Calls _ _ #[.agg #[.int .i64 6, .slice A0 from_.length c0, .string text, .int .i64 nn], .agg #[.int .i64 hn, .string hkey, .int .i64 ha, .int .i64 hb], .bool false, .agg #[.string key, .int .i64 num, .int .i64 time], .int .i64 input] w _
  have HR := Lib.hid hr
  have HV := Lib.hid hv
  have HI := Lib.hid hi
  clear hr hv hi
  go_enter Tryz.func40, Tryz.ntmps40
  go_upto_region 3 with (fail)
  go_region
  go_upto_region 6 with (fail)
  have hV := Vars.mk_ w (.int .i64 6) (.slice A0 from_.length c0) (.string text) (.int .i64 nn) ⟨0, key, 0, 0⟩ ⟨key, num, time⟩
  generalize ((((w.alloc _).alloc _).alloc _).alloc _).drew = W1 at hV ⊢
  generalize w.heap.size + 1 + 1 + 1 = b3 at hV ⊢
  generalize w.heap.size + 1 + 1 = b2 at hV ⊢
  generalize w.heap.size + 1 = b1 at hV ⊢
  generalize w.heap.size = b0 at hV ⊢
  obtain ⟨⟨n0, n2, n3⟩, ⟨h10, h11, h12, h13, h1f⟩, ⟨r0, r1, r2, rf⟩, ⟨_, _, _, _, s0, s1, s2, s3⟩, sf⟩ := hV.cells
  have HW := Lib.hid hV
  clear hV
  obtain ⟨s, hs⟩ : ∃ s : ByteArray, s = ⟨(Lib.itoa input).toArray⟩ := ⟨_, rfl⟩
  have hs2 : s.size ≤ 21 := by rw [hs]; show (Lib.itoa input).toArray.size ≤ 21; simpa using Go.Lib.itoa_length_le input hin.1 hin.2
  have HU : Hid (uniKey input key = s ++ ⟨#[58]⟩ ++ key) := by show _ = _; rw [hs]; rfl
  have HC : Hid (∀ W, Below W1.heap.size W1 W → Calls Tryz.prog 54 #[.int .i64 input] W fun e w' => e = .returned (.string s) ∧ Below W.heap.size W w') := fun W hb => by rw [hs]; exact itoa_ok input W hin ((hT.below HW.out.below).below hb)
  clear hT hs hin
  go_upto_region 25 with (fail)
  go_region_with (go_at_call 54; refine (HC.out _ (by first | exact Below.refl _ _ | exact (Below.refl _ _).drew)).mono ?_; rintro e w2 ⟨rfl, hb2⟩; have hV2 : Vars w w2 b0 (.int .i64 6) (.slice A0 from_.length c0) (.string text) (.int .i64 nn) b1 b2 b3 ⟨0, key, 0, 0⟩ ⟨key, num, time⟩ := HW.out.next (by first | exact hb2 | exact (((Below.refl _ _).drew).trans hb2)); clear n0 n2 n3 h10 h11 h12 h13 h1f r0 r1 r2 rf s0 s1 s2 s3 sf; obtain ⟨⟨n0, n2, n3⟩, ⟨h10, h11, h12, h13, h1f⟩, ⟨r0, r1, r2, rf⟩, ⟨_, _, _, _, s0, s1, s2, s3⟩, sf⟩ := hV2.cells; have HW2 := Lib.hid hV2; clear hV2 hb2)
  all_goals
    go_upto_region 26 with (fail)
    have hV3 := HW2.out.key (s ++ ⟨#[58]⟩ ++ key)
    have hks : (s ++ ⟨#[58]⟩ ++ key).size ≤ maxLen := by rw [ByteArray.size_append, ByteArray.size_append]; show s.size + 1 + key.size ≤ _; unfold maxLen; omega
    clear HW HW2 HC n0 n2 n3 h10 h11 h12 h13 h1f r0 r1 r2 rf s0 s1 s2 s3 sf
    generalize w2.setCell ⟨b2, 0, none⟩ (.string (s ++ ⟨#[58]⟩ ++ key)) = W3 at hV3 ⊢
    generalize s ++ ⟨#[58]⟩ ++ key = k2 at HU hks hV3 ⊢
    obtain ⟨⟨n0, n2, n3⟩, ⟨h10, h11, h12, h13, h1f⟩, ⟨r0, r1, r2, rf⟩, ⟨_, _, _, _, s0, s1, s2, s3⟩, sf⟩ := hV3.cells
    have HW := Lib.hid hV3
    clear hV3
    go_wp2_with fail
    refine (dpass_ok ⟨k2, num, time⟩ W3 (hks)).mono ?_
    rintro e w4 ⟨A, c, rfl, ho, hbl, hb4⟩
    have hV4 := HW.out.next hb4
    have HO := Lib.hid ho
    have HBL := Lib.hid hbl
    have HLT := Lib.hid HW.out.lt3
    have HLW := Lib.hid HW.out.below.size
    have HLB := Lib.hid HW.out.lt1
    clear HW n0 n2 n3 h10 h11 h12 h13 h1f r0 r1 r2 rf s0 s1 s2 s3 sf ho hbl hb4
    obtain ⟨⟨n0, n2, n3⟩, ⟨h10, h11, h12, h13, h1f⟩, ⟨r0, r1, r2, rf⟩, ⟨_, _, _, _, s0, s1, s2, s3⟩, sf⟩ := hV4.cells
    have HW := Lib.hid hV4
    clear hV4
    go_upto_region 46 with (fail)
    have hV5 := HW.out.zero
    have ho5 : OwnS ((((w4.setCell ⟨b1, 0, none⟩ (.int .i64 0)).setCell ⟨b1, 1, none⟩ (.string ⟨#[]⟩)).setCell ⟨b1, 2, none⟩ (.int .i64 0)).setCell ⟨b1, 3, none⟩ (.int .i64 0)) 30 3 A c (passR ⟨k2, num, time⟩).length ((passR ⟨k2, num, time⟩).flatMap recCells) := HW.out.own_zero HO.out HBL.out HLB.out
    clear HW HO n0 n2 n3 h10 h11 h12 h13 h1f r0 r1 r2 rf s0 s1 s2 s3 sf
    generalize (((w4.setCell _ _).setCell _ _).setCell _ _).setCell _ _ = W6 at hV5 ho5 ⊢
    have HO := Lib.hid ho5
    clear ho5
    obtain ⟨⟨n0, n2, n3⟩, ⟨h10, h11, h12, h13, h1f⟩, ⟨r0, r1, r2, rf⟩, ⟨_, _, _, _, s0, s1, s2, s3⟩, sf⟩ := hV5.cells
    have HW := Lib.hid hV5
    clear hV5
    go_region
    have hF := HW.out.fin HO.out HBL.out HLT.out HLW.out 0 (⟨#[]⟩) (0) (0)
    clear HW n0 n2 n3 h10 h11 h12 h13 h1f r0 r1 r2 rf s0 s1 s2 s3 sf HO HBL
    generalize ((((W6.setCell ⟨b3, 0, none⟩ _).setCell _ _).setCell _ _).setCell _ _).drew = W5 at hF ⊢
    obtain ⟨hh, h1, h2, h3⟩ := hF
    obtain ⟨s0, s1, s2, s3, sf⟩ := hh.cells
    have HX := Lib.hid (And.intro h1 (And.intro h2 h3))
    clear h1 h2 h3 hh
    go_wp2_with fail
    refine bodyPost_ret (v := .tuple #[.slice A (passR ⟨k2, num, time⟩).length c, .agg #[.int .i64 0, .string (⟨#[]⟩), .int .i64 (0), .int .i64 (0)], .bool false]) (by simp [results, Tryz.results40, go_sem, s0, s1, s2, s3]) rfl ?_
    rw [HP.out, HU.out]
    exact ⟨A, c, rfl, HX.out⟩
end Go.Proofs.YtcmhbhdiepkndaaGreatDoor

/-
  Package den: the contract of Apply, kind by kind (printed by denapply.py). Conditions: the node's text is a string's, the numbers are ints, the two variables of Atoi's errors hold errors.
-/
namespace Go.Proofs.YtcmhbhdiepkndaaGreatDoor
open Go.RowKit Go.Shelf
set_option linter.unusedVariables false

theorem evalOf_i64 {s : ByteArray} {n st : Int} (hn : I64_ n) (hs : I64_ st) : I64_ (evalOf s n st) := by
  unfold evalOf
  split
  · rename_i t h
    exact val_bounds (fine_of h) hn hs
  · exact ⟨by omega, by omega⟩
set_option maxRecDepth 100000 in
set_option maxHeartbeats 1000000 in
theorem dapply_sub_has (n : Nod) (A0 : Option Addr) (c0 : Nat) (h : Hld) (r : Rec) (input : Int) (w : World) (hv : ErrVars w) (hsz : n.text.size ≤ maxLen) (hr : RecOk r) (hi : I64 h.a ∧ I64 h.b) (hk : n.kind = 4) (hT : PowTab w) (hkl : r.key.size ≤ 40) :
    Calls Tryz.prog 40 #[.agg #[.int .i64 n.kind, .slice A0 n.from_.length c0, .string n.text, .int .i64 n.n], hldV h, .bool true, recV r, .int .i64 input] w (AppPost (applyN n h true r input) w) := by
  obtain ⟨kind, from_, text, nn⟩ := n
  obtain ⟨hn, hkey, ha, hb⟩ := h
  obtain ⟨key, num, time⟩ := r
  simp only at hk hsz hi hkl
  subst hk
  have HP : Hid (applyN ⟨4, from_, text, nn⟩ ⟨hn, hkey, ha, hb⟩ true ⟨key, num, time⟩ input = ⟨passR ⟨subKey key (evalOf text num 0), num, time⟩, ⟨0, key, ha, hb⟩, true⟩) := rfl
  show Calls _ _ #[.agg #[.int .i64 4, .slice A0 from_.length c0, .string text, .int .i64 nn], .agg #[.int .i64 hn, .string hkey, .int .i64 ha, .int .i64 hb], .bool true, .agg #[.string key, .int .i64 num, .int .i64 time], .int .i64 input] w _
  have HR := Lib.hid hr
  have HV := Lib.hid hv
  have HI := Lib.hid hi
  clear hr hv hi
  go_enter Tryz.func40, Tryz.ntmps40
  go_upto_region 3 with (fail)
  go_region
  go_upto_region 6 with (fail)
  have hV := Vars.mk_ w (.int .i64 4) (.slice A0 from_.length c0) (.string text) (.int .i64 nn) ⟨0, key, ha, hb⟩ ⟨key, num, time⟩
  generalize ((((w.alloc _).alloc _).alloc _).alloc _).drew = W1 at hV ⊢
  generalize w.heap.size + 1 + 1 + 1 = b3 at hV ⊢
  generalize w.heap.size + 1 + 1 = b2 at hV ⊢
  generalize w.heap.size + 1 = b1 at hV ⊢
  generalize w.heap.size = b0 at hV ⊢
  obtain ⟨⟨n0, n2, n3⟩, ⟨h10, h11, h12, h13, h1f⟩, ⟨r0, r1, r2, rf⟩, ⟨_, _, _, _, s0, s1, s2, s3⟩, sf⟩ := hV.cells
  have HW := Lib.hid hV
  clear hV
  have hx : I64_ (evalOf text num 0) := evalOf_i64 (i64_of_wf HR.out.2.1) ⟨by omega, by omega⟩
  go_wp2_with fail
  have hb0 := HW.out.below
  refine (eval_ok_any text num 0 W1 (HV.out.below hb0) hsz (i64_of_wf HR.out.2.1) ⟨by omega, by omega⟩).mono ?_
  rintro e w2 ⟨rfl, hb2⟩
  have hV2 := HW.out.next hb2
  clear HW n0 n2 n3 h10 h11 h12 h13 h1f r0 r1 r2 rf s0 s1 s2 s3 sf hb0 hb2
  rw [← evalOf_val]
  obtain ⟨⟨n0, n2, n3⟩, ⟨h10, h11, h12, h13, h1f⟩, ⟨r0, r1, r2, rf⟩, ⟨_, _, _, _, s0, s1, s2, s3⟩, sf⟩ := hV2.cells
  have HW := Lib.hid hV2
  clear hV2
  generalize evalOf text num 0 = x at HP hx ⊢
  obtain ⟨s, hs⟩ : ∃ s : ByteArray, s = ⟨(Lib.itoa x).toArray⟩ := ⟨_, rfl⟩
  have hs2 : s.size ≤ 21 := by rw [hs]; show (Lib.itoa x).toArray.size ≤ 21; simpa using Go.Lib.itoa_length_le x hx.1 hx.2
  have HU : Hid (subKey key x = key ++ (⟨#[47]⟩ ++ s)) := by show _ = _; rw [hs]; rfl
  have HC : Hid (∀ W, Below w2.heap.size w2 W → Calls Tryz.prog 54 #[.int .i64 x] W fun e w' => e = .returned (.string s) ∧ Below W.heap.size W w') := fun W hb => by rw [hs]; exact itoa_ok x W hx ((hT.below HW.out.below).below hb)
  clear hT hs hx
  go_upto_region 17 with (fail)
  go_region_with (go_at_call 54; refine (HC.out _ (by first | exact Below.refl _ _ | exact (Below.refl _ _).drew)).mono ?_; rintro e w3 ⟨rfl, hb2⟩; have hV2 : Vars w w3 b0 (.int .i64 4) (.slice A0 from_.length c0) (.string text) (.int .i64 nn) b1 b2 b3 ⟨0, key, ha, hb⟩ ⟨key, num, time⟩ := HW.out.next (by first | exact hb2 | exact (((Below.refl _ _).drew).trans hb2)); clear n0 n2 n3 h10 h11 h12 h13 h1f r0 r1 r2 rf s0 s1 s2 s3 sf; obtain ⟨⟨n0, n2, n3⟩, ⟨h10, h11, h12, h13, h1f⟩, ⟨r0, r1, r2, rf⟩, ⟨_, _, _, _, s0, s1, s2, s3⟩, sf⟩ := hV2.cells; have HW2 := Lib.hid hV2; clear hV2 hb2)
  all_goals
    go_upto_region 18 with (fail)
    have hV3 := HW2.out.key (key ++ (⟨#[47]⟩ ++ s))
    have hks : (key ++ (⟨#[47]⟩ ++ s)).size ≤ maxLen := by rw [ByteArray.size_append, ByteArray.size_append]; show key.size + (1 + s.size) ≤ _; unfold maxLen; omega
    clear HW HW2 HC n0 n2 n3 h10 h11 h12 h13 h1f r0 r1 r2 rf s0 s1 s2 s3 sf
    generalize w3.setCell ⟨b2, 0, none⟩ (.string (key ++ (⟨#[47]⟩ ++ s))) = W3 at hV3 ⊢
    generalize key ++ (⟨#[47]⟩ ++ s) = k2 at HU hks hV3 ⊢
    obtain ⟨⟨n0, n2, n3⟩, ⟨h10, h11, h12, h13, h1f⟩, ⟨r0, r1, r2, rf⟩, ⟨_, _, _, _, s0, s1, s2, s3⟩, sf⟩ := hV3.cells
    have HW := Lib.hid hV3
    clear hV3
    go_wp2_with fail
    refine (dpass_ok ⟨k2, num, time⟩ W3 (hks)).mono ?_
    rintro e w4 ⟨A, c, rfl, ho, hbl, hb4⟩
    have hV4 := HW.out.next hb4
    have HO := Lib.hid ho
    have HBL := Lib.hid hbl
    have HLT := Lib.hid HW.out.lt3
    have HLW := Lib.hid HW.out.below.size
    have HLB := Lib.hid HW.out.lt1
    clear HW n0 n2 n3 h10 h11 h12 h13 h1f r0 r1 r2 rf s0 s1 s2 s3 sf ho hbl hb4
    obtain ⟨⟨n0, n2, n3⟩, ⟨h10, h11, h12, h13, h1f⟩, ⟨r0, r1, r2, rf⟩, ⟨_, _, _, _, s0, s1, s2, s3⟩, sf⟩ := hV4.cells
    have HW := Lib.hid hV4
    clear hV4
    go_upto_region 46 with (fail)
    go_region
    have hF := HW.out.fin HO.out HBL.out HLT.out HLW.out 0 (key) (ha) (hb)
    clear HW n0 n2 n3 h10 h11 h12 h13 h1f r0 r1 r2 rf s0 s1 s2 s3 sf HO HBL
    generalize ((((w4.setCell ⟨b3, 0, none⟩ _).setCell _ _).setCell _ _).setCell _ _).drew = W5 at hF ⊢
    obtain ⟨hh, h1, h2, h3⟩ := hF
    obtain ⟨s0, s1, s2, s3, sf⟩ := hh.cells
    have HX := Lib.hid (And.intro h1 (And.intro h2 h3))
    clear h1 h2 h3 hh
    go_wp2_with fail
    refine bodyPost_ret (v := .tuple #[.slice A (passR ⟨k2, num, time⟩).length c, .agg #[.int .i64 0, .string (key), .int .i64 (ha), .int .i64 (hb)], .bool true]) (by simp [results, Tryz.results40, go_sem, s0, s1, s2, s3]) rfl ?_
    rw [HP.out, HU.out]
    exact ⟨A, c, rfl, HX.out⟩
set_option maxRecDepth 100000 in
set_option maxHeartbeats 1000000 in
theorem dapply_sub_new (n : Nod) (A0 : Option Addr) (c0 : Nat) (h : Hld) (r : Rec) (input : Int) (w : World) (hv : ErrVars w) (hsz : n.text.size ≤ maxLen) (hr : RecOk r) (hi : I64 h.a ∧ I64 h.b) (hk : n.kind = 4) (hT : PowTab w) (hkl : r.key.size ≤ 40) :
    Calls Tryz.prog 40 #[.agg #[.int .i64 n.kind, .slice A0 n.from_.length c0, .string n.text, .int .i64 n.n], hldV h, .bool false, recV r, .int .i64 input] w (AppPost (applyN n h false r input) w) := by
  obtain ⟨kind, from_, text, nn⟩ := n
  obtain ⟨hn, hkey, ha, hb⟩ := h
  obtain ⟨key, num, time⟩ := r
  simp only at hk hsz hi hkl
  subst hk
  have HP : Hid (applyN ⟨4, from_, text, nn⟩ ⟨hn, hkey, ha, hb⟩ false ⟨key, num, time⟩ input = ⟨passR ⟨subKey key (evalOf text num 0), num, time⟩, zeroH, false⟩) := rfl
  show Calls _ _ #[.agg #[.int .i64 4, .slice A0 from_.length c0, .string text, .int .i64 nn], .agg #[.int .i64 hn, .string hkey, .int .i64 ha, .int .i64 hb], .bool false, .agg #[.string key, .int .i64 num, .int .i64 time], .int .i64 input] w _
  have HR := Lib.hid hr
  have HV := Lib.hid hv
  have HI := Lib.hid hi
  clear hr hv hi
  go_enter Tryz.func40, Tryz.ntmps40
  go_upto_region 3 with (fail)
  go_region
  go_upto_region 6 with (fail)
  have hV := Vars.mk_ w (.int .i64 4) (.slice A0 from_.length c0) (.string text) (.int .i64 nn) ⟨0, key, 0, 0⟩ ⟨key, num, time⟩
  generalize ((((w.alloc _).alloc _).alloc _).alloc _).drew = W1 at hV ⊢
  generalize w.heap.size + 1 + 1 + 1 = b3 at hV ⊢
  generalize w.heap.size + 1 + 1 = b2 at hV ⊢
  generalize w.heap.size + 1 = b1 at hV ⊢
  generalize w.heap.size = b0 at hV ⊢
  obtain ⟨⟨n0, n2, n3⟩, ⟨h10, h11, h12, h13, h1f⟩, ⟨r0, r1, r2, rf⟩, ⟨_, _, _, _, s0, s1, s2, s3⟩, sf⟩ := hV.cells
  have HW := Lib.hid hV
  clear hV
  have hx : I64_ (evalOf text num 0) := evalOf_i64 (i64_of_wf HR.out.2.1) ⟨by omega, by omega⟩
  go_wp2_with fail
  have hb0 := HW.out.below
  refine (eval_ok_any text num 0 W1 (HV.out.below hb0) hsz (i64_of_wf HR.out.2.1) ⟨by omega, by omega⟩).mono ?_
  rintro e w2 ⟨rfl, hb2⟩
  have hV2 := HW.out.next hb2
  clear HW n0 n2 n3 h10 h11 h12 h13 h1f r0 r1 r2 rf s0 s1 s2 s3 sf hb0 hb2
  rw [← evalOf_val]
  obtain ⟨⟨n0, n2, n3⟩, ⟨h10, h11, h12, h13, h1f⟩, ⟨r0, r1, r2, rf⟩, ⟨_, _, _, _, s0, s1, s2, s3⟩, sf⟩ := hV2.cells
  have HW := Lib.hid hV2
  clear hV2
  generalize evalOf text num 0 = x at HP hx ⊢
  obtain ⟨s, hs⟩ : ∃ s : ByteArray, s = ⟨(Lib.itoa x).toArray⟩ := ⟨_, rfl⟩
  have hs2 : s.size ≤ 21 := by rw [hs]; show (Lib.itoa x).toArray.size ≤ 21; simpa using Go.Lib.itoa_length_le x hx.1 hx.2
  have HU : Hid (subKey key x = key ++ (⟨#[47]⟩ ++ s)) := by show _ = _; rw [hs]; rfl
  have HC : Hid (∀ W, Below w2.heap.size w2 W → Calls Tryz.prog 54 #[.int .i64 x] W fun e w' => e = .returned (.string s) ∧ Below W.heap.size W w') := fun W hb => by rw [hs]; exact itoa_ok x W hx ((hT.below HW.out.below).below hb)
  clear hT hs hx
  go_upto_region 17 with (fail)
  go_region_with (go_at_call 54; refine (HC.out _ (by first | exact Below.refl _ _ | exact (Below.refl _ _).drew)).mono ?_; rintro e w3 ⟨rfl, hb2⟩; have hV2 : Vars w w3 b0 (.int .i64 4) (.slice A0 from_.length c0) (.string text) (.int .i64 nn) b1 b2 b3 ⟨0, key, 0, 0⟩ ⟨key, num, time⟩ := HW.out.next (by first | exact hb2 | exact (((Below.refl _ _).drew).trans hb2)); clear n0 n2 n3 h10 h11 h12 h13 h1f r0 r1 r2 rf s0 s1 s2 s3 sf; obtain ⟨⟨n0, n2, n3⟩, ⟨h10, h11, h12, h13, h1f⟩, ⟨r0, r1, r2, rf⟩, ⟨_, _, _, _, s0, s1, s2, s3⟩, sf⟩ := hV2.cells; have HW2 := Lib.hid hV2; clear hV2 hb2)
  all_goals
    go_upto_region 18 with (fail)
    have hV3 := HW2.out.key (key ++ (⟨#[47]⟩ ++ s))
    have hks : (key ++ (⟨#[47]⟩ ++ s)).size ≤ maxLen := by rw [ByteArray.size_append, ByteArray.size_append]; show key.size + (1 + s.size) ≤ _; unfold maxLen; omega
    clear HW HW2 HC n0 n2 n3 h10 h11 h12 h13 h1f r0 r1 r2 rf s0 s1 s2 s3 sf
    generalize w3.setCell ⟨b2, 0, none⟩ (.string (key ++ (⟨#[47]⟩ ++ s))) = W3 at hV3 ⊢
    generalize key ++ (⟨#[47]⟩ ++ s) = k2 at HU hks hV3 ⊢
    obtain ⟨⟨n0, n2, n3⟩, ⟨h10, h11, h12, h13, h1f⟩, ⟨r0, r1, r2, rf⟩, ⟨_, _, _, _, s0, s1, s2, s3⟩, sf⟩ := hV3.cells
    have HW := Lib.hid hV3
    clear hV3
    go_wp2_with fail
    refine (dpass_ok ⟨k2, num, time⟩ W3 (hks)).mono ?_
    rintro e w4 ⟨A, c, rfl, ho, hbl, hb4⟩
    have hV4 := HW.out.next hb4
    have HO := Lib.hid ho
    have HBL := Lib.hid hbl
    have HLT := Lib.hid HW.out.lt3
    have HLW := Lib.hid HW.out.below.size
    have HLB := Lib.hid HW.out.lt1
    clear HW n0 n2 n3 h10 h11 h12 h13 h1f r0 r1 r2 rf s0 s1 s2 s3 sf ho hbl hb4
    obtain ⟨⟨n0, n2, n3⟩, ⟨h10, h11, h12, h13, h1f⟩, ⟨r0, r1, r2, rf⟩, ⟨_, _, _, _, s0, s1, s2, s3⟩, sf⟩ := hV4.cells
    have HW := Lib.hid hV4
    clear hV4
    go_upto_region 46 with (fail)
    have hV5 := HW.out.zero
    have ho5 : OwnS ((((w4.setCell ⟨b1, 0, none⟩ (.int .i64 0)).setCell ⟨b1, 1, none⟩ (.string ⟨#[]⟩)).setCell ⟨b1, 2, none⟩ (.int .i64 0)).setCell ⟨b1, 3, none⟩ (.int .i64 0)) 30 3 A c (passR ⟨k2, num, time⟩).length ((passR ⟨k2, num, time⟩).flatMap recCells) := HW.out.own_zero HO.out HBL.out HLB.out
    clear HW HO n0 n2 n3 h10 h11 h12 h13 h1f r0 r1 r2 rf s0 s1 s2 s3 sf
    generalize (((w4.setCell _ _).setCell _ _).setCell _ _).setCell _ _ = W6 at hV5 ho5 ⊢
    have HO := Lib.hid ho5
    clear ho5
    obtain ⟨⟨n0, n2, n3⟩, ⟨h10, h11, h12, h13, h1f⟩, ⟨r0, r1, r2, rf⟩, ⟨_, _, _, _, s0, s1, s2, s3⟩, sf⟩ := hV5.cells
    have HW := Lib.hid hV5
    clear hV5
    go_region
    have hF := HW.out.fin HO.out HBL.out HLT.out HLW.out 0 (⟨#[]⟩) (0) (0)
    clear HW n0 n2 n3 h10 h11 h12 h13 h1f r0 r1 r2 rf s0 s1 s2 s3 sf HO HBL
    generalize ((((W6.setCell ⟨b3, 0, none⟩ _).setCell _ _).setCell _ _).setCell _ _).drew = W5 at hF ⊢
    obtain ⟨hh, h1, h2, h3⟩ := hF
    obtain ⟨s0, s1, s2, s3, sf⟩ := hh.cells
    have HX := Lib.hid (And.intro h1 (And.intro h2 h3))
    clear h1 h2 h3 hh
    go_wp2_with fail
    refine bodyPost_ret (v := .tuple #[.slice A (passR ⟨k2, num, time⟩).length c, .agg #[.int .i64 0, .string (⟨#[]⟩), .int .i64 (0), .int .i64 (0)], .bool false]) (by simp [results, Tryz.results40, go_sem, s0, s1, s2, s3]) rfl ?_
    rw [HP.out, HU.out]
    exact ⟨A, c, rfl, HX.out⟩
end Go.Proofs.YtcmhbhdiepkndaaGreatDoor
