/-
  Package job: the contracts of ends and Check. Conditions: where the job lies; the two variables of Atoi's errors hold errors.
-/
import Derived.Test.YtmbhfadidpkkhaaDoorJobNode
namespace Go.Proofs.YtmbhfadidpkkhaaDoor
open Go.RowKit Go.Shelf
set_option linter.unusedVariables false

set_option maxRecDepth 100000 in
theorem is_kind (kind : Int) (v : Value) (t : ByteArray) (n : Int) (K : Nat) (k : Int) (w : World) (hK : w.cell? ⟨K, 0, none⟩ = some (.int .i64 k)) :
    Calls Tryd.prog 19 #[.agg #[.int .i64 kind, v, .string t, .int .i64 n], .pointer (some ⟨K, 0, none⟩)] w fun e w' => e = .returned (.bool (kind == k)) ∧ Below w.heap.size w w' := by
  have hlt := cell_lt hK
  have hK2 : (w.alloc (.cells #[.int .i64 kind, v, .string t, .int .i64 n] 28)).cell? ⟨K, 0, none⟩ = some (.int .i64 k) := ((Below.refl _ _).alloc (Nat.le_refl _) _ |>.cell (p := ⟨K, 0, none⟩) hlt).trans hK
  go_enter Tryd.func19, Tryd.ntmps19
  go_wp2_with fail
  go_ret
  exact ⟨rfl, (Below.refl _ _).alloc (Nat.le_refl _) _⟩
def FindPost (l : List Nod) (k : Int) (w : World) (e : Ending) (w' : World) : Prop := ∃ j : Int, e = .returned (.int .i64 j) ∧ decide (0 ≤ j) = hasKind l k ∧ Below w.heap.size w w'
theorem hasKind_take (l : List Nod) (k : Int) {j : Nat} (hj : j < l.length) : hasKind (l.take (j + 1)) k = (hasKind (l.take j) k || (l[j].kind == k)) := by
  rw [List.take_succ_eq_append_getElem hj, hasKind_app]; simp [hasKind]
theorem hasKind_mem {l : List Nod} {k : Int} {j : Nat} (hj : j < l.length) (h : (l[j].kind == k) = true) : hasKind l k = true := by
  unfold hasKind
  exact List.any_eq_true.2 ⟨l[j], List.getElem_mem hj, h⟩
set_option maxRecDepth 100000 in
set_option maxHeartbeats 1000000 in
theorem index_kind (F : Nat → Prop) (A : Option Addr) (c : Nat) (l : List Nod) (K : Nat) (k : Int) (w : World) (hl : SlA nodE F w A c l) (hF : ∀ k, F k → k < w.heap.size) (hK : w.cell? ⟨K, 0, none⟩ = some (.int .i64 k)) :
    Calls Tryd.prog 22 #[.slice A l.length c, .func (.func 19) #[] #[.pointer (some ⟨K, 0, none⟩)]] w (FindPost l k w) := by
  have HL := Lib.hid hl
  have hle := hl.le
  have HK := Lib.hid hK
  clear hl hK
  go_enter Tryd.func22, Tryd.ntmps22
  go_wp2_with fail
  go_loopw [8] (fun jv wr => ∃ j : Nat, j ≤ l.length ∧ jv = .int .i64 j ∧ Hid (hasKind (l.take j) k = false) ∧ Hid (Below w.heap.size w wr)) (fun jv _ => l.length - (intOf jv).toNat)
  case atStart => exact ⟨0, Nat.zero_le _, rfl, rfl, Below.refl _ _⟩
  case round =>
    obtain ⟨j, hj, rfl, HJ, HB⟩ := hrel
    by_cases hlt : j < l.length
    · obtain ⟨b, off, A', c', rfl, hFb, x0, x1, x2, x3, htm, hki, hni, hfr⟩ := (HL.out.keep (fun i hi => HB.out.block i (hF i hi))).nod_ hlt
      have HT := Lib.hid (hasKind_take l k hlt)
      have HM := Lib.hid (fun h => hasKind_mem (k := k) hlt h)
      have HKC := Lib.hid ((HB.out.cell (p := ⟨K, 0, none⟩) (cell_lt HK.out)).trans HK.out)
      clear hfr hki hni hFb htm
      generalize l[j] = nd at x0 x1 x2 x3 HT HM
      obtain ⟨kind, from_, text, nn⟩ := nd
      simp only at x0 x1 x2 x3 HT HM
      go_wp2_with fail
      refine (is_kind kind _ text nn K k _ HKC.out).mono ?_
      rintro e w2 ⟨rfl, hb2⟩
      have HB2 := Lib.hid (HB.out.trans (hb2.mono HB.out.size))
      clear hb2 x0 x1 x2 x3
      cases hkk : (kind == k) with
      | true =>
        have HMM := Lib.hid (HM.out hkk)
        clear hkk
        go_wp2_with fail
        go_ret
        exact ⟨j, rfl, by rw [HMM.out]; exact decide_eq_true (by omega), HB2.out⟩
      | false =>
        have HJ2 : Hid (hasKind (l.take (j + 1)) k = false) := by show _ = _; rw [HT.out, HJ.out, hkk]; rfl
        clear hkk HT HM
        go_wp2_with fail
        go_roundw
        case rel => exact ⟨j + 1, by omega, by go_num, HJ2, HB2⟩
        case measure => simp [intOf]; omega
    · have dj : decide (j < l.length) = false := decide_eq_false hlt
      have HE : Hid (hasKind l k = false) := by
        have h := HJ.out
        rw [List.take_of_length_le (by omega)] at h
        exact h
      clear hj hlt HJ
      go_wp2_with fail
      go_ret
      exact ⟨-1, rfl, by rw [HE.out]; rfl, HB.out⟩
set_option maxRecDepth 100000 in
theorem contains_kind (F : Nat → Prop) (A : Option Addr) (c : Nat) (l : List Nod) (K : Nat) (k : Int) (w : World) (hl : SlA nodE F w A c l) (hF : ∀ k, F k → k < w.heap.size) (hK : w.cell? ⟨K, 0, none⟩ = some (.int .i64 k)) :
    Calls Tryd.prog 18 #[.slice A l.length c, .func (.func 19) #[] #[.pointer (some ⟨K, 0, none⟩)]] w fun e w' => e = .returned (.bool (hasKind l k)) ∧ Below w.heap.size w w' := by
  have HI := Lib.hid (index_kind F A c l K k w hl hF hK)
  clear hl hF hK
  go_enter Tryd.func18, Tryd.ntmps18
  go_wp2_with fail
  refine HI.out.mono ?_
  rintro e w2 ⟨j, rfl, hj, hb⟩
  have HB := Lib.hid hb
  have HJ := Lib.hid hj
  clear hb hj HI
  go_wp2_with fail
  go_ret
  exact ⟨by rw [← HJ.out]; rfl, HB.out⟩
set_option maxRecDepth 100000 in
theorem is_ok_ (F : Nat → Prop) (A : Option Addr) (c : Nat) (l : List Nod) (B : Nat) (k : Int) (w : World) (hl : SlA nodE F w A c l) (hF : ∀ k, F k → k < w.heap.size) (hB : w.cell? ⟨B, 0, none⟩ = some (.slice A l.length c)) :
    Calls Tryd.prog 17 #[.int .i64 k, .pointer (some ⟨B, 0, none⟩)] w fun e w' => e = .returned (.bool (hasKind l k)) ∧ Below w.heap.size w w' := by
  have hmf : ∀ (fn : Fn) (first cap : Array Value) (w : World), (Instr.makeFunc fn first cap).run Tryd.prog w = .ok (.func fn first cap) w := fun _ _ _ _ => rfl
  obtain ⟨W1, hW1⟩ : ∃ W1, W1 = w.alloc (.cells #[.int .i64 k] 3) := ⟨_, rfl⟩
  have hb1 : Below w.heap.size w W1 := by rw [hW1]; exact (Below.refl _ _).alloc (Nat.le_refl _) _
  have hB1 : W1.cell? ⟨B, 0, none⟩ = some (.slice A l.length c) := (hb1.cell (p := ⟨B, 0, none⟩) (cell_lt hB)).trans hB
  have hK1 : W1.cell? ⟨w.heap.size, 0, none⟩ = some (.int .i64 k) := by rw [hW1]; exact (cell_of_row _ _ 0 _ _ _ (heap_alloc_new w _)).trans rfl
  have HC := Lib.hid (contains_kind F A c l w.heap.size k W1 (hl.keep (fun i hi => hb1.block i (hF i hi))) (fun i hi => Nat.lt_of_lt_of_le (hF i hi) hb1.size) hK1)
  have HB1 := Lib.hid hb1
  clear hl hb1 hK1 hB hF
  go_enter Tryd.func17, Tryd.ntmps17
  go_upto_region 1 with (fail)
  rw [← hW1]
  clear hW1
  go_wp2_with fail
  refine HC.out.mono ?_
  rintro e w2 ⟨rfl, hb2⟩
  have HB2 := Lib.hid (HB1.out.trans (hb2.mono HB1.out.size))
  clear hb2
  go_wp2_with fail
  go_ret
  exact ⟨rfl, HB2.out⟩
set_option maxRecDepth 100000 in
set_option maxHeartbeats 1000000 in
theorem ends_ok (F : Nat → Prop) (A : Option Addr) (c : Nat) (l : List Nod) (w : World) (hl : SlA nodE F w A c l) (hF : ∀ k, F k → k < w.heap.size) :
    Calls Tryd.prog 9 #[.slice A l.length c] w fun e w' => e = .returned (errJ (endsErr l)) ∧ Below w.heap.size w w' := by
  have hmf : ∀ (fn : Fn) (first cap : Array Value) (w : World), (Instr.makeFunc fn first cap).run Tryd.prog w = .ok (.func fn first cap) w := fun _ _ _ _ => rfl
  obtain ⟨W1, hW1⟩ : ∃ W1, W1 = w.alloc (.cells #[.slice A l.length c] 22) := ⟨_, rfl⟩
  have hb1 : Below w.heap.size w W1 := by rw [hW1]; exact (Below.refl _ _).alloc (Nat.le_refl _) _
  have hv1 : W1.heap[w.heap.size]? = some (.cells #[.slice A l.length c] 22 (0, 0)) := by rw [hW1]; exact heap_alloc_new _ _
  have HC := Lib.hid (fun W (hb : Below w.heap.size w W) (hv : W.heap[w.heap.size]? = some (.cells #[.slice A l.length c] 22 (0, 0))) k => is_ok_ F A c l w.heap.size k W (hl.keep (fun i hi => hb.block i (hF i hi))) (fun i hi => Nat.lt_of_lt_of_le (hF i hi) hb.size) ((cell_of_row W _ 0 _ _ _ hv).trans rfl))
  have HB1 := Lib.hid hb1
  have HV1 := Lib.hid hv1
  have HE : Hid (endsErr l = if hasKind l 1 = true ∧ hasKind l 10 = true then 0 else 6) := rfl
  clear hl hb1 hv1
  go_enter Tryd.func9, Tryd.ntmps9
  go_upto_region 1 with (fail)
  rw [← hW1]
  clear hW1
  go_wp2_with fail
  refine (HC.out W1 HB1.out HV1.out 1).mono ?_
  rintro e w2 ⟨rfl, hb2⟩
  have HB2 := Lib.hid (HB1.out.trans (hb2.mono HB1.out.size))
  have HV2 := Lib.hid ((hb2.block _ (block_lt HV1.out)).trans HV1.out)
  clear hb2
  cases h1 : hasKind l 1 with
  | false =>
    have HE2 : Hid (endsErr l = 6) := by show _ = _; rw [HE.out, h1]; rfl
    clear h1
    go_wp2_with fail
    go_ret
    exact ⟨by rw [HE2.out]; rfl, HB2.out⟩
  | true =>
    have HE2 : Hid (endsErr l = if hasKind l 10 = true then 0 else 6) := by
      show _ = _; rw [HE.out, h1]; by_cases h : hasKind l 10 = true <;> simp [h]
    clear h1
    go_wp2_with fail
    refine (HC.out w2 HB2.out HV2.out 10).mono ?_
    rintro e w3 ⟨rfl, hb3⟩
    have HB3 := Lib.hid (HB2.out.trans (hb3.mono HB2.out.size))
    clear hb3
    cases h10 : hasKind l 10 with
    | false =>
      have HE3 : Hid (endsErr l = 6) := by show _ = _; rw [HE2.out, h10]; rfl
      clear h10
      go_wp2_with fail
      go_ret
      exact ⟨by rw [HE3.out]; rfl, HB3.out⟩
    | true =>
      have HE3 : Hid (endsErr l = 0) := by show _ = _; rw [HE2.out, h10]; rfl
      clear h10
      go_wp2_with fail
      go_ret
      exact ⟨by rw [HE3.out]; rfl, HB3.out⟩
theorem nodes_drop (l : List Nod) {j : Nat} (hj : j < l.length) : nodesErr l j (l.drop j) = if nodeErr l j l[j] ≠ 0 then nodeErr l j l[j] else nodesErr l (j + 1) (l.drop (j + 1)) := by
  rw [List.drop_eq_getElem_cons hj, nodes_cons]
set_option maxRecDepth 100000 in
set_option maxHeartbeats 1000000 in
theorem jcheck_ok (F : Nat → Prop) (A : Option Addr) (c : Nat) (l : List Nod) (w : World) (hl : SlA nodE F w A c l) (hF : ∀ k, F k → k < w.heap.size) (hv : ErrVars w) :
    Calls Tryd.prog 4 #[.slice A l.length c] w fun e w' => e = .returned (errJ (jobErr l)) ∧ Below w.heap.size w w' := by
  have HL := Lib.hid hl
  have hle := hl.le
  have HV := Lib.hid hv
  clear hl hv
  by_cases h12 : 12 < l.length
  · have HE : Hid (jobErr l = 4) := by show _ = _; unfold jobErr; rw [if_pos h12]
    have d1 : decide ((12 : Int) < (l.length : Int)) = true := decide_eq_true (by omega)
    go_enter Tryd.func4, Tryd.ntmps4
    go_wp2_with fail
    go_ret
    exact ⟨by rw [HE.out]; rfl, Below.refl _ _⟩
  · have HE : Hid (jobErr l = if nodesErr l 0 l ≠ 0 then nodesErr l 0 l else endsErr l) := by show _ = _; unfold jobErr; rw [if_neg h12]
    have d1 : decide ((12 : Int) < (l.length : Int)) = false := decide_eq_false (by omega)
    go_enter Tryd.func4, Tryd.ntmps4
    go_wp2_with fail
    go_loopw [11] (fun jv wr => ∃ j : Nat, j ≤ l.length ∧ jv = .int .i64 j ∧ Hid (nodesErr l j (l.drop j) = nodesErr l 0 l) ∧ Hid (Below w.heap.size w wr)) (fun jv _ => l.length - (intOf jv).toNat)
    case atStart => exact ⟨0, Nat.zero_le _, rfl, rfl, Below.refl _ _⟩
    case round =>
      obtain ⟨j, hj, rfl, HJ, HB⟩ := hrel
      by_cases hlt : j < l.length
      · have HD : Hid (nodesErr l 0 l = if nodeErr l j l[j] ≠ 0 then nodeErr l j l[j] else nodesErr l (j + 1) (l.drop (j + 1))) := by show _ = _; rw [← HJ.out, nodes_drop l hlt]
        have HN := Lib.hid (node_ok F A c l j hlt wr (HL.out.keep (fun i hi => HB.out.block i (hF i hi))) (fun i hi => Nat.lt_of_lt_of_le (hF i hi) HB.out.size) (HV.out.below HB.out))
        generalize nodeErr l j l[j] = ne at HN HD
        go_wp2_with fail
        refine HN.out.mono ?_
        rintro e w2 ⟨rfl, hb2⟩
        have HB2 := Lib.hid (HB.out.trans (hb2.mono HB.out.size))
        clear hb2 HN
        by_cases h0 : ne = 0
        · subst h0
          have HJ2 : Hid (nodesErr l (j + 1) (l.drop (j + 1)) = nodesErr l 0 l) := by show _ = _; rw [HD.out]; rfl
          rw [show errJ 0 = .nilIface from rfl]
          clear HD
          go_wp2_with fail
          go_roundw
          case rel => exact ⟨j + 1, by omega, by go_num, HJ2, HB2⟩
          case measure => simp [intOf]; omega
        · have HE2 : Hid (errJ (jobErr l) = errV ne) := by
            show _ = _
            rw [HE.out, HD.out, if_pos h0]
            rw [if_pos h0]
            unfold errJ; rw [if_neg h0]
          rw [show errJ ne = errV ne from by unfold errJ; rw [if_neg h0]]
          unfold errV
          clear HD h0
          go_wp2_with fail
          go_ret
          exact ⟨by rw [HE2.out]; rfl, HB2.out⟩
      · have dj : decide (j < l.length) = false := decide_eq_false hlt
        have HE2 : Hid (jobErr l = endsErr l) := by
          have h : nodesErr l 0 l = 0 := by rw [← HJ.out, List.drop_eq_nil_of_le (by omega)]; rfl
          show _ = _
          rw [HE.out, h]; rfl
        have HN := Lib.hid (ends_ok F A c l wr (HL.out.keep (fun i hi => HB.out.block i (hF i hi))) (fun i hi => Nat.lt_of_lt_of_le (hF i hi) HB.out.size))
        clear hj hlt HJ
        go_wp2_with fail
        refine HN.out.mono ?_
        rintro e w2 ⟨rfl, hb2⟩
        have HB2 := Lib.hid (HB.out.trans (hb2.mono HB.out.size))
        clear hb2 HN
        go_wp2_with fail
        go_ret
        exact ⟨by rw [HE2.out]; rfl, HB2.out⟩
end Go.Proofs.YtmbhfadidpkkhaaDoor
