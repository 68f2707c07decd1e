/-
  The walk of JobGrows: it returns true. Conditions: the two variables of Atoi's errors hold errors.
-/
import Derived.Test.YtmbhfadidpkkhaaDoorJobUses
import Derived.Test.YtmbhfadidpkkhaaDoorNodC
import Derived.Test.YtmbhfadidpkkhaaDoorForest
import Derived.Test.YtmbhfadidpkkhaaDoorInts
namespace Go.Proofs.YtmbhfadidpkkhaaDoor
open Go.RowKit Go.Shelf
set_option linter.unusedVariables false

def lit0 : List Nod := [⟨1, [], ⟨#[]⟩, 1⟩, ⟨10, [0], ⟨#[]⟩, 0⟩]
theorem lit0_ok : jobErr lit0 = 0 := by decide +kernel
theorem nil_bad : jobErr [] = 6 := by decide +kernel
theorem int_row (w : World) (x : Int) (hx : I64 x) : SlA (intE .i64) (· < (w.alloc (.cells #[.int .i64 x] 3)).heap.size) (w.alloc (.cells #[.int .i64 x] 3)) (some ⟨w.heap.size, 0, none⟩) 1 [x] := by
  have ho : OwnS (w.alloc (.cells #[.int .i64 x] 3)) 3 1 (some ⟨w.heap.size, 0, none⟩) 1 1 ([x].flatMap fun n => [Value.int .i64 n]) :=
    ⟨rfl, Nat.le_refl _, by unfold maxLen; omega, .inr ⟨w.heap.size, 0, _, rfl, heap_alloc_new _ _, by simp, fun j u h => by simpa using h⟩⟩
  exact OwnS.sl (E := intE .i64) (fun n => [.int .i64 n]) (fun _ => rfl) ho rfl (fun k e => by simp [blk] at e; subst e; simp) (fun y hy => by rw [List.mem_singleton.1 hy]; exact ⟨rfl, hx⟩)
theorem lit0_mem (w : World) : SlA nodE (· < ((w.alloc (.cells #[.int .i64 0] 3)).alloc (.cells #[.int .i64 1, .slice none 0 0, .string ⟨#[]⟩, .int .i64 1, .int .i64 10, .slice (some ⟨w.heap.size, 0, none⟩) 1 1, .string ⟨#[]⟩, .int .i64 0] 28)).heap.size)
    ((w.alloc (.cells #[.int .i64 0] 3)).alloc (.cells #[.int .i64 1, .slice none 0 0, .string ⟨#[]⟩, .int .i64 1, .int .i64 10, .slice (some ⟨w.heap.size, 0, none⟩) 1 1, .string ⟨#[]⟩, .int .i64 0] 28)) (some ⟨w.heap.size + 1, 0, none⟩) 2 lit0 := by
  obtain ⟨W0, hW0⟩ : ∃ W0, W0 = w.alloc (.cells #[.int .i64 0] 3) := ⟨_, rfl⟩
  have hs : W0.heap.size = w.heap.size + 1 := by rw [hW0]; simp
  have hi : SlA (intE .i64) (· < W0.heap.size) W0 (some ⟨w.heap.size, 0, none⟩) 1 [0] := by rw [hW0]; exact int_row w 0 rfl
  rw [← hW0]
  have ho : OwnS (W0.alloc (.cells #[.int .i64 1, .slice none 0 0, .string ⟨#[]⟩, .int .i64 1, .int .i64 10, .slice (some ⟨w.heap.size, 0, none⟩) 1 1, .string ⟨#[]⟩, .int .i64 0] 28)) 28 4 (some ⟨w.heap.size + 1, 0, none⟩) 2 2
      (([(⟨1, [], ⟨#[]⟩, 1⟩, (none, 0)), (⟨10, [0], ⟨#[]⟩, 0⟩, (some ⟨w.heap.size, 0, none⟩, 1))] : List NodV).flatMap nodCells) :=
    ⟨rfl, Nat.le_refl _, by unfold maxLen; omega, .inr ⟨w.heap.size + 1, 0, _, rfl, by rw [← hs]; exact heap_alloc_new _ _, by simp, fun j u h => by rw [Nat.zero_add]; simpa [nodCells] using h⟩⟩
  refine own_nods ho rfl (fun k e => by simp [blk] at e; subst e; simp [hs]) (fun x hx => ?_)
  simp only [List.mem_cons, List.not_mem_nil, or_false] at hx
  rcases hx with rfl | rfl
  · exact ⟨rfl, rfl, Nat.zero_le _, rfl, SlA.nil _ _ _ _ _ (Nat.zero_le _)⟩
  · exact ⟨rfl, rfl, Nat.zero_le _, rfl, (hi.keep (fun j hj => heap_alloc_old _ _ hj)).more (fun j hj => by simp; omega)⟩
theorem info_nod : (Tryd.prog.info? 28).map (fun i => (i.zero, i.size, i.bytes)) = some (some (.agg #[.int .i64 0, .slice none 0 0, .string ⟨#[]⟩, .int .i64 0]), 4, 56) := by kernel_rfl
set_option maxRecDepth 100000 in
theorem sinks_good (F : Nat → Prop) (A : Option Addr) (c : Nat) (l : List Nod) (w : World) (hl : SlA nodE F w A c l) (hF : ∀ k, F k → k < w.heap.size) (hv : ErrVars w) (h0 : jobErr l = 0) :
    Calls Tryd.prog 5 #[.slice A l.length c] w fun e w' => ∃ A' c', e = .returned (.tuple #[.slice A' (ofKind l 10).length c', .nilIface]) ∧ SlA (intE .i64) (· < w'.heap.size) w' A' c' (ofKind l 10) ∧ Below w.heap.size w w' := by
  have HO := Lib.hid (of_ok F A c l 10 w hl hF hv)
  have H0 := Lib.hid h0
  clear hl hF hv h0
  go_enter Tryd.func5, Tryd.ntmps5
  go_wp2_with fail
  refine HO.out.mono ?_
  rintro e w2 ⟨h1, -, hb⟩
  obtain ⟨A', c', rfl, hs⟩ := h1 H0.out
  have HS := Lib.hid hs
  have HB := Lib.hid hb
  clear h1 hs hb HO
  go_wp2_with fail
  go_ret2
  exact ⟨A', c', rfl, HS.out.more fun k hk => hk.2, HB.out⟩
theorem uses_good (F : Nat → Prop) (A : Option Addr) (c : Nat) (l : List Nod) (w : World) (hl : SlA nodE F w A c l) (hF : ∀ k, F k → k < w.heap.size) (hv : ErrVars w) (h0 : jobErr l = 0) :
    Calls Tryd.prog 6 #[.slice A l.length c] w fun e w' => ∃ A' c', e = .returned (.tuple #[.slice A' l.length c', .nilIface]) ∧ SlA (slE (intE .i64)) (· < w'.heap.size) w' A' c' (usesAll l) ∧ Below w.heap.size w w' :=
  (uses_ok F A c l w hl hF hv).mono fun e w' ⟨h1, _, hb⟩ => by
    obtain ⟨A', c', he, hs⟩ := h1 h0
    exact ⟨A', c', he, hs, hb⟩
theorem ints_q {P : Program} {f : FuncId} {args : Array Value} {w : World} {q n : Nat} {v : Value} (h : Calls P f args (w.drewN (q + n)) fun e w' => e = .returned v ∧ ∃ k, w' = (w.drewN (q + n)).drewN k) :
    Calls P f args (w.drewN (q + n)) fun e w'' => e = .returned v ∧ ∃ m, w'' = w.drewN (q + m) :=
  h.mono fun e w' ⟨he, m, hm⟩ => ⟨he, n + m, by rw [hm, World.drewN_drewN, Nat.add_assoc]⟩
theorem uses_at (l : List Nod) {i : Nat} (hi : i < l.length) (h : i < (usesAll l).length) : (usesAll l)[i] = usesOf l (i : Int) := by
  have e : (usesAll l)[i]? = some (usesOf l (i : Int)) := by unfold usesAll; rw [List.getElem?_map, List.getElem?_range hi]; rfl
  exact Option.some.inj ((List.getElem?_eq_getElem h).symm.trans e)
theorem uses_len (l : List Nod) : (usesAll l).length = l.length := by unfold usesAll; simp
set_option maxRecDepth 100000 in
set_option maxHeartbeats 4000000 in
theorem jobGrows_walk (A : Option Addr) (c : Nat) (l : List Nod) (at_ : Int) (w : World) (hl : SlA nodE (· < w.heap.size) w A c l) (wat : (Lit.int .i64 at_).wf = true) (hv : ErrVars w) :
    Calls Tryd.prog 3 #[.slice A l.length c, .int .i64 at_] w fun e w' => e = .returned (.bool true) ∧ Below w.heap.size w w' := by
  have HL := Lib.hid hl
  have hle := hl.le
  have HV := Lib.hid hv
  have H0 := Lib.hid (lit0_mem w)
  have bat := bounds_i64 wat
  clear hl hv wat
  go_enter Tryd.func3, Tryd.ntmps3
  go_wp2_with fail
  have hb1 : Below w.heap.size w ((w.alloc (.cells #[.int .i64 0] 3)).alloc (.cells #[.int .i64 1, .slice none 0 0, .string ⟨#[]⟩, .int .i64 1, .int .i64 10, .slice (some ⟨w.heap.size, 0, none⟩) 1 1, .string ⟨#[]⟩, .int .i64 0] 28)) := ((Below.refl _ _).alloc (Nat.le_refl _) _).alloc (by simp) _
  refine (jcheck_ok _ _ 2 lit0 _ H0.out (fun k hk => hk) (HV.out.below hb1)).mono ?_
  rintro e w1 ⟨rfl, b1⟩
  have B1 := Lib.hid (hb1.trans (b1.mono hb1.size))
  rw [lit0_ok, show errJ 0 = .nilIface from rfl]
  clear b1 hb1 H0
  go_wp2_with fail
  refine (jcheck_ok (fun _ => False) none 0 [] w1 (SlA.nil _ _ _ _ _ (by unfold maxLen; omega)) (fun k hk => hk.elim) (HV.out.below B1.out)).mono ?_
  rintro e w2 ⟨rfl, b2⟩
  have B2 := Lib.hid (B1.out.trans (b2.mono B1.out.size))
  rw [nil_bad, show errJ 6 = errV 6 from rfl]
  unfold errV
  clear b2
  go_wp2_with fail
  have HL2 := Lib.hid (HL.out.keep (fun j hj => B2.out.block j hj))
  have HC := Lib.hid (jcheck_ok (· < w.heap.size) A c l w2 HL2.out (fun j hj => Nat.lt_of_lt_of_le hj B2.out.size) (HV.out.below B2.out))
  by_cases h0 : jobErr l = 0
  · rw [h0, show errJ 0 = .nilIface from rfl] at HC
    have H0 := Lib.hid h0
    have hl12 := (job_parts h0).1
    clear h0
    refine HC.out.mono ?_
    rintro e w3 ⟨rfl, b3⟩
    have B3 := Lib.hid (B2.out.trans (b3.mono B2.out.size))
    have HL3 := Lib.hid (HL.out.keep (fun j hj => B3.out.block j hj))
    clear b3 HC HL2
    by_cases h11 : 11 < l.length
    · have d1 : decide ((11 : Int) < (l.length : Int)) = true := decide_eq_true (by omega)
      go_wp2_with fail
      go_ret
      exact ⟨rfl, B3.out⟩
    have d1 : decide ((11 : Int) < (l.length : Int)) = false := decide_eq_false (by omega)
    by_cases hneg : at_ < 0
    · have d2 : decide (at_ < 0) = true := decide_eq_true hneg
      go_wp2_with fail
      go_ret
      exact ⟨rfl, B3.out⟩
    have d2 : decide (at_ < 0) = false := decide_eq_false hneg
    obtain ⟨an, rfl⟩ : ∃ an : Nat, at_ = an := ⟨at_.toNat, by omega⟩
    by_cases hge : l.length ≤ an
    · have d3 : decide (l.length ≤ an) = true := decide_eq_true hge
      go_wp2_with fail
      go_ret
      exact ⟨rfl, B3.out⟩
    have d3 : decide (l.length ≤ an) = false := decide_eq_false hge
    have han : an < l.length := by omega
    clear hneg hge
    obtain ⟨b, off, A', c', rfl, hFb, x0, x1, x2, x3, htm, hki, hni, hfr⟩ := HL3.out.nod_ han
    clear x1 x2 x3 htm hki hni hfr
    obtain ⟨ka, hka⟩ : ∃ ka, ka = l[an].kind := ⟨_, rfl⟩
    rw [← hka] at x0
    by_cases h10 : ka = 10
    · subst h10
      clear hka
      go_wp2_with fail
      go_ret
      exact ⟨rfl, B3.out⟩
    have e10 : (ka == 10) = false := by simp [h10]
    have HK : Hid (l[an].kind ≠ 10) := by rw [← hka]; exact h10
    clear h10 hka
    obtain ⟨lv, hlv, hsv⟩ := HL3.out.toV
    have hll : lv.length = l.length := by rw [← hlv, List.length_map]
    have HLV := Lib.hid hlv
    have HSV := Lib.hid hsv
    have HSRC : Hid (Src Tryd.prog 4 22 (.slice (some ⟨b, off, none⟩) l.length c) l.length (lv.flatMap nodCells) w3) := by
      have h := src_nods (P := Tryd.prog) (tx := 22) hsv Tryd.underlying22
      rw [hll] at h
      exact h
    clear hlv hsv
    go_wp2_with (at_builtin; refine wpList_append_S rfl _ _ 22 22 rfl 28 _ 4 56 Tryd.underlying22 info_nod rfl (by decide) none 0 0 [] rfl (OwnS.nil _ _ _) _ rfl l.length (lv.flatMap nodCells) HSRC.out (by unfold maxLen; omega) (by omega) ?_)
    intro A5 c5 w5 hown5 hg5 hat5
    have hB5 : Below w3.heap.size w3 w5 := (Below.refl _ _).grown hg5 (Nat.le_refl _) (fun k e => by simp [blk] at e)
    have HA5 : Hid (∀ k, blk A5 = some k → w3.heap.size ≤ k) := fun k e => by
      rcases hat5 with h | h
      · rw [h] at e; cases e
      · rw [h] at e; injection e with e; omega
    have HO5 : Hid (OwnS w5 28 4 A5 c5 l.length (lv.flatMap nodCells)) := by
      have h := hown5
      try simp only [List.nil_append, Nat.zero_add] at h
      exact h
    have HB5 := Lib.hid hB5
    try simp only [Nat.zero_add]
    clear hown5 hg5 hat5 hB5 HSRC
    obtain ⟨W6, hW6⟩ : ∃ W6, W6 = w5.alloc (.cells #[.int .i64 (an : Int)] 3) := ⟨_, rfl⟩
    have hs6 : W6.heap.size = w5.heap.size + 1 := by rw [hW6]; simp
    have HO6 : Hid (OwnS (w5.alloc (.cells #[.int .i64 (an : Int)] 3)) 28 4 A5 c5 l.length (lv.flatMap nodCells)) := HO5.out.keep fun k hk => heap_alloc_old _ _ (HO5.out.lt k hk)
    have hi6 : SlA (intE .i64) (· < W6.heap.size) W6 (some ⟨w5.heap.size, 0, none⟩) 1 [(an : Int)] := by rw [hW6]; exact int_row w5 an (WalkArith.wf_i64 (by omega))
    have HW6 := Lib.hid hW6
    have HI6 := Lib.hid hi6
    have HS6 := Lib.hid hs6
    clear hW6 hi6 hs6
    go_wp2_with (at_builtin; refine wpList_push_S (w0 := w5.alloc (.cells #[.int .i64 (an : Int)] 3)) rfl (.tmp 60) (.tmp 64) 22 rfl 28 _ 4 56 Tryd.underlying22 info_nod rfl (by decide) A5 c5 l.length (lv.flatMap nodCells) rfl HO6.out [.int .i64 10, .slice (some ⟨w5.heap.size, 0, none⟩) 1 1, .string ⟨#[]⟩, .int .i64 0] ?_ rfl ?_ ?_ ?_ ?_)
    · show Value.slice (some ⟨w5.heap.size + 1, 0, none⟩) 1 1 = _
      simp
    · intro u hu
      simp only [List.mem_cons, List.not_mem_nil, or_false] at hu
      rcases hu with rfl | rfl | rfl | rfl <;> rfl
    · unfold maxLen; omega
    · omega
    intro A8 c8 w8 hown8 hg8 hat8
    rw [← HW6.out] at hg8
    have hb58 : Below w3.heap.size w3 w8 := by
      have h6 : Below w3.heap.size w3 W6 := by rw [HW6.out]; exact HB5.out.alloc HB5.out.size _
      exact h6.grown hg8 h6.size (fun k e => HA5.out k e)
    have hi8 : SlA (intE .i64) (· < W6.heap.size) w8 (some ⟨w5.heap.size, 0, none⟩) 1 [(an : Int)] := by
      refine ⟨HI6.out.1, HI6.out.2.1, fun i x hx => ?_⟩
      obtain ⟨b9, o9, cs9, e9, h9, hc9, hR9⟩ := HI6.out.2.2 i x hx
      injection e9 with e9
      injection e9 with e1 e2
      subst e1; subst e2
      have hbl : w8.heap[w5.heap.size]? = W6.heap[w5.heap.size]? := hg8.block _ (by have := HS6.out; omega) (fun e => by
        have := HO5.out.lt _ e.symm; omega)
      exact ⟨_, _, cs9, rfl, h9, fun j u hu => (World.cell?_of_block (a := ⟨w5.heap.size, _, none⟩) hbl).trans (hc9 j u hu), hR9⟩
    have hsz8 : W6.heap.size ≤ w8.heap.size := hg8.size
    have hm8 : SlA nodE (· < w8.heap.size) w8 A8 c8 (l ++ [sinkN an]) := by
      have ho : OwnS w8 28 4 A8 c8 (l.length + 1) ((lv ++ [((sinkN an, (some ⟨w5.heap.size, 0, none⟩, 1)) : NodV)]).flatMap nodCells) := by
        rw [List.flatMap_append]; exact hown8
      have h := own_nods ho (by rw [List.length_append, hll]; rfl) (F := (· < w8.heap.size)) (fun k e => ho.lt k e) (fun x hx => by
        rcases List.mem_append.1 hx with hx | hx
        · obtain ⟨i, hi, rfl⟩ := List.mem_iff_getElem.1 hx
          obtain ⟨_, _, cs, _, _, _, hR⟩ := HSV.out.2.2 i _ (List.getElem?_eq_getElem hi)
          have hR2 := nodC.keep _ _ w8 _ _ hR (fun j hj => hb58.block j (Nat.lt_of_lt_of_le hj B3.out.size))
          obtain ⟨rfl, r⟩ := hR2
          exact nodC.more _ _ _ _ _ ⟨rfl, r⟩ (fun j hj => Nat.lt_of_lt_of_le (Nat.lt_of_lt_of_le hj B3.out.size) hb58.size)
        · rw [List.mem_singleton.1 hx]
          exact ⟨rfl, rfl, Nat.zero_le _, rfl, hi8.more (fun j hj => Nat.lt_of_lt_of_le hj hsz8)⟩)
      rw [List.map_append, HLV.out] at h
      exact h
    have B8 := Lib.hid (B3.out.trans (hb58.mono B3.out.size))
    have HM8 := Lib.hid hm8
    clear hown8 hg8 hat8 hb58 hi8 hsz8 hm8 HLV HSV HA5 HO5 HB5 HO6 HW6 HI6 HS6 hll x0
    have hml : (l ++ [sinkN (an : Int)]).length = l.length + 1 := by simp
    have HG := Lib.hid (grow_job H0.out (by omega) han HK.out)
    have HCM := jcheck_ok (· < w8.heap.size) A8 c8 (l ++ [sinkN (an : Int)]) w8 HM8.out (fun j hj => hj) (HV.out.below B8.out)
    rw [hml, HG.out, show errJ 0 = .nilIface from rfl] at HCM
    have HCM := Lib.hid HCM
    have HML := Lib.hid hml
    clear hml
    go_wp2_with fail
    refine HCM.out.mono ?_
    rintro e w9 ⟨rfl, b9⟩
    have B9 := Lib.hid (B8.out.trans (b9.mono B8.out.size))
    have HM9 := Lib.hid (HM8.out.keep (w' := w9) (fun j hj => b9.block j hj))
    have hz9 := b9.size
    have HL9 := Lib.hid (HL3.out.keep (w' := w9) (fun j hj => (B9.out.block j hj).trans (B3.out.block j hj).symm))
    clear b9 HCM HM8 HL3
    go_wp2_with fail
    refine (sinks_good (· < w.heap.size) _ c l w9 HL9.out (fun j hj => Nat.lt_of_lt_of_le hj B9.out.size) (HV.out.below B9.out) H0.out).mono ?_
    rintro e w10 ⟨Aa, ca, rfl, ha, b10⟩
    have B10 := Lib.hid (B9.out.trans (b10.mono B9.out.size))
    have HM10 := Lib.hid (HM9.out.keep (w' := w10) (fun j hj => b10.block j (Nat.lt_of_lt_of_le hj hz9)))
    have HL10 := Lib.hid (HL9.out.keep (w' := w10) (fun j hj => b10.block j (Nat.lt_of_lt_of_le hj B9.out.size)))
    have hz10 := b10.size
    clear b10 HM9 HL9 ha
    have hsm := sinks_good (· < w8.heap.size) A8 c8 (l ++ [sinkN (an : Int)]) w10 HM10.out (fun j hj => by show j < _; have : j < w8.heap.size := hj; omega) (HV.out.below B10.out) HG.out
    rw [HML.out, grow_of, List.length_append, List.length_singleton] at hsm
    have HSM := Lib.hid hsm
    clear hsm
    generalize hza : ofKind l 10 = za at HSM ⊢
    clear hza
    go_wp2_with fail
    refine HSM.out.mono ?_
    rintro e w11 ⟨Ab, cb, rfl, hb11, b11⟩
    have B11 := Lib.hid (B10.out.trans (b11.mono B10.out.size))
    have HM11 := Lib.hid (HM10.out.keep (w' := w11) (fun j hj => b11.block j (Nat.lt_of_lt_of_le hj (by omega))))
    have HL11 := Lib.hid (HL10.out.keep (w' := w11) (fun j hj => b11.block j (Nat.lt_of_lt_of_le hj B10.out.size)))
    have hz11 := b11.size
    obtain ⟨bb, ob, rfl, _, hcb, _⟩ := hb11.int_ (k := za.length) (by simp)
    rw [show (za ++ [(l.length : Int)])[za.length]'(by simp) = (l.length : Int) from by simp] at hcb
    have hzl := hb11.1
    have hzm := hb11.2.1
    unfold maxLen at hzm
    simp only [List.length_append, List.length_singleton] at hzl
    clear b11 HM10 HL10 HSM hb11
    go_wp2_with fail
    refine (uses_good (· < w.heap.size) _ c l w11 HL11.out (fun j hj => Nat.lt_of_lt_of_le hj B11.out.size) (HV.out.below B11.out) H0.out).mono ?_
    rintro e w12 ⟨Au, cu, rfl, hu, b12⟩
    have B12 := Lib.hid (B11.out.trans (b12.mono B11.out.size))
    have HM12 := Lib.hid (HM11.out.keep (w' := w12) (fun j hj => b12.block j (Nat.lt_of_lt_of_le hj (by omega))))
    have HU12 := Lib.hid hu
    have hz12 := b12.size
    clear b12 HM11 HL11 hu
    have hum := uses_good (· < w8.heap.size) A8 c8 (l ++ [sinkN (an : Int)]) w12 HM12.out (fun j hj => by show j < _; have : j < w8.heap.size := hj; omega) (HV.out.below B12.out) HG.out
    rw [HML.out] at hum
    have HUM := Lib.hid hum
    clear hum
    go_wp2_with fail
    refine HUM.out.mono ?_
    rintro e w13 ⟨Av, cv, rfl, hv13, b13⟩
    have B13 := Lib.hid (B12.out.trans (b13.mono B12.out.size))
    have HU13 := Lib.hid ((HU12.out.below b13))
    have HV13 := Lib.hid hv13
    clear b13 HM12 HU12 hv13 HUM hcb
    go_wp2_with fail
    go_loopw [15] (fun iv wr => ∃ i q : Nat, i ≤ l.length ∧ iv = .int .i64 i ∧ wr = w13.drewN q) (fun iv _ => l.length - (intOf iv).toNat)
    case atStart => exact ⟨0, 0, Nat.zero_le _, rfl, rfl⟩
    case round =>
      obtain ⟨i, q, hi, rfl, rfl⟩ := hrel
      by_cases hlt : i < l.length
      · obtain ⟨bu, ou, A1, c1, rfl, _, hcu, hsu⟩ := HU13.out.sl_ (k := i) (by rw [uses_len]; exact hlt)
        obtain ⟨bv, ov, A2, c2, rfl, _, hcv, hsv⟩ := HV13.out.sl_ (k := i) (by rw [uses_len, HML.out]; omega)
        rw [uses_at l hlt] at hcu hsu
        rw [uses_at _ (by rw [HML.out]; omega), grow_uses] at hcv hsv
        generalize hz : usesOf l (i : Int) = z at hcu hsu hcv hsv
        clear hz
        have hzl2 := hsv.1
        have hzm2 := hsv.2.1
        unfold maxLen at hzm2
        by_cases hia : i = an
        · subst hia
          rw [if_pos rfl] at hcv hsv hzl2
          rw [List.length_append, List.length_singleton] at hcv hzl2
          obtain ⟨b2, o2, rfl, _, hlast, _⟩ := hsv.int_ (k := z.length) (by simp)
          rw [show (z ++ [(l.length : Int)])[z.length]'(by simp) = (l.length : Int) from by simp] at hlast
          have hh := hsv.head (k := z.length) (by simp)
          rw [show (z ++ [(l.length : Int)]).take z.length = z from by simp] at hh
          have HIS := Lib.hid (fun n => ints_q (q := q) (n := n) (ints_same A1 (some ⟨b2, o2, none⟩) c1 c2 z (w13.drewN (q + n)) _ _ (hsu.drewN (q + n)) (hh.drewN (q + n))))
          clear hsu hsv hh
          go_wp2_with fail
          go_quiet ((with_reducible exact HIS.out _))
          go_wp2_with fail
          go_roundw
          case rel => exact ⟨i + 1, q + nq, by omega, by go_num, by simp⟩
          case measure => simp [intOf]; omega
        · rw [if_neg (by omega), List.append_nil] at hcv hsv hzl2
          have HIS := Lib.hid (fun n => ints_q (q := q) (n := n) (ints_same A1 A2 c1 c2 z (w13.drewN (q + n)) _ _ (hsu.drewN (q + n)) (hsv.drewN (q + n))))
          have hne : (i == an) = false := by simp [hia]
          clear hsu hsv hia
          go_wp2_with fail
          go_quiet ((with_reducible exact HIS.out _))
          go_wp2_with fail
          go_roundw
          case rel => exact ⟨i + 1, q + nq, by omega, by go_num, by simp⟩
          case measure => simp [intOf]; omega
      · have di : decide (i < l.length) = false := decide_eq_false hlt
        go_wp2_with fail
        go_ret
        exact ⟨rfl, by have := B13.out; exact ⟨this.os, this.tape, this.output, this.size, this.block⟩⟩
  · rw [show errJ (jobErr l) = errV (jobErr l) from by unfold errJ; rw [if_neg h0]] at HC
    generalize jobErr l = je at HC
    unfold errV at HC
    refine HC.out.mono ?_
    rintro e w3 ⟨rfl, b3⟩
    have B3 := Lib.hid (B2.out.trans (b3.mono B2.out.size))
    clear b3 h0
    go_wp2_with fail
    go_ret
    exact ⟨rfl, B3.out⟩
end Go.Proofs.YtmbhfadidpkkhaaDoor
