/-
  The walk of DenApplies: it returns true. Conditions: the two variables of Atoi's errors hold errors; the table of powers of ten reads as Go's text lays it.
-/
import Derived.Test.YtfndhfekbbbliaaGreatDoorPackA
import Derived.Test.YtfndhfekbbbliaaGreatDoorPackE
import Derived.Test.YtfndhfekbbbliaaGreatDoorPackF
import Derived.Test.YtfndhfekbbbliaaGreatDoorPackK
namespace Go.Proofs.YtfndhfekbbbliaaGreatDoor
open Go.RowKit Go.Shelf
set_option linter.unusedVariables false

/-- A row of one or two nodes, as its cells lie. -/
theorem nods_at {w : World} {b : Nat} {F : Nat → Prop} (l : List Nod) (A : Option Addr) (c : Nat) (cells : List Value) (t : TypeId) (hb : w.heap[b]? = some (.cells cells.toArray t (0, 0))) (hF : F b) (hl : l.length ≤ 2)
    (hc : ∀ i (hi : i < l.length), ∃ A' c', cells.drop (i * 4) = [.int .i64 l[i].kind, .slice A' l[i].from_.length c', .string l[i].text, .int .i64 l[i].n] ++ cells.drop (i * 4 + 4) ∧ I64 l[i].kind ∧ l[i].text.size ≤ maxLen ∧ I64 l[i].n ∧ SlA (intE .i64) F w A' c' l[i].from_) :
    SlA nodE F w (some ⟨b, 0, none⟩) l.length l := by
  refine ⟨Nat.le_refl _, by unfold maxLen; omega, fun i x hx => ?_⟩
  obtain ⟨hi, hxe⟩ := List.getElem?_eq_some_iff.1 hx
  subst hxe
  obtain ⟨A', c', he, h1, h2, h3, h4⟩ := hc i hi
  refine ⟨b, 0, [.int .i64 l[i].kind, .slice A' l[i].from_.length c', .string l[i].text, .int .i64 l[i].n], rfl, hF, fun j u hj => ?_, _, rfl, h1, h2, h3, A', c', rfl, h4⟩
  have hj4 : j < 4 := by
    have := (List.getElem?_eq_some_iff.1 hj).1
    simpa using this
  have hcell : cells[i * 4 + j]? = some u := by
    have h5 : (cells.drop (i * 4))[j]? = some u := by rw [he, List.getElem?_append_left (by simpa using hj4)]; exact hj
    rw [List.getElem?_drop] at h5; exact h5
  have := cell_of_row w b (i * 4 + j) _ _ _ hb
  show w.cell? ⟨b, 0 + (i * 4 + j), none⟩ = some u
  rw [Nat.zero_add, this]
  simpa using hcell
theorem node_range {l : List Nod} {i : Nat} {n : Nod} (h : nodeErr l i n = 0) : n.kind = 5 → 0 ≤ n.n ∧ n.n ≤ 3 := by
  intro hk
  rw [rnodeErr_eq] at h
  split at h
  · cases h
  split at h
  · cases h
  split at h
  · rename_i h1; exact absurd h h1
  unfold rnodeBody at h
  split at h
  · cases h
  split at h
  · cases h
  · rename_i h1
    rw [hk] at h1
    simp [numLow, numHigh] at h1
    exact ⟨by omega, by omega⟩
theorem i64s_of {x : Int} (h : I64 x) : I64s x := by
  have := bounds_i64 h
  exact ⟨by omega, by omega⟩
/-- The three boxed arguments. -/
structure BX (w : World) (n : Nod) (A0 : Option Addr) (c0 : Nat) (h : Hld) (r : Rec) (wx : World) : Prop where
  bel : Below w.heap.size w wx
  nod : wx.heap[w.heap.size]? = some (.cells #[.int .i64 n.kind, .slice A0 n.from_.length c0, .string n.text, .int .i64 n.n] 40 (0, 0))
  hld : wx.heap[w.heap.size + 1]? = some (.cells #[.int .i64 h.node, .string h.key, .int .i64 h.a, .int .i64 h.b] 42 (0, 0))
  rec_ : wx.heap[w.heap.size + 2]? = some (.cells #[.string r.key, .int .i64 r.num, .int .i64 r.time] 44 (0, 0))
theorem BX.lt {w : World} {n : Nod} {A0 : Option Addr} {c0 : Nat} {h : Hld} {r : Rec} {wx : World} (v : BX w n A0 c0 h r wx) : w.heap.size + 2 < wx.heap.size := block_lt v.rec_
theorem BX.below {w : World} {n : Nod} {A0 : Option Addr} {c0 : Nat} {h : Hld} {r : Rec} {wx wy : World} (v : BX w n A0 c0 h r wx) (hb : Below wx.heap.size wx wy) : BX w n A0 c0 h r wy := by
  have := v.lt
  exact ⟨v.bel.trans (hb.mono v.bel.size), (hb.block _ (by omega)).trans v.nod, (hb.block _ (by omega)).trans v.hld, (hb.block _ (by omega)).trans v.rec_⟩
structure BXC (w : World) (n : Nod) (A0 : Option Addr) (c0 : Nat) (h : Hld) (r : Rec) (wx : World) : Prop where
  n0 : wx.cell? ⟨w.heap.size, 0, none⟩ = some (.int .i64 n.kind)
  n1 : wx.cell? ⟨w.heap.size, 1, none⟩ = some (.slice A0 n.from_.length c0)
  n2 : wx.cell? ⟨w.heap.size, 2, none⟩ = some (.string n.text)
  n3 : wx.cell? ⟨w.heap.size, 3, none⟩ = some (.int .i64 n.n)
  h0 : wx.cell? ⟨w.heap.size + 1, 0, none⟩ = some (.int .i64 h.node)
  h1 : wx.cell? ⟨w.heap.size + 1, 1, none⟩ = some (.string h.key)
  h2 : wx.cell? ⟨w.heap.size + 1, 2, none⟩ = some (.int .i64 h.a)
  h3 : wx.cell? ⟨w.heap.size + 1, 3, none⟩ = some (.int .i64 h.b)
  r0 : wx.cell? ⟨w.heap.size + 2, 0, none⟩ = some (.string r.key)
  r1 : wx.cell? ⟨w.heap.size + 2, 1, none⟩ = some (.int .i64 r.num)
  r2 : wx.cell? ⟨w.heap.size + 2, 2, none⟩ = some (.int .i64 r.time)
theorem BX.c {w : World} {n : Nod} {A0 : Option Addr} {c0 : Nat} {h : Hld} {r : Rec} {wx : World} (v : BX w n A0 c0 h r wx) : BXC w n A0 c0 h r wx :=
  ⟨(cell_of_row wx _ 0 _ _ _ v.nod).trans rfl, (cell_of_row wx _ 1 _ _ _ v.nod).trans rfl, (cell_of_row wx _ 2 _ _ _ v.nod).trans rfl, (cell_of_row wx _ 3 _ _ _ v.nod).trans rfl,
    (cell_of_row wx _ 0 _ _ _ v.hld).trans rfl, (cell_of_row wx _ 1 _ _ _ v.hld).trans rfl, (cell_of_row wx _ 2 _ _ _ v.hld).trans rfl, (cell_of_row wx _ 3 _ _ _ v.hld).trans rfl,
    (cell_of_row wx _ 0 _ _ _ v.rec_).trans rfl, (cell_of_row wx _ 1 _ _ _ v.rec_).trans rfl, (cell_of_row wx _ 2 _ _ _ v.rec_).trans rfl⟩
/-- Behind the node's check: what both make of the record. -/
def srcN : Nod := ⟨1, [], ⟨#[]⟩, 1⟩
set_option maxRecDepth 100000 in
set_option maxHeartbeats 8000000 in
theorem denApplies_walk (cs0 : Array Value) (n : Nod) (cs1 : Array Value) (h : Hld) (has : Bool) (cs3 : Array Value) (r : Rec) (input : Int) (w : World) (w0 : nodE.R (· < w.heap.size) w cs0.toList n) (w1 : hldE.R (· < w.heap.size) w cs1.toList h) (w3 : recE.R (· < w.heap.size) w cs3.toList r)
    (w4 : (Lit.int .i64 input).wf = true) (hv : ErrVars w) (hT : PowTab w) :
    Calls Tryz.prog 4 #[.agg cs0, .agg cs1, .bool has, .agg cs3, .int .i64 input] w fun e w' => e = .returned (.bool true) ∧ Below w.heap.size w w' := by
  obtain ⟨v0, e0, hki, htm, hni, A0, c0, rfl, hfr⟩ := w0
  obtain ⟨e1, hhk, hhn, hha, hhb⟩ := w1
  obtain ⟨e3, hrk, hrn, hrt⟩ := w3
  have e0' : cs0 = #[.int .i64 n.kind, .slice A0 n.from_.length c0, .string n.text, .int .i64 n.n] := Array.toList_inj.1 e0
  have e1' : cs1 = #[.int .i64 h.node, .string h.key, .int .i64 h.a, .int .i64 h.b] := Array.toList_inj.1 e1
  have e3' : cs3 = #[.string r.key, .int .i64 r.num, .int .i64 r.time] := Array.toList_inj.1 e3
  subst e0'; subst e1'; subst e3'
  clear e0 e1 e3
  have hin := bounds_i64 w4
  have HIN := Lib.hid hin
  have HFR := Lib.hid hfr
  have HP := Lib.hid (And.intro hki (And.intro htm hni))
  have HQ := Lib.hid (And.intro hrn (And.intro hrt (And.intro hha hhb)))
  have HV := Lib.hid hv
  have HT := Lib.hid hT
  obtain ⟨W3, hW3⟩ : ∃ W3, W3 = ((w.alloc (.cells #[.int .i64 n.kind, .slice A0 n.from_.length c0, .string n.text, .int .i64 n.n] 40)).alloc (.cells #[.int .i64 h.node, .string h.key, .int .i64 h.a, .int .i64 h.b] 42)).alloc (.cells #[.string r.key, .int .i64 r.num, .int .i64 r.time] 44) := ⟨_, rfl⟩
  have hBX : BX w n A0 c0 h r W3 := by
    rw [hW3]
    have e : ∀ (W : World) (o : Obj) (k : Nat), W.heap.size = k → (W.alloc o).heap[k]? = some o := fun W o k hk => by rw [← hk]; exact heap_alloc_new W o
    refine ⟨(((Below.refl _ _).alloc (Nat.le_refl _) _).alloc (by simp) _).alloc (by simp; omega) _, ?_, ?_, ?_⟩
    · exact (heap_alloc_old _ _ (by simp; omega)).trans ((heap_alloc_old _ _ (by simp)).trans (heap_alloc_new _ _))
    · exact (heap_alloc_old _ _ (by simp)).trans (e _ _ _ (by simp))
    · exact e _ _ _ (by simp)
  have hsz3 : W3.heap.size = w.heap.size + 3 := by rw [hW3]; simp
  have HBX := Lib.hid hBX
  have HW3 := Lib.hid hW3
  have HSZ := Lib.hid hsz3
  clear hin w4 hfr hki htm hni hrn hrt hha hhb hv hT hBX hsz3
  go_enter Tryz.func4, Tryz.ntmps4
  go_upto_region 1 with (fail)
  rw [← hW3]
  clear hW3
  obtain ⟨n0, n1, n2, n3, x0, x1, x2, x3, r0, r1, r2⟩ := HBX.out.c
  have hsz := HBX.out.lt
  have hs0 : w.heap.size < W3.heap.size := by omega
  go_upto_if 25 with (fail)
  go_cut [11] from 26 to 27 (fun lv wx => ∃ (l : List Nod) (A : Option Addr) (c i : Nat), lv = .slice A (i + 1) c ∧ Hid (i + 1 = l.length) ∧ i ≤ 1 ∧ Hid (SlA nodE (· < wx.heap.size) wx A c l) ∧ Hid (l[i]? = some n) ∧ Hid (BX w n A0 c0 h r wx))
  case first =>
    have hB4 : ∀ o, BX w n A0 c0 h r (W3.alloc o) := fun o => HBX.out.below ((Below.refl _ _).alloc (Nat.le_refl _) _)
    by_cases h1 : n.kind = 1
    · have e1 : (n.kind == 1) = true := by simp [h1]
      clear h1
      have HB4 := Lib.hid hB4
      clear hB4
      go_wp2_with fail
      go_meet
      case rel =>
        have hbx := (HB4.out (.cells #[.int .i64 1, .slice none 0 0, .string ⟨#[]⟩, .int .i64 1, .int .i64 n.kind, .slice A0 n.from_.length c0, .string n.text, .int .i64 n.n] 40)).below ((Below.refl _ _).alloc (Nat.le_refl _) (.cells #[.int .i64 n.kind, .slice A0 n.from_.length c0, .string n.text, .int .i64 n.n] 40))
        refine ⟨[n], some ⟨W3.heap.size + 1, 0, none⟩, 1, 0, rfl, rfl, by omega, ?_, rfl, hbx⟩
        refine nods_at [n] (some ⟨W3.heap.size + 1, 0, none⟩) 1 [.int .i64 n.kind, .slice A0 n.from_.length c0, .string n.text, .int .i64 n.n] 40 ?_ (by simp) (by simp) (fun i hi => ?_)
        · have := heap_alloc_new (W3.alloc (.cells #[.int .i64 1, .slice none 0 0, .string ⟨#[]⟩, .int .i64 1, .int .i64 n.kind, .slice A0 n.from_.length c0, .string n.text, .int .i64 n.n] 40)) (.cells #[.int .i64 n.kind, .slice A0 n.from_.length c0, .string n.text, .int .i64 n.n] 40)
          simpa using this
        · obtain rfl : i = 0 := by simpa using hi
          exact ⟨A0, c0, rfl, HP.out.1, HP.out.2.1, HP.out.2.2, HFR.out.below hbx.bel⟩
    · have e1 : (n.kind == 1) = false := by simp [h1]
      clear h1
      have HB4 := Lib.hid hB4
      clear hB4
      go_wp2_with fail
      go_meet
      case rel =>
        have hbx := HB4.out (.cells #[.int .i64 1, .slice none 0 0, .string ⟨#[]⟩, .int .i64 1, .int .i64 n.kind, .slice A0 n.from_.length c0, .string n.text, .int .i64 n.n] 40)
        refine ⟨[srcN, n], some ⟨W3.heap.size, 0, none⟩, 2, 1, rfl, rfl, by omega, ?_, rfl, hbx⟩
        refine nods_at [srcN, n] (some ⟨W3.heap.size, 0, none⟩) 2 [.int .i64 1, .slice none 0 0, .string ⟨#[]⟩, .int .i64 1, .int .i64 n.kind, .slice A0 n.from_.length c0, .string n.text, .int .i64 n.n] 40 (heap_alloc_new W3 _) (by simp) (by simp) (fun i hi => ?_)
        match i, hi with
        | 0, _ => exact ⟨none, 0, rfl, i64_one, by show (⟨#[]⟩ : ByteArray).size ≤ maxLen; decide, i64_one, SlA.nil _ _ _ _ _ (Nat.zero_le _)⟩
        | 1, _ => exact ⟨A0, c0, rfl, HP.out.1, HP.out.2.1, HP.out.2.2, HFR.out.below hbx.bel⟩
  case rest =>
    obtain ⟨l, A, c, i, rfl, HLI, hi1, HSL, HLN, HBX2⟩ := hcut
    clear n0 n1 n2 n3 x0 x1 x2 x3 r0 r1 r2 hsz HBX hs0
    obtain ⟨n0, n1, n2, n3, x0, x1, x2, x3, r0, r1, r2⟩ := HBX2.out.c
    have hil : i < l.length := by have := HLI.out; omega
    have hln : l[i] = n := by have := HLN.out; rw [List.getElem?_eq_getElem hil] at this; exact Option.some.inj this
    have HN := Lib.hid (rnode_ok (· < wc.heap.size) A c l i hil wc HSL.out (fun _ h => h))
    rw [hln, ← HLI.out] at HN
    obtain ⟨ne, hne⟩ : ∃ ne, ne = nodeErr l i n := ⟨_, rfl⟩
    rw [← hne] at HN
    have HNE := Lib.hid hne
    clear hne hln hil
    go_wp2_with fail
    refine HN.out.mono ?_
    rintro e w6 ⟨rfl, hb⟩
    have hbx := HBX2.out.below hb
    clear n0 n1 n2 n3 x0 x1 x2 x3 r0 r1 r2
    obtain ⟨n0, n1, n2, n3, x0, x1, x2, x3, r0, r1, r2⟩ := hbx.c
    have HBX3 := Lib.hid hbx
    clear hb hbx HBX2 HN
    by_cases hne0 : ne = 0
    · subst hne0
      have HR5 := Lib.hid (node_range HNE.out.symm)
      by_cases hk : 40 < r.key.size
      · have d1 : decide ((40 : Int) < (r.key.size : Int)) = true := decide_eq_true (by omega)
        go_wp2_with fail
        go_ret
        exact ⟨rfl, HBX3.out.bel⟩
      have d1 : decide ((40 : Int) < (r.key.size : Int)) = false := decide_eq_false (by omega)
      by_cases hi0 : input < 0
      · have d2 : decide (input < 0) = true := decide_eq_true hi0
        go_wp2_with fail
        go_ret
        exact ⟨rfl, HBX3.out.bel⟩
      have d2 : decide (input < 0) = false := decide_eq_false hi0
      by_cases hi3 : 3 < input
      · have d3 : decide (3 < input) = true := decide_eq_true hi3
        go_wp2_with fail
        go_ret
        exact ⟨rfl, HBX3.out.bel⟩
      have d3 : decide (3 < input) = false := decide_eq_false hi3
      have HK40 : Hid (r.key.size ≤ 40) := by show _ ≤ _; omega
      have HI3 : Hid (0 ≤ input ∧ input ≤ 3) := ⟨by omega, by omega⟩
      obtain ⟨d, hd⟩ : ∃ d, d = applyN n h has r input := ⟨_, rfl⟩
      have HRA := Lib.hid (rapply_ok n A0 c0 h has r input w6 HK40.out (i64s_of HQ.out.1) HQ.out.2.1 (i64s_of HQ.out.2.2.1) (i64s_of HQ.out.2.2.2) HI3.out HR5.out)
      have HDA := Lib.hid (fun W hv hT => dapply_ok n A0 c0 h has r input W hv hT HP.out.2.1 HP.out.2.2 ⟨HK40.out, HQ.out.1, HQ.out.2.1⟩ ⟨HQ.out.2.2.1, HQ.out.2.2.2⟩ (by have := HIN.out; unfold I64_; omega))
      rw [← hd] at HRA HDA
      have HDID := Lib.hid (applyN_ok n h has r input ⟨HK40.out, HQ.out.1, HQ.out.2.1⟩ ⟨HQ.out.2.2.1, HQ.out.2.2.2⟩)
      rw [← hd] at HDID
      obtain ⟨out, ⟨hn', hk', ha', hb'⟩, dh⟩ := d
      simp only [hldV, recV] at HDA
      simp only at HRA
      clear hd hk hi0 hi3 HR5
      go_wp2_with fail
      refine HRA.out.mono ?_
      rintro e w7 ⟨A1, c1, rfl, hsl, hb⟩
      have hbx := HBX3.out.below hb
      have HSL1 := Lib.hid hsl
      clear n0 n1 n2 n3 x0 x1 x2 x3 r0 r1 r2 d1 d2 d3 HRA
      obtain ⟨W8, hW8⟩ : ∃ W8, W8 = w7.alloc (.cells #[.int .i64 hn', .string hk', .int .i64 ha', .int .i64 hb'] 42) := ⟨_, rfl⟩
      have hb78 : Below w7.heap.size w7 W8 := by rw [hW8]; exact (Below.refl _ _).alloc (Nat.le_refl _) _
      have hx8 : W8.heap[w7.heap.size]? = some (.cells #[.int .i64 hn', .string hk', .int .i64 ha', .int .i64 hb'] 42 (0, 0)) := by rw [hW8]; exact heap_alloc_new _ _
      have hbx8 := hbx.below hb78
      obtain ⟨n0, n1, n2, n3, x0, x1, x2, x3, r0, r1, r2⟩ := hbx.c
      have hlt7 := hbx.lt
      have ha0 : w.heap.size < w7.heap.size := by omega
      have ha1 : w.heap.size + 1 < w7.heap.size := by omega
      have HBX8 := Lib.hid hbx8
      have HX8 := Lib.hid hx8
      have HSL8 : Hid (SlA recE (· < W8.heap.size) W8 A1 c1 out) := (hsl.keep fun q hq => hb78.block q hq.2).more fun q hq => Nat.lt_of_lt_of_le hq.2 hb78.size
      have HW8 := Lib.hid hW8
      clear hb hbx hsl hb78 hx8 hbx8 hW8 HSL1
      go_wp2_with fail
      rw [← HW8.out]
      refine (HDA.out W8 (HV.out.below HBX8.out.bel) (HT.out.below HBX8.out.bel)).mono ?_
      rintro e w9 hpost
      simp only [AppPost, hldV] at hpost
      obtain ⟨A2, c2, rfl, ho, hbk, hb⟩ := hpost
      have hsl2 := own_recs ho rfl (F := fun q => q < w9.heap.size) (fun k e => OwnS.lt ho k e) (fun x hx => (HDID.out.1 x hx).ok)
      have HSL2 := Lib.hid hsl2
      obtain ⟨W10, hW10⟩ : ∃ W10, W10 = w9.alloc (.cells #[.int .i64 hn', .string hk', .int .i64 ha', .int .i64 hb'] 42) := ⟨_, rfl⟩
      have hb910 : Below w9.heap.size w9 W10 := by rw [hW10]; exact (Below.refl _ _).alloc (Nat.le_refl _) _
      have hy10 : W10.heap[w9.heap.size]? = some (.cells #[.int .i64 hn', .string hk', .int .i64 ha', .int .i64 hb'] 42 (0, 0)) := by rw [hW10]; exact heap_alloc_new _ _
      have hb810 := hb.trans (hb910.mono hb.size)
      have hx10 := (hb810.block _ (block_lt HX8.out)).trans HX8.out
      have HSA : Hid (SlA recE (· < W10.heap.size) W10 A2 c2 out) := (hsl2.keep fun q hq => hb910.block q hq).more fun q hq => Nat.lt_of_lt_of_le hq hb910.size
      have HSB : Hid (SlA recE (· < W10.heap.size) W10 A1 c1 out) := (HSL8.out.keep fun q hq => hb810.block q hq).more fun q hq => Nat.lt_of_lt_of_le hq hb810.size
      have HEND := Lib.hid (HBX8.out.bel.trans (hb810.mono HBX8.out.bel.size))
      have HX10 := Lib.hid hx10
      have HY10 := Lib.hid hy10
      have HW10 := Lib.hid hW10
      clear n0 n1 n2 n3 x0 x1 x2 x3 r0 r1 r2 ho hbk hb hsl2 hb910 hy10 hb810 hx10 hW10 HSL2 HSL8 HDA HDID hlt7 ha0 ha1 HBX8 HX8 HW8 HBX3
      go_wp2_with fail
      rw [← HW10.out]
      refine (records_same A2 A1 c2 c1 out W10 _ _ HSA.out HSB.out).mono ?_
      rintro e w11 ⟨rfl, q, rfl⟩
      have p0 : (W10.drewN q).cell? ⟨w7.heap.size, 0, none⟩ = some (.int .i64 hn') := (cell_of_row W10 _ 0 _ _ _ HX10.out).trans rfl
      have p1 : (W10.drewN q).cell? ⟨w7.heap.size, 1, none⟩ = some (.string hk') := (cell_of_row W10 _ 1 _ _ _ HX10.out).trans rfl
      have p2 : (W10.drewN q).cell? ⟨w7.heap.size, 2, none⟩ = some (.int .i64 ha') := (cell_of_row W10 _ 2 _ _ _ HX10.out).trans rfl
      have p3 : (W10.drewN q).cell? ⟨w7.heap.size, 3, none⟩ = some (.int .i64 hb') := (cell_of_row W10 _ 3 _ _ _ HX10.out).trans rfl
      have s0 : (W10.drewN q).cell? ⟨w9.heap.size, 0, none⟩ = some (.int .i64 hn') := (cell_of_row W10 _ 0 _ _ _ HY10.out).trans rfl
      have s1 : (W10.drewN q).cell? ⟨w9.heap.size, 1, none⟩ = some (.string hk') := (cell_of_row W10 _ 1 _ _ _ HY10.out).trans rfl
      have s2 : (W10.drewN q).cell? ⟨w9.heap.size, 2, none⟩ = some (.int .i64 ha') := (cell_of_row W10 _ 2 _ _ _ HY10.out).trans rfl
      have s3 : (W10.drewN q).cell? ⟨w9.heap.size, 3, none⟩ = some (.int .i64 hb') := (cell_of_row W10 _ 3 _ _ _ HY10.out).trans rfl
      have HEND2 : Hid (Below w.heap.size w (W10.drewN q)) := bdrewN HEND.out q
      clear HSA HSB HEND HX10 HY10 HW10
      generalize W10.drewN q = W11 at *
      go_wp2_with fail
      go_ret
      exact ⟨rfl, HEND2.out⟩
    · have d0 : (ne != 0) = true := by simp [hne0]
      have HB6 := Lib.hid HBX3.out.bel
      clear hne0
      go_wp2_with fail
      go_ret
      exact ⟨rfl, HB6.out⟩
end Go.Proofs.YtfndhfekbbbliaaGreatDoor
