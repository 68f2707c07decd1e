/-
  Several texts of this claim in one, in build order; each begins with its own remark, which says what it proves and under which conditions.
-/
import Derived.Test.YtfndhfekbbbliaaGreatDoorPackI
import Derived.Test.YtfndhfekbbbliaaGreatDoorPackF
import Derived.Test.YtfndhfekbbbliaaGreatDoorPackA
import Derived.BigQuiet
import Derived.Lib.ItoaLen
import Derived.Deep.OwnRows
import Derived.Deep.RegionLaw
import Derived.Deep.CutRange
import Derived.Laws.CopyOwn
import Derived.Deep.RegionHeld3
import Derived.MapKept

/-
  What the walk of the reference's All asks of one node. No condition: definitions and lemmas.
-/
namespace Go.Proofs.YtfndhfekbbbliaaGreatDoor
open Go.RowKit Go.ChangeShapes Go.WideShapes Go.Shelf
set_option linter.unusedVariables false
theorem info_heldR : (Tryz.prog.info? 42).map (fun i => (i.zero, i.size, i.bytes)) = some (some (.agg #[.int .i64 0, .string ByteArray.empty, .int .i64 0, .int .i64 0]), 4, 40) := by kernel_rfl
theorem info_recR2 : (Tryz.prog.info? 44).map (fun i => (i.zero, i.size, i.bytes)) = some (some (.agg #[.string ByteArray.empty, .int .i64 0, .int .i64 0]), 3, 32) := by kernel_rfl
theorem info_rowsR : (Tryz.prog.info? 47).map (fun i => (i.zero, i.size, i.bytes)) = some (some (.slice none 0 0), 1, 24) := by kernel_rfl
theorem src_recsA {F : Nat → Prop} {w : World} {A : Option Addr} {c : Nat} {l : List Rec} (h : SlA recE F w A c l) : Src Tryz.prog 3 47 (.slice A l.length c) l.length (l.flatMap recCells) w :=
 src_recs (P := Tryz.prog) h Tryz.underlying47
structure NodeP (J : List Nod) (data : List (List Rec)) (i : Nat) (n : Nod) (outs : List (List Rec)) (m0 : List Rec) : Prop where
 here : J[i]? = some n
 outs_ : outs = (allR data (J.take i)).outs
 from_ : ∀ f ∈ n.from_, 0 ≤ f ∧ f < i
 four : n.from_.length ≤ 4
 none1 : n.kind = 1 → n.from_ = []
 m0_ : m0 = if n.kind = 1 then data[(allR data (J.take i)).src]?.getD [] else []
 copies : n.kind = 5 → 0 ≤ n.n ∧ n.n ≤ 3
 small : ∀ f ∈ n.from_, (outs[f.toNat]?.getD []).length ≤ 2000
 keys : ∀ l ∈ outs, KeysOk l
theorem NodeP.node {J : List Nod} {data : List (List Rec)} {i : Nat} {n : Nod} {outs : List (List Rec)} {m0 : List Rec} (h : NodeP J data i n outs m0) : nodeR n (data[(allR data (J.take i)).src]?.getD []) outs = m0 ++ (runLog n (logR n.from_ outs 0)).2 := by
 unfold nodeR
 by_cases h1 : n.kind = 1
 ·rw [if_pos h1, h.m0_, if_pos h1, h.none1 h1]
  exact (List.append_nil _).symm
 ·rw [if_neg h1, h.m0_, if_neg h1]; rfl
theorem NodeP.of {J : List Nod} {data : List (List Rec)} (h0 : denErr J data = 0) {i : Nat} (hi : i < J.length) (hno : NoOver J (allR data (J.take i)).outs i) : NodeP J data i J[i] (allR data (J.take i)).outs (if J[i].kind = 1 then data[(allR data (J.take i)).src]?.getD [] else []) := by
 obtain ⟨hJ, hl, hd⟩ := den_split h0
 have hn := List.getElem?_eq_getElem hi
 have hins := node_ins hJ hn
 have hnode := nodes_zero J 0 (job_parts hJ).2.1 i hi
 rw [Nat.zero_add] at hnode
 have hfr := job_from hJ hi
 refine ⟨hn, rfl, hfr, from_four hJ hn, fun h1 => ?_, rfl, node_range' hnode, fun f hf => ?_, allR_small hd _⟩
 ·have h2 := hins.2.2.2
  rw [h1] at h2
  have : inHigh 1 = 0 := rfl
  exact List.length_eq_zero_iff.1 (by omega)
 ·obtain ⟨hf0, hfi⟩ := hfr f hf
  have hfl : f.toNat < J.length := by omega
  have hfo : f.toNat < (allR data (J.take i)).outs.length := by rw [allR_len, List.length_take]; omega
  obtain ⟨x, hx⟩ := List.getElem?_of_mem hf
  have hten := from_ten hJ (show InFrom J i x f.toNat from ⟨_, hn, by rw [hx]; congr 1; omega⟩) (List.getElem?_eq_getElem hfl)
  rw [List.getElem?_eq_getElem hfo]
  exact hno f.toNat J[f.toNat] _ (by omega) (List.getElem?_eq_getElem hfl) (List.getElem?_eq_getElem hfo) hten
theorem NodeP.over {J : List Nod} {data : List (List Rec)} {i : Nat} {n : Nod} {outs : List (List Rec)} {m0 : List Rec} (h : NodeP J data i n outs m0) {log t : List (Nat × Rec)} (hlog : logR n.from_ outs 0 = log ++ t) (hk : n.kind ≠ 10) (hlen : 2000 < (m0 ++ (runLog n log).2).length) : AllOver J data := by
 have hi := (List.getElem?_eq_some_iff.1 h.here).1
 refine ⟨i, n, m0 ++ (runLog n (logR n.from_ outs 0)).2, h.here, ?_, ?_, hk⟩
 ·rw [allR_get data J hi, show J[i] = n from Option.some.inj ((List.getElem?_eq_getElem hi).symm.trans h.here), ← h.node, ← allR_src data J (by omega), h.outs_, allR_take data J (by omega)]
 ·have := (run_more n log t).length_le
  rw [hlog]
  rw [List.length_append] at hlen ⊢
  omega
theorem NodeP.src {J : List Nod} {data : List (List Rec)} {i : Nat} {n : Nod} {outs : List (List Rec)} {m0 : List Rec} (h : NodeP J data i n outs m0) (hl : data.length = (ofKind J 1).length) (hk : n.kind = 1) : (allR data (J.take i)).src < data.length := by
 have hi := (List.getElem?_eq_some_iff.1 h.here).1
 rw [allR_src data J (by omega), hl]
 exact (List.getElem?_eq_some_iff.1 (of_at h.here hk)).1
theorem InAt.len {B : Nat} {W1 wx : World} {n : Nod} {m0 : List Rec} {log : List (Nat × Rec)} {Am Ah : Option Addr} {ml cm hl ch : Nat} (h : InAt B W1 wx n m0 log Am ml cm Ah hl ch) : ml ≤ m0.length + 3 * log.length ∧ hl ≤ log.length := by
 have h1 := run_three n log
 have h2 := run_keys_len n log
 have h3 := h.mlen
 have h4 := h.hlen
 rw [List.length_append] at h3
 omega
theorem InAt.start {B : Nat} {W1 wx : World} {n : Nod} {m0 : List Rec} {Am : Option Addr} {ml cm : Nat} (hm : wx.ownsRow B 44 3 (.slice Am ml cm) ml (m0.flatMap recCells)) (hml : ml = m0.length) (hk : Below B W1 wx) (hr : ∀ r ∈ m0, RecOk r) : InAt B W1 wx n m0 [] Am ml cm none 0 0 := by
 have e : m0 ++ (runLog n []).2 = m0 := List.append_nil _
 exact ⟨by rw [e]; exact hm, World.ownsRow_nil _ _ _ _, by rw [e]; exact hml, rfl, hk, by rw [e]; exact hr, nofun⟩
end Go.Proofs.YtfndhfekbbbliaaGreatDoor

/-
  The statements' own whole numbers (weirgatebig), by words: trim, words, NewInt, small, Text, and the digits of an int. No condition.
-/
namespace Go.Proofs.YtfndhfekbbbliaaGreatDoor
open Go.RowKit Go.ChangeShapes Go.WideShapes
set_option linter.unusedVariables false
def u32E : Elt Nat where
 sz := 1
 bulk := fun _ => 1
 R := fun _ _ cs n => cs = [.int .u32 (n : Int)] ∧ n < 4294967296
 len := fun _ _ _ _ h => by rw [h.1]; rfl
 keep := fun _ _ _ _ _ h _ => h
 more := fun _ _ _ _ _ h _ => h
theorem SlA.u32_ {F : Nat → Prop} {w : World} {A : Option Addr} {c : Nat} {l : List Nat} (h : SlA u32E F w A c l) {k : Nat} (hk : k < l.length) :
  ∃ b off, A = some ⟨b, off, none⟩ ∧ F b ∧ w.cell? ⟨b, off + k, none⟩ = some (.int .u32 (l[k] : Int)) ∧ l[k] < 4294967296 := by
 obtain ⟨b, off, cs, rfl, hb, hc, he, hw⟩ := h.at_ hk
 refine ⟨b, off, rfl, hb, ?_, hw⟩
 have := hc 0 _ (by rw [he]; rfl)
 simpa [u32E] using this
def wVal : List Nat → Nat
 | [] => 0
 | a :: l => a + 4294967296 * wVal l
theorem wVal_zero : ∀ {l : List Nat}, (∀ x ∈ l, x = 0) → wVal l = 0
 | [], _ => rfl
 | a :: l, h => by rw [wVal, h a List.mem_cons_self, wVal_zero fun x hx => h x (List.mem_cons_of_mem _ hx)]
theorem wVal_take : ∀ {l : List Nat} (n : Nat), (∀ x ∈ l.drop n, x = 0) → wVal (l.take n) = wVal l
 | [], n, _ => by simp
 | a :: l, 0, h => by rw [List.take_zero, wVal_zero (l := a :: l) (by simpa using h)]; rfl
 | a :: l, n + 1, h => by rw [List.take_succ_cons, wVal, wVal, wVal_take n (by simpa using h)]
theorem wVal_pos : ∀ {l : List Nat} {k x : Nat}, l[k]? = some x → x ≠ 0 → 0 < wVal l
 | [], k, x, h, _ => by simp at h
 | a :: l, 0, x, h, h0 => by simp at h; subst h; unfold wVal; omega
 | a :: l, k + 1, x, h, h0 => by have := wVal_pos (l := l) (k := k) (by simpa using h) h0; unfold wVal; omega
def TrimOf (l : List Nat) (n : Nat) : Prop := (∀ x ∈ l.drop n, x = 0) ∧ (n = 0 ∨ ∃ x, l[n - 1]? = some x ∧ x ≠ 0)
theorem TrimOf.val {l : List Nat} {n : Nat} (h : TrimOf l n) : wVal (l.take n) = wVal l := wVal_take n h.1
theorem TrimOf.zero {l : List Nat} {n : Nat} (h : TrimOf l n) (hn : n ≤ l.length) : wVal l = 0 ↔ n = 0 := by
 constructor
 ·intro h0
  rcases h.2 with h1 | ⟨x, hx, hx0⟩
  ·exact h1
  ·have := wVal_pos hx hx0; omega
 ·intro h0
  subst h0
  exact wVal_zero (by simpa using h.1)
theorem drop_drop_zero {l : List Nat} {n : Nat} (hn : n < l.length) (h : ∀ x ∈ l.drop (n + 1), x = 0) (h0 : l[n] = 0) : ∀ x ∈ l.drop n, x = 0 := fun x hx => by
 rw [List.drop_eq_getElem_cons hn] at hx
 rcases List.mem_cons.1 hx with rfl | hx
 ·exact h0
 ·exact h x hx
set_option maxRecDepth 100000 in
theorem trim_ok (F : Nat → Prop) (g c : Nat) (l : List Nat) (w : World) (h : SlA u32E F w (some ⟨g, 0, none⟩) c l) :
  Calls Tryz.prog 153 #[.slice (some ⟨g, 0, none⟩) l.length c] w fun e w' => ∃ n, e = .returned (.slice (some ⟨g, 0, none⟩) n c) ∧ n ≤ l.length ∧ TrimOf l n ∧ w = w' := by
 have H := Lib.hid h
 have hle := h.le
 have hc := h.1
 have hcm := h.2.1
 unfold maxLen at hcm
 clear h
 go_enter Tryz.func153, Tryz.ntmps153
 go_wp2_with fail
 go_loop [3] (fun nv => ∃ n : Nat, n ≤ l.length ∧ nv = .int .i64 n ∧ Hid (∀ x ∈ l.drop n, x = 0)) (fun nv => (intOf nv).toNat)
 case atStart => exact ⟨l.length, Nat.le_refl _, rfl, (fun x hx => by simp at hx)⟩
 case round =>
  obtain ⟨n, hn, rfl, HZ⟩ := hrel
  by_cases h0 : n = 0
  ·subst h0
   have d0 : decide (0 < 0) = false := rfl
   have HT : Hid (TrimOf l 0) := ⟨HZ.out, .inl rfl⟩
   clear HZ
   go_wp2_with fail
   go_ret
   exact ⟨0, rfl, Nat.zero_le _, HT.out, rfl⟩
  ·obtain ⟨m, rfl⟩ : ∃ m, n = m + 1 := ⟨n - 1, by omega⟩
   obtain ⟨b, off, e, _, c0, hw⟩ := H.out.u32_ (k := m) (by omega)
   injection e with e; injection e with e1 e2
   subst e1; subst e2
   rw [Nat.zero_add] at c0
   have e1 : ((m + 1 : Nat) : Int) - 1 = (m : Int) := by omega
   have d0 : decide (0 < m + 1) = true := decide_eq_true (by omega)
   by_cases hx : l[m] = 0
   ·have HZ2 : Hid (∀ x ∈ l.drop m, x = 0) := drop_drop_zero (by omega) HZ.out hx
    rw [hx] at c0
    clear HZ hx
    go_wp2_with fail
    go_round
    case rel => exact ⟨m, by omega, by go_num, HZ2⟩
    case measure => simp [intOf]
   ·have HT : Hid (TrimOf l (m + 1)) := ⟨HZ.out, .inr ⟨l[m], by rw [Nat.add_sub_cancel]; exact List.getElem?_eq_getElem (by omega), hx⟩⟩
    generalize l[m] = x at c0 hx hw
    have d2 : ((x : Int) == 0) = false := by rw [beq_eq_false_iff_ne]; omega
    clear HZ
    go_wp2_with fail
    go_ret
    exact ⟨m + 1, rfl, by omega, HT.out, rfl⟩
def wsOf (x : Nat) : List Nat := [x % 4294967296, x / 4294967296]
theorem wsOf_val (x : Nat) : wVal (wsOf x) = x := by unfold wsOf; simp only [wVal]; omega
theorem ws_sl {W : World} {g : Nat} (l : List Nat) {t : TypeId} {F : Nat → Prop} {cs : Array Value} (hg : W.heap[g]? = some (.cells cs t (0, 0))) (hcs : cs.toList = l.map fun n => .int .u32 (n : Int)) (hF : F g) (hx : ∀ x ∈ l, x < 4294967296) (hl : l.length ≤ maxLen) : SlA u32E F W (some ⟨g, 0, none⟩) l.length l := by
 refine ⟨Nat.le_refl _, hl, fun i x hi => ⟨g, 0, [.int .u32 (x : Int)], rfl, hF, ?_, rfl, hx x (List.mem_of_getElem? hi)⟩⟩
 intro j u hj
 match j, hj with
 | 0, hj =>
  simp at hj; subst hj
  have h1 := cell_of_row W g (0 + (i * 1 + 0)) cs t (0, 0) hg
  rw [show u32E.sz = 1 from rfl, h1, ← Array.getElem?_toList, hcs]
  simp [hi]
set_option maxRecDepth 100000 in
theorem words_ok (x : Nat) (w : World) (hx : x < 18446744073709551616) :
  Calls Tryz.prog 127 #[.int .u64 (x : Int)] w fun e w' => ∃ n, e = .returned (.slice (some ⟨w.heap.size, 0, none⟩) n 2) ∧ n ≤ 2 ∧ TrimOf (wsOf x) n ∧
   SlA u32E (· = w.heap.size) w' (some ⟨w.heap.size, 0, none⟩) 2 (wsOf x) ∧ Below w.heap.size w w' ∧ w'.heap.size = w.heap.size + 1 := by
 obtain ⟨W, hW⟩ : ∃ W, W = w.alloc (.cells #[.int .u32 ((x : Int) % 4294967296), .int .u32 ((x : Int) / 4294967296)] 202) := ⟨_, rfl⟩
 have hg : W.heap[w.heap.size]? = some (.cells #[.int .u32 ((x : Int) % 4294967296), .int .u32 ((x : Int) / 4294967296)] 202 (0, 0)) := by rw [hW]; exact heap_alloc_new _ _
 have hs : SlA u32E (· = w.heap.size) W (some ⟨w.heap.size, 0, none⟩) 2 (wsOf x) := ws_sl (wsOf x) hg rfl rfl (fun y hy => by
  simp only [wsOf, List.mem_cons, List.not_mem_nil, or_false] at hy
  rcases hy with rfl | rfl <;> omega) (by unfold maxLen; show 2 ≤ _; omega)
 have HT := Lib.hid (trim_ok _ _ _ _ W hs)
 have HS := Lib.hid hs
 have HB : Hid (Below w.heap.size w W ∧ W.heap.size = w.heap.size + 1) := ⟨by rw [hW]; exact (Below.refl _ _).alloc (Nat.le_refl _) _, by rw [hW]; simp⟩
 clear hg hs
 go_enter Tryz.func127, Tryz.ntmps127
 go_wp2_with fail
 rw [← hW]
 clear hW
 refine HT.out.mono ?_
 rintro e w2 ⟨n, rfl, hn, ht, rfl⟩
 go_wp2_with fail
 go_ret
 exact ⟨n, rfl, hn, ht, HS.out, HB.out⟩
theorem give_ok (g : Nat) (b0 neg : Bool) (v0 : Value) (A : Option Addr) (n c : Nat) (t : TypeId) (w : World) (hg : w.heap[g]? = some (.cells #[.bool b0, v0] t (0, 0))) (hc : n ≤ 9223372036854775807) :
  Calls Tryz.prog 126 #[.pointer (some ⟨g, 0, none⟩), .bool neg, .slice A n c] w fun e w' => e = .returned (.pointer (some ⟨g, 0, none⟩)) ∧
   w'.heap[g]? = some (.cells #[.bool (neg && decide (0 < n)), .slice A n c] t (0, 0)) ∧ w'.heap.size = w.heap.size ∧ Frm (· = g) w w' := by
 have c0 := cell_of_row w g 0 _ _ _ hg
 have c1 := cell_of_row w g 1 _ _ _ hg
 simp at c0 c1
 have hlt := block_lt hg
 have HG := Lib.hid hg
 have hfz : ∀ j, w.frozen? ⟨g, j, none⟩ = false := fun j => by simp [World.frozen?, hg]
 have f0 := hfz 0
 have f1 := hfz 1
 clear hg hfz
 have hend : ∀ u0 u1 : Value, ((w.setCell ⟨g, 1, none⟩ u1).setCell ⟨g, 0, none⟩ u0).heap[g]? = some (.cells #[u0, u1] t (0, 0)) ∧ ((w.setCell ⟨g, 1, none⟩ u1).setCell ⟨g, 0, none⟩ u0).heap.size = w.heap.size ∧ Frm (· = g) w ((w.setCell ⟨g, 1, none⟩ u1).setCell ⟨g, 0, none⟩ u0) := fun u0 u1 =>
  ⟨by simp [World.setCell, Array.getElem?_modify, HG.out], by rw [size_setCell, size_setCell], ((Frm.refl (· = g) w).setCell (p := ⟨g, 1, none⟩) (.inl rfl) u1).setCell (p := ⟨g, 0, none⟩) (.inl rfl) u0⟩
 have HE := Lib.hid hend
 clear hend
 cases neg with
 | true =>
  go_enter Tryz.func126, Tryz.ntmps126
  go_wp2_with fail
  go_ret
  exact ⟨rfl, HE.out _ _⟩
 | false =>
  go_enter Tryz.func126, Tryz.ntmps126
  go_wp2_with fail
  go_ret
  exact ⟨rfl, HE.out _ _⟩
structure BigAt (w : World) (g : Nat) (f : Bool) (V : Nat) : Prop where
 ex : ∃ (A : Option Addr) (n c : Nat) (l : List Nat), w.heap[g]? = some (.cells #[.bool f, .slice A n c] 98 (0, 0)) ∧ n ≤ l.length ∧ TrimOf l n ∧ SlA u32E (· < w.heap.size) w A c l ∧ wVal l = V ∧ l.length ≤ 1000 ∧ (f = true → 0 < V)
theorem TrimOf.pos {l : List Nat} {n : Nat} (h : TrimOf l n) (hn : n ≤ l.length) : decide (0 < n) = decide (0 < wVal l) := by
 have := h.zero hn
 by_cases h0 : n = 0
 ·rw [h0, this.2 h0]
 ·rw [decide_eq_true (by omega), decide_eq_true (by have : wVal l ≠ 0 := fun e => h0 (this.1 e); omega)]
theorem setInt_ok (x : Int) (g : Nat) (b0 : Bool) (v0 : Value) (w : World) (hx : -9223372036854775808 ≤ x ∧ x ≤ 9223372036854775807) (hg : w.heap[g]? = some (.cells #[.bool b0, v0] 98 (0, 0))) :
  Calls Tryz.prog 89 #[.pointer (some ⟨g, 0, none⟩), .int .i64 x] w fun e w' => e = .returned (.pointer (some ⟨g, 0, none⟩)) ∧ BigAt w' g (decide (x < 0)) x.natAbs ∧ Frm (· = g) w w' := by
 have hend : ∀ (W2 w3 : World) (n : Nat), Below w.heap.size w W2 → W2.heap.size = w.heap.size + 1 → n ≤ 2 → TrimOf (wsOf x.natAbs) n → SlA u32E (· = w.heap.size) W2 (some ⟨w.heap.size, 0, none⟩) 2 (wsOf x.natAbs) →
   w3.heap[g]? = some (.cells #[.bool (decide (x < 0) && decide (0 < n)), .slice (some ⟨w.heap.size, 0, none⟩) n 2] 98 (0, 0)) → w3.heap.size = W2.heap.size → Frm (· = g) W2 w3 → BigAt w3 g (decide (x < 0)) x.natAbs ∧ Frm (· = g) w w3 := fun W2 w3 n h1 h2 h3 h4 h5 h6 h7 h8 => by
  have hlt := block_lt hg
  have hfl : (decide (x < 0) && decide (0 < n)) = decide (x < 0) := by
   rw [h4.pos h3, wsOf_val]
   by_cases h0 : x < 0
   ·rw [decide_eq_true h0, decide_eq_true (by omega)]; rfl
   ·rw [decide_eq_false h0]; rfl
  rw [hfl] at h6
  refine ⟨⟨some ⟨w.heap.size, 0, none⟩, n, 2, wsOf x.natAbs, h6, h3, h4, ?_, wsOf_val _, by show 2 ≤ 1000; omega, fun e => by have := of_decide_eq_true e; omega⟩, (Frm.ofBelow h1).trans h8 (fun _ h => h) (fun _ h => .inl h)⟩
  exact (h5.keep (h8.same (G := (· = w.heap.size)) (fun k hk => by omega) (fun k hk hk2 => by omega))).more fun k hk => by omega
 have hlt := block_lt hg
 have HE := Lib.hid hend
 have HW := Lib.hid (words_ok x.natAbs w (by omega))
 have HGV : Hid (∀ (W : World) (n : Nat), Below w.heap.size w W → n ≤ 2 → Calls Tryz.prog 126 #[.pointer (some ⟨g, 0, none⟩), .bool (decide (x < 0)), .slice (some ⟨w.heap.size, 0, none⟩) n 2] W fun e w' => e = .returned (.pointer (some ⟨g, 0, none⟩)) ∧
   w'.heap[g]? = some (.cells #[.bool (decide (x < 0) && decide (0 < n)), .slice (some ⟨w.heap.size, 0, none⟩) n 2] 98 (0, 0)) ∧ w'.heap.size = W.heap.size ∧ Frm (· = g) W w') := fun W n hb hn => give_ok g b0 _ v0 _ n 2 _ W ((hb.block g hlt).trans hg) (by omega)
 have hx1 := hx.1
 have hx2 := hx.2
 clear hend hg hx
 by_cases h0 : x < 0
 ·have dx : decide (x < 0) = true := decide_eq_true h0
  have H0 := Lib.hid h0
  rw [dx] at HE HGV ⊢
  obtain ⟨k, hk⟩ : ∃ k : Nat, k = x.natAbs := ⟨_, rfl⟩
  rw [← hk] at HE HW ⊢
  have hx3 : x = -(k : Int) := by omega
  clear hk
  subst hx3
  go_enter Tryz.func89, Tryz.ntmps89
  have hwr : IntKind.u64.wrap (-IntKind.u64.wrap (-(k : Int))) = (k : Int) := by
   show (-((-(k : Int)) % 18446744073709551616)) % 18446744073709551616 = (k : Int)
   omega
  go_wp2_with fail
  clear hwr
  refine HW.out.mono ?_
  rintro e w2 ⟨n, rfl, hn, ht, hs, hb, hz⟩
  have HQ := Lib.hid (fun w3 h1 h2 h3 => HE.out w2 w3 n hb hz hn ht hs h1 h2 h3)
  have HGV2 := Lib.hid (HGV.out w2 n hb hn)
  clear hn ht hs hb hz HGV HE HW
  go_wp2_with fail
  refine HGV2.out.mono ?_
  rintro e w3 ⟨rfl, h1, h2, h3⟩
  have HR := Lib.hid (HQ.out w3 h1 h2 h3)
  clear h1 h2 h3 HQ HGV2
  go_wp2_with fail
  go_ret
  exact ⟨rfl, HR.out⟩
 ·have dx : decide (x < 0) = false := decide_eq_false h0
  rw [dx] at HE HGV ⊢
  obtain ⟨k, rfl⟩ : ∃ k : Nat, x = (k : Int) := ⟨x.natAbs, by omega⟩
  rw [Int.natAbs_natCast] at HE HW ⊢
  go_enter Tryz.func89, Tryz.ntmps89
  go_wp2_with fail
  refine HW.out.mono ?_
  rintro e w2 ⟨n, rfl, hn, ht, hs, hb, hz⟩
  have HQ := Lib.hid (fun w3 h1 h2 h3 => HE.out w2 w3 n hb hz hn ht hs h1 h2 h3)
  have HGV2 := Lib.hid (HGV.out w2 n hb hn)
  clear hn ht hs hb hz HGV HE HW
  go_wp2_with fail
  refine HGV2.out.mono ?_
  rintro e w3 ⟨rfl, h1, h2, h3⟩
  have HR := Lib.hid (HQ.out w3 h1 h2 h3)
  clear h1 h2 h3 HQ HGV2
  go_wp2_with fail
  go_ret
  exact ⟨rfl, HR.out⟩
theorem newInt_ok (x : Int) (w : World) (hx : -9223372036854775808 ≤ x ∧ x ≤ 9223372036854775807) :
  Calls Tryz.prog 43 #[.int .i64 x] w fun e w' => ∃ g, e = .returned (.pointer (some ⟨g, 0, none⟩)) ∧ BigAt w' g (decide (x < 0)) x.natAbs ∧ Below w.heap.size w w' := by
 have HS := Lib.hid (fun W g v0 hg => setInt_ok x g false v0 W hx hg)
 go_enter Tryz.func43, Tryz.ntmps43
 go_wp2_with fail
 refine (HS.out _ w.heap.size _ (heap_alloc_new _ _)).mono ?_
 rintro e w2 ⟨rfl, h1, h2⟩
 have HR := Lib.hid (And.intro h1 (((Below.refl w.heap.size w).alloc (Nat.le_refl _) _).trans (h2.below (by simp) (fun k hk => by omega))))
 clear h1 h2
 go_wp2_with fail
 go_ret
 exact ⟨_, rfl, HR.out⟩
theorem or_add (r a : Nat) (h : a < 4294967296) (hr : r * 4294967296 + a < 18446744073709551616) : bits BinOp.or IntKind.u64 ((r : Int) * 4294967296) (a : Int) = ((r * 4294967296 + a : Nat) : Int) := by
 have h1 : r * 4294967296 ||| a = r * 4294967296 + a := by
  have := Nat.shiftLeft_add_eq_or_of_lt (i := 32) (b := a) (by simpa using h) r
  rw [Nat.shiftLeft_eq] at this
  exact this.symm
 have h2 : (((r : Int) * 4294967296 % 2 ^ IntKind.u64.bits).toNat ||| a % 2 ^ IntKind.u64.bits) = r * 4294967296 + a := by
  have e1 : ((r : Int) * 4294967296 % 2 ^ IntKind.u64.bits).toNat = r * 4294967296 := by
   show ((r : Int) * 4294967296 % 18446744073709551616).toNat = _
   omega
  have e2 : a % 2 ^ IntKind.u64.bits = a := by
   show a % 18446744073709551616 = a
   omega
  rw [e1, e2, h1]
 unfold bits
 simp only [BitVec.toNat_or, BitVec.toNat_ofInt]
 have h3 : (((a : Int) % ((2 ^ IntKind.u64.bits : Nat) : Int)).toNat) = a % 2 ^ IntKind.u64.bits := by
  show (((a : Int) % ((18446744073709551616 : Nat) : Int)).toNat) = a % 18446744073709551616
  omega
 have h4 : (((r : Int) * 4294967296 % ((2 ^ IntKind.u64.bits : Nat) : Int)).toNat) = ((r : Int) * 4294967296 % 2 ^ IntKind.u64.bits).toNat := by
  show (((r : Int) * 4294967296 % ((18446744073709551616 : Nat) : Int)).toNat) = ((r : Int) * 4294967296 % 18446744073709551616).toNat
  omega
 rw [h3, h4, h2]
 show (((r * 4294967296 + a : Nat) : Int)) % 18446744073709551616 = _
 omega
theorem u32_info : (Tryz.prog.info? 202).map (fun i => (i.zero, i.size, i.bytes)) = some (some (.int .u32 0), 1, 4) := by kernel_rfl
def u32v (n : Nat) : Value := .int .u32 (n : Int)
theorem twin_ok (F : Nat → Prop) (A : Option Addr) (c : Nat) (l : List Nat) (w : World) (h : SlA u32E F w A c l) (hl : l.length ≤ 1000) :
  Calls Tryz.prog 149 #[.slice A l.length c] w fun e w' => ∃ A' c', e = .returned (.slice A' l.length c') ∧ SlA u32E (fun k => w.heap.size ≤ k ∧ k < w'.heap.size) w' A' c' l ∧ Below w.heap.size w w' := by
 have hs : Src Tryz.prog 1 96 (.slice A l.length c) l.length (l.flatMap fun x => [u32v x]) w := Src.of_sl (P := Tryz.prog) (tx := 96) h Tryz.underlying96 (fun x => [u32v x]) (fun cs x hx => hx.1) (fun _ => rfl) (fun x u hu => by simp at hu; subst hu; rfl)
 have HW : Hid (∀ x ∈ l, x < 4294967296) := fun x hx => by
  obtain ⟨i, hi⟩ := List.getElem?_of_mem hx
  obtain ⟨b, off, cs, _, _, _, hr⟩ := h.2.2 i x hi
  exact hr.2
 have HS := Lib.hid hs
 clear hs h
 go_enter Tryz.func149, Tryz.ntmps149
 go_wp2_with (at_builtin; refine wpList_append_src (w := w) rfl _ _ 96 96 rfl w.heap.size 202 _ 1 4 Tryz.underlying96 u32_info rfl (by decide) (.slice none 0 0) 0 [] rfl (World.ownsRow_nil _ _ _ _) (.slice A l.length c) rfl l.length _ HS.out ?_ ?_ (Nat.le_refl _) (Below.refl _ _) (Nat.le_refl _) ?_)
 ·unfold maxLen; omega
 ·omega
 ·intro v1 w1 hown hg hb hat
  try rw [Nat.zero_add, List.nil_append] at hown
  obtain ⟨A', c', hv, _, hsl⟩ := own_sl (E := u32E) (l := l) (fun x => [u32v x]) (fun _ => rfl) (by decide) hown (fun x hx => ⟨rfl, HW.out x hx⟩)
  subst hv
  have HR : Hid (SlA u32E (fun k => w.heap.size ≤ k ∧ k < w1.heap.size) w1 A' c' l) := by
   refine ⟨hsl.1, hsl.2.1, fun i x hi => ?_⟩
   obtain ⟨b, off, cs, e, hb2, hc2, hr2⟩ := hsl.2.2 i x hi
   refine ⟨b, off, cs, e, ⟨?_, hb2⟩, hc2, hr2⟩
   have := hown.lt b (by rw [e]; rfl)
   omega
  have HB := Lib.hid hb
  clear hown hg hb hat hsl
  go_wp2_with fail
  go_ret
  exact ⟨A', c', rfl, HR.out, HB.out⟩
end Go.Proofs.YtfndhfekbbbliaaGreatDoor

/-
  The statements' own whole numbers, further: compare, divide (of at most two words), Set, QuoRem, Quo, Rem, DivMod, Mod. No condition but that the divisor is not 0.
-/
namespace Go.Proofs.YtfndhfekbbbliaaGreatDoor
open Go.RowKit Go.ChangeShapes Go.WideShapes
set_option linter.unusedVariables false
theorem wVal_split : ∀ (l : List Nat) (m : Nat), m ≤ l.length → wVal l = wVal (l.take m) + 4294967296 ^ m * wVal (l.drop m)
 | l, 0, _ => by simp [wVal]
 | [], m + 1, h => by simp at h
 | a :: l, m + 1, h => by
  rw [List.take_succ_cons, List.drop_succ_cons, wVal, wVal, wVal_split l m (by simpa using h), Nat.pow_succ, Nat.mul_add, Nat.mul_comm (4294967296 ^ m) 4294967296, Nat.mul_assoc]
  omega
theorem wVal_lt : ∀ {l : List Nat}, (∀ x ∈ l, x < 4294967296) → wVal l < 4294967296 ^ l.length
 | [], _ => by simp [wVal]
 | a :: l, h => by
  have h1 := h a List.mem_cons_self
  have h2 := wVal_lt (l := l) fun x hx => h x (List.mem_cons_of_mem _ hx)
  rw [wVal, List.length_cons, Nat.pow_succ]
  omega
theorem wVal_ge {l : List Nat} {k x : Nat} (h : l[k]? = some x) (h0 : x ≠ 0) : 4294967296 ^ k ≤ wVal l := by
 have hk : k < l.length := (List.getElem?_eq_some_iff.1 h).1
 rw [wVal_split l k (by omega), List.drop_eq_getElem_cons hk, wVal]
 have e : l[k] = x := (List.getElem?_eq_some_iff.1 h).2
 have h1 : 4294967296 ^ k * 1 ≤ 4294967296 ^ k * (l[k] + 4294967296 * wVal (l.drop (k + 1))) := Nat.mul_le_mul_left _ (by omega)
 omega
theorem words_lt {F : Nat → Prop} {w : World} {A : Option Addr} {c : Nat} {l : List Nat} (h : SlA u32E F w A c l) : ∀ x ∈ l, x < 4294967296 := fun x hx => by
 obtain ⟨i, hi⟩ := List.getElem?_of_mem hx
 obtain ⟨b, off, cs, _, _, _, hr⟩ := h.2.2 i x hi
 exact hr.2
def wCmp (a b : Nat) : Int := if a < b then -1 else if a = b then 0 else 1
theorem cmp_len {a b : List Nat} (hb : TrimOf b b.length) (ha : ∀ x ∈ a, x < 4294967296) (h : a.length < b.length) : wVal a < wVal b := by
 have h1 := wVal_lt ha
 rcases hb.2 with h2 | ⟨x, hx, h0⟩
 ·omega
 ·exact Nat.lt_of_lt_of_le h1 (Nat.le_trans (Nat.pow_le_pow_right (by decide) (by omega)) (wVal_ge hx h0))
theorem cmp_at {a b : List Nat} {m : Nat} (ha : ∀ x ∈ a, x < 4294967296) (h1 : m < a.length) (h2 : m < b.length) (hd : a.drop (m + 1) = b.drop (m + 1)) (h : a[m] < b[m]) : wVal a < wVal b := by
 rw [wVal_split a m (by omega), wVal_split b m (by omega), List.drop_eq_getElem_cons h1, List.drop_eq_getElem_cons h2, wVal, wVal, hd]
 have h3 := wVal_lt (l := a.take m) fun x hx => ha x (List.mem_of_mem_take hx)
 rw [List.length_take, Nat.min_eq_left (by omega)] at h3
 have h4 : 4294967296 ^ m * (a[m] + 4294967296 * wVal (b.drop (m + 1)) + 1) ≤ 4294967296 ^ m * (b[m] + 4294967296 * wVal (b.drop (m + 1))) := Nat.mul_le_mul_left _ (by omega)
 rw [Nat.mul_add, Nat.mul_one] at h4
 omega
def WordsAt (w : World) (F : Nat → Prop) (A : Option Addr) (n c V : Nat) : Prop := ∃ l : List Nat, l.length = n ∧ TrimOf l l.length ∧ SlA u32E F w A c l ∧ wVal l = V ∧ n ≤ 1000
theorem WordsAt.of_trim {w : World} {F : Nat → Prop} {A : Option Addr} {c n : Nat} {l : List Nat} (hn : n ≤ l.length) (ht : TrimOf l n) (hs : SlA u32E F w A c l) (hl : l.length ≤ 1000) : WordsAt w F A n c (wVal l) := by
 have e : (l.take n).length = n := by rw [List.length_take]; omega
 refine ⟨l.take n, e, ⟨by rw [List.drop_eq_nil_of_le (Nat.le_refl _)]; nofun, ?_⟩, hs.head hn, ht.val, by omega⟩
 rw [e]
 rcases ht.2 with h | ⟨x, hx, h0⟩
 ·exact .inl h
 ·by_cases h1 : n = 0
  ·exact .inl h1
  ·exact .inr ⟨x, by rw [List.getElem?_take, if_pos (by omega)]; exact hx, h0⟩
theorem WordsAt.keep {w w' : World} {F : Nat → Prop} {A : Option Addr} {c n V : Nat} (h : WordsAt w F A n c V) (hs : Same F w w') : WordsAt w' F A n c V := by
 obtain ⟨l, h1, h2, h3, h4, h5⟩ := h; exact ⟨l, h1, h2, h3.keep hs, h4, h5⟩
theorem WordsAt.more {w : World} {F F' : Nat → Prop} {A : Option Addr} {c n V : Nat} (h : WordsAt w F A n c V) (hF : ∀ k, F k → F' k) : WordsAt w F' A n c V := by
 obtain ⟨l, h1, h2, h3, h4, h5⟩ := h; exact ⟨l, h1, h2, h3.more hF, h4, h5⟩
theorem WordsAt.nil (w : World) (F : Nat → Prop) : WordsAt w F none 0 0 0 := ⟨[], rfl, ⟨nofun, .inl rfl⟩, SlA.nil _ _ _ _ _ (Nat.zero_le _), rfl, by omega⟩
theorem WordsAt.zero {w : World} {F : Nat → Prop} {A : Option Addr} {c n V : Nat} (h : WordsAt w F A n c V) : V = 0 ↔ n = 0 := by
 obtain ⟨l, h1, h2, h3, h4, h5⟩ := h
 rw [← h4, ← h1]; exact h2.zero (Nat.le_refl _)
theorem WordsAt.len {w : World} {F : Nat → Prop} {A : Option Addr} {c n V k : Nat} (h : WordsAt w F A n c V) (hV : V < 4294967296 ^ k) : n ≤ k := by
 obtain ⟨l, h1, h2, h3, h4, h5⟩ := h
 rcases h2.2 with h6 | ⟨x, hx, h0⟩
 ·omega
 ·have h7 := wVal_ge hx h0
  rw [h4] at h7
  rcases Nat.lt_or_ge k n with h8 | h8
  ·have h9 : 4294967296 ^ k ≤ 4294967296 ^ (l.length - 1) := Nat.pow_le_pow_right (by decide) (by omega)
   omega
  ·exact h8
theorem BigAt.words {w : World} {g : Nat} {f : Bool} {V : Nat} (h : BigAt w g f V) : ∃ A n c, w.heap[g]? = some (.cells #[.bool f, .slice A n c] 98 (0, 0)) ∧ WordsAt w (· < w.heap.size) A n c V ∧ (f = true → 0 < V) := by
 obtain ⟨A, n, c, l, hg, hn, ht, hs, hv, hl, hf⟩ := h.ex
 exact ⟨A, n, c, hg, by rw [← hv]; exact WordsAt.of_trim hn ht hs hl, hf⟩
theorem BigAt.of {w : World} {g : Nat} {f : Bool} {V n c : Nat} {A : Option Addr} (hg : w.heap[g]? = some (.cells #[.bool f, .slice A n c] 98 (0, 0))) (h : WordsAt w (· < w.heap.size) A n c V) (hf : f = true → 0 < V) : BigAt w g f V := by
 obtain ⟨l, h1, h2, h3, h4, h5⟩ := h
 exact ⟨A, n, c, l, hg, by omega, by rw [← h1]; exact h2, h3, h4, by omega, hf⟩
def IntObj (w : World) (k : Nat) : Prop := ∃ (f : Bool) (A : Option Addr) (n c : Nat), w.heap[k]? = some (.cells #[.bool f, .slice A n c] 98 (0, 0))
theorem u32_keep {w w' : World} {A : Option Addr} {c : Nat} {l : List Nat} {F : Nat → Prop} (h4 : SlA u32E (· < w.heap.size) w A c l) (hb : Frm F w w') (hF : ∀ k, F k → IntObj w k) : SlA u32E (· < w'.heap.size) w' A c l := by
 refine ⟨h4.1, h4.2.1, fun i x hx => ?_⟩
 obtain ⟨b, off, cs, e, hb2, hc, hr⟩ := h4.2.2 i x hx
 refine ⟨b, off, cs, e, Nat.lt_of_lt_of_le hb2 hb.size, fun j u hj => ?_, hr⟩
 have h8 := hc j u hj
 by_cases hFb : F b
 ·obtain ⟨f, A', n, c', ho⟩ := hF b hFb
  rw [hr.1] at hj
  match j, hj with
  | 0, hj =>
   simp at hj; subst hj
   rw [cell_of_row w b _ _ _ _ ho] at h8
   generalize off + (i * u32E.sz + 0) = p at h8
   match p, h8 with
   | 0, h8 => simp at h8
   | 1, h8 => simp at h8
 ·exact (World.cell?_of_block (a := ⟨b, _, none⟩) (hb.block b hb2 hFb)).trans h8
theorem WordsAt.frm {w w' : World} {A : Option Addr} {n c V : Nat} {F : Nat → Prop} (h : WordsAt w (· < w.heap.size) A n c V) (hb : Frm F w w') (hF : ∀ k, F k → IntObj w k) : WordsAt w' (· < w'.heap.size) A n c V := by
 obtain ⟨l, h2, h3, h4, h5, h6⟩ := h; exact ⟨l, h2, h3, u32_keep h4 hb hF, h5, h6⟩
theorem BigAt.frm {w w' : World} {g : Nat} {f : Bool} {V : Nat} {F : Nat → Prop} (h : BigAt w g f V) (hb : Frm F w w') (hg : ¬ F g) (hF : ∀ k, F k → IntObj w k) : BigAt w' g f V := by
 obtain ⟨A, n, c, h1, h2, h7⟩ := h.words
 exact BigAt.of (A := A) (n := n) (c := c) ((hb.block g (block_lt h1) hg).trans h1) (h2.frm hb hF) h7
theorem BigAt.below {w w' : World} {g : Nat} {f : Bool} {V : Nat} (h : BigAt w g f V) (hb : Below w.heap.size w w') : BigAt w' g f V := h.frm (F := fun _ => False) (Frm.ofBelow hb) id (fun _ h => h.elim)
theorem IntObj.frm {w w' : World} {g : Nat} {F : Nat → Prop} (h : IntObj w g) (hb : Frm F w w') (hg : ¬ F g) : IntObj w' g := by
 obtain ⟨f, A, n, c, h1⟩ := h; exact ⟨f, A, n, c, (hb.block g (block_lt h1) hg).trans h1⟩
theorem words_at (x : Nat) (w : World) (hx : x < 18446744073709551616) :
  Calls Tryz.prog 127 #[.int .u64 (x : Int)] w fun e w' => ∃ A n c, e = .returned (.slice A n c) ∧ WordsAt w' (fun k => w.heap.size ≤ k ∧ k < w'.heap.size) A n c x ∧ Below w.heap.size w w' := by
 refine (words_ok x w hx).mono ?_
 rintro e w2 ⟨n, rfl, hn, ht, hs, hb, hz⟩
 refine ⟨_, n, 2, rfl, ?_, hb⟩
 have h := WordsAt.of_trim (l := wsOf x) hn ht (hs.more (F' := fun k => w.heap.size ≤ k ∧ k < w2.heap.size) fun k hk => by omega) (by show 2 ≤ 1000; omega)
 rw [wsOf_val] at h; exact h
theorem twin_at (F : Nat → Prop) (A : Option Addr) (n c V : Nat) (w : World) (h : WordsAt w F A n c V) :
  Calls Tryz.prog 149 #[.slice A n c] w fun e w' => ∃ A' c', e = .returned (.slice A' n c') ∧ WordsAt w' (fun k => w.heap.size ≤ k ∧ k < w'.heap.size) A' n c' V ∧ Below w.heap.size w w' := by
 obtain ⟨l, rfl, h2, h3, h4, h5⟩ := h
 refine (twin_ok F A c l w h3 h5).mono ?_
 rintro e w2 ⟨A', c', rfl, hs, hb⟩
 exact ⟨A', c', rfl, ⟨l, rfl, h2, hs, h4, h5⟩, hb⟩
set_option maxRecDepth 100000 in
theorem cmp_ok (F G : Nat → Prop) (A B : Option Addr) (n m c d U V : Nat) (w : World) (ha : WordsAt w F A n c U) (hb : WordsAt w G B m d V) :
  Calls Tryz.prog 151 #[.slice A n c, .slice B m d] w fun e w' => e = .returned (.int .i64 (wCmp U V)) ∧ ∃ q, w' = w.drewN q := by
 obtain ⟨la, rfl, ta, sa, va, na⟩ := ha
 obtain ⟨lb, rfl, tb, sb, vb, nb⟩ := hb
 have wa := words_lt sa
 have wb := words_lt sb
 have HA := Lib.hid sa
 have HB := Lib.hid sb
 have hca := sa.1
 have hcb := sb.1
 clear sa sb
 by_cases hl : la.length = lb.length
 ·have HT : Hid (∀ k, (h1 : k < la.length) → (h2 : k < lb.length) → la.drop (k + 1) = lb.drop (k + 1) → (la[k] < lb[k] → wCmp U V = -1) ∧ (lb[k] < la[k] → wCmp U V = 1)) := fun k h1 h2 hd => by
   refine ⟨fun h => ?_, fun h => ?_⟩
   ·have := cmp_at wa h1 h2 hd h
    rw [va, vb] at this
    unfold wCmp; rw [if_pos this]
   ·have := cmp_at wb h2 h1 hd.symm h
    rw [va, vb] at this
    unfold wCmp; rw [if_neg (by omega), if_neg (by omega)]
  have HE : Hid (la = lb → wCmp U V = 0) := fun e => by
   subst e
   have : U = V := va.symm.trans vb
   unfold wCmp; rw [if_neg (by omega), if_pos this]
  clear ta tb va vb wa wb
  obtain ⟨N, hN⟩ : ∃ N, N = la.length := ⟨_, rfl⟩
  have HNB : Hid (lb.length = N) := hl.symm.trans hN.symm
  rw [← hl]
  rw [← hl] at nb hcb
  rw [← hN] at hca hcb na nb ⊢
  have HNA : Hid (la.length = N) := hN.symm
  clear hl hN
  go_enter Tryz.func151, Tryz.ntmps151
  go_wp2_with fail
  go_loopw [5] (fun iv wx => ∃ k q : Nat, k ≤ N ∧ iv = .int .i64 ((k : Int) - 1) ∧ Hid (la.drop k = lb.drop k) ∧ wx = w.drewN q) (fun iv _ => (intOf iv + 1).toNat)
  case atStart => exact ⟨N, 0, Nat.le_refl _, rfl, (by have h1 := HNA.out; have h2 := HNB.out; show _ = _; rw [List.drop_eq_nil_of_le (by omega), List.drop_eq_nil_of_le (by omega)]), rfl⟩
  case round =>
   obtain ⟨k, q, hk, rfl, HD, rfl⟩ := hrel
   by_cases h0 : k = 0
   ·subst h0
    have HR : Hid (wCmp U V = 0) := HE.out (by simpa using HD.out)
    clear HE HT HD
    go_wp2_with fail
    go_ret
    exact ⟨by rw [HR.out]; rfl, q, rfl⟩
   ·obtain ⟨m, rfl⟩ : ∃ m, k = m + 1 := ⟨k - 1, by omega⟩
    have hma : m < la.length := by have := HNA.out; omega
    have hmb : m < lb.length := by have := HNB.out; omega
    obtain ⟨b, off, rfl, _, c0, hw0⟩ := HA.out.u32_ hma
    obtain ⟨b', off', rfl, _, d0, hw1⟩ := HB.out.u32_ hmb
    have e1 : ((m + 1 : Nat) : Int) - 1 = (m : Int) := by omega
    have HTM := Lib.hid (HT.out m hma hmb HD.out)
    have HDE : Hid (la[m] = lb[m] → la.drop m = lb.drop m) := fun e => by rw [List.drop_eq_getElem_cons hma, List.drop_eq_getElem_cons hmb, e, HD.out]
    generalize la[m] = x at c0 hw0 HTM HDE
    generalize lb[m] = y at d0 hw1 HTM HDE
    clear HT HE HD hma hmb
    by_cases hxy : x = y
    ·subst hxy
     have HD2 : Hid (la.drop m = lb.drop m) := HDE.out rfl
     clear HDE HTM
     go_upto_region 8 with (fail)
     go_quiet (fail)
     go_wp2_with fail
     go_roundw
     case rel => exact ⟨m, q + nq, by omega, by go_num, HD2, by simp⟩
     case measure => simp [intOf]
    ·have dxy : ((x : Int) == (y : Int)) = false := by rw [beq_eq_false_iff_ne]; omega
     by_cases hlt : x < y
     ·have dl : decide (x < y) = true := decide_eq_true hlt
      have HR : Hid (wCmp U V = -1) := HTM.out.1 hlt
      clear HDE HTM
      go_upto_region 8 with (fail)
      go_quiet (fail)
      go_upto_region 9 with (fail)
      go_quiet (fail)
      go_wp2_with fail
      go_ret
      exact ⟨by rw [HR.out]; rfl, _, by first | rfl | (simp; rfl)⟩
     ·have dl : decide (x < y) = false := decide_eq_false hlt
      have HR : Hid (wCmp U V = 1) := HTM.out.2 (by omega)
      clear HDE HTM
      go_upto_region 8 with (fail)
      go_quiet (fail)
      go_upto_region 9 with (fail)
      go_quiet (fail)
      go_wp2_with fail
      go_ret
      exact ⟨by rw [HR.out]; rfl, _, by first | rfl | (simp; rfl)⟩
 ·have dne : ((la.length : Int) == (lb.length : Int)) = false := by rw [beq_eq_false_iff_ne]; omega
  by_cases hlt : la.length < lb.length
  ·have dl : decide (la.length < lb.length) = true := decide_eq_true hlt
   have h1 := cmp_len tb wa hlt
   rw [va, vb] at h1
   rw [show wCmp U V = -1 by unfold wCmp; rw [if_pos h1]]
   clear ta tb wa wb va vb HA HB h1
   go_enter Tryz.func151, Tryz.ntmps151
   go_wp2_with fail
   go_ret
   exact ⟨rfl, 0, rfl⟩
  ·have dl : decide (la.length < lb.length) = false := decide_eq_false hlt
   have h1 := cmp_len ta wb (by omega)
   rw [va, vb] at h1
   rw [show wCmp U V = 1 by unfold wCmp; rw [if_neg (by omega), if_neg (by omega)]]
   clear ta tb wa wb va vb HA HB h1
   go_enter Tryz.func151, Tryz.ntmps151
   go_wp2_with fail
   go_ret
   exact ⟨rfl, 0, rfl⟩
theorem or_add2 (a r : Nat) (h : a < 4294967296) (hr : r * 4294967296 + a < 18446744073709551616) : bits BinOp.or IntKind.u64 (a : Int) ((r : Int) * 4294967296) = ((r * 4294967296 + a : Nat) : Int) := by
 have h1 := or_add r a h hr
 unfold bits at h1 ⊢
 rw [← h1]
 simp only [BitVec.or_comm]
set_option maxRecDepth 100000 in
theorem plain_ok (F : Nat → Prop) (A : Option Addr) (n c V : Nat) (w : World) (h : WordsAt w F A n c V) (hn : n ≤ 2) :
  Calls Tryz.prog 152 #[.slice A n c] w fun e w' => e = .returned (.int .u64 (V : Int)) ∧ V < 18446744073709551616 ∧ w = w' := by
 obtain ⟨l, rfl, _, hs, hv, _⟩ := h
 have wl := words_lt hs
 have hc := hs.1
 match l, hn, hs, hv, wl, hc with
 | [], _, hs, hv, wl, hc =>
  subst hv
  rw [show wVal [] = 0 from rfl, show List.length ([] : List Nat) = 0 from rfl]
  clear hs wl
  go_enter Tryz.func152, Tryz.ntmps152
  go_wp2_with fail
  go_ret
  first | exact ⟨rfl, by decide, rfl⟩ | exact ⟨rfl, rfl⟩ | rfl
 | [x], _, hs, hv, wl, hc =>
  subst hv
  obtain ⟨b, off, rfl, _, c0, hw0⟩ := hs.u32_ (k := 0) (by simp)
  simp only [List.getElem_cons_zero, Nat.add_zero] at c0 hw0
  rw [show wVal [x] = x by simp [wVal]]
  rw [show List.length [x] = 1 from rfl] at hc ⊢
  clear hs wl
  go_enter Tryz.func152, Tryz.ntmps152
  go_wp2_with fail
  go_ret
  exact ⟨rfl, by omega, rfl⟩
 | [x, y], _, hs, hv, wl, hc =>
  subst hv
  obtain ⟨b, off, rfl, _, c0, hw0⟩ := hs.u32_ (k := 0) (by simp)
  obtain ⟨b', off', e, _, c1, hw1⟩ := hs.u32_ (k := 1) (by simp)
  injection e with e; injection e with e1 e2; subst e1; subst e2
  simp only [List.getElem_cons_zero, List.getElem_cons_succ, Nat.add_zero] at c0 hw0 c1 hw1
  have hV : wVal [x, y] = y * 4294967296 + x := by simp [wVal]; omega
  rw [hV]
  have hor := or_add2 x y hw0 (by omega)
  have hb : y * 4294967296 + x < 18446744073709551616 := by omega
  obtain ⟨T, hT⟩ : ∃ T, T = y * 4294967296 + x := ⟨_, rfl⟩
  rw [← hT] at hor hb ⊢
  rw [show List.length [x, y] = 2 from rfl] at hc ⊢
  clear hs wl hT hV
  go_enter Tryz.func152, Tryz.ntmps152
  go_wp2_with fail
  go_ret
  first | exact ⟨rfl, hb, rfl⟩ | exact ⟨rfl, rfl⟩ | rfl
set_option maxRecDepth 100000 in
set_option maxHeartbeats 2000000 in
theorem div_ok (F G : Nat → Prop) (A B : Option Addr) (n m c d U V : Nat) (w : World) (ha : WordsAt w F A n c U) (hb : WordsAt w G B m d V) (hF : ∀ k, F k → k < w.heap.size) (hG : ∀ k, G k → k < w.heap.size) (hU : U < 18446744073709551616) (hV : V ≠ 0) :
  Calls Tryz.prog 125 #[.slice A n c, .slice B m d] w fun e w' => ∃ A1 n1 c1 A2 n2 c2, e = .returned (.tuple #[.slice A1 n1 c1, .slice A2 n2 c2]) ∧ WordsAt w' (fun k => w.heap.size ≤ k ∧ k < w'.heap.size) A1 n1 c1 (U / V) ∧ WordsAt w' (fun k => w.heap.size ≤ k ∧ k < w'.heap.size) A2 n2 c2 (U % V) ∧ Below w.heap.size w w' := by
 have hm : m ≠ 0 := fun e => hV (hb.zero.2 e)
 have hn2 := ha.len (k := 2) hU
 have hncap : n ≤ c := by obtain ⟨l, h1, _, h3, _⟩ := ha; have := h3.1; omega
 have hmcap : m ≤ d := by obtain ⟨l, h1, _, h3, _⟩ := hb; have := h3.1; omega
 have hm1 : m ≤ 1000 := by obtain ⟨l, h1, _, _, _, h5⟩ := hb; exact h5
 have HC := Lib.hid (cmp_ok F G A B n m c d U V w ha hb)
 have HA := Lib.hid ha
 have HB := Lib.hid hb
 clear ha hb
 by_cases hlt : U < V
 ·rw [show wCmp U V = -1 by unfold wCmp; rw [if_pos hlt]] at HC
  rw [Nat.div_eq_of_lt hlt, Nat.mod_eq_of_lt hlt]
  go_enter Tryz.func125, Tryz.ntmps125
  go_wp2_with fail
  refine HC.out.mono ?_
  rintro e w2 ⟨rfl, q, rfl⟩
  go_wp2_with fail
  refine (twin_at F A n c U (w.drewN q) (HA.out.keep fun k _ => rfl)).mono ?_
  rintro e w2 ⟨A', c', rfl, hw, hb⟩
  have HR : Hid (WordsAt w2 (fun k => w.heap.size ≤ k ∧ k < w2.heap.size) A' n c' U ∧ Below w.heap.size w w2) := And.intro hw ((bdrewN (Below.refl _ _) q).trans hb)
  clear hw hb
  go_wp2_with fail
  go_ret2
  exact ⟨none, 0, 0, A', n, c', rfl, WordsAt.nil _ _, HR.out⟩
 ·obtain ⟨cv, hcv⟩ : ∃ cv, cv = wCmp U V := ⟨_, rfl⟩
  have hcv0 : 0 ≤ cv ∧ cv ≤ 1 := by rw [hcv]; unfold wCmp; rw [if_neg hlt]; split <;> omega
  rw [← hcv] at HC
  clear hcv
  have hVm : V < 18446744073709551616 := by omega
  have HPA := Lib.hid (plain_ok F A n c U w HA.out hn2)
  have HPB := Lib.hid (plain_ok G B m d V w HB.out (HB.out.len (k := 2) hVm))
  have hq1 : ((U : Int) / (V : Int)) = ((U / V : Nat) : Int) := rfl
  have hr1 : ((U : Int).tmod (V : Int)) = ((U % V : Nat) : Int) := rfl
  have hr2 : ((U : Int) % (V : Int)) = ((U % V : Nat) : Int) := rfl
  have hqb : U / V < 18446744073709551616 := Nat.lt_of_le_of_lt (Nat.div_le_self _ _) hU
  have hrb : U % V < 18446744073709551616 := Nat.lt_of_le_of_lt (Nat.mod_le _ _) hU
  obtain ⟨Q, hQ⟩ : ∃ Q, Q = U / V := ⟨_, rfl⟩
  obtain ⟨R, hR⟩ : ∃ R, R = U % V := ⟨_, rfl⟩
  rw [← hQ] at hq1 hqb ⊢
  rw [← hR] at hr1 hr2 hrb ⊢
  clear hQ hR
  go_enter Tryz.func125, Tryz.ntmps125
  go_wp2_with fail
  refine HC.out.mono ?_
  rintro e w2 ⟨rfl, q, rfl⟩
  have dcv : decide (cv < 0) = false := decide_eq_false (by omega)
  have dn2 : decide (n ≤ 2) = true := decide_eq_true hn2
  have HPA := Lib.hid (plain_ok F A n c U (w.drewN q) (HA.out.keep fun k _ => rfl) hn2)
  have HPB := Lib.hid (plain_ok G B m d V (w.drewN q) (HB.out.keep fun k _ => rfl) (HB.out.len (k := 2) hVm))
  have hqw : IntKind.u64.wrap (Q : Int) = (Q : Int) := by show (Q : Int) % 18446744073709551616 = _; omega
  have hrw : IntKind.u64.wrap (R : Int) = (R : Int) := by show (R : Int) % 18446744073709551616 = _; omega
  have HWQ := Lib.hid (fun W => words_at Q W hqb)
  have HWR := Lib.hid (fun W => words_at R W hrb)
  have hV0 : ((V : Int) == 0) = false := by rw [beq_eq_false_iff_ne]; omega
  clear HA HB HC
  go_wp2_with fail
  refine HPA.out.mono ?_
  rintro e w2 ⟨rfl, _, rfl⟩
  go_wp2_with fail
  refine HPB.out.mono ?_
  rintro e w2 ⟨rfl, _, rfl⟩
  clear HPA HPB
  go_upto_region 7 with (fail)
  go_region_held3 (fun W => True) (trivial) (first | (with_reducible refine (HWQ.out _).mono ?_; rintro e W1 ⟨A1, n1, c1, rfl, hw1, hb1⟩) | (with_reducible refine (HWR.out _).mono ?_; rintro e W2 ⟨A2, n2, c2, rfl, hw2, hb2⟩))
  have hbb : Below w.heap.size w W1 := (bdrewN (Below.refl _ _) _).trans hb1
  have HR : Hid (WordsAt W2 (fun k => w.heap.size ≤ k ∧ k < W2.heap.size) A1 n1 c1 Q ∧ WordsAt W2 (fun k => w.heap.size ≤ k ∧ k < W2.heap.size) A2 n2 c2 R ∧ Below w.heap.size w W2) :=
   ⟨(hw1.keep fun k hk => hb2.block k hk.2).more fun k hk => ⟨hk.1, Nat.lt_of_lt_of_le hk.2 hb2.size⟩, hw2.more fun k hk => ⟨Nat.le_trans hbb.size hk.1, hk.2⟩, hbb.trans (hb2.mono hbb.size)⟩
  clear hw1 hw2 hb1 hb2 hbb
  go_wp2_with fail
  go_ret2
  exact ⟨A1, n1, c1, A2, n2, c2, rfl, HR.out⟩
theorem give_at (g : Nat) (neg : Bool) (A : Option Addr) (n c V : Nat) (w : World) (hg : IntObj w g) (hw : WordsAt w (· < w.heap.size) A n c V) :
  Calls Tryz.prog 126 #[.pointer (some ⟨g, 0, none⟩), .bool neg, .slice A n c] w fun e w' => e = .returned (.pointer (some ⟨g, 0, none⟩)) ∧ BigAt w' g (neg && decide (0 < V)) V ∧ w'.heap.size = w.heap.size ∧ Frm (· = g) w w' := by
 obtain ⟨f, A0, n0, c0, h1⟩ := hg
 have hn : n ≤ 1000 := by obtain ⟨l, _, _, _, _, h5⟩ := hw; exact h5
 refine (give_ok g f neg _ A n c 98 w h1 (by omega)).mono ?_
 rintro e w2 ⟨rfl, h2, h3, h4⟩
 have hz : decide (0 < n) = decide (0 < V) := by
  have := hw.zero
  by_cases h0 : n = 0
  ·rw [h0, this.2 h0]
  ·rw [decide_eq_true (by omega), decide_eq_true (by have : V ≠ 0 := fun e => h0 (this.1 e); omega)]
 rw [hz] at h2
 refine ⟨rfl, BigAt.of h2 (hw.frm h4 (fun k hk => by rw [hk]; exact ⟨f, A0, n0, c0, h1⟩)) (fun e => ?_), h3, h4⟩
 rw [Bool.and_eq_true] at e
 exact of_decide_eq_true e.2
set_option maxRecDepth 100000 in
theorem quoRem_ok (gz gx gy gr : Nat) (fx fy : Bool) (U V : Nat) (w : World) (hz : IntObj w gz) (hr : IntObj w gr) (hne : gz ≠ gr) (hx : BigAt w gx fx U) (hy : BigAt w gy fy V) (hU : U < 18446744073709551616) (hV : V ≠ 0) :
  Calls Tryz.prog 88 #[.pointer (some ⟨gz, 0, none⟩), .pointer (some ⟨gx, 0, none⟩), .pointer (some ⟨gy, 0, none⟩), .pointer (some ⟨gr, 0, none⟩)] w fun e w' =>
   e = .returned (.tuple #[.pointer (some ⟨gz, 0, none⟩), .pointer (some ⟨gr, 0, none⟩)]) ∧ BigAt w' gz ((fx != fy) && decide (0 < U / V)) (U / V) ∧ BigAt w' gr (fx && decide (0 < U % V)) (U % V) ∧ Frm (fun k => k = gz ∨ k = gr) w w' := by
 obtain ⟨Ax, nx, cx, bx, wx, _⟩ := hx.words
 obtain ⟨Ay, ny, cy, by_, wy, _⟩ := hy.words
 have x0 := cell_of_row w gx 0 _ _ _ bx
 have x1 := cell_of_row w gx 1 _ _ _ bx
 have y0 := cell_of_row w gy 0 _ _ _ by_
 have y1 := cell_of_row w gy 1 _ _ _ by_
 simp at x0 x1 y0 y1
 have hdiv : ∀ q, Calls Tryz.prog 125 #[.slice Ax nx cx, .slice Ay ny cy] (w.drewN q) fun e w' => ∃ A1 n1 c1 A2 n2 c2, e = .returned (.tuple #[.slice A1 n1 c1, .slice A2 n2 c2]) ∧ WordsAt w' (fun k => w.heap.size ≤ k ∧ k < w'.heap.size) A1 n1 c1 (U / V) ∧ WordsAt w' (fun k => w.heap.size ≤ k ∧ k < w'.heap.size) A2 n2 c2 (U % V) ∧ Below w.heap.size w w' := fun q =>
  (div_ok (· < w.heap.size) (· < w.heap.size) Ax Ay nx ny cx cy U V (w.drewN q) (wx.keep fun k _ => rfl) (wy.keep fun k _ => rfl) (fun _ h => h) (fun _ h => h) hU hV).mono (by
   rintro e w1 ⟨A1, n1, c1, A2, n2, c2, rfl, h1, h2, hb⟩
   exact ⟨A1, n1, c1, A2, n2, c2, rfl, h1, h2, (bdrewN (Below.refl _ _) q).trans hb⟩)
 have HD := Lib.hid hdiv
 have HZ := Lib.hid hz
 have HR := Lib.hid hr
 have hzl : gz < w.heap.size := by obtain ⟨_, _, _, _, h⟩ := hz; exact block_lt h
 have hrl : gr < w.heap.size := by obtain ⟨_, _, _, _, h⟩ := hr; exact block_lt h
 have hxl := block_lt bx
 have hyl := block_lt by_
 clear hx hy bx by_ wx wy hz hr hdiv
 generalize U / V = Q at HD ⊢
 generalize U % V = R at HD ⊢
 go_enter Tryz.func88, Tryz.ntmps88
 go_upto_region 1 with (fail)
 go_quiet (fail)
 go_upto_region 2 with (fail)
 go_region_held3 (fun W => W.cell? ⟨gx, 1, none⟩ = some (.slice Ax nx cx) ∧ W.cell? ⟨gy, 1, none⟩ = some (.slice Ay ny cy)) (first | exact ⟨x1, y1⟩ | exact ⟨k1, k2⟩) (first | (with_reducible refine (HD.out _).mono ?_; rintro e w1 ⟨A1, n1, c1, A2, n2, c2, rfl, h1, h2, hb⟩; have k1 := (hb.cell (p := ⟨gx, 1, none⟩) hxl).trans x1; have k2 := (hb.cell (p := ⟨gy, 1, none⟩) hyl).trans y1))
 have hb0 := Frm.ofBelow (F := fun _ => False) hb
 have HG1 := Lib.hid (give_at gz (fx != fy) A1 n1 c1 Q w1 (HZ.out.frm hb0 id) (h1.more fun k hk => hk.2))
 have H2 := Lib.hid (h2.more (F' := (· < w1.heap.size)) fun k hk => hk.2)
 have HB := Lib.hid hb0
 have HZ1 := Lib.hid (HZ.out.frm hb0 id)
 have HR1 := Lib.hid (HR.out.frm hb0 id)
 clear h1 h2 hb hb0 HD x0 x1 y0 y1 k1 k2 HZ HR
 go_wp2_with fail
 refine HG1.out.mono ?_
 rintro e w2 ⟨rfl, hz2, hs2, hf2⟩
 have HF1 : Hid (∀ k, k = gz → IntObj w1 k) := fun k hk => by rw [hk]; exact HZ1.out
 have HG2 := Lib.hid (give_at gr fx A2 n2 c2 R w2 (HR1.out.frm hf2 (fun e => hne e.symm)) (H2.out.frm hf2 HF1.out))
 have HZ2 := Lib.hid hz2
 have HR2 : Hid (∀ k, k = gr → IntObj w2 k) := fun k hk => by rw [hk]; exact HR1.out.frm hf2 (fun e => hne e.symm)
 have HF2 : Hid (Frm (fun k => k = gz ∨ k = gr) w w2) := HB.out.trans hf2 (fun _ h => h.elim) (fun k h => .inl (.inl h))
 clear hz2 hs2 hf2 HG1 H2 HZ1 HR1 HB HF1
 go_wp2_with fail
 refine HG2.out.mono ?_
 rintro e w3 ⟨rfl, hr3, hs3, hf3⟩
 have HE : Hid (BigAt w3 gz ((fx != fy) && decide (0 < Q)) Q ∧ BigAt w3 gr (fx && decide (0 < R)) R ∧ Frm (fun k => k = gz ∨ k = gr) w w3) :=
  ⟨HZ2.out.frm hf3 hne HR2.out, hr3, HF2.out.trans hf3 (fun _ h => h) (fun k h => .inl (.inr h))⟩
 clear hr3 hs3 hf3 HG2 HZ2 HR2 HF2
 go_wp2_with fail
 go_ret2
 exact ⟨rfl, HE.out⟩
end Go.Proofs.YtfndhfekbbbliaaGreatDoor

/-
  The statements' own whole numbers: Uint64, Int64. No condition.
-/
namespace Go.Proofs.YtfndhfekbbbliaaGreatDoor
open Go.RowKit Go.ChangeShapes Go.WideShapes
set_option linter.unusedVariables false
set_option maxRecDepth 100000 in
theorem uint64_ok (g : Nat) (f : Bool) (V : Nat) (w : World) (h : BigAt w g f V) (hV : V < 18446744073709551616) :
  Calls Tryz.prog 92 #[.pointer (some ⟨g, 0, none⟩)] w fun e w' => e = .returned (.int .u64 (V : Int)) ∧ w = w' := by
 obtain ⟨A, n, c, hb, hw, _⟩ := h.words
 have x1 := cell_of_row w g 1 _ _ _ hb
 simp at x1
 have hn := hw.len (k := 2) hV
 obtain ⟨l, hl, _, hs, hv, _⟩ := hw
 have wl := words_lt hs
 have hc := hs.1
 clear h hb
 subst hl
 match l, hn, hs, hv, wl, hc with
 | [], _, hs, hv, wl, hc =>
  subst hv
  rw [show wVal [] = 0 from rfl]
  rw [show List.length ([] : List Nat) = 0 from rfl] at x1
  clear hs wl
  go_enter Tryz.func92, Tryz.ntmps92
  go_wp2_with fail
  go_ret
  first | exact ⟨rfl, rfl⟩ | rfl
 | [x], _, hs, hv, wl, hc =>
  subst hv
  obtain ⟨b, off, rfl, _, c0, hw0⟩ := hs.u32_ (k := 0) (by simp)
  simp only [List.getElem_cons_zero, Nat.add_zero] at c0 hw0
  rw [show wVal [x] = x by simp [wVal]]
  rw [show List.length [x] = 1 from rfl] at hc x1
  clear hs wl hV
  go_enter Tryz.func92, Tryz.ntmps92
  go_wp2_with fail
  go_ret
  exact ⟨rfl, rfl⟩
 | [x, y], _, hs, hv, wl, hc =>
  subst hv
  obtain ⟨b, off, rfl, _, c0, hw0⟩ := hs.u32_ (k := 0) (by simp)
  obtain ⟨b', off', e, _, c1, hw1⟩ := hs.u32_ (k := 1) (by simp)
  injection e with e; injection e with e1 e2; subst e1; subst e2
  simp only [List.getElem_cons_zero, List.getElem_cons_succ, Nat.add_zero] at c0 hw0 c1 hw1
  have hV2 : wVal [x, y] = y * 4294967296 + x := by simp [wVal]; omega
  rw [hV2]
  have hor := or_add2 x y hw0 (by omega)
  obtain ⟨T, hT⟩ : ∃ T, T = y * 4294967296 + x := ⟨_, rfl⟩
  rw [← hT] at hor ⊢
  rw [show List.length [x, y] = 2 from rfl] at hc x1
  clear hs wl hT hV2 hV
  go_enter Tryz.func92, Tryz.ntmps92
  go_wp2_with fail
  go_ret
  exact ⟨rfl, rfl⟩
set_option maxRecDepth 100000 in
theorem int64_ok (g : Nat) (f : Bool) (V : Nat) (w : World) (h : BigAt w g f V) (hV : V ≤ 9223372036854775808) (hf : f = false → V < 9223372036854775808) :
  Calls Tryz.prog 46 #[.pointer (some ⟨g, 0, none⟩)] w fun e w' => e = .returned (.int .i64 (if f then -(V : Int) else (V : Int))) ∧ w = w' := by
 have HU := Lib.hid (uint64_ok g f V w h (by omega))
 obtain ⟨A, n, c, hb, _, _⟩ := h.words
 have x0 := cell_of_row w g 0 _ _ _ hb
 simp at x0
 clear h hb
 cases f with
 | false =>
  have hV2 := hf rfl
  clear hf
  have hcv : IntKind.i64.wrap (V : Int) = (V : Int) := IntWalk.i64_in _ (by omega)
  go_enter Tryz.func46, Tryz.ntmps46
  go_wp2_with fail
  refine HU.out.mono ?_
  rintro e w2 ⟨rfl, rfl⟩
  go_wp2_with fail
  go_ret
  exact ⟨rfl, rfl⟩
 | true =>
  clear hf
  have hcv : wrap64 (-wrap64 (V : Int)) = -(V : Int) := by
   by_cases h0 : V = 9223372036854775808
   ·subst h0; show wrap64 (-wrap64 9223372036854775808) = -9223372036854775808; unfold wrap64; omega
   ·rw [IntWalk.wrap64_in (V : Int) (by omega)]; exact IntWalk.wrap64_in _ (by omega)
  go_enter Tryz.func46, Tryz.ntmps46
  go_wp2_with fail
  refine HU.out.mono ?_
  rintro e w2 ⟨rfl, rfl⟩
  go_wp2_with fail
  go_ret
  exact ⟨rfl, rfl⟩
end Go.Proofs.YtfndhfekbbbliaaGreatDoor

/-
  The statements' own whole numbers: Quo, Rem; the length in bits; IsInt64. No condition but that the divisor is not 0.
-/
namespace Go.Proofs.YtfndhfekbbbliaaGreatDoor
open Go.RowKit Go.ChangeShapes Go.WideShapes
set_option linter.unusedVariables false
theorem new_objQ (w : World) : IntObj (w.alloc (.cells #[.bool false, .slice none 0 0] 98)) w.heap.size := ⟨false, none, 0, 0, heap_alloc_new _ _⟩
set_option maxRecDepth 100000 in
theorem quo_ok (gz gx gy : Nat) (fx fy : Bool) (U V : Nat) (w : World) (hz : IntObj w gz) (hx : BigAt w gx fx U) (hy : BigAt w gy fy V) (hU : U < 18446744073709551616) (hV : V ≠ 0) :
  Calls Tryz.prog 42 #[.pointer (some ⟨gz, 0, none⟩), .pointer (some ⟨gx, 0, none⟩), .pointer (some ⟨gy, 0, none⟩)] w fun e w' =>
   e = .returned (.pointer (some ⟨gz, 0, none⟩)) ∧ BigAt w' gz ((fx != fy) && decide (0 < U / V)) (U / V) ∧ Frm (· = gz) w w' := by
 obtain ⟨W1, hW1⟩ : ∃ W1, W1 = w.alloc (.cells #[.bool false, .slice none 0 0] 98) := ⟨_, rfl⟩
 have hb1 : Below w.heap.size w W1 := by rw [hW1]; exact (Below.refl _ _).alloc (Nat.le_refl _) _
 have hzl : gz < w.heap.size := by obtain ⟨_, _, _, _, h⟩ := hz; exact block_lt h
 have HQ := Lib.hid (quoRem_ok gz gx gy w.heap.size fx fy U V W1 (hz.frm (Frm.ofBelow (F := fun _ => False) hb1) id) (by rw [hW1]; exact new_objQ w) (by omega) (hx.below hb1) (hy.below hb1) hU hV)
 have HB1 := Lib.hid hb1
 have HW := Lib.hid hW1
 clear hx hy hz hb1 hW1
 go_enter Tryz.func42, Tryz.ntmps42
 go_wp2_with fail
 rw [← HW.out]
 clear HW
 refine HQ.out.mono ?_
 rintro e w2 ⟨rfl, h2, _, hf2⟩
 have HR : Hid (BigAt w2 gz ((fx != fy) && decide (0 < U / V)) (U / V) ∧ Frm (· = gz) w w2) := ⟨h2, (Frm.ofBelow (F := fun _ => False) HB1.out).trans hf2 (fun _ h => h.elim) (fun k h => by rcases h with h | h; exact .inl h; exact .inr (by omega))⟩
 clear h2 hf2 HQ HB1
 go_wp2_with fail
 go_ret
 exact ⟨rfl, HR.out⟩
set_option maxRecDepth 100000 in
theorem rem_ok (gz gx gy : Nat) (fx fy : Bool) (U V : Nat) (w : World) (hz : IntObj w gz) (hx : BigAt w gx fx U) (hy : BigAt w gy fy V) (hU : U < 18446744073709551616) (hV : V ≠ 0) :
  Calls Tryz.prog 44 #[.pointer (some ⟨gz, 0, none⟩), .pointer (some ⟨gx, 0, none⟩), .pointer (some ⟨gy, 0, none⟩)] w fun e w' =>
   e = .returned (.pointer (some ⟨gz, 0, none⟩)) ∧ BigAt w' gz (fx && decide (0 < U % V)) (U % V) ∧ Frm (· = gz) w w' := by
 obtain ⟨W1, hW1⟩ : ∃ W1, W1 = w.alloc (.cells #[.bool false, .slice none 0 0] 98) := ⟨_, rfl⟩
 have hb1 : Below w.heap.size w W1 := by rw [hW1]; exact (Below.refl _ _).alloc (Nat.le_refl _) _
 have hzl : gz < w.heap.size := by obtain ⟨_, _, _, _, h⟩ := hz; exact block_lt h
 have HQ := Lib.hid (quoRem_ok w.heap.size gx gy gz fx fy U V W1 (by rw [hW1]; exact new_objQ w) (hz.frm (Frm.ofBelow (F := fun _ => False) hb1) id) (by omega) (hx.below hb1) (hy.below hb1) hU hV)
 have HB1 := Lib.hid hb1
 have HW := Lib.hid hW1
 clear hx hy hz hb1 hW1
 go_enter Tryz.func44, Tryz.ntmps44
 go_wp2_with fail
 rw [← HW.out]
 clear HW
 refine HQ.out.mono ?_
 rintro e w2 ⟨rfl, _, h2, hf2⟩
 have HR : Hid (BigAt w2 gz (fx && decide (0 < U % V)) (U % V) ∧ Frm (· = gz) w w2) := ⟨h2, (Frm.ofBelow (F := fun _ => False) HB1.out).trans hf2 (fun _ h => h.elim) (fun k h => by rcases h with h | h; exact .inr (by omega); exact .inl h)⟩
 clear h2 hf2 HQ HB1
 go_wp2_with fail
 go_ret
 exact ⟨rfl, HR.out⟩
def BitLen (V k : Nat) : Prop := V < 2 ^ k ∧ (k = 0 ∨ 2 ^ (k - 1) ≤ V)
theorem bitLen_words {l : List Nat} {m n top : Nat} (hl : l.length = m + 1) (hw : ∀ x ∈ l, x < 4294967296) (ht : l[m]? = some top) (h1 : top < 2 ^ n) (h2 : 2 ^ (n - 1) ≤ top) (hn : 1 ≤ n) : BitLen (wVal l) (m * 32 + n) := by
 have hml : m < l.length := by omega
 have hte : l[m] = top := (List.getElem?_eq_some_iff.1 ht).2
 have hsp := wVal_split l m (by omega)
 rw [List.drop_eq_getElem_cons hml, List.drop_eq_nil_of_le (by omega), hte] at hsp
 simp only [wVal, Nat.mul_zero, Nat.add_zero] at hsp
 have hlo := wVal_lt (l := l.take m) fun x hx => hw x (List.mem_of_mem_take hx)
 rw [List.length_take, Nat.min_eq_left (by omega)] at hlo
 have hp : (4294967296 : Nat) ^ m = 2 ^ (m * 32) := by rw [show (4294967296 : Nat) = 2 ^ 32 by decide, ← Nat.pow_mul, Nat.mul_comm]
 rw [hp] at hsp hlo
 obtain ⟨B, hB⟩ : ∃ B, B = 2 ^ (m * 32) := ⟨_, rfl⟩
 rw [← hB] at hsp hlo
 refine ⟨?_, .inr ?_⟩
 ·rw [Nat.pow_add, ← hB, hsp]
  have h3 : B * (top + 1) ≤ B * 2 ^ n := Nat.mul_le_mul_left _ h1
  rw [Nat.mul_add, Nat.mul_one] at h3
  omega
 ·rw [show m * 32 + n - 1 = m * 32 + (n - 1) by omega, Nat.pow_add, ← hB, hsp]
  have h3 : B * 2 ^ (n - 1) ≤ B * top := Nat.mul_le_mul_left _ h2
  omega
theorem half_step (x n : Nat) : x / 2 ^ n / 2 = x / 2 ^ (n + 1) := by rw [Nat.div_div_eq_div_mul, Nat.pow_succ]
theorem half_done {x n : Nat} (h : x / 2 ^ n = 0) : x < 2 ^ n := by
 rcases Nat.lt_or_ge x (2 ^ n) with h1 | h1
 ·exact h1
 ·have := Nat.div_pos h1 (Nat.two_pow_pos n); omega
set_option maxRecDepth 100000 in
theorem length_ok (F : Nat → Prop) (A : Option Addr) (n c V : Nat) (w : World) (h : WordsAt w F A n c V) :
  Calls Tryz.prog 90 #[.slice A n c] w fun e w' => ∃ k : Nat, e = .returned (.int .i64 k) ∧ BitLen V k ∧ k ≤ 32000 ∧ w = w' := by
 have hz := h.zero
 obtain ⟨l, hl, ht, hs, hv, hn⟩ := h
 have wl := words_lt hs
 have hc := hs.1
 rw [hl] at hc
 cases n with
 | zero =>
  have hV := hz.2 rfl
  have HR : Hid (BitLen V 0) := ⟨by rw [hV]; decide, .inl rfl⟩
  clear hz ht hs hv wl hl
  go_enter Tryz.func90, Tryz.ntmps90
  go_wp2_with fail
  go_ret
  exact ⟨0, rfl, HR.out, by omega, rfl⟩
 | succ m =>
  obtain ⟨b, off, rfl, _, c0, hw0⟩ := hs.u32_ (k := m) (by omega)
  have htop : l[m]'(by omega) ≠ 0 := by
   rcases ht.2 with h0 | ⟨x, hx, h0⟩
   ·omega
   ·rw [hl, Nat.add_sub_cancel, List.getElem?_eq_getElem (by omega)] at hx
    injection hx with hx; rw [hx]; exact h0
  have hget : l[m]? = some (l[m]'(by omega)) := List.getElem?_eq_getElem (by omega)
  generalize l[m]'(by omega) = top at c0 hw0 htop hget
  have HB : Hid (∀ k, top < 2 ^ k → 2 ^ (k - 1) ≤ top → 1 ≤ k → BitLen V (m * 32 + k)) := fun k h1 h2 h3 => by rw [← hv]; exact bitLen_words hl wl hget h1 h2 h3
  have e1 : ((m + 1 : Nat) : Int) - 1 = (m : Int) := by omega
  clear hz ht hs hv wl hl hget
  go_enter Tryz.func90, Tryz.ntmps90
  go_wp2_with fail
  go_loop [3, 4] (fun nv tv => ∃ k t : Nat, k ≤ 32 ∧ nv = .int .i64 k ∧ tv = .int .u32 (t : Int) ∧ Hid (t = top / 2 ^ k) ∧ Hid (k = 0 ∨ 2 ^ (k - 1) ≤ top)) (fun nv _ => 33 - (intOf nv).toNat)
  case atStart => exact ⟨0, top, by omega, rfl, rfl, (by show _ = _; rw [Nat.pow_zero, Nat.div_one]), .inl rfl⟩
  case round =>
   obtain ⟨k, t, hk, rfl, rfl, HT, HK⟩ := hrel
   by_cases h0 : t = 0
   ·subst h0
    have hlt := half_done HT.out.symm
    have hk1 : 1 ≤ k := by
     rcases Nat.eq_zero_or_pos k with h | h
     ·subst h; rw [Nat.pow_zero] at hlt; omega
     ·exact h
    have HR : Hid (BitLen V (m * 32 + k)) := HB.out k hlt (by rcases HK.out with h | h; omega; exact h) hk1
    clear HT HK HB hlt
    go_wp2_with fail
    go_ret
    exact ⟨m * 32 + k, by simp, HR.out, by omega, rfl⟩
   ·have d0 : ((t : Int) == 0) = false := by rw [beq_eq_false_iff_ne]; omega
    have hle : 2 ^ k ≤ top := by
     rcases Nat.lt_or_ge top (2 ^ k) with h | h
     ·exact absurd (HT.out.trans (Nat.div_eq_of_lt h)) h0
     ·exact h
    have hk32 : k < 32 := by
     rcases Nat.lt_or_ge k 32 with h | h
     ·exact h
     ·have : 2 ^ 32 ≤ 2 ^ k := Nat.pow_le_pow_right (by decide) h
      omega
    have ht32 : t < 4294967296 := by rw [HT.out]; exact Nat.lt_of_le_of_lt (Nat.div_le_self _ _) hw0
    have HT2 : Hid (t / 2 = top / 2 ^ (k + 1)) := by show _ = _; rw [HT.out, half_step]
    have HK2 : Hid (k + 1 = 0 ∨ 2 ^ (k + 1 - 1) ≤ top) := .inr hle
    obtain ⟨t2, ht2⟩ : ∃ t2, t2 = t / 2 := ⟨_, rfl⟩
    have hdv : (t : Int) / 2 = (t2 : Int) := by omega
    rw [← ht2] at HT2
    clear HT HK hle ht2
    go_wp2_with fail
    go_round
    case rel => exact ⟨k + 1, t2, by omega, by go_num, rfl, HT2, HK2⟩
    case measure => simp [intOf]; omega
theorem bit_fin : ∀ j : Fin 32, bits BinOp.and IntKind.u64 (IntKind.u64.wrap ((2147483648 : Int) / 2 ^ j.1)) 1 = if j.1 = 31 then 1 else 0 := by decide
theorem bit_low (F : Nat → Prop) (A : Option Addr) (c i : Nat) (w : World) (h : SlA u32E F w A c [0, 2147483648]) (hi : i < 64) :
  Calls Tryz.prog 128 #[.slice A 2 c, .int .i64 (i : Int)] w fun e w' => e = .returned (.int .u64 (if i = 63 then 1 else 0)) ∧ w = w' := by
 have hc : 2 ≤ c := h.1
 obtain ⟨b, off, rfl, _, c0, _⟩ := h.u32_ (k := 0) (by simp)
 obtain ⟨b', off', e, _, c1, _⟩ := h.u32_ (k := 1) (by simp)
 injection e with e; injection e with e1 e2; subst e1; subst e2
 simp only [List.getElem_cons_zero, List.getElem_cons_succ, Nat.add_zero] at c0 c1
 clear h
 by_cases h32 : i < 32
 ·have hq : (i : Int).tdiv 32 = 0 := by rw [Int.tdiv_eq_ediv_of_nonneg (by omega)]; omega
  have hq2 : (i : Int) / 32 = 0 := by omega
  rw [if_neg (by omega)]
  go_enter Tryz.func128, Tryz.ntmps128
  have hb : bits BinOp.and IntKind.u64 0 1 = 0 := by decide
  go_wp2_with fail
  go_ret
  exact ⟨rfl, rfl⟩
 ·have hq : (i : Int).tdiv 32 = 1 := by rw [Int.tdiv_eq_ediv_of_nonneg (by omega)]; omega
  have hq2 : (i : Int) / 32 = 1 := by omega
  obtain ⟨j, hj0⟩ : ∃ j, j = i - 32 := ⟨_, rfl⟩
  have hj : j < 32 := by omega
  have hm : (i : Int) % 32 = (j : Int) := by omega
  have hif : (if i = 63 then (1 : Int) else 0) = if j = 31 then 1 else 0 := by
   by_cases h : i = 63
   ·rw [if_pos h, if_pos (by omega)]
   ·rw [if_neg h, if_neg (by omega)]
  rw [hif]
  have hv : bits BinOp.and IntKind.u64 (IntKind.u64.wrap ((2147483648 : Int) / 2 ^ j)) 1 = if j = 31 then 1 else 0 := bit_fin ⟨j, hj⟩
  obtain ⟨r, hr⟩ : ∃ r : Int, r = if j = 31 then 1 else 0 := ⟨_, rfl⟩
  rw [← hr] at hv ⊢
  clear hif hj0 hr
  go_enter Tryz.func128, Tryz.ntmps128
  go_wp2_with fail
  go_ret
  exact ⟨rfl, rfl⟩
set_option maxRecDepth 100000 in
theorem zeros_ok (g : Nat) (f : Bool) (w : World) (h : BigAt w g f 9223372036854775808) :
  Calls Tryz.prog 91 #[.pointer (some ⟨g, 0, none⟩)] w fun e w' => e = .returned (.int .u64 63) ∧ w = w' := by
 obtain ⟨A, n, c, hb, hw, _⟩ := h.words
 have x1 := cell_of_row w g 1 _ _ _ hb
 simp at x1
 obtain ⟨l, hl, ht, hs, hv, _⟩ := hw
 have wl := words_lt hs
 have hn2 : n = 2 ∧ l = [0, 2147483648] := by
  match l, hl, ht, hv, wl with
  | [], _, _, hv, _ => simp [wVal] at hv
  | [x], _, _, hv, wl => have := wl x (by simp); simp [wVal] at hv; omega
  | [x, y], hl, _, hv, wl =>
   have h1 := wl x (by simp)
   have h2 := wl y (by simp)
   simp only [wVal, Nat.mul_zero, Nat.add_zero] at hv
   have e1 : x = 0 := by omega
   have e2 : y = 2147483648 := by omega
   exact ⟨hl.symm, by rw [e1, e2]⟩
  | x :: y :: z :: r, _, ht, hv, wl =>
   rcases ht.2 with h0 | ⟨t, hx, h0⟩
   ·simp at h0
   ·have h3 := wVal_ge hx h0
    rw [hv] at h3
    have h4 : (4294967296 : Nat) ^ 2 ≤ 4294967296 ^ ((x :: y :: z :: r).length - 1) := Nat.pow_le_pow_right (by decide) (by simp)
    have h5 : (4294967296 : Nat) ^ 2 = 18446744073709551616 := by decide
    omega
 obtain ⟨rfl, rfl⟩ := hn2
 have HBT := Lib.hid (fun i hi => bit_low (· < w.heap.size) A c i w hs hi)
 clear hs hv ht wl hl hb h
 go_enter Tryz.func91, Tryz.ntmps91
 go_wp2_with fail
 go_loop [3] (fun nv => ∃ k : Nat, k ≤ 63 ∧ nv = .int .u64 (k : Int)) (fun nv => 64 - (intOf nv).toNat)
 case atStart => exact ⟨0, by omega, rfl⟩
 case round =>
  obtain ⟨k, hk, rfl⟩ := hrel
  have hcv : IntKind.i64.wrap (k : Int) = (k : Int) := IntWalk.i64_in _ (by omega)
  by_cases h63 : k = 63
  ·subst h63
   have HB2 := Lib.hid (HBT.out 63 (by omega))
   rw [if_pos rfl] at HB2
   go_wp2_with fail
   refine HB2.out.mono ?_
   rintro e w2 ⟨rfl, rfl⟩
   go_wp2_with fail
   go_ret
   exact ⟨rfl, rfl⟩
  ·have HB2 := Lib.hid (HBT.out k (by omega))
   rw [if_neg h63] at HB2
   go_wp2_with fail
   refine HB2.out.mono ?_
   rintro e w2 ⟨rfl, rfl⟩
   clear HB2
   go_wp2_with fail
   go_round
   case rel => exact ⟨k + 1, by omega, by go_num⟩
   case measure => simp [intOf]; omega
theorem bitLen_small {V k : Nat} (h : BitLen V k) : (k < 64 ↔ V < 9223372036854775808) := by
 obtain ⟨h1, h2⟩ := h
 constructor
 ·intro hk
  have : 2 ^ k ≤ 2 ^ 63 := Nat.pow_le_pow_right (by decide) (by omega)
  have h3 : (2 : Nat) ^ 63 = 9223372036854775808 := by decide
  omega
 ·intro hV
  rcases h2 with h2 | h2
  ·omega
  ·rcases Nat.lt_or_ge k 64 with h | h
   ·exact h
   ·have : 2 ^ 63 ≤ 2 ^ (k - 1) := Nat.pow_le_pow_right (by decide) (by omega)
    have h3 : (2 : Nat) ^ 63 = 9223372036854775808 := by decide
    omega
set_option maxRecDepth 100000 in
theorem isInt64_ok (g : Nat) (f : Bool) (V : Nat) (w : World) (h : BigAt w g f V) (hf : f = true → V ≤ 9223372036854775808) :
  Calls Tryz.prog 45 #[.pointer (some ⟨g, 0, none⟩)] w fun e w' => e = .returned (.bool (decide (V < 9223372036854775808) || f)) ∧ w = w' := by
 obtain ⟨A, n, c, hb, hw, _⟩ := h.words
 have x0 := cell_of_row w g 0 _ _ _ hb
 have x1 := cell_of_row w g 1 _ _ _ hb
 simp at x0 x1
 have HL := Lib.hid (length_ok _ A n c V w hw)
 have HZ := Lib.hid (fun (e : V = 9223372036854775808) => zeros_ok g f w (by rw [← e]; exact h))
 clear h hb hw
 by_cases hV : V < 9223372036854775808
 ·rw [decide_eq_true hV, Bool.true_or]
  go_enter Tryz.func45, Tryz.ntmps45
  go_wp2_with fail
  refine HL.out.mono ?_
  rintro e w2 ⟨k, rfl, hk, hk2, rfl⟩
  have h64 := (bitLen_small hk).2 hV
  have d64 : decide (k < 64) = true := decide_eq_true h64
  clear hk
  go_wp2_with fail
  go_ret
  exact ⟨rfl, rfl⟩
 ·rw [decide_eq_false hV, Bool.false_or]
  cases f with
  | false =>
   go_enter Tryz.func45, Tryz.ntmps45
   go_wp2_with fail
   refine HL.out.mono ?_
   rintro e w2 ⟨k, rfl, hk, hk2, rfl⟩
   have h64 : ¬ k < 64 := fun hh => hV ((bitLen_small hk).1 hh)
   have d64 : decide (k < 64) = false := decide_eq_false h64
   have d64i : decide ((k : Int) < 64) = false := decide_eq_false (by omega)
   clear hk
   go_wp2_with fail
   all_goals (go_ret; exact ⟨rfl, rfl⟩)
  | true =>
   have hVe : V = 9223372036854775808 := by have := hf rfl; omega
   have HZ2 := Lib.hid (HZ.out hVe)
   clear HZ
   go_enter Tryz.func45, Tryz.ntmps45
   go_wp2_with fail
   refine HL.out.mono ?_
   rintro e w2 ⟨k, rfl, hk, hk2, rfl⟩
   have h64 : k = 64 := by
    have h1 : ¬ k < 64 := fun hh => hV ((bitLen_small hk).1 hh)
    rcases Nat.lt_or_ge k 65 with h | h
    ·omega
    ·obtain ⟨_, h2⟩ := hk
     rcases h2 with h2 | h2
     ·omega
     ·have : 2 ^ 64 ≤ 2 ^ (k - 1) := Nat.pow_le_pow_right (by decide) (by omega)
      have h3 : (2 : Nat) ^ 64 = 18446744073709551616 := by decide
      omega
   subst h64
   clear hk
   go_wp2_with fail
   refine HZ2.out.mono ?_
   rintro e w2 ⟨rfl, rfl⟩
   clear HZ2 HL
   go_wp2_with fail
   go_ret
   exact ⟨rfl, rfl⟩
end Go.Proofs.YtfndhfekbbbliaaGreatDoor

/-
  The reference's trees in memory; the contract of its Value. Conditions: n and s are ints.
-/
namespace Go.Proofs.YtfndhfekbbbliaaGreatDoor
open Go.RowKit Go.ChangeShapes Go.WideShapes
set_option linter.unusedVariables false
def binOps : List UInt8 := [109, 77, 43, 45, 42, 61, 60, 62, 47, 37]
inductive TreeAt (F : Nat → Prop) (w : World) : Value → Tr → Prop
 | num {k : Int} (h : (Lit.int .i64 k).wf = true) : TreeAt F w (.agg #[.int .i64 0, .int .i64 k, .slice none 0 0]) (.num k)
 | nam (x : Bool) : TreeAt F w (.agg #[.int .i64 (if x then 110 else 115), .int .i64 0, .slice none 0 0]) (.nam x)
 | neg {b : Nat} {o n s : Value} {a : Tr} (hb : F b) (h0 : w.cell? ⟨b, 0, none⟩ = some o) (h1 : w.cell? ⟨b, 1, none⟩ = some n) (h2 : w.cell? ⟨b, 2, none⟩ = some s) (ha : TreeAt F w (.agg #[o, n, s]) a) :
   TreeAt F w (.agg #[.int .i64 126, .int .i64 0, .slice (some ⟨b, 0, none⟩) 1 1]) (.neg a)
 | bin {b : Nat} {o n s o' n' s' : Value} {op : UInt8} {x y : Tr} (hop : op ∈ binOps) (hb : F b) (h0 : w.cell? ⟨b, 0, none⟩ = some o) (h1 : w.cell? ⟨b, 1, none⟩ = some n) (h2 : w.cell? ⟨b, 2, none⟩ = some s) (hx : TreeAt F w (.agg #[o, n, s]) x)
   (h3 : w.cell? ⟨b, 3, none⟩ = some o') (h4 : w.cell? ⟨b, 4, none⟩ = some n') (h5 : w.cell? ⟨b, 5, none⟩ = some s') (hy : TreeAt F w (.agg #[o', n', s']) y) :
   TreeAt F w (.agg #[.int .i64 (op.toNat : Int), .int .i64 0, .slice (some ⟨b, 0, none⟩) 2 2]) (.bin op x y)
 | sel {b : Nat} {o n s o' n' s' o'' n'' s'' : Value} {x y z : Tr} (hb : F b) (h0 : w.cell? ⟨b, 0, none⟩ = some o) (h1 : w.cell? ⟨b, 1, none⟩ = some n) (h2 : w.cell? ⟨b, 2, none⟩ = some s) (hx : TreeAt F w (.agg #[o, n, s]) x)
   (h3 : w.cell? ⟨b, 3, none⟩ = some o') (h4 : w.cell? ⟨b, 4, none⟩ = some n') (h5 : w.cell? ⟨b, 5, none⟩ = some s') (hy : TreeAt F w (.agg #[o', n', s']) y)
   (h6 : w.cell? ⟨b, 6, none⟩ = some o'') (h7 : w.cell? ⟨b, 7, none⟩ = some n'') (h8 : w.cell? ⟨b, 8, none⟩ = some s'') (hz : TreeAt F w (.agg #[o'', n'', s'']) z) :
   TreeAt F w (.agg #[.int .i64 63, .int .i64 0, .slice (some ⟨b, 0, none⟩) 3 3]) (.sel x y z)
theorem TreeAt.keep {F : Nat → Prop} {w w' : World} {v : Value} {t : Tr} (h : TreeAt F w v t) (hs : Same F w w') : TreeAt F w' v t := by
 have c : ∀ {b : Nat} {j : Nat} {u : Value}, F b → w.cell? ⟨b, j, none⟩ = some u → w'.cell? ⟨b, j, none⟩ = some u := fun {b j u} hb h => (hs.cell (p := ⟨b, j, none⟩) hb).trans h
 induction h with
 | num h => exact .num h
 | nam x => exact .nam x
 | neg hb h0 h1 h2 _ ih => exact .neg hb (c hb h0) (c hb h1) (c hb h2) ih
 | bin hop hb h0 h1 h2 _ h3 h4 h5 _ i1 i2 => exact .bin hop hb (c hb h0) (c hb h1) (c hb h2) i1 (c hb h3) (c hb h4) (c hb h5) i2
 | sel hb h0 h1 h2 _ h3 h4 h5 _ h6 h7 h8 _ i1 i2 i3 => exact .sel hb (c hb h0) (c hb h1) (c hb h2) i1 (c hb h3) (c hb h4) (c hb h5) i2 (c hb h6) (c hb h7) (c hb h8) i3
theorem TreeAt.more {F F' : Nat → Prop} {w : World} {v : Value} {t : Tr} (h : TreeAt F w v t) (hF : ∀ k, F k → F' k) : TreeAt F' w v t := by
 induction h with
 | num h => exact .num h
 | nam x => exact .nam x
 | neg hb h0 h1 h2 _ ih => exact .neg (hF _ hb) h0 h1 h2 ih
 | bin hop hb h0 h1 h2 _ h3 h4 h5 _ i1 i2 => exact .bin hop (hF _ hb) h0 h1 h2 i1 h3 h4 h5 i2
 | sel hb h0 h1 h2 _ h3 h4 h5 _ h6 h7 h8 _ i1 i2 i3 => exact .sel (hF _ hb) h0 h1 h2 i1 h3 h4 h5 i2 h6 h7 h8 i3
theorem TreeAt.under {w w' : World} {v : Value} {t : Tr} (h : TreeAt (· < w.heap.size) w v t) (hb : Below w.heap.size w w') : TreeAt (· < w'.heap.size) w' v t :=
 (h.keep fun k hk => hb.block k hk).more fun k hk => Nat.lt_of_lt_of_le hk hb.size
def I64s (n : Int) : Prop := -9223372036854775808 ≤ n ∧ n ≤ 9223372036854775807
def ValuePost (t : Tr) (n s : Int) (w : World) (e : Ending) (w' : World) : Prop := e = .returned (.int .i64 (t.val n s)) ∧ I64s (t.val n s) ∧ Below w.heap.size w w'
def ValueOk (t : Tr) : Prop := ∀ (v : Value) (n s : Int) (w : World), TreeAt (· < w.heap.size) w v t → I64s n → I64s s → Calls Tryz.prog 13 #[v, .int .i64 n, .int .i64 s] w (ValuePost t n s w)
set_option maxRecDepth 100000 in
theorem value_num (k : Int) : ValueOk (.num k) := by
 intro v n s w h hn hs
 cases h with
 | num hk =>
  have hk2 : I64s k := by
   simp only [Lit.wf, IntKind.min, IntKind.max, IntKind.signed, IntKind.bits, Bool.and_eq_true, decide_eq_true_eq, if_true] at hk
   exact ⟨by omega, by omega⟩
  have HK := Lib.hid hk2
  clear hk hk2 hn hs
  have hend : Below w.heap.size w (w.alloc (.cells #[.int .i64 0, .int .i64 k, .slice none 0 0] 24)) := (Below.refl _ _).alloc (Nat.le_refl _) _
  have HE := Lib.hid hend
  clear hend
  go_enter Tryz.func13, Tryz.ntmps13
  go_wp2_with fail
  go_ret
  exact ⟨rfl, HK.out, HE.out⟩
set_option maxRecDepth 100000 in
theorem value_nam (x : Bool) : ValueOk (.nam x) := by
 intro v n s w h hn hs
 have HN := Lib.hid hn
 have HS := Lib.hid hs
 cases h with
 | nam =>
  clear hn hs
  cases x with
  | true =>
   have hend : Below w.heap.size w (w.alloc (.cells #[.int .i64 110, .int .i64 0, .slice none 0 0] 24)) := (Below.refl _ _).alloc (Nat.le_refl _) _
   have HE := Lib.hid hend
   clear hend
   go_enter Tryz.func13, Tryz.ntmps13
   go_wp2_with fail
   go_ret
   exact ⟨rfl, HN.out, HE.out⟩
  | false =>
   have hend : Below w.heap.size w (w.alloc (.cells #[.int .i64 115, .int .i64 0, .slice none 0 0] 24)) := (Below.refl _ _).alloc (Nat.le_refl _) _
   have HE := Lib.hid hend
   clear hend
   go_enter Tryz.func13, Tryz.ntmps13
   go_wp2_with fail
   go_ret
   exact ⟨rfl, HS.out, HE.out⟩
theorem wrap_i64s (x : Int) : I64s (wrap64 x) := by unfold I64s wrap64; omega
set_option maxRecDepth 100000 in
theorem value_neg (a : Tr) (ha : ValueOk a) : ValueOk (.neg a) := by
 intro v n s w h hn hs
 cases h with
 | @neg b o nn ss _ hb h0 h1 h2 hx =>
  obtain ⟨W1, hW1⟩ : ∃ W1, W1 = w.alloc (.cells #[.int .i64 126, .int .i64 0, .slice (some ⟨b, 0, none⟩) 1 1] 24) := ⟨_, rfl⟩
  have hb1 : Below w.heap.size w W1 := by rw [hW1]; exact (Below.refl _ _).alloc (Nat.le_refl _) _
  have HA := Lib.hid (ha _ n s W1 (hx.under hb1) hn hs)
  have HB1 := Lib.hid hb1
  have g1 := heap_alloc_new w (.cells #[.int .i64 126, .int .i64 0, .slice (some ⟨b, 0, none⟩) 1 1] 24)
  rw [← hW1] at g1
  have z0 := (hb1.cell (p := ⟨b, 0, none⟩) hb).trans h0
  have z1 := (hb1.cell (p := ⟨b, 1, none⟩) hb).trans h1
  have z2 := (hb1.cell (p := ⟨b, 2, none⟩) hb).trans h2
  have y0 := cell_of_row W1 w.heap.size 0 _ _ _ g1
  simp at y0
  have hl1 := block_lt g1
  have HW := Lib.hid hW1
  have HY := Lib.hid y0
  clear hx hn hs hb1 hW1 g1 ha
  go_enter Tryz.func13, Tryz.ntmps13
  go_wp2_with fail
  rw [← HW.out]
  clear HW
  refine HA.out.mono ?_
  rintro e w2 ⟨rfl, hx2, hb2⟩
  have u0 := (hb2.cell (p := ⟨w.heap.size, 0, none⟩) hl1).trans HY.out
  have HB2 := Lib.hid (HB1.out.trans (hb2.mono HB1.out.size))
  have HV : Hid ((Tr.neg a).val n s = wrap64 (-(a.val n s))) := rfl
  generalize a.val n s = x at hx2 HV
  clear HA HB1 hb2 z0 z1 z2 HY
  have hx3 := hx2.1
  have hx4 := hx2.2
  clear hx2
  go_wp2_with fail
  go_ret
  refine ⟨?_, by rw [HV.out]; exact wrap_i64s _, HB2.out⟩
  rw [HV.out]; rfl
set_option maxRecDepth 100000 in
theorem value_sel (x y z : Tr) (ix : ValueOk x) (iy : ValueOk y) (iz : ValueOk z) : ValueOk (.sel x y z) := by
 intro v n s w h hn hs
 cases h with
 | @sel b o nn ss o' n' s' o'' n'' s'' _ _ _ hb h0 h1 h2 hx h3 h4 h5 hy h6 h7 h8 hz =>
  obtain ⟨W1, hW1⟩ : ∃ W1, W1 = w.alloc (.cells #[.int .i64 63, .int .i64 0, .slice (some ⟨b, 0, none⟩) 3 3] 24) := ⟨_, rfl⟩
  have hb1 : Below w.heap.size w W1 := by rw [hW1]; exact (Below.refl _ _).alloc (Nat.le_refl _) _
  have g1 := heap_alloc_new w (.cells #[.int .i64 63, .int .i64 0, .slice (some ⟨b, 0, none⟩) 3 3] 24)
  rw [← hW1] at g1
  have HX := Lib.hid (ix _ n s W1 (hx.under hb1) hn hs)
  have HYZ : Hid (∀ W, Below w.heap.size w W → Calls Tryz.prog 13 #[.agg #[o', n', s'], .int .i64 n, .int .i64 s] W (ValuePost y n s W) ∧ Calls Tryz.prog 13 #[.agg #[o'', n'', s''], .int .i64 n, .int .i64 s] W (ValuePost z n s W)) := fun W hW => ⟨iy _ n s W (hy.under hW) hn hs, iz _ n s W (hz.under hW) hn hs⟩
  have HC : Hid (∀ W, Below w.heap.size w W → (W.cell? ⟨b, 0, none⟩ = some o ∧ W.cell? ⟨b, 1, none⟩ = some nn ∧ W.cell? ⟨b, 2, none⟩ = some ss) ∧ (W.cell? ⟨b, 3, none⟩ = some o' ∧ W.cell? ⟨b, 4, none⟩ = some n' ∧ W.cell? ⟨b, 5, none⟩ = some s') ∧ (W.cell? ⟨b, 6, none⟩ = some o'' ∧ W.cell? ⟨b, 7, none⟩ = some n'' ∧ W.cell? ⟨b, 8, none⟩ = some s'')) := fun W hW =>
   ⟨⟨(hW.cell (p := ⟨b, 0, none⟩) hb).trans h0, (hW.cell (p := ⟨b, 1, none⟩) hb).trans h1, (hW.cell (p := ⟨b, 2, none⟩) hb).trans h2⟩, ⟨(hW.cell (p := ⟨b, 3, none⟩) hb).trans h3, (hW.cell (p := ⟨b, 4, none⟩) hb).trans h4, (hW.cell (p := ⟨b, 5, none⟩) hb).trans h5⟩, ⟨(hW.cell (p := ⟨b, 6, none⟩) hb).trans h6, (hW.cell (p := ⟨b, 7, none⟩) hb).trans h7, (hW.cell (p := ⟨b, 8, none⟩) hb).trans h8⟩⟩
  have HB1 := Lib.hid hb1
  have y0 := cell_of_row W1 w.heap.size 0 _ _ _ g1
  have y2 := cell_of_row W1 w.heap.size 2 _ _ _ g1
  simp at y0 y2
  have hl1 := block_lt g1
  have HW := Lib.hid hW1
  have HY := Lib.hid (And.intro y0 y2)
  obtain ⟨⟨z0, z1, z2⟩, _⟩ := HC.out W1 hb1
  clear hx hy hz hn hs hb1 hW1 g1 ix iy iz h3 h4 h5 h6 h7 h8 y0 y2
  go_enter Tryz.func13, Tryz.ntmps13
  go_wp2_with fail
  rw [← HW.out]
  clear HW h0 h1 h2
  refine HX.out.mono ?_
  rintro e w2 ⟨rfl, hx2, hb2⟩
  have u0 := (hb2.cell (p := ⟨w.heap.size, 0, none⟩) hl1).trans HY.out.1
  have u2 := (hb2.cell (p := ⟨w.heap.size, 2, none⟩) hl1).trans HY.out.2
  have hB2 := HB1.out.trans (hb2.mono HB1.out.size)
  have HB2 := Lib.hid hB2
  have HV : Hid ((Tr.sel x y z).val n s = if x.val n s = 0 then z.val n s else y.val n s) := rfl
  obtain ⟨cy, cz⟩ := HYZ.out w2 hB2
  have HYC := Lib.hid cy
  have HZC := Lib.hid cz
  obtain ⟨_, ⟨p0, p1, p2⟩, ⟨q0, q1, q2⟩⟩ := HC.out w2 hB2
  generalize x.val n s = xv at hx2 HV
  clear HX HB1 hb2 z0 z1 z2 HY HYZ HC hB2 cy cz
  have hx3 := hx2.1
  have hx4 := hx2.2
  clear hx2
  by_cases h0 : xv = 0
  ·subst h0
   rw [if_pos rfl] at HV
   go_wp2_with fail
   refine HZC.out.mono ?_
   rintro e w3 ⟨rfl, hz2, hb3⟩
   have HR : Hid (I64s (z.val n s) ∧ Below w.heap.size w w3) := ⟨hz2, HB2.out.trans (hb3.mono HB2.out.size)⟩
   clear hz2 hb3 HZC HYC
   go_wp2_with fail
   go_ret
   exact ⟨by rw [HV.out]; rfl, by rw [HV.out]; exact HR.out.1, HR.out.2⟩
  ·rw [if_neg h0] at HV
   have d0 : (xv == 0) = false := by rw [beq_eq_false_iff_ne]; exact h0
   go_wp2_with fail
   refine HYC.out.mono ?_
   rintro e w3 ⟨rfl, hz2, hb3⟩
   have HR : Hid (I64s (y.val n s) ∧ Below w.heap.size w w3) := ⟨hz2, HB2.out.trans (hb3.mono HB2.out.size)⟩
   clear hz2 hb3 HZC HYC
   go_wp2_with fail
   go_ret
   exact ⟨by rw [HV.out]; rfl, by rw [HV.out]; exact HR.out.1, HR.out.2⟩
end Go.Proofs.YtfndhfekbbbliaaGreatDoor

/-
  The reference's reader in memory; the contracts of its small methods. No condition of ours.
-/
namespace Go.Proofs.YtfndhfekbbbliaaGreatDoor
open Go.RowKit Go.ChangeShapes Go.WideShapes
set_option linter.unusedVariables false
def PAt (w : World) (R : Nat) (s : ByteArray) (p d : Nat) (wr bad : Int) : Prop := w.heap[R]? = some (.cells #[.string s, .int .i64 p, .int .i64 d, .int .i64 wr, .int .i64 bad] 81 (0, 0))
theorem PAt.lt {w : World} {R : Nat} {s : ByteArray} {p d : Nat} {wr bad : Int} (h : PAt w R s p d wr bad) : R < w.heap.size := block_lt h
theorem PAt.cells {w : World} {R : Nat} {s : ByteArray} {p d : Nat} {wr bad : Int} (h : PAt w R s p d wr bad) : w.cell? ⟨R, 0, none⟩ = some (.string s) ∧ w.cell? ⟨R, 1, none⟩ = some (.int .i64 p) ∧ w.cell? ⟨R, 2, none⟩ = some (.int .i64 d)
  ∧ w.cell? ⟨R, 3, none⟩ = some (.int .i64 wr) ∧ w.cell? ⟨R, 4, none⟩ = some (.int .i64 bad) ∧ (∀ i, w.frozen? ⟨R, i, none⟩ = false) :=
 ⟨(cell_of_row w R 0 _ _ _ h).trans rfl, (cell_of_row w R 1 _ _ _ h).trans rfl, (cell_of_row w R 2 _ _ _ h).trans rfl, (cell_of_row w R 3 _ _ _ h).trans rfl, (cell_of_row w R 4 _ _ _ h).trans rfl, fun i => by simp [World.frozen?, PAt] at h ⊢; simp [h]⟩
theorem PAt.keep {w w' : World} {R : Nat} {s : ByteArray} {p d : Nat} {wr bad : Int} (h : PAt w R s p d wr bad) (hs : w'.heap[R]? = w.heap[R]?) : PAt w' R s p d wr bad := hs.trans h
theorem PAt.moved {w : World} {R : Nat} {s : ByteArray} {p d : Nat} {wr bad : Int} (h : PAt w R s p d wr bad) (q : Nat) : PAt (w.setCell ⟨R, 1, none⟩ (.int .i64 q)) R s q d wr bad := by
 unfold PAt at h ⊢
 simp [World.setCell, Array.getElem?_modify, h]
theorem PAt.deeper {w : World} {R : Nat} {s : ByteArray} {p d : Nat} {wr bad : Int} (h : PAt w R s p d wr bad) (q : Nat) : PAt (w.setCell ⟨R, 2, none⟩ (.int .i64 q)) R s p q wr bad := by
 unfold PAt at h ⊢
 simp [World.setCell, Array.getElem?_modify, h]
theorem PAt.failed {w : World} {R : Nat} {s : ByteArray} {p d : Nat} {wr bad : Int} (h : PAt w R s p d wr bad) (a e : Int) : PAt ((w.setCell ⟨R, 4, none⟩ (.int .i64 e)).setCell ⟨R, 3, none⟩ (.int .i64 a)) R s p d a e := by
 unfold PAt at h ⊢
 simp [World.setCell, Array.getElem?_modify, h]
def headR (l : List UInt8) : Int := match l with
 | [] => 0
 | c :: _ => (c.toNat : Int)
theorem drop_headR {s : ByteArray} {p : Nat} (h : p < s.size) : s.data.toList.drop p = s.data[p]'h :: s.data.toList.drop (p + 1) := by
 rw [List.drop_eq_getElem_cons (by simpa using h)]; simp
def hasR (s : ByteArray) (p : Nat) (t : ByteArray) : Bool := Lib.hasPrefix (s.data.toList.drop p) t.data.toList
theorem hasR_le {s t : ByteArray} {p : Nat} (h : hasR s p t = true) (hp : p ≤ s.size) : p + t.size ≤ s.size := by
 have h1 := (List.isPrefixOf_iff_prefix.1 h).length_le
 rw [List.length_drop] at h1
 have e1 : s.data.toList.length = s.size := by simp
 have e2 : t.data.toList.length = t.size := by simp
 omega
theorem hasR_iff {s t : ByteArray} {p : Nat} (hp : p + t.size ≤ s.size) : hasR s p t = true ↔ s.extract p (p + t.size) = t := by
 have e2 : t.data.toList.length = t.size := by simp
 have e3 : (s.extract p (p + t.size)).data.toList = (s.data.toList.drop p).take t.size := by
  simp [ByteArray.data_extract, List.take_drop]
 have h1 : hasR s p t = true ↔ t.data.toList <+: s.data.toList.drop p := List.isPrefixOf_iff_prefix
 rw [h1, List.prefix_iff_eq_take, e2, ← e3]
 constructor
 ·intro h
  apply ByteArray.ext
  exact Array.toList_inj.1 h.symm
 ·intro h; rw [h]
set_option maxRecDepth 100000 in
theorem pfail_ok (R p d : Nat) (s : ByteArray) (a e wr : Int) (w : World) (h : PAt w R s p d wr 0) :
  Calls Tryz.prog 36 #[.pointer (some ⟨R, 0, none⟩), .int .i64 a, .int .i64 e] w fun en w' => en = .returned (.tuple #[]) ∧ PAt w' R s p d a e ∧ Frm (· = R) w w' := by
 obtain ⟨c0, c1, c2, c3, c4, cf⟩ := h.cells
 have HH := Lib.hid h
 go_enter Tryz.func36, Tryz.ntmps36
 go_wp2_with fail
 go_end0
 exact ⟨rfl, HH.out.failed a e, ((Frm.refl (· = R) w).setCell (p := ⟨R, 4, none⟩) (.inl rfl) _).setCell (p := ⟨R, 3, none⟩) (.inl rfl) _⟩
set_option maxRecDepth 100000 in
theorem ppeek_ok (R : Nat) (s : ByteArray) (p d : Nat) (wr bad : Int) (w : World) (h : PAt w R s p d wr bad) (hp : p ≤ s.size) :
  Calls Tryz.prog 80 #[.pointer (some ⟨R, 0, none⟩)] w fun e w' => e = .returned (.int .i64 (headR (s.data.toList.drop p))) ∧ ∃ q, w' = w.drewN q := by
 obtain ⟨c0, c1, c2, c3, c4, cf⟩ := h.cells
 by_cases hlt : p < s.size
 ·have d1 : decide ((p : Int) < (s.size : Int)) = true := decide_eq_true (by omega)
  rw [drop_headR hlt]
  have HWR : Hid (wrap64 ((s[p]'hlt).toNat : Int) = ((s[p]'hlt).toNat : Int)) := by
   have := (s[p]'hlt).toNat_lt
   show wrap64 _ = _
   unfold wrap64; omega
  go_enter Tryz.func80, Tryz.ntmps80
  go_wp2
  go_quiet (fail)
  go_wp2
  go_quiet (fail)
  go_wp2
  go_ret
  refine ⟨?_, _, World.drewN_drewN _ _ _⟩
  rw [HWR.out]; rfl
 ·have d1 : decide ((p : Int) < (s.size : Int)) = false := decide_eq_false (by omega)
  have e : s.data.toList.drop p = [] := List.drop_eq_nil_of_le (by simpa using hlt)
  rw [e]
  go_enter Tryz.func80, Tryz.ntmps80
  go_wp2
  go_quiet (fail)
  go_wp2
  go_ret
  exact ⟨rfl, _, rfl⟩
set_option maxRecDepth 100000 in
set_option maxHeartbeats 2000000 in
theorem pdown_ok (R p d : Nat) (s : ByteArray) (a : Int) (wr : Int) (w : World) (h : PAt w R s p d wr 0) (hd : d < 20) :
  Calls Tryz.prog 81 #[.pointer (some ⟨R, 0, none⟩), .int .i64 a] w fun e w' => e = .returned (.bool true) ∧ PAt w' R s p (d + 1) wr 0 ∧ Frm (· = R) w w' := by
 obtain ⟨c0, c1, c2, c3, c4, cf⟩ := h.cells
 have HH := Lib.hid h
 have hne : ((d : Int) == 20) = false := beq_eq_false_iff_ne.2 (by omega)
 have E1 : Hid ((d : Int) + 1 = ((d + 1 : Nat) : Int)) := by show _ = _; omega
 have H2 := Lib.hid (h.deeper (d + 1))
 go_enter Tryz.func81, Tryz.ntmps81
 go_wp2_with fail
 go_ret
 first
  | exact ⟨rfl, H2.out, (Frm.refl (· = R) w).setCell (p := ⟨R, 2, none⟩) (.inl rfl) _⟩
  | (rw [E1.out]; exact ⟨rfl, H2.out, (Frm.refl (· = R) w).setCell (p := ⟨R, 2, none⟩) (.inl rfl) _⟩)
set_option maxRecDepth 100000 in
set_option maxHeartbeats 2000000 in
theorem pdown_full (R p : Nat) (s : ByteArray) (a : Int) (wr : Int) (w : World) (h : PAt w R s p 20 wr 0) :
  Calls Tryz.prog 81 #[.pointer (some ⟨R, 0, none⟩), .int .i64 a] w fun e w' => e = .returned (.bool false) ∧ PAt w' R s p 20 a 4 ∧ Frm (· = R) w w' := by
 obtain ⟨c0, c1, c2, c3, c4, cf⟩ := h.cells
 have HF := Lib.hid (pfail_ok R p 20 s a 4 wr w h)
 go_enter Tryz.func81, Tryz.ntmps81
 go_wp2_with fail
 refine HF.out.mono ?_
 rintro e w1 ⟨rfl, h1, f1⟩
 have H1 := Lib.hid (And.intro h1 f1)
 clear h1 f1
 go_wp2_with fail
 go_ret
 exact ⟨rfl, H1.out⟩
set_option maxRecDepth 100000 in
set_option maxHeartbeats 2000000 in
theorem pis_ok (R : Nat) (s t : ByteArray) (p d : Nat) (wr bad : Int) (w : World) (h : PAt w R s p d wr bad) (hp : p ≤ s.size) (hs : s.size ≤ 120) (ht : t.size ≤ 10) :
  Calls Tryz.prog 115 #[.pointer (some ⟨R, 0, none⟩), .string t] w fun e w' => e = .returned (.bool (hasR s p t)) ∧ PAt w' R s (if hasR s p t then p + t.size else p) d wr bad ∧ Frm (· = R) w w' := by
 obtain ⟨c0, c1, c2, c3, c4, cf⟩ := h.cells
 have HH := Lib.hid h
 by_cases hle : p + t.size ≤ s.size
 ·have hx := hasR_iff hle
  obtain ⟨q, hqe⟩ : ∃ q, q = p + t.size := ⟨_, rfl⟩
  rw [← hqe] at hx
  have hq : (p : Int) + (t.size : Int) = (q : Int) := by omega
  have d1 : decide ((q : Int) ≤ (s.size : Int)) = true := decide_eq_true (by omega)
  have dq1 : q ≤ s.size := by omega
  have dq2 : p ≤ q := by omega
  have dq3 : ¬ s.size < q := by omega
  have dq4 : ¬ q < p := by omega
  have HQE := Lib.hid hqe
  cases hb : hasR s p t with
  | true =>
   have he := hx.1 hb
   have d2 : ((s.extract p q).toList == t.toList) = true := by rw [← beq_toListBytes]; exact (Go.MapKept.bytes_beq _ _).2 he
   clear hx he hqe hle
   go_enter Tryz.func115, Tryz.ntmps115
   go_wp2_with fail
   go_quiet (fail)
   go_wp2_with fail
   go_ret
   refine ⟨rfl, ?_, ((Frm.refl (· = R) w).drewN nq).setCell (p := ⟨R, 1, none⟩) (.inl rfl) _⟩
   have := (HH.out.keep (w' := w.drewN nq) rfl).moved q
   simp only [← HQE.out]; exact this
  | false =>
   have he : ¬ s.extract p q = t := fun h => by rw [hx.2 h] at hb; cases hb
   have d2 : ((s.extract p q).toList == t.toList) = false := by rw [← beq_toListBytes]; exact Bool.eq_false_iff.2 fun h => he ((Go.MapKept.bytes_beq _ _).1 h)
   clear hx he hqe hle
   go_enter Tryz.func115, Tryz.ntmps115
   go_wp2_with fail
   go_quiet (fail)
   go_wp2_with fail
   go_ret
   exact ⟨rfl, HH.out.keep rfl, (Frm.refl _ _).drewN _⟩
 ·have d1 : decide ((p : Int) + (t.size : Int) ≤ (s.size : Int)) = false := decide_eq_false (by omega)
  have hb : hasR s p t = false := by
   cases hb : hasR s p t with
   | false => rfl
   | true => exact absurd (hasR_le hb hp) hle
  rw [hb]
  go_enter Tryz.func115, Tryz.ntmps115
  go_wp2_with fail
  go_quiet (fail)
  go_wp2_with fail
  go_ret
  exact ⟨rfl, HH.out.keep rfl, (Frm.refl _ _).drewN _⟩
set_option maxRecDepth 100000 in
theorem pwant_yes (R : Nat) (s t : ByteArray) (p d : Nat) (wr bad : Int) (w : World) (h : PAt w R s p d wr bad) (hp : p ≤ s.size) (hs : s.size ≤ 120) (ht : t.size ≤ 10) (hb : hasR s p t = true) :
  Calls Tryz.prog 82 #[.pointer (some ⟨R, 0, none⟩), .string t] w fun e w' => e = .returned (.tuple #[]) ∧ PAt w' R s (p + t.size) d wr bad ∧ Frm (· = R) w w' := by
 have HAS := Lib.hid (pis_ok R s t p d wr bad w h hp hs ht)
 rw [hb] at HAS
 go_enter Tryz.func82, Tryz.ntmps82
 go_wp2_with fail
 refine HAS.out.mono ?_
 rintro e w1 ⟨rfl, h1, f1⟩
 have H1 := Lib.hid h1
 have F1 := Lib.hid f1
 clear h1 f1
 go_wp2_with fail
 go_end0
 exact ⟨rfl, by simpa using H1.out, F1.out⟩
set_option maxRecDepth 100000 in
theorem pwant_no (R : Nat) (s t : ByteArray) (p d : Nat) (wr : Int) (w : World) (h : PAt w R s p d wr 0) (hp : p ≤ s.size) (hs : s.size ≤ 120) (ht : t.size ≤ 10) (hb : hasR s p t = false) :
  Calls Tryz.prog 82 #[.pointer (some ⟨R, 0, none⟩), .string t] w fun e w' => e = .returned (.tuple #[]) ∧ PAt w' R s p d p 2 ∧ Frm (· = R) w w' := by
 have HAS := Lib.hid (pis_ok R s t p d wr 0 w h hp hs ht)
 rw [hb] at HAS
 go_enter Tryz.func82, Tryz.ntmps82
 go_wp2_with fail
 refine HAS.out.mono ?_
 rintro e w1 ⟨rfl, h1, f1⟩
 have h2 : PAt w1 R s p d wr 0 := by simpa using h1
 obtain ⟨c0, c1, c2, c3, c4, cf⟩ := h2.cells
 have HF := Lib.hid (pfail_ok R p d s p 2 wr w1 h2)
 have F1 := Lib.hid f1
 clear h1 f1 h2
 go_wp2_with fail
 refine HF.out.mono ?_
 rintro e w2 ⟨rfl, h3, f3⟩
 have H3 := Lib.hid h3
 have F3 := Lib.hid (F1.out.trans f3 (fun _ h => h) (fun _ h => .inl h))
 clear h3 f3
 go_wp2_with fail
 go_end0
 exact ⟨rfl, H3.out, F3.out⟩
end Go.Proofs.YtfndhfekbbbliaaGreatDoor

/-
  The reference's reader by what is left of the text; what its reading methods leave. Conditions: the text takes at most 120 bytes, the depth is at most 20.
-/
namespace Go.Proofs.YtfndhfekbbbliaaGreatDoor
open Go.RowKit Go.ChangeShapes Go.WideShapes
set_option linter.unusedVariables false
def PL (w : World) (R : Nat) (s : ByteArray) (l : List UInt8) (d : Nat) : Prop := l.length ≤ s.size ∧ l = s.data.toList.drop (s.size - l.length) ∧ ∃ wr, PAt w R s (s.size - l.length) d wr 0
def PBad (w : World) (R : Nat) (s : ByteArray) (d : Nat) (a e : Int) : Prop := ∃ p d', p ≤ s.size ∧ d ≤ d' ∧ d' ≤ 20 ∧ e ≠ 0 ∧ PAt w R s p d' a e
theorem PL.keep {w w' : World} {R : Nat} {s : ByteArray} {l : List UInt8} {d : Nat} (h : PL w R s l d) (hs : w'.heap[R]? = w.heap[R]?) : PL w' R s l d := ⟨h.1, h.2.1, h.2.2.elim fun wr h => ⟨wr, h.keep hs⟩⟩
theorem PL.lt {w : World} {R : Nat} {s : ByteArray} {l : List UInt8} {d : Nat} (h : PL w R s l d) : R < w.heap.size := h.2.2.elim fun _ h => h.lt
theorem PBad.keep {w w' : World} {R d : Nat} {s : ByteArray} {a e : Int} (h : PBad w R s d a e) (hs : w'.heap[R]? = w.heap[R]?) : PBad w' R s d a e := by
 obtain ⟨p, d', h1, h2, h3, h4, h5⟩ := h
 exact ⟨p, d', h1, h2, h3, h4, h5.keep hs⟩
theorem PBad.less {w : World} {R d d0 : Nat} {s : ByteArray} {a e : Int} (h : PBad w R s d a e) (hd : d0 ≤ d) : PBad w R s d0 a e := by
 obtain ⟨p, d', h1, h2, h3, h4, h5⟩ := h
 exact ⟨p, d', h1, by omega, h3, h4, h5⟩
theorem PL.on {w w' : World} {R : Nat} {s : ByteArray} {l r : List UInt8} {n d : Nat} {wr : Int} (h : PL w R s l d) (hl : l.length = n + r.length) (hr : r = l.drop n) (h' : PAt w' R s (s.size - l.length + n) d wr 0) : PL w' R s r d := by
 obtain ⟨h1, h2, h3⟩ := h
 have e : s.size - l.length + n = s.size - r.length := by omega
 rw [e] at h'
 refine ⟨by omega, ?_, _, h'⟩
 rw [← e, ← List.drop_drop, ← h2]
 exact hr
theorem ppeekL (R : Nat) (s : ByteArray) (l : List UInt8) (d : Nat) (w : World) (h : PL w R s l d) : Calls Tryz.prog 80 #[.pointer (some ⟨R, 0, none⟩)] w fun e w' => e = .returned (.int .i64 (headR l)) ∧ ∃ q, w' = w.drewN q := by
 obtain ⟨h1, h2, wr, h3⟩ := h
 have := ppeek_ok R s (s.size - l.length) d wr 0 w h3 (by omega)
 rw [← h2] at this
 exact this
theorem ppeekBad (R : Nat) (s : ByteArray) (d : Nat) (a e : Int) (w : World) (h : PBad w R s d a e) : Calls Tryz.prog 80 #[.pointer (some ⟨R, 0, none⟩)] w fun en w' => (∃ c, en = .returned (.int .i64 c)) ∧ ∃ q, w' = w.drewN q := by
 obtain ⟨p, d', h1, h2, h3, h4, h5⟩ := h
 refine (ppeek_ok R s p d' a e w h5 h1).mono ?_
 rintro en w' ⟨g1, g2⟩
 exact ⟨⟨_, g1⟩, g2⟩
theorem hasR_eq {w : World} {R : Nat} {s t : ByteArray} {l : List UInt8} {d : Nat} (h : PL w R s l d) : hasR s (s.size - l.length) t = Lib.hasPrefix l t.data.toList := by
 unfold hasR; rw [← h.2.1]
theorem pisL_yes (R : Nat) (s t : ByteArray) (l r : List UInt8) (d : Nat) (w : World) (h : PL w R s l d) (hs : s.size ≤ 120) (h10 : t.size ≤ 10) (ht : l = t.data.toList ++ r) :
  Calls Tryz.prog 115 #[.pointer (some ⟨R, 0, none⟩), .string t] w fun e w' => e = .returned (.bool true) ∧ PL w' R s r d ∧ Frm (· = R) w w' := by
 have hb : hasR s (s.size - l.length) t = true := by rw [hasR_eq h, ht]; exact List.isPrefixOf_iff_prefix.2 (List.prefix_append _ _)
 have e2 : t.data.toList.length = t.size := by simp
 obtain ⟨wr, hp⟩ := h.2.2
 refine (pis_ok R s t _ d wr 0 w hp (by omega) hs h10).mono ?_
 rintro e w' ⟨h1, h2, h3⟩
 rw [hb] at h1 h2
 exact ⟨h1, h.on (n := t.size) (wr := wr) (by rw [ht, List.length_append, e2]) (by rw [ht, ← e2, List.drop_left]) (by simpa using h2), h3⟩
theorem pisL_no (R : Nat) (s t : ByteArray) (l : List UInt8) (d : Nat) (w : World) (h : PL w R s l d) (hs : s.size ≤ 120) (h10 : t.size ≤ 10) (ht : Lib.hasPrefix l t.data.toList = false) :
  Calls Tryz.prog 115 #[.pointer (some ⟨R, 0, none⟩), .string t] w fun e w' => e = .returned (.bool false) ∧ PL w' R s l d ∧ Frm (· = R) w w' := by
 have hb : hasR s (s.size - l.length) t = false := by rw [hasR_eq h]; exact ht
 obtain ⟨wr, hp⟩ := h.2.2
 refine (pis_ok R s t _ d wr 0 w hp (by omega) hs h10).mono ?_
 rintro e w' ⟨h1, h2, h3⟩
 rw [hb] at h1 h2
 exact ⟨h1, ⟨h.1, h.2.1, wr, by simpa using h2⟩, h3⟩
theorem pwantL_yes (R : Nat) (s : ByteArray) (c : UInt8) (r : List UInt8) (d : Nat) (w : World) (h : PL w R s (c :: r) d) (hs : s.size ≤ 120) :
  Calls Tryz.prog 82 #[.pointer (some ⟨R, 0, none⟩), .string ⟨#[c]⟩] w fun e w' => e = .returned (.tuple #[]) ∧ PL w' R s r d ∧ Frm (· = R) w w' := by
 have hb : hasR s (s.size - (c :: r).length) ⟨#[c]⟩ = true := by rw [hasR_eq h]; simp [Lib.hasPrefix]
 obtain ⟨wr, hp⟩ := h.2.2
 refine (pwant_yes R s ⟨#[c]⟩ _ d wr 0 w hp (by omega) hs (by show 1 ≤ 10; omega) hb).mono ?_
 rintro e w' ⟨h1, h2, h3⟩
 exact ⟨h1, h.on (n := 1) (wr := wr) (by simp; omega) rfl h2, h3⟩
theorem pwantL_no (R : Nat) (s : ByteArray) (c : UInt8) (l : List UInt8) (d : Nat) (w : World) (h : PL w R s l d) (hs : s.size ≤ 120) (hd : d ≤ 20) (hc : ∀ r, l ≠ c :: r) :
  Calls Tryz.prog 82 #[.pointer (some ⟨R, 0, none⟩), .string ⟨#[c]⟩] w fun e w' => e = .returned (.tuple #[]) ∧ PBad w' R s d (s.size - l.length : Nat) 2 ∧ Frm (· = R) w w' := by
 have hb : hasR s (s.size - l.length) ⟨#[c]⟩ = false := by
  rw [hasR_eq h]
  cases l with
  | nil => rfl
  | cons x r =>
   have : ¬ c = x := fun e => hc r (e ▸ rfl)
   simp [Lib.hasPrefix, List.isPrefixOf, this]
 obtain ⟨wr, hp⟩ := h.2.2
 refine (pwant_no R s ⟨#[c]⟩ _ d wr w hp (by omega) hs (by show 1 ≤ 10; omega) hb).mono ?_
 rintro e w' ⟨h1, h2, h3⟩
 exact ⟨h1, ⟨_, d, by omega, Nat.le_refl _, hd, by decide, h2⟩, h3⟩
theorem pdownL (R d : Nat) (s : ByteArray) (l : List UInt8) (a : Int) (w : World) (h : PL w R s l d) (hd : d < 20) :
  Calls Tryz.prog 81 #[.pointer (some ⟨R, 0, none⟩), .int .i64 a] w fun e w' => e = .returned (.bool true) ∧ PL w' R s l (d + 1) ∧ Frm (· = R) w w' := by
 obtain ⟨wr, hp⟩ := h.2.2
 refine (pdown_ok R _ d s a wr w hp hd).mono ?_
 rintro e w' ⟨h1, h2, h3⟩
 exact ⟨h1, ⟨h.1, h.2.1, wr, h2⟩, h3⟩
theorem pdownL_full (R : Nat) (s : ByteArray) (l : List UInt8) (a : Int) (w : World) (h : PL w R s l 20) :
  Calls Tryz.prog 81 #[.pointer (some ⟨R, 0, none⟩), .int .i64 a] w fun e w' => e = .returned (.bool false) ∧ PBad w' R s 20 a 4 ∧ Frm (· = R) w w' := by
 obtain ⟨wr, hp⟩ := h.2.2
 refine (pdown_full R _ s a wr w hp).mono ?_
 rintro e w' ⟨h1, h2, h3⟩
 exact ⟨h1, ⟨_, 20, by omega, Nat.le_refl _, Nat.le_refl _, by decide, h2⟩, h3⟩
def PReads (R : Nat) (s : ByteArray) (d : Nat) (w : World) (r : Rd) (e : Ending) (w' : World) : Prop := match r with
 | .ok t l => ∃ o n A c, e = .returned (.agg #[.int .i64 o, .int .i64 n, .slice A c c]) ∧ TreeAt (fun k => w.heap.size ≤ k ∧ k < w'.heap.size) w' (.agg #[.int .i64 o, .int .i64 n, .slice A c c]) t ∧ PL w' R s l d ∧ Frm (· = R) w w'
 | .bad k j => ∃ o n A c, e = .returned (.agg #[.int .i64 o, .int .i64 n, .slice A c c]) ∧ PBad w' R s d (s.size - k : Nat) j ∧ Frm (· = R) w w'
def PReadsAs (f : Nat) (X : Reads) (m : Nat) : Prop := ∀ (R : Nat) (s : ByteArray) (l : List UInt8) (d : Nat) (w : World), PL w R s l d → s.size ≤ 120 → d ≤ 20 → l.length ≤ m → Calls Tryz.prog f #[.pointer (some ⟨R, 0, none⟩)] w (PReads R s d w (X d l))
end Go.Proofs.YtfndhfekbbbliaaGreatDoor

/-
  The reference's reader: variables of trees; less. Conditions: the text takes at most 120 bytes, the depth is at most 20.
-/
namespace Go.Proofs.YtfndhfekbbbliaaGreatDoor
open Go.RowKit Go.ChangeShapes Go.WideShapes
set_option linter.unusedVariables false
def RTVar (w : World) (k : Nat) (x y z : Value) : Prop := w.heap[k]? = some (.cells #[x, y, z] 24 (0, 0))
theorem RTVar.cells {w : World} {k : Nat} {x y z : Value} (h : RTVar w k x y z) : w.cell? ⟨k, 0, none⟩ = some x ∧ w.cell? ⟨k, 1, none⟩ = some y ∧ w.cell? ⟨k, 2, none⟩ = some z ∧ (∀ i, w.frozen? ⟨k, i, none⟩ = false) :=
 ⟨(cell_of_row w k 0 _ _ _ h).trans rfl, (cell_of_row w k 1 _ _ _ h).trans rfl, (cell_of_row w k 2 _ _ _ h).trans rfl, fun i => by simp [World.frozen?, RTVar] at h ⊢; simp [h]⟩
def rset (w : World) (k : Nat) (x y z : Value) : World := ((w.setCell ⟨k, 0, none⟩ x).setCell ⟨k, 1, none⟩ y).setCell ⟨k, 2, none⟩ z
theorem RTVar.put {w : World} {k : Nat} {x y z : Value} (h : RTVar w k x y z) (x' y' z' : Value) : RTVar (rset w k x' y' z') k x' y' z' := by
 unfold RTVar at h ⊢
 simp [rset, World.setCell, Array.getElem?_modify, h]
theorem rset_far (w : World) {k j : Nat} (h : j ≠ k) (x y z : Value) : (rset w k x y z).heap[j]? = w.heap[j]? := by
 unfold rset
 iterate 3 rw [Below.heap_setCell _ _ _ _ (by simpa using h)]
theorem rset_size (w : World) (k : Nat) (x y z : Value) : (rset w k x y z).heap.size = w.heap.size := by simp [rset]
theorem Frm.rset {F : Nat → Prop} {a w : World} (h : Frm F a w) {k : Nat} (hk : F k ∨ a.heap.size ≤ k) (x y z : Value) : Frm F a (Go.Proofs.YtfndhfekbbbliaaGreatDoor.rset w k x y z) := ((h.setCell (p := ⟨k, 0, none⟩) hk _).setCell (p := ⟨k, 1, none⟩) hk _).setCell (p := ⟨k, 2, none⟩) hk _
theorem RTVar.new (w : World) (x y z : Value) : RTVar (w.alloc (.cells #[x, y, z] 24)) w.heap.size x y z := heap_alloc_new w _
theorem RTVar.frm {w w' : World} {R k : Nat} {x y z : Value} (h : RTVar w k x y z) (hF : Frm (· = R) w w') (hk : k ≠ R) : RTVar w' k x y z := (hF.block k (block_lt h) hk).trans h
theorem frmR {R : Nat} {a b c : World} (h : Frm (· = R) a b) (h' : Frm (· = R) b c) : Frm (· = R) a c := h.trans h' (fun _ h => h) (fun _ h => .inl h)
theorem TreeAt.rset {k B : Nat} {w : World} {v : Value} {t : Tr} (h : TreeAt (fun j => B ≤ j ∧ j < w.heap.size) w v t) (hk : k < B) (x y z : Value) : TreeAt (fun j => B ≤ j ∧ j < (Go.Proofs.YtfndhfekbbbliaaGreatDoor.rset w k x y z).heap.size) (Go.Proofs.YtfndhfekbbbliaaGreatDoor.rset w k x y z) v t :=
 (h.keep fun j hj => rset_far w (by have := hj.1; omega) x y z).more fun j hj => ⟨hj.1, by rw [rset_size]; exact hj.2⟩
set_option maxRecDepth 100000 in
set_option maxHeartbeats 4000000 in
theorem pless_one {W : Reads} {m : Nat} (hone : PReadsAs 176 (oneRd W) m) (R : Nat) (s : ByteArray) (l : List UInt8) (d : Nat) (w : World) (h : PL w R s l d) (hs : s.size ≤ 120) (hd : d ≤ 20) (hm : l.length ≤ m) (hl : ∀ r, l ≠ 45 :: r) :
  Calls Tryz.prog 138 #[.pointer (some ⟨R, 0, none⟩)] w (PReads R s d w (oneRd W d l)) := by
 obtain ⟨r0, hr0⟩ : ∃ r0, r0 = oneRd W d l := ⟨_, rfl⟩
 have HR0 := Lib.hid hr0
 rw [← hr0]
 have hb : Lib.hasPrefix l [45] = false := by
  cases l with
  | nil => rfl
  | cons x r =>
   have : ¬ 45 = x := fun e => hl r (e ▸ rfl)
   simp [Lib.hasPrefix, List.isPrefixOf, this]
 have HH := Lib.hid h
 obtain ⟨wr, hp⟩ := h.2.2
 obtain ⟨c0, c1, c2, c3, c4, cf⟩ := hp.cells
 have hlt := h.lt
 have HLT := Lib.hid hlt
 clear hr0 hp
 go_enter Tryz.func138, Tryz.ntmps138
 go_wp2_with fail
 have HH1 : Hid (PL (w.alloc (.cells #[.int .i64 0, .int .i64 0, .slice none 0 0] 24)) R s l d) := HH.out.keep (heap_alloc_old _ _ hlt)
 have HF1 : Hid (Frm (· = R) w (w.alloc (.cells #[.int .i64 0, .int .i64 0, .slice none 0 0] 24))) := (Frm.refl _ _).alloc _
 have HV1 : Hid (RTVar (w.alloc (.cells #[.int .i64 0, .int .i64 0, .slice none 0 0] 24)) w.heap.size (.int .i64 0) (.int .i64 0) (.slice none 0 0)) := RTVar.new _ _ _ _
 clear c0 c1 c2 c3 c4 cf h hlt
 refine (pisL_no R s ⟨#[45]⟩ l d _ HH1.out hs (by show 1 ≤ 10; omega) hb).mono ?_
 rintro e w2 ⟨rfl, h2, f2⟩
 have HH2 := Lib.hid h2
 have HF2 := Lib.hid (frmR HF1.out f2)
 have HV2 := Lib.hid (HV1.out.frm f2 (by have := HLT.out; omega))
 clear h2 f2 HH1 HF1 HV1
 go_wp2_with fail
 refine (hone R s l d w2 HH2.out hs hd hm).mono ?_
 intro e w3 hr
 rw [← HR0.out] at hr
 clear HR0
 cases r0 with
 | bad k j =>
  obtain ⟨o, n, A, c, rfl, hp, hf⟩ := hr
  have HP := Lib.hid hp
  have HF3 := Lib.hid (frmR HF2.out hf)
  have hV := HV2.out.frm hf (by have := HLT.out; omega)
  have HV3 := Lib.hid hV
  obtain ⟨v0, v1, v2, vf⟩ := hV.cells
  clear hp hf hV HV2 HH2 HF2
  go_wp2_with fail
  obtain ⟨q0, q1, q2, qf⟩ := (RTVar.put HV3.out (.int .i64 o) (.int .i64 n) (.slice A c c)).cells
  simp only [rset] at q0 q1 q2
  refine ⟨rfl, .agg #[.int .i64 o, .int .i64 n, .slice A c c], ?_, o, n, A, c, rfl, HP.out.keep (rset_far _ (by have := HLT.out; omega) _ _ _), HF3.out.rset (.inr (Nat.le_refl _)) _ _ _⟩
  simp only [results, Tryz.results138]
  simp [go_sem, q0, q1, q2]
 | ok a l1 =>
  obtain ⟨o, n, A, c, rfl, ht, hl, hf⟩ := hr
  have HT := Lib.hid ht
  have HL := Lib.hid hl
  have HF3 := Lib.hid (frmR HF2.out hf)
  have hV := HV2.out.frm hf (by have := HLT.out; omega)
  have HV3 := Lib.hid hV
  obtain ⟨v0, v1, v2, vf⟩ := hV.cells
  have HK2 := Lib.hid (block_lt HV2.out)
  clear ht hl hf hV HV2 HH2 HF2
  go_wp2_with fail
  obtain ⟨q0, q1, q2, qf⟩ := (RTVar.put HV3.out (.int .i64 o) (.int .i64 n) (.slice A c c)).cells
  simp only [rset] at q0 q1 q2
  refine ⟨rfl, .agg #[.int .i64 o, .int .i64 n, .slice A c c], ?_, o, n, A, c, rfl, (HT.out.rset HK2.out _ _ _).more (fun k hk => ⟨Nat.le_trans (Nat.le_of_lt HK2.out) hk.1, hk.2⟩), HL.out.keep (rset_far _ (by have := HLT.out; omega) _ _ _), HF3.out.rset (.inr (Nat.le_refl _)) _ _ _⟩
  simp only [results, Tryz.results138]
  simp [go_sem, q0, q1, q2]
end Go.Proofs.YtfndhfekbbbliaaGreatDoor
