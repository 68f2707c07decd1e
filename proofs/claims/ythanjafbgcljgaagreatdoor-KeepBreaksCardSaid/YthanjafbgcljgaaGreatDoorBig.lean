/-
  The statements' own whole numbers (weirgatebig), by words: trim, words, NewInt, small, Text, and the digits of an int. No condition.
-/
import Derived.Test.YthanjafbgcljgaaGreatDoorHeap
import Derived.BigQuiet
import Derived.Lib.ItoaLen
import Derived.Deep.OwnRows
import Derived.Deep.RegionLaw
import Derived.Deep.CutRange
namespace Go.Proofs.YthanjafbgcljgaaGreatDoor
open Go.RowKit Go.ChangeShapes Go.WideShapes
set_option linter.unusedVariables false

def u32E : Elt Nat where
  sz := 1
  bulk := fun _ => 1
  R := fun _ _ cs n => cs = [.int .u32 (n : Int)] ∧ n < 4294967296
  len := fun _ _ _ _ h => by rw [h.1]; rfl
  keep := fun _ _ _ _ _ h _ => h
  more := fun _ _ _ _ _ h _ => h
theorem SlA.u32_ {F : Nat → Prop} {w : World} {A : Option Addr} {c : Nat} {l : List Nat} (h : SlA u32E F w A c l) {k : Nat} (hk : k < l.length) :
    ∃ b off, A = some ⟨b, off, none⟩ ∧ F b ∧ w.cell? ⟨b, off + k, none⟩ = some (.int .u32 (l[k] : Int)) ∧ l[k] < 4294967296 := by
  obtain ⟨b, off, cs, rfl, hb, hc, he, hw⟩ := h.at_ hk
  refine ⟨b, off, rfl, hb, ?_, hw⟩
  have := hc 0 _ (by rw [he]; rfl)
  simpa [u32E] using this

/-! ### Words, plain -/
def wVal : List Nat → Nat
  | [] => 0
  | a :: l => a + 4294967296 * wVal l
theorem wVal_zero : ∀ {l : List Nat}, (∀ x ∈ l, x = 0) → wVal l = 0
  | [], _ => rfl
  | a :: l, h => by rw [wVal, h a List.mem_cons_self, wVal_zero fun x hx => h x (List.mem_cons_of_mem _ hx)]
theorem wVal_take : ∀ {l : List Nat} (n : Nat), (∀ x ∈ l.drop n, x = 0) → wVal (l.take n) = wVal l
  | [], n, _ => by simp
  | a :: l, 0, h => by rw [List.take_zero, wVal_zero (l := a :: l) (by simpa using h)]; rfl
  | a :: l, n + 1, h => by rw [List.take_succ_cons, wVal, wVal, wVal_take n (by simpa using h)]
theorem wVal_pos : ∀ {l : List Nat} {k x : Nat}, l[k]? = some x → x ≠ 0 → 0 < wVal l
  | [], k, x, h, _ => by simp at h
  | a :: l, 0, x, h, h0 => by simp at h; subst h; unfold wVal; omega
  | a :: l, k + 1, x, h, h0 => by have := wVal_pos (l := l) (k := k) (by simpa using h) h0; unfold wVal; omega
/-- Where trim cuts. -/
def TrimOf (l : List Nat) (n : Nat) : Prop := (∀ x ∈ l.drop n, x = 0) ∧ (n = 0 ∨ ∃ x, l[n - 1]? = some x ∧ x ≠ 0)
theorem TrimOf.val {l : List Nat} {n : Nat} (h : TrimOf l n) : wVal (l.take n) = wVal l := wVal_take n h.1
theorem TrimOf.zero {l : List Nat} {n : Nat} (h : TrimOf l n) (hn : n ≤ l.length) : wVal l = 0 ↔ n = 0 := by
  constructor
  · intro h0
    rcases h.2 with h1 | ⟨x, hx, hx0⟩
    · exact h1
    · have := wVal_pos hx hx0; omega
  · intro h0
    subst h0
    exact wVal_zero (by simpa using h.1)
theorem drop_drop_zero {l : List Nat} {n : Nat} (hn : n < l.length) (h : ∀ x ∈ l.drop (n + 1), x = 0) (h0 : l[n] = 0) : ∀ x ∈ l.drop n, x = 0 := fun x hx => by
  rw [List.drop_eq_getElem_cons hn] at hx
  rcases List.mem_cons.1 hx with rfl | hx
  · exact h0
  · exact h x hx

set_option maxRecDepth 100000 in
theorem trim_ok (F : Nat → Prop) (g c : Nat) (l : List Nat) (w : World) (h : SlA u32E F w (some ⟨g, 0, none⟩) c l) :
    Calls Tryz.prog 117 #[.slice (some ⟨g, 0, none⟩) l.length c] w fun e w' => ∃ n, e = .returned (.slice (some ⟨g, 0, none⟩) n c) ∧ n ≤ l.length ∧ TrimOf l n ∧ w = w' := by
  have H := Lib.hid h
  have hle := h.le
  have hc := h.1
  have hcm := h.2.1
  unfold maxLen at hcm
  clear h
  go_enter Tryz.func117, Tryz.ntmps117
  go_wp2_with fail
  go_loop [3] (fun nv => ∃ n : Nat, n ≤ l.length ∧ nv = .int .i64 n ∧ Hid (∀ x ∈ l.drop n, x = 0)) (fun nv => (intOf nv).toNat)
  case atStart => exact ⟨l.length, Nat.le_refl _, rfl, (fun x hx => by simp at hx)⟩
  case round =>
    obtain ⟨n, hn, rfl, HZ⟩ := hrel
    by_cases h0 : n = 0
    · subst h0
      have d0 : decide (0 < 0) = false := rfl
      have HT : Hid (TrimOf l 0) := ⟨HZ.out, .inl rfl⟩
      clear HZ
      go_wp2_with fail
      go_ret
      exact ⟨0, rfl, Nat.zero_le _, HT.out, rfl⟩
    · obtain ⟨m, rfl⟩ : ∃ m, n = m + 1 := ⟨n - 1, by omega⟩
      obtain ⟨b, off, e, _, c0, hw⟩ := H.out.u32_ (k := m) (by omega)
      injection e with e; injection e with e1 e2
      subst e1; subst e2
      rw [Nat.zero_add] at c0
      have e1 : ((m + 1 : Nat) : Int) - 1 = (m : Int) := by omega
      have d0 : decide (0 < m + 1) = true := decide_eq_true (by omega)
      by_cases hx : l[m] = 0
      · have HZ2 : Hid (∀ x ∈ l.drop m, x = 0) := drop_drop_zero (by omega) HZ.out hx
        rw [hx] at c0
        clear HZ hx
        go_wp2_with fail
        go_round
        case rel => exact ⟨m, by omega, by go_num, HZ2⟩
        case measure => simp [intOf]
      · have HT : Hid (TrimOf l (m + 1)) := ⟨HZ.out, .inr ⟨l[m], by rw [Nat.add_sub_cancel]; exact List.getElem?_eq_getElem (by omega), hx⟩⟩
        generalize l[m] = x at c0 hx hw
        have d2 : ((x : Int) == 0) = false := by rw [beq_eq_false_iff_ne]; omega
        clear HZ
        go_wp2_with fail
        go_ret
        exact ⟨m + 1, rfl, by omega, HT.out, rfl⟩

/-- A number's words. -/
def wsOf (x : Nat) : List Nat := [x % 4294967296, x / 4294967296]
theorem wsOf_val (x : Nat) : wVal (wsOf x) = x := by unfold wsOf; simp only [wVal]; omega
theorem ws_sl {W : World} {g : Nat} (l : List Nat) {t : TypeId} {F : Nat → Prop} {cs : Array Value} (hg : W.heap[g]? = some (.cells cs t (0, 0))) (hcs : cs.toList = l.map fun n => .int .u32 (n : Int)) (hF : F g) (hx : ∀ x ∈ l, x < 4294967296) (hl : l.length ≤ maxLen) : SlA u32E F W (some ⟨g, 0, none⟩) l.length l := by
  refine ⟨Nat.le_refl _, hl, fun i x hi => ⟨g, 0, [.int .u32 (x : Int)], rfl, hF, ?_, rfl, hx x (List.mem_of_getElem? hi)⟩⟩
  intro j u hj
  match j, hj with
  | 0, hj =>
    simp at hj; subst hj
    have h1 := cell_of_row W g (0 + (i * 1 + 0)) cs t (0, 0) hg
    rw [show u32E.sz = 1 from rfl, h1, ← Array.getElem?_toList, hcs]
    simp [hi]
set_option maxRecDepth 100000 in
theorem words_ok (x : Nat) (w : World) (hx : x < 18446744073709551616) :
    Calls Tryz.prog 88 #[.int .u64 (x : Int)] w fun e w' => ∃ n, e = .returned (.slice (some ⟨w.heap.size, 0, none⟩) n 2) ∧ n ≤ 2 ∧ TrimOf (wsOf x) n ∧
      SlA u32E (· = w.heap.size) w' (some ⟨w.heap.size, 0, none⟩) 2 (wsOf x) ∧ Below w.heap.size w w' ∧ w'.heap.size = w.heap.size + 1 := by
  obtain ⟨W, hW⟩ : ∃ W, W = w.alloc (.cells #[.int .u32 ((x : Int) % 4294967296), .int .u32 ((x : Int) / 4294967296)] 70) := ⟨_, rfl⟩
  have hg : W.heap[w.heap.size]? = some (.cells #[.int .u32 ((x : Int) % 4294967296), .int .u32 ((x : Int) / 4294967296)] 70 (0, 0)) := by rw [hW]; exact heap_alloc_new _ _
  have hs : SlA u32E (· = w.heap.size) W (some ⟨w.heap.size, 0, none⟩) 2 (wsOf x) := ws_sl (wsOf x) hg rfl rfl (fun y hy => by
    simp only [wsOf, List.mem_cons, List.not_mem_nil, or_false] at hy
    rcases hy with rfl | rfl <;> omega) (by unfold maxLen; show 2 ≤ _; omega)
  have HT := Lib.hid (trim_ok _ _ _ _ W hs)
  have HS := Lib.hid hs
  have HB : Hid (Below w.heap.size w W ∧ W.heap.size = w.heap.size + 1) := ⟨by rw [hW]; exact (Below.refl _ _).alloc (Nat.le_refl _) _, by rw [hW]; simp⟩
  clear hg hs
  go_enter Tryz.func88, Tryz.ntmps88
  go_wp2_with fail
  rw [← hW]
  clear hW
  refine HT.out.mono ?_
  rintro e w2 ⟨n, rfl, hn, ht, rfl⟩
  go_wp2_with fail
  go_ret
  exact ⟨n, rfl, hn, ht, HS.out, HB.out⟩
theorem give_ok (g : Nat) (b0 neg : Bool) (v0 : Value) (A : Option Addr) (n c : Nat) (t : TypeId) (w : World) (hg : w.heap[g]? = some (.cells #[.bool b0, v0] t (0, 0))) (hc : n ≤ 9223372036854775807) :
    Calls Tryz.prog 87 #[.pointer (some ⟨g, 0, none⟩), .bool neg, .slice A n c] w fun e w' => e = .returned (.pointer (some ⟨g, 0, none⟩)) ∧
      w'.heap[g]? = some (.cells #[.bool (neg && decide (0 < n)), .slice A n c] t (0, 0)) ∧ w'.heap.size = w.heap.size ∧ Frm (· = g) w w' := by
  have c0 := cell_of_row w g 0 _ _ _ hg
  have c1 := cell_of_row w g 1 _ _ _ hg
  simp at c0 c1
  have hlt := block_lt hg
  have HG := Lib.hid hg
  have hfz : ∀ j, w.frozen? ⟨g, j, none⟩ = false := fun j => by simp [World.frozen?, hg]
  have f0 := hfz 0
  have f1 := hfz 1
  clear hg hfz
  have hend : ∀ u0 u1 : Value, ((w.setCell ⟨g, 1, none⟩ u1).setCell ⟨g, 0, none⟩ u0).heap[g]? = some (.cells #[u0, u1] t (0, 0)) ∧ ((w.setCell ⟨g, 1, none⟩ u1).setCell ⟨g, 0, none⟩ u0).heap.size = w.heap.size ∧ Frm (· = g) w ((w.setCell ⟨g, 1, none⟩ u1).setCell ⟨g, 0, none⟩ u0) := fun u0 u1 =>
    ⟨by simp [World.setCell, Array.getElem?_modify, HG.out], by rw [size_setCell, size_setCell], ((Frm.refl (· = g) w).setCell (p := ⟨g, 1, none⟩) (.inl rfl) u1).setCell (p := ⟨g, 0, none⟩) (.inl rfl) u0⟩
  have HE := Lib.hid hend
  clear hend
  cases neg with
  | true =>
    go_enter Tryz.func87, Tryz.ntmps87
    go_wp2_with fail
    go_ret
    exact ⟨rfl, HE.out _ _⟩
  | false =>
    go_enter Tryz.func87, Tryz.ntmps87
    go_wp2_with fail
    go_ret
    exact ⟨rfl, HE.out _ _⟩
/-- A whole number in memory: its sign as it is stored, and its words, trimmed. -/
structure BigAt (w : World) (g : Nat) (f : Bool) (V : Nat) : Prop where
  ex : ∃ (A : Option Addr) (n c : Nat) (l : List Nat), w.heap[g]? = some (.cells #[.bool f, .slice A n c] 92 (0, 0)) ∧ n ≤ l.length ∧ TrimOf l n ∧ SlA u32E (· < w.heap.size) w A c l ∧ wVal l = V ∧ l.length ≤ 1000 ∧ (f = true → 0 < V)
theorem TrimOf.pos {l : List Nat} {n : Nat} (h : TrimOf l n) (hn : n ≤ l.length) : decide (0 < n) = decide (0 < wVal l) := by
  have := h.zero hn
  by_cases h0 : n = 0
  · rw [h0, this.2 h0]
  · rw [decide_eq_true (by omega), decide_eq_true (by have : wVal l ≠ 0 := fun e => h0 (this.1 e); omega)]
theorem setInt_ok (x : Int) (g : Nat) (b0 : Bool) (v0 : Value) (w : World) (hx : -9223372036854775808 ≤ x ∧ x ≤ 9223372036854775807) (hg : w.heap[g]? = some (.cells #[.bool b0, v0] 92 (0, 0))) :
    Calls Tryz.prog 57 #[.pointer (some ⟨g, 0, none⟩), .int .i64 x] w fun e w' => e = .returned (.pointer (some ⟨g, 0, none⟩)) ∧ BigAt w' g (decide (x < 0)) x.natAbs ∧ Frm (· = g) w w' := by
  have hend : ∀ (W2 w3 : World) (n : Nat), Below w.heap.size w W2 → W2.heap.size = w.heap.size + 1 → n ≤ 2 → TrimOf (wsOf x.natAbs) n → SlA u32E (· = w.heap.size) W2 (some ⟨w.heap.size, 0, none⟩) 2 (wsOf x.natAbs) →
      w3.heap[g]? = some (.cells #[.bool (decide (x < 0) && decide (0 < n)), .slice (some ⟨w.heap.size, 0, none⟩) n 2] 92 (0, 0)) → w3.heap.size = W2.heap.size → Frm (· = g) W2 w3 → BigAt w3 g (decide (x < 0)) x.natAbs ∧ Frm (· = g) w w3 := fun W2 w3 n h1 h2 h3 h4 h5 h6 h7 h8 => by
    have hlt := block_lt hg
    have hfl : (decide (x < 0) && decide (0 < n)) = decide (x < 0) := by
      rw [h4.pos h3, wsOf_val]
      by_cases h0 : x < 0
      · rw [decide_eq_true h0, decide_eq_true (by omega)]; rfl
      · rw [decide_eq_false h0]; rfl
    rw [hfl] at h6
    refine ⟨⟨some ⟨w.heap.size, 0, none⟩, n, 2, wsOf x.natAbs, h6, h3, h4, ?_, wsOf_val _, by show 2 ≤ 1000; omega, fun e => by have := of_decide_eq_true e; omega⟩, (Frm.ofBelow h1).trans h8 (fun _ h => h) (fun _ h => .inl h)⟩
    exact (h5.keep (h8.same (G := (· = w.heap.size)) (fun k hk => by omega) (fun k hk hk2 => by omega))).more fun k hk => by omega
  have hlt := block_lt hg
  have HE := Lib.hid hend
  have HW := Lib.hid (words_ok x.natAbs w (by omega))
  have HGV : Hid (∀ (W : World) (n : Nat), Below w.heap.size w W → n ≤ 2 → Calls Tryz.prog 87 #[.pointer (some ⟨g, 0, none⟩), .bool (decide (x < 0)), .slice (some ⟨w.heap.size, 0, none⟩) n 2] W fun e w' => e = .returned (.pointer (some ⟨g, 0, none⟩)) ∧
      w'.heap[g]? = some (.cells #[.bool (decide (x < 0) && decide (0 < n)), .slice (some ⟨w.heap.size, 0, none⟩) n 2] 92 (0, 0)) ∧ w'.heap.size = W.heap.size ∧ Frm (· = g) W w') := fun W n hb hn => give_ok g b0 _ v0 _ n 2 _ W ((hb.block g hlt).trans hg) (by omega)
  have hx1 := hx.1
  have hx2 := hx.2
  clear hend hg hx
  by_cases h0 : x < 0
  · have dx : decide (x < 0) = true := decide_eq_true h0
    have H0 := Lib.hid h0
    rw [dx] at HE HGV ⊢
    obtain ⟨k, hk⟩ : ∃ k : Nat, k = x.natAbs := ⟨_, rfl⟩
    rw [← hk] at HE HW ⊢
    have hx3 : x = -(k : Int) := by omega
    clear hk
    subst hx3
    go_enter Tryz.func57, Tryz.ntmps57
    have hwr : IntKind.u64.wrap (-IntKind.u64.wrap (-(k : Int))) = (k : Int) := by
      show (-((-(k : Int)) % 18446744073709551616)) % 18446744073709551616 = (k : Int)
      omega
    go_wp2_with fail
    clear hwr
    refine HW.out.mono ?_
    rintro e w2 ⟨n, rfl, hn, ht, hs, hb, hz⟩
    have HQ := Lib.hid (fun w3 h1 h2 h3 => HE.out w2 w3 n hb hz hn ht hs h1 h2 h3)
    have HGV2 := Lib.hid (HGV.out w2 n hb hn)
    clear hn ht hs hb hz HGV HE HW
    go_wp2_with fail
    refine HGV2.out.mono ?_
    rintro e w3 ⟨rfl, h1, h2, h3⟩
    have HR := Lib.hid (HQ.out w3 h1 h2 h3)
    clear h1 h2 h3 HQ HGV2
    go_wp2_with fail
    go_ret
    exact ⟨rfl, HR.out⟩
  · have dx : decide (x < 0) = false := decide_eq_false h0
    rw [dx] at HE HGV ⊢
    obtain ⟨k, rfl⟩ : ∃ k : Nat, x = (k : Int) := ⟨x.natAbs, by omega⟩
    rw [Int.natAbs_natCast] at HE HW ⊢
    go_enter Tryz.func57, Tryz.ntmps57
    go_wp2_with fail
    refine HW.out.mono ?_
    rintro e w2 ⟨n, rfl, hn, ht, hs, hb, hz⟩
    have HQ := Lib.hid (fun w3 h1 h2 h3 => HE.out w2 w3 n hb hz hn ht hs h1 h2 h3)
    have HGV2 := Lib.hid (HGV.out w2 n hb hn)
    clear hn ht hs hb hz HGV HE HW
    go_wp2_with fail
    refine HGV2.out.mono ?_
    rintro e w3 ⟨rfl, h1, h2, h3⟩
    have HR := Lib.hid (HQ.out w3 h1 h2 h3)
    clear h1 h2 h3 HQ HGV2
    go_wp2_with fail
    go_ret
    exact ⟨rfl, HR.out⟩
theorem newInt_ok (x : Int) (w : World) (hx : -9223372036854775808 ≤ x ∧ x ≤ 9223372036854775807) :
    Calls Tryz.prog 43 #[.int .i64 x] w fun e w' => ∃ g, e = .returned (.pointer (some ⟨g, 0, none⟩)) ∧ BigAt w' g (decide (x < 0)) x.natAbs ∧ Below w.heap.size w w' := by
  have HS := Lib.hid (fun W g v0 hg => setInt_ok x g false v0 W hx hg)
  go_enter Tryz.func43, Tryz.ntmps43
  go_wp2_with fail
  refine (HS.out _ w.heap.size _ (heap_alloc_new _ _)).mono ?_
  rintro e w2 ⟨rfl, h1, h2⟩
  have HR := Lib.hid (And.intro h1 (((Below.refl w.heap.size w).alloc (Nat.le_refl _) _).trans (h2.below (by simp) (fun k hk => by omega))))
  clear h1 h2
  go_wp2_with fail
  go_ret
  exact ⟨_, rfl, HR.out⟩

theorem or_add (r a : Nat) (h : a < 4294967296) (hr : r * 4294967296 + a < 18446744073709551616) : bits BinOp.or IntKind.u64 ((r : Int) * 4294967296) (a : Int) = ((r * 4294967296 + a : Nat) : Int) := by
  have h1 : r * 4294967296 ||| a = r * 4294967296 + a := by
    have := Nat.shiftLeft_add_eq_or_of_lt (i := 32) (b := a) (by simpa using h) r
    rw [Nat.shiftLeft_eq] at this
    exact this.symm
  have h2 : (((r : Int) * 4294967296 % 2 ^ IntKind.u64.bits).toNat ||| a % 2 ^ IntKind.u64.bits) = r * 4294967296 + a := by
    have e1 : ((r : Int) * 4294967296 % 2 ^ IntKind.u64.bits).toNat = r * 4294967296 := by
      show ((r : Int) * 4294967296 % 18446744073709551616).toNat = _
      omega
    have e2 : a % 2 ^ IntKind.u64.bits = a := by
      show a % 18446744073709551616 = a
      omega
    rw [e1, e2, h1]
  unfold bits
  simp only [BitVec.toNat_or, BitVec.toNat_ofInt]
  have h3 : (((a : Int) % ((2 ^ IntKind.u64.bits : Nat) : Int)).toNat) = a % 2 ^ IntKind.u64.bits := by
    show (((a : Int) % ((18446744073709551616 : Nat) : Int)).toNat) = a % 18446744073709551616
    omega
  have h4 : (((r : Int) * 4294967296 % ((2 ^ IntKind.u64.bits : Nat) : Int)).toNat) = ((r : Int) * 4294967296 % 2 ^ IntKind.u64.bits).toNat := by
    show (((r : Int) * 4294967296 % ((18446744073709551616 : Nat) : Int)).toNat) = ((r : Int) * 4294967296 % 18446744073709551616).toNat
    omega
  rw [h3, h4, h2]
  show (((r * 4294967296 + a : Nat) : Int)) % 18446744073709551616 = _
  omega
theorem u32_info : (Tryz.prog.info? 70).map (fun i => (i.zero, i.size, i.bytes)) = some (some (.int .u32 0), 1, 4) := by kernel_rfl
def u32v (n : Nat) : Value := .int .u32 (n : Int)
/-! ### Copies -/
theorem twin_ok (F : Nat → Prop) (A : Option Addr) (c : Nat) (l : List Nat) (w : World) (h : SlA u32E F w A c l) (hl : l.length ≤ 1000) :
    Calls Tryz.prog 89 #[.slice A l.length c] w fun e w' => ∃ A' c', e = .returned (.slice A' l.length c') ∧ SlA u32E (fun k => w.heap.size ≤ k ∧ k < w'.heap.size) w' A' c' l ∧ Below w.heap.size w w' := by
  have hs : Src Tryz.prog 1 90 (.slice A l.length c) l.length (l.flatMap fun x => [u32v x]) w := Src.of_sl (P := Tryz.prog) (tx := 90) h Tryz.underlying90 (fun x => [u32v x]) (fun cs x hx => hx.1) (fun _ => rfl) (fun x u hu => by simp at hu; subst hu; rfl)
  have HW : Hid (∀ x ∈ l, x < 4294967296) := fun x hx => by
    obtain ⟨i, hi⟩ := List.getElem?_of_mem hx
    obtain ⟨b, off, cs, _, _, _, hr⟩ := h.2.2 i x hi
    exact hr.2
  have HS := Lib.hid hs
  clear hs h
  go_enter Tryz.func89, Tryz.ntmps89
  go_wp2_with (at_builtin; refine wpList_append_src (w := w) rfl _ _ 90 90 rfl w.heap.size 70 _ 1 4 Tryz.underlying90 u32_info rfl (by decide) (.slice none 0 0) 0 [] rfl (World.ownsRow_nil _ _ _ _) (.slice A l.length c) rfl l.length _ HS.out ?_ ?_ (Nat.le_refl _) (Below.refl _ _) (Nat.le_refl _) ?_)
  · unfold maxLen; omega
  · omega
  · intro v1 w1 hown hg hb hat
    try rw [Nat.zero_add, List.nil_append] at hown
    obtain ⟨A', c', hv, _, hsl⟩ := own_sl (E := u32E) (l := l) (fun x => [u32v x]) (fun _ => rfl) (by decide) hown (fun x hx => ⟨rfl, HW.out x hx⟩)
    subst hv
    have HR : Hid (SlA u32E (fun k => w.heap.size ≤ k ∧ k < w1.heap.size) w1 A' c' l) := by
      refine ⟨hsl.1, hsl.2.1, fun i x hi => ?_⟩
      obtain ⟨b, off, cs, e, hb2, hc2, hr2⟩ := hsl.2.2 i x hi
      refine ⟨b, off, cs, e, ⟨?_, hb2⟩, hc2, hr2⟩
      have := hown.lt b (by rw [e]; rfl)
      omega
    have HB := Lib.hid hb
    clear hown hg hb hat hsl
    go_wp2_with fail
    go_ret
    exact ⟨A', c', rfl, HR.out, HB.out⟩
end Go.Proofs.YthanjafbgcljgaaGreatDoor
