/-
  Contracts of package keyed: New, Put, Get, Del, All. Condition: the states' numbers are ints, as they come.
-/
import Derived.Test.YtdnmdekmgbgioaaHeldF
import Derived.Test.YtdnmdekmgbgioaaAtKey
import Derived.Test.YtdnmdekmgbgioaaMapStep
import Derived.Test.YtdnmdekmgbgioaaOf
import Derived.Test.YtdnmdekmgbgioaaForest
import Derived.Test.YtdnmdekmgbgioaaLays
namespace Go.Proofs.Ytdnmdekmgbgioaa
open Go.RowKit
open Go.Sort hiding Below
set_option linter.unusedVariables false

def hk (h : Hld) : Value × Value := (atV h.node h.key, hldV h)
/-- What stands in a store may stand there. -/
def Kept (ps : List Hld) : Prop := ∀ h ∈ ps, hldOk h ∧ I64 h.a ∧ I64 h.b
structure KeyedAt (w : World) (g b : Nat) (ps : List Hld) : Prop where
  obj : w.heap[g]? = some (.cells #[.map (some b)] 79 (0, 0))
  map : MapAt IsAtK w b (ps.map hk)
  ok : Kept ps
theorem KeyedAt.ne {w : World} {g b : Nat} {ps : List Hld} (h : KeyedAt w g b ps) : g ≠ b := fun e => by
  have h1 := h.obj
  obtain ⟨es, clock, hb, _⟩ := h.map
  rw [e, hb] at h1; cases h1
theorem KeyedAt.lt {w : World} {g b : Nat} {ps : List Hld} (h : KeyedAt w g b ps) : g < w.heap.size ∧ b < w.heap.size := ⟨block_lt h.obj, h.map.lt⟩
theorem KeyedAt.cell {w : World} {g b : Nat} {ps : List Hld} (h : KeyedAt w g b ps) : w.cell? ⟨g, 0, none⟩ = some (.map (some b)) := (cell_of_row w g 0 _ _ _ h.obj).trans rfl
theorem KeyedAt.keep {w w' : World} {g b : Nat} {ps : List Hld} (h : KeyedAt w g b ps) (h1 : w'.heap[g]? = w.heap[g]?) (h2 : w'.heap[b]? = w.heap[b]?) : KeyedAt w' g b ps := ⟨h1.trans h.obj, h.map.keep h2, h.ok⟩
theorem KeyedAt.below {w w' : World} {g b : Nat} {ps : List Hld} (h : KeyedAt w g b ps) (hb : Below w.heap.size w w') : KeyedAt w' g b ps := h.keep (hb.block g h.lt.1) (hb.block b h.lt.2)
theorem KeyedAt.frm {w w' : World} {g b : Nat} {ps : List Hld} {F : Nat → Prop} (h : KeyedAt w g b ps) (hf : Frm F w w') (h1 : ¬ F g) (h2 : ¬ F b) : KeyedAt w' g b ps := h.keep (hf.block g h.lt.1 h1) (hf.block b h.lt.2 h2)
theorem KeyedAt.apart {w : World} {g b : Nat} {ps : List Hld} (h : KeyedAt w g b ps) : Apart2 ps := by
  have hn := h.map.nodup
  rw [List.map_map] at hn
  unfold Apart2
  rw [List.Nodup, List.pairwise_map] at hn
  exact hn.imp fun {x y} hxy e => hxy (by simp only [Function.comp, hk, atV]; rw [e.1, e.2])
theorem isAt (n : Int) (s : ByteArray) (x y : Int) (h : hldOk ⟨n, s, x, y⟩) : IsAtK (atV n s) := by
  obtain ⟨h1, h2, h3⟩ := h
  simp only at h1 h2 h3
  refine ⟨n, s, rfl, by unfold maxLen; omega, ?_⟩
  show (Lit.int .i64 n).wf = true
  exact WalkArith.wf_i64 (by omega)
theorem hk_ne {ps : List Hld} {n : Int} {s : ByteArray} (h : ∀ p ∈ ps, ¬ p.at_ n s) : ∀ y ∈ ps.map hk, y.1 ≠ atV n s := fun y hy e => by
  obtain ⟨x, hx, rfl⟩ := List.mem_map.1 hy
  have e2 : atV x.node x.key = atV n s := e
  unfold atV at e2
  injection e2 with e2
  injection e2 with e2
  injection e2 with e3 e4
  injection e4 with e4 e5
  injection e3 with _ e3
  injection e4 with e4
  exact h x hx ⟨e3, e4⟩

theorem keyedNew_any (w : World) : Calls Try.prog 9 #[] w fun e w' => ∃ g b, e = .returned (.pointer (some ⟨g, 0, none⟩)) ∧ KeyedAt w' g b [] ∧ w.heap.size ≤ g ∧ w.heap.size ≤ b ∧ Below w.heap.size w w' := by
  have hmm := @run_makeMap Try.prog
  go_enter Try.func9, Try.ntmps9
  go_wp2_with fail
  go_ret
  refine ⟨w.heap.size + 1, w.heap.size, by simp, ⟨?_, ?_, nofun⟩, by omega, by omega, ((Below.refl _ _).alloc (Nat.le_refl _) _).alloc (by simp) _⟩
  · have := heap_alloc_new (w.alloc (.map #[] 0)) (.cells #[.map (some w.heap.size)] 79)
    simpa using this
  · exact (MapAt.made _ w).keep (Below.heap_alloc _ _ _ (by simp))

/-! ### Put -/
theorem kept_hit {p1 p2 : List Hld} {h0 h : Hld} (hk : Kept (p1 ++ h0 :: p2)) (h1 : hldOk h ∧ I64 h.a ∧ I64 h.b) : Kept (p1 ++ h :: p2) := fun x hx => by
  rcases List.mem_append.1 hx with hx | hx
  · exact hk x (List.mem_append.2 (.inl hx))
  · rcases List.mem_cons.1 hx with rfl | hx
    · exact h1
    · exact hk x (List.mem_append.2 (.inr (List.mem_cons_of_mem _ hx)))
theorem kept_snoc {ps : List Hld} {h : Hld} (hk : Kept ps) (h1 : hldOk h ∧ I64 h.a ∧ I64 h.b) : Kept (ps ++ [h]) := fun x hx => by
  rcases List.mem_append.1 hx with hx | hx
  · exact hk x hx
  · rw [List.mem_singleton.1 hx]; exact h1
theorem hk_split (p1 p2 : List Hld) (h : Hld) : (p1 ++ h :: p2).map hk = p1.map hk ++ (atV h.node h.key, hldV h) :: p2.map hk := by simp [hk]
set_option maxRecDepth 100000 in
set_option maxHeartbeats 2000000 in
theorem put_hit (g b : Nat) (p1 p2 : List Hld) (n : Int) (s : ByteArray) (x0 y0 x y : Int) (w : World) (K : KeyedAt w g b (p1 ++ ⟨n, s, x0, y0⟩ :: p2)) (hok : hldOk ⟨n, s, x, y⟩) (hx : I64 x) (hy : I64 y) :
    Calls Try.prog 10 #[.pointer (some ⟨g, 0, none⟩), .agg #[.int .i64 n, .string s, .int .i64 x, .int .i64 y]] w fun e w' => e = .returned .nilIface ∧ KeyedAt w' g b (p1 ++ ⟨n, s, x, y⟩ :: p2) ∧ Frm (· = b) w w' := by
  have HK := Lib.hid K
  have HOK := Lib.hid hok
  have hg := K.lt.1
  have hbl := K.lt.2
  have hgb := K.ne
  have HKEPT := Lib.hid (kept_hit K.ok ⟨hok, hx, hy⟩)
  clear K hok hx hy
  go_enter Try.func10, Try.ntmps10
  go_wp2_with fail
  refine (held_yes n s x y _ HOK.out).mono ?_
  rintro e w1 ⟨rfl, hb1⟩
  have hx1 : w1.heap[w.heap.size]? = some (.cells #[.int .i64 n, .string s, .int .i64 x, .int .i64 y] 38 (0, 0)) := (hb1.block _ (by simp)).trans (heap_alloc_new w _)
  have c0 := cell_of_row w1 w.heap.size 0 _ _ _ hx1
  have c1 := cell_of_row w1 w.heap.size 1 _ _ _ hx1
  have c2 := cell_of_row w1 w.heap.size 2 _ _ _ hx1
  have c3 := cell_of_row w1 w.heap.size 3 _ _ _ hx1
  simp at c0 c1 c2 c3
  have hB1 : Below w.heap.size w w1 := ((Below.refl w.heap.size w).alloc (Nat.le_refl _) _).trans (hb1.mono (by simp))
  have hK1 : KeyedAt w1 g b (p1 ++ ⟨n, s, x0, y0⟩ :: p2) := HK.out.below hB1
  have g0 := hK1.cell
  have hs1 := hb1.size
  simp at hs1
  have HB1 := Lib.hid hB1
  have HK1 := Lib.hid hK1
  have HX1 := Lib.hid hx1
  clear hb1 hB1 hK1 hx1 HK
  have hbw : b < w1.heap.size := by omega
  have hgw : g < w1.heap.size := by omega
  have hww : w.heap.size < w1.heap.size := by omega
  have hl : ∀ W' : World, W'.heap[b]? = w1.heap[b]? → (Instr.lookup 77 (.map (some b)) (atV n s) true).run Try.prog W' = .ok (.tuple #[hldV ⟨n, s, x0, y0⟩, .bool true]) W' := fun W' e =>
    (HK1.out.map.keep e).look_hit atT Try.underlying77 (key := atV n s) (v := hldV ⟨n, s, x0, y0⟩) (by rw [hk_split]; simp) true
  obtain ⟨AT, hAT⟩ : ∃ o : Obj, o = .cells #[.int .i64 n, .string s] 82 := ⟨_, rfl⟩
  have l1 := hl (w1.alloc AT).drew (Below.heap_alloc _ _ _ hbw)
  have l2 := hl ((w1.alloc AT).alloc (.cells #[.int .i64 0, .string ⟨#[]⟩, .int .i64 0, .int .i64 0] 38)).drew ((Below.heap_alloc _ _ _ (by simp; omega)).trans (Below.heap_alloc _ _ _ hbw))
  rw [hAT] at l1 l2
  simp only [atV, hldV] at l1 l2
  clear hl hAT
  go_wp2_with fail
  go_region
  all_goals
    clear l1 l2
    go_wp2_with fail
    obtain ⟨W2, hW2⟩ : ∃ W2 : World, W2 = ((w1.alloc (.cells #[.int .i64 n, .string s] 82)).alloc (.cells #[.int .i64 n, .string s, .int .i64 x0, .int .i64 y0] 38)).drew := ⟨_, rfl⟩
    have hB2 : Below w1.heap.size w1 W2 := by rw [hW2]; exact (((Below.refl _ _).alloc (Nat.le_refl _) _).alloc (by simp) _).drew
    have e5 : W2.cell? ⟨w1.heap.size, 0, none⟩ = some (.int .i64 n) ∧ W2.cell? ⟨w1.heap.size, 1, none⟩ = some (.string s) := by
      have h5 : W2.heap[w1.heap.size]? = some (.cells #[.int .i64 n, .string s] 82 (0, 0)) := by rw [hW2]; exact (Below.heap_alloc _ _ _ (by simp)).trans (heap_alloc_new w1 _)
      exact ⟨(cell_of_row _ _ 0 _ _ _ h5).trans rfl, (cell_of_row _ _ 1 _ _ _ h5).trans rfl⟩
    rw [← hW2]
    obtain ⟨e50, e51⟩ := e5
    have d0 := (hB2.cell (p := ⟨w.heap.size, 0, none⟩) hww).trans c0
    have d1 := (hB2.cell (p := ⟨w.heap.size, 1, none⟩) hww).trans c1
    have d2 := (hB2.cell (p := ⟨w.heap.size, 2, none⟩) hww).trans c2
    have d3 := (hB2.cell (p := ⟨w.heap.size, 3, none⟩) hww).trans c3
    have dg := (hB2.cell (p := ⟨g, 0, none⟩) hgw).trans g0
    have hK2 := HK1.out.below hB2
    have hm2 : MapAt IsAtK W2.drew b (p1.map hk ++ (atV n s, hldV ⟨n, s, x0, y0⟩) :: p2.map hk) := by have := hK2.map; rw [hk_split] at this; exact this.keep rfl
    obtain ⟨w3, hrun, hm3, hg3, hz3⟩ := hm2.store_hit atT Try.underlying77 (hldV ⟨n, s, x, y⟩)
    simp only [atV, hldV] at hrun
    have HF : Hid (KeyedAt w3 g b (p1 ++ ⟨n, s, x, y⟩ :: p2)) := ⟨(hg3.block g hK2.lt.1 (fun e => hgb (Option.some.inj e))).trans hK2.obj, by rw [hk_split]; exact hm3, HKEPT.out⟩
    have HFR : Hid (Frm (· = b) w w3) := (Frm.ofBelow (F := (· = b)) (HB1.out.trans (hB2.drew.mono (by omega)))).trans (Frm.ofGrown (F := (· = b)) (w := W2.drew) hg3 (fun k e => (Option.some.inj e).symm)) (fun _ h => h) (fun _ h => .inl h)
    clear hW2 hB2 hK2 hm2 hm3 hg3 hz3 c0 c1 c2 c3 g0 HK1 HB1
    go_region
    go_wp2_with fail
    go_ret
    exact ⟨rfl, HF.out, HFR.out⟩

set_option maxRecDepth 100000 in
set_option maxHeartbeats 2000000 in
theorem put_miss (g b : Nat) (ps : List Hld) (n : Int) (s : ByteArray) (x y : Int) (w : World) (K : KeyedAt w g b ps) (hno : ∀ p ∈ ps, ¬ p.at_ n s) (hok : hldOk ⟨n, s, x, y⟩) (hx : I64 x) (hy : I64 y) :
    Calls Try.prog 10 #[.pointer (some ⟨g, 0, none⟩), .agg #[.int .i64 n, .string s, .int .i64 x, .int .i64 y]] w fun e w' =>
      (ps.length < 400 ∧ e = .returned .nilIface ∧ KeyedAt w' g b (ps ++ [⟨n, s, x, y⟩]) ∧ Frm (· = b) w w') ∨ (400 ≤ ps.length ∧ e = .returned (.iface 73 (.int .i64 4)) ∧ Below w.heap.size w w') := by
  have HK := Lib.hid K
  have HOK := Lib.hid hok
  have hg := K.lt.1
  have hbl := K.lt.2
  have hgb := K.ne
  have HKEPT := Lib.hid (kept_snoc (h := ⟨n, s, x, y⟩) K.ok ⟨hok, hx, hy⟩)
  have HNK := Lib.hid (hk_ne hno)
  have HAT := Lib.hid (isAt n s x y hok)
  obtain ⟨N, hN⟩ : ∃ N, N = ps.length := ⟨_, rfl⟩
  have HN := Lib.hid hN
  rw [← hN]
  clear K hok hx hy hno hN
  go_enter Try.func10, Try.ntmps10
  go_wp2_with fail
  refine (held_yes n s x y _ HOK.out).mono ?_
  rintro e w1 ⟨rfl, hb1⟩
  have hx1 : w1.heap[w.heap.size]? = some (.cells #[.int .i64 n, .string s, .int .i64 x, .int .i64 y] 38 (0, 0)) := (hb1.block _ (by simp)).trans (heap_alloc_new w _)
  have c0 := cell_of_row w1 w.heap.size 0 _ _ _ hx1
  have c1 := cell_of_row w1 w.heap.size 1 _ _ _ hx1
  have c2 := cell_of_row w1 w.heap.size 2 _ _ _ hx1
  have c3 := cell_of_row w1 w.heap.size 3 _ _ _ hx1
  simp at c0 c1 c2 c3
  have hB1 : Below w.heap.size w w1 := ((Below.refl w.heap.size w).alloc (Nat.le_refl _) _).trans (hb1.mono (by simp))
  have hK1 : KeyedAt w1 g b ps := HK.out.below hB1
  have g0 := hK1.cell
  have hs1 := hb1.size
  simp at hs1
  have HB1 := Lib.hid hB1
  have HK1 := Lib.hid hK1
  have HX1 := Lib.hid hx1
  clear hb1 hB1 hK1 hx1 HK
  have hbw : b < w1.heap.size := by omega
  have hgw : g < w1.heap.size := by omega
  have hww : w.heap.size < w1.heap.size := by omega
  have hl : ∀ W' : World, W'.heap[b]? = w1.heap[b]? → (Instr.lookup 77 (.map (some b)) (atV n s) true).run Try.prog W' = .ok (.tuple #[hldV ⟨0, ⟨#[]⟩, 0, 0⟩, .bool false]) W' := fun W' e =>
    (HK1.out.map.keep e).look_miss atT Try.underlying77 (by kernel_rfl) HAT.out HNK.out true
  obtain ⟨AT, hAT⟩ : ∃ o : Obj, o = .cells #[.int .i64 n, .string s] 82 := ⟨_, rfl⟩
  have l1 := hl (w1.alloc AT).drew (Below.heap_alloc _ _ _ hbw)
  have l2 := hl ((w1.alloc AT).alloc (.cells #[.int .i64 0, .string ⟨#[]⟩, .int .i64 0, .int .i64 0] 38)).drew ((Below.heap_alloc _ _ _ (by simp; omega)).trans (Below.heap_alloc _ _ _ hbw))
  rw [hAT] at l1 l2
  simp only [atV, hldV] at l1 l2
  clear hl hAT
  go_wp2_with fail
  go_region
  all_goals
    clear l1 l2
    obtain ⟨W2, hW2⟩ : ∃ W2 : World, W2 = ((w1.alloc (.cells #[.int .i64 n, .string s] 82)).alloc (.cells #[.int .i64 0, .string ⟨#[]⟩, .int .i64 0, .int .i64 0] 38)).drew := ⟨_, rfl⟩
    have hB2 : Below w1.heap.size w1 W2 := by rw [hW2]; exact (((Below.refl _ _).alloc (Nat.le_refl _) _).alloc (by simp) _).drew
    have e5 : W2.cell? ⟨w1.heap.size, 0, none⟩ = some (.int .i64 n) ∧ W2.cell? ⟨w1.heap.size, 1, none⟩ = some (.string s) := by
      have h5 : W2.heap[w1.heap.size]? = some (.cells #[.int .i64 n, .string s] 82 (0, 0)) := by rw [hW2]; exact (Below.heap_alloc _ _ _ (by simp)).trans (heap_alloc_new w1 _)
      exact ⟨(cell_of_row _ _ 0 _ _ _ h5).trans rfl, (cell_of_row _ _ 1 _ _ _ h5).trans rfl⟩
    rw [← hW2]
    obtain ⟨e50, e51⟩ := e5
    have d0 := (hB2.cell (p := ⟨w.heap.size, 0, none⟩) hww).trans c0
    have d1 := (hB2.cell (p := ⟨w.heap.size, 1, none⟩) hww).trans c1
    have d2 := (hB2.cell (p := ⟨w.heap.size, 2, none⟩) hww).trans c2
    have d3 := (hB2.cell (p := ⟨w.heap.size, 3, none⟩) hww).trans c3
    have dg := (hB2.cell (p := ⟨g, 0, none⟩) hgw).trans g0
    have hK2 := HK1.out.below hB2
    have hlen := hK2.map.len (P := Try.prog) (ty := 3) Try.underlying77
    rw [List.length_map, ← HN.out] at hlen
    have hm2 : MapAt IsAtK W2.drew b (ps.map hk) := hK2.map.keep rfl
    obtain ⟨w3, hrun, hm3, hg3, hz3⟩ := hm2.store_new atT Try.underlying77 (hldV ⟨n, s, x, y⟩) HAT.out HNK.out
    simp only [atV, hldV] at hrun
    have HF : Hid (KeyedAt w3 g b (ps ++ [⟨n, s, x, y⟩])) := ⟨(hg3.block g hK2.lt.1 (fun e => hgb (Option.some.inj e))).trans hK2.obj, by rw [List.map_append]; exact hm3, HKEPT.out⟩
    have HB2 := Lib.hid (HB1.out.trans (hB2.mono (by omega)))
    have HFR : Hid (Frm (· = b) w w3) := (Frm.ofBelow (F := (· = b)) (HB1.out.trans (hB2.drew.mono (by omega)))).trans (Frm.ofGrown (F := (· = b)) (w := W2.drew) hg3 (fun k e => (Option.some.inj e).symm)) (fun _ h => h) (fun _ h => .inl h)
    clear hW2 hB2 hK2 hm2 hm3 hg3 hz3 c0 c1 c2 c3 g0 HK1 HB1
    by_cases hfull : 400 ≤ N
    · have q1 : decide ((400 : Int) ≤ (N : Int)) = true := decide_eq_true (by omega)
      have q2 : decide (400 ≤ N) = true := decide_eq_true (by omega)
      clear hrun
      go_wp2_with fail
      go_ret
      exact .inr ⟨hfull, rfl, HB2.out⟩
    · have q1 : decide ((400 : Int) ≤ (N : Int)) = false := decide_eq_false (by omega)
      have q2 : decide (400 ≤ N) = false := decide_eq_false (by omega)
      go_wp2_with fail
      go_region
      go_wp2_with fail
      go_ret
      exact .inl ⟨by omega, rfl, HF.out, HFR.out⟩
theorem put_range (g b : Nat) (n : Int) (s : ByteArray) (x y : Int) (w : World) (hno : ¬ hldOk ⟨n, s, x, y⟩) :
    Calls Try.prog 10 #[.pointer (some ⟨g, 0, none⟩), .agg #[.int .i64 n, .string s, .int .i64 x, .int .i64 y]] w fun e w' => e = .returned (.iface 73 (.int .i64 1)) ∧ Below w.heap.size w w' := by
  have HNO := Lib.hid hno
  clear hno
  go_enter Try.func10, Try.ntmps10
  go_wp2_with fail
  refine (held_no n s x y _ HNO.out).mono ?_
  rintro e w1 ⟨rfl, hb1⟩
  have HB1 : Hid (Below w.heap.size w w1) := ((Below.refl w.heap.size w).alloc (Nat.le_refl _) _).trans (hb1.mono (by simp))
  clear hb1
  go_wp2_with fail
  go_ret
  exact ⟨rfl, HB1.out⟩

/-! ### Get and Del -/
set_option maxRecDepth 100000 in
theorem get_hit (g b : Nat) (p1 p2 : List Hld) (n : Int) (s : ByteArray) (x y : Int) (w : World) (K : KeyedAt w g b (p1 ++ ⟨n, s, x, y⟩ :: p2)) :
    Calls Try.prog 12 #[.pointer (some ⟨g, 0, none⟩), .int .i64 n, .string s] w fun e w' => e = .returned (.tuple #[.agg #[.int .i64 n, .string s, .int .i64 x, .int .i64 y], .nilIface]) ∧ Below w.heap.size w w' := by
  have hg := K.lt.1
  have hbl := K.lt.2
  have g0 := K.cell
  have hl : ∀ W' : World, W'.heap[b]? = w.heap[b]? → (Instr.lookup 77 (.map (some b)) (atV n s) true).run Try.prog W' = .ok (.tuple #[hldV ⟨n, s, x, y⟩, .bool true]) W' := fun W' e =>
    (K.map.keep e).look_hit atT Try.underlying77 (key := atV n s) (v := hldV ⟨n, s, x, y⟩) (by rw [hk_split]; simp) true
  have l1 := hl (w.alloc (.cells #[.int .i64 0, .string ⟨#[]⟩, .int .i64 0, .int .i64 0] 38)) (Below.heap_alloc _ _ _ hbl)
  simp only [atV, hldV] at l1
  clear hl K
  go_enter Try.func12, Try.ntmps12
  go_wp2_with fail
  trace_state
  refine bodyPost_ret (v := .tuple #[.agg #[.int .i64 n, .string s, .int .i64 x, .int .i64 y], .nilIface]) (by simp [results, Try.results12, go_sem]) rfl ⟨rfl, ?_⟩
  exact ((Below.refl _ _).alloc (Nat.le_refl _) _).alloc (by simp) _
end Go.Proofs.Ytdnmdekmgbgioaa
