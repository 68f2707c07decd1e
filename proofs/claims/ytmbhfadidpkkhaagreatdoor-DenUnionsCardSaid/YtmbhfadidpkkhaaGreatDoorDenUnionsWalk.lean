/-
  The walk of DenUnions: it returns true. Conditions: the two variables of Atoi's errors hold errors, the table of powers of ten stands.
-/
import Derived.Test.YtmbhfadidpkkhaaGreatDoorPackJ
import Derived.Test.YtmbhfadidpkkhaaGreatDoorPackI
import Derived.Deep.RegionHeld3
import Derived.Deep.CutRange
namespace Go.Proofs.YtmbhfadidpkkhaaGreatDoor
open Go.RowKit Go.ChangeShapes Go.WideShapes Go.Shelf
set_option linter.unusedVariables false

theorem two_int {w : World} {g : Nat} {x y : Int} (hg : w.heap[g]? = some (.cells #[.int .i64 x, .int .i64 y] 3 (0, 0))) (hx : I64 x) (hy : I64 y) {F : Nat → Prop} (hF : F g) : SlA (intE .i64) F w (some ⟨g, 0, none⟩) 2 [x, y] := by
  have ho : OwnS w 3 1 (some ⟨g, 0, none⟩) 2 [x, y].length ([x, y].flatMap intC) := ⟨rfl, Nat.le_refl _, by unfold maxLen; omega, .inr ⟨g, 0, _, rfl, hg, by simp, fun j u hj => by rw [Nat.zero_add]; simpa [intC] using hj⟩⟩
  exact OwnS.sl (E := intE .i64) intC (fun _ => rfl) ho rfl (fun k e => by injection e with e; subst e; exact hF) (fun z hz => by
    simp only [List.mem_cons, List.not_mem_nil, or_false] at hz
    rcases hz with rfl | rfl
    · exact ⟨rfl, hx⟩
    · exact ⟨rfl, hy⟩)
def rowC (x : List Rec × (Option Addr × Nat)) : List Value := [.slice x.2.1 x.1.length x.2.2]
theorem lit_rows {W : World} {g : Nat} (lv : List (List Rec × (Option Addr × Nat))) {F : Nat → Prop} (hg : W.heap[g]? = some (.cells (lv.flatMap rowC).toArray 22 (0, 0))) (hl : lv.length ≤ 1000) (hF : F g)
    (hx : ∀ x ∈ lv, SlA recE F W x.2.1 x.2.2 x.1) : SlA (slE recE) F W (some ⟨g, 0, none⟩) lv.length (lv.map (·.1)) := by
  have hlen : ∀ l : List (List Rec × (Option Addr × Nat)), (l.flatMap rowC).length = l.length := fun l => by
    induction l with
    | nil => rfl
    | cons x l ih => rw [List.flatMap_cons, List.length_append, ih, List.length_cons, show (rowC x).length = 1 from rfl]; omega
  refine ⟨by rw [List.length_map]; exact Nat.le_refl _, by unfold maxLen; omega, fun i x hx' => ?_⟩
  rw [List.getElem?_map] at hx'
  cases he : lv[i]? with
  | none => rw [he] at hx'; cases hx'
  | some y =>
    rw [he] at hx'
    injection hx' with hx'
    subst hx'
    refine ⟨g, 0, rowC y, rfl, hF, fun j u hj => ?_, _, rfl, y.2.1, y.2.2, rfl, hx y (List.mem_of_getElem? he)⟩
    have hj0 : j = 0 := by
      have := (List.getElem?_eq_some_iff.1 hj).1
      simp [rowC] at this; exact this
    subst hj0
    have h5 := cell_of_row W g (0 + (i * 1 + 0)) _ _ _ hg
    show W.cell? ⟨g, 0 + (i * 1 + 0), none⟩ = _
    rw [h5]
    have h6 := flat_get rowC 1 (fun _ => rfl) lv he (j := 0) (by decide)
    rw [Nat.zero_add]
    simp only [List.getElem?_toArray]
    rw [h6]; exact hj
def litU : List Rec := [⟨keyA, 2, 0⟩]
theorem litU_ok : denErr uniJ [litU, []] = 0 := by decide +kernel
theorem uni_err (a b : List Rec) : denErr uniJ [a, b] = dataErr [a, b] := by
  unfold denErr
  rw [if_neg (by rw [job_uni]; simp), uni_of.1, if_neg (by simp)]
theorem fact_uni {log : List (Nat × Rec)} (ht : TagsUnder 2 log) (h0 : byIn 0 log = litU) (h1 : byIn 1 log = []) {x : List Lin} (hx : LinesGrp (log.flatMap uniR) x) : ∃ y, x = [y] ∧ y.key = ⟨#[48, 58, 97]⟩ := by
  have ht4 : TagsUnder 4 log := fun p hp => by have := ht p hp; omega
  have hall : ∀ p ∈ log, p = (0, ⟨keyA, 2, 0⟩) := fun p hp => by
    obtain ⟨i, r⟩ := p
    have hc : i = 0 ∨ i = 1 := by have := ht _ hp; simp only at this; omega
    rcases hc with rfl | rfl
    · have := mem_byIn.2 hp
      rw [h0] at this
      rw [List.mem_singleton.1 this]
    · have := mem_byIn.2 hp
      rw [h1] at this; cases this
  have hmem : ((0, ⟨keyA, 2, 0⟩) : Nat × Rec) ∈ log := mem_byIn.1 (by rw [h0]; exact List.mem_singleton.2 rfl)
  have hk : uniKey ((0 : Nat) : Int) keyA = ⟨#[48, 58, 97]⟩ := by decide +kernel
  obtain ⟨r, hr, hrk⟩ := (uni_keys ht4 ⟨#[48, 58, 97]⟩).2 ⟨_, hmem, by show (1 : Nat) + 2 ≤ 40; omega, hk⟩
  obtain ⟨y, hy, hyk, _⟩ := hx.one (k := ⟨#[48, 58, 97]⟩) (fun r hr => by
    obtain ⟨p, hp, _, e⟩ := (uni_keys ht4 r.key).1 ⟨r, hr, rfl⟩
    rw [hall p hp] at e
    exact e.symm.trans hk) (fun e => by rw [e] at hr; cases hr)
  exact ⟨y, hy, hyk⟩
theorem cnt_take (y : List Lin) {k : Nat} (hk : k < y.length) : cntShort (y.take (k + 1)) = cntShort (y.take k) + if y[k].key.size + 2 ≤ 40 then 1 else 0 := by
  unfold cntShort
  rw [List.take_succ_eq_append_getElem hk, List.filter_append, List.length_append]
  congr 1
  by_cases h : y[k].key.size + 2 ≤ 40
  · rw [if_pos h, List.filter_cons_of_pos (by simpa using h)]; rfl
  · rw [if_neg h, List.filter_cons_of_neg (by simpa using h)]; rfl
theorem cnt_le (y : List Lin) : cntShort y ≤ y.length := List.length_filter_le _ _
def uniW (w : World) : World := ((((w.alloc (.cells #[.int .i64 0, .int .i64 1] 3)).alloc (.cells #[.int .i64 2] 3)).alloc (.cells #[.int .i64 0] 3)).alloc (.cells #[.int .i64 1] 3)).alloc
  (.cells #[.int .i64 1, .slice none 0 0, .string ⟨#[]⟩, .int .i64 2, .int .i64 1, .slice none 0 0, .string ⟨#[]⟩, .int .i64 1, .int .i64 6, .slice (some ⟨w.heap.size, 0, none⟩) 2 2, .string ⟨#[]⟩, .int .i64 0,
    .int .i64 10, .slice (some ⟨w.heap.size + 1, 0, none⟩) 1 1, .string ⟨#[]⟩, .int .i64 0, .int .i64 10, .slice (some ⟨w.heap.size + 1 + 1, 0, none⟩) 1 1, .string ⟨#[]⟩, .int .i64 0, .int .i64 10, .slice (some ⟨w.heap.size + 1 + 1 + 1, 0, none⟩) 1 1, .string ⟨#[]⟩, .int .i64 0] 25)
theorem uni_mem (w : World) : SlA nodE (· < (uniW w).heap.size) (uniW w) (some ⟨w.heap.size + 1 + 1 + 1 + 1, 0, none⟩) 6 uniJ ∧ Below w.heap.size w (uniW w) ∧ (uniW w).heap.size = w.heap.size + 1 + 1 + 1 + 1 + 1 := by
  obtain ⟨W1, h1⟩ : ∃ W1, W1 = w.alloc (.cells #[.int .i64 0, .int .i64 1] 3) := ⟨_, rfl⟩
  have s1 : W1.heap.size = w.heap.size + 1 := by rw [h1]; simp
  obtain ⟨W2, h2⟩ : ∃ W2, W2 = W1.alloc (.cells #[.int .i64 2] 3) := ⟨_, rfl⟩
  have s2 : W2.heap.size = w.heap.size + 1 + 1 := by rw [h2]; simp [s1]
  obtain ⟨W3, h3⟩ : ∃ W3, W3 = W2.alloc (.cells #[.int .i64 0] 3) := ⟨_, rfl⟩
  have s3 : W3.heap.size = w.heap.size + 1 + 1 + 1 := by rw [h3]; simp [s2]
  obtain ⟨W4, h4⟩ : ∃ W4, W4 = W3.alloc (.cells #[.int .i64 1] 3) := ⟨_, rfl⟩
  have s4 : W4.heap.size = w.heap.size + 1 + 1 + 1 + 1 := by rw [h4]; simp [s3]
  obtain ⟨lv, hlv⟩ : ∃ lv : List NodV, lv = [((⟨1, [], ⟨#[]⟩, 2⟩, (none, 0)) : NodV), (⟨1, [], ⟨#[]⟩, 1⟩, (none, 0)), (⟨6, [0, 1], ⟨#[]⟩, 0⟩, (some ⟨w.heap.size, 0, none⟩, 2)), (⟨10, [2], ⟨#[]⟩, 0⟩, (some ⟨w.heap.size + 1, 0, none⟩, 1)), (⟨10, [0], ⟨#[]⟩, 0⟩, (some ⟨w.heap.size + 1 + 1, 0, none⟩, 1)), (⟨10, [1], ⟨#[]⟩, 0⟩, (some ⟨w.heap.size + 1 + 1 + 1, 0, none⟩, 1))] := ⟨_, rfl⟩
  have e5 : uniW w = W4.alloc (.cells (lv.flatMap nodCells).toArray 25) := by rw [h4, h3, h2, h1, hlv]; rfl
  have g1 : (uniW w).heap[w.heap.size]? = some (.cells #[.int .i64 0, .int .i64 1] 3 (0, 0)) := by
    rw [e5, heap_alloc_old _ _ (by omega), h4, heap_alloc_old _ _ (by omega), h3, heap_alloc_old _ _ (by omega), h2, heap_alloc_old _ _ (by omega), h1]; exact heap_alloc_new _ _
  have g2 : (uniW w).heap[w.heap.size + 1]? = some (.cells #[.int .i64 2] 3 (0, 0)) := by
    rw [e5, heap_alloc_old _ _ (by omega), h4, heap_alloc_old _ _ (by omega), h3, heap_alloc_old _ _ (by omega), h2, ← s1]; exact heap_alloc_new _ _
  have g3 : (uniW w).heap[w.heap.size + 1 + 1]? = some (.cells #[.int .i64 0] 3 (0, 0)) := by
    rw [e5, heap_alloc_old _ _ (by omega), h4, heap_alloc_old _ _ (by omega), h3, ← s2]; exact heap_alloc_new _ _
  have g4 : (uniW w).heap[w.heap.size + 1 + 1 + 1]? = some (.cells #[.int .i64 1] 3 (0, 0)) := by
    rw [e5, heap_alloc_old _ _ (by omega), h4, ← s3]; exact heap_alloc_new _ _
  have g5 : (uniW w).heap[w.heap.size + 1 + 1 + 1 + 1]? = some (.cells (lv.flatMap nodCells).toArray 25 (0, 0)) := by
    rw [e5, ← s4]; exact heap_alloc_new _ _
  have s5 : (uniW w).heap.size = w.heap.size + 1 + 1 + 1 + 1 + 1 := by rw [e5]; simp [s4]
  have hj := lit_job (F := fun k => k < (uniW w).heap.size) lv g5 (by rw [hlv]; simp) (by omega) (fun x hx => by
    rw [hlv] at hx
    simp only [List.mem_cons, List.not_mem_nil, or_false] at hx
    rcases hx with rfl | rfl | rfl | rfl | rfl | rfl
    · exact ⟨rfl, Nat.zero_le _, rfl, SlA.nil _ _ _ _ _ (Nat.zero_le _)⟩
    · exact ⟨rfl, Nat.zero_le _, rfl, SlA.nil _ _ _ _ _ (Nat.zero_le _)⟩
    · exact ⟨rfl, Nat.zero_le _, rfl, two_int g1 rfl rfl (by omega)⟩
    · exact ⟨rfl, Nat.zero_le _, rfl, one_int g2 rfl (by omega)⟩
    · exact ⟨rfl, Nat.zero_le _, rfl, one_int g3 rfl (by omega)⟩
    · exact ⟨rfl, Nat.zero_le _, rfl, one_int g4 rfl (by omega)⟩)
  refine ⟨?_, ?_, s5⟩
  · rw [hlv] at hj; exact hj
  · rw [e5, h4, h3, h2, h1]
    exact (((((Below.refl _ _).alloc (Nat.le_refl _) _).alloc (by simp) _).alloc (by simp; omega) _).alloc (by simp; omega) _).alloc (by simp; omega) _
/-- What All tells of two Sources put together. -/
theorem uni_all {w : World} {a b : List Rec} {e : Ending} {w' : World} (h : AllPost uniJ [a, b] w e w') :
    (dataErr [a, b] ≠ 0 → ∃ j, e = .returned (.tuple #[.slice none 0 0, errV j])) ∧
    (dataErr [a, b] = 0 → ∃ A' c' x0 x1 x2 log, e = .returned (.tuple #[.slice A' 3 c', .nilIface]) ∧ SlA (slE linE) (· < w'.heap.size) w' A' c' [x0, x1, x2] ∧ LinesGrp (log.flatMap uniR) x0 ∧ LinesGrp a x1 ∧ LinesGrp b x2 ∧ TagsUnder 2 log ∧ byIn 0 log = a ∧ byIn 1 log = b) ∧ Below w.heap.size w w' := by
  obtain ⟨h1, _, h3, hb⟩ := h
  rw [uni_err] at h1 h3
  refine ⟨fun h0 => ⟨_, h1 h0⟩, fun h0 => ?_, hb⟩
  have hda := data_ok h0
  obtain ⟨f, log, hf, l3, l4, l5, ht, hb0, hb1⟩ := uni_flow a b (hda a (by simp)).1 (hda b (by simp)).1
  obtain ⟨A', c', out, rfl, hall, hs⟩ := h3 h0 f hf
  have hol : out.length = 3 := by rw [hall.1, uni_of.2]; rfl
  obtain ⟨x0, x1, x2, rfl⟩ : ∃ x0 x1 x2, out = [x0, x1, x2] := by
    match out, hol with
    | [x0, x1, x2], _ => exact ⟨x0, x1, x2, rfl⟩
  have k0 := hall.2 0 3 x0 (by rw [uni_of.2]; rfl) rfl
  have k1 := hall.2 1 4 x1 (by rw [uni_of.2]; rfl) rfl
  have k2 := hall.2 2 5 x2 (by rw [uni_of.2]; rfl) rfl
  rw [show (3 : Int).toNat = 3 from rfl, l3] at k0
  rw [show (4 : Int).toNat = 4 from rfl, l4] at k1
  rw [show (5 : Int).toNat = 5 from rfl, l5] at k2
  exact ⟨A', c', x0, x1, x2, log, rfl, hs.more fun k hk => hk.2, lines_grp k0, lines_grp k1, lines_grp k2, ht, hb0, hb1⟩
set_option maxRecDepth 100000 in
set_option maxHeartbeats 4000000 in
theorem denUnions_walk (A : Option Addr) (c : Nat) (a : List Rec) (B : Option Addr) (cb : Nat) (b : List Rec) (w : World) (ha : SlA recE (· < w.heap.size) w A c a) (hb : SlA recE (· < w.heap.size) w B cb b) (hv : ErrVars w) (hT : PowTab w) :
    Calls Tryz.prog 6 #[.slice A a.length c, .slice B b.length cb] w fun e w' => e = .returned (.bool true) ∧ Below w.heap.size w w' := by
  have hal := ha.le
  have hbl := hb.le
  have HA := Lib.hid ha
  have HB := Lib.hid hb
  have HV := Lib.hid hv
  have HT := Lib.hid hT
  clear ha hb hv hT
  go_enter Tryz.func6, Tryz.ntmps6
  go_upto_region 2 with (fail)
  change Code.wp _ _ _ _ (uniW w)
  obtain ⟨hj, hB1, hs1⟩ := uni_mem w
  generalize uniW w = W1 at hj hB1 hs1 ⊢
  have hB1s := hB1.size
  generalize w.heap.size + 1 + 1 + 1 + 1 = gj at hj hs1 ⊢
  -- the fact
  obtain ⟨W2, hW2⟩ : ∃ W2, W2 = W1.alloc (.cells (litU.flatMap recCells).toArray 39) := ⟨_, rfl⟩
  have s2 : W2.heap.size = W1.heap.size + 1 := by rw [hW2]; simp
  obtain ⟨W3, hW3⟩ : ∃ W3, W3 = W2.alloc (.cells (([(litU, (some ⟨W1.heap.size, 0, none⟩, 1)), ([], (none, 0))] : List (List Rec × (Option Addr × Nat))).flatMap rowC).toArray 22) := ⟨_, rfl⟩
  have s3 : W3.heap.size = W1.heap.size + 1 + 1 := by rw [hW3]; simp [s2]
  have hB3 : Below W1.heap.size W1 W3 := by rw [hW3, hW2]; exact ((Below.refl _ _).alloc (Nat.le_refl _) _).alloc (by simp) _
  have g2 : W3.heap[W1.heap.size]? = some (.cells (litU.flatMap recCells).toArray 39 (0, 0)) := by rw [hW3, heap_alloc_old _ _ (by omega), hW2]; exact heap_alloc_new _ _
  have g3 : W3.heap[W1.heap.size + 1]? = some (.cells (([(litU, (some ⟨W1.heap.size, 0, none⟩, 1)), ([], (none, 0))] : List (List Rec × (Option Addr × Nat))).flatMap rowC).toArray 22 (0, 0)) := by rw [hW3, ← s2]; exact heap_alloc_new _ _
  have hdat : SlA (slE recE) (· < W3.heap.size) W3 (some ⟨W1.heap.size + 1, 0, none⟩) 2 [litU, []] := lit_rows _ g3 (by simp) (by omega) (fun x hx => by
    simp only [List.mem_cons, List.not_mem_nil, or_false] at hx
    rcases hx with rfl | rfl
    · exact lit_recs litU g2 (by decide) (by omega) (fun r hr => by rw [List.mem_singleton.1 hr]; exact recOk_lit rfl)
    · exact SlA.nil _ _ _ _ _ (Nat.zero_le _))
  have hB3w : Below w.heap.size w W3 := hB1.trans (hB3.mono hB1s)
  have HALL := Lib.hid (dall_ok (· < W3.heap.size) (some ⟨gj, 0, none⟩) 6 uniJ (· < W3.heap.size) (some ⟨W1.heap.size + 1, 0, none⟩) 2 [litU, []] W3 ((hj.keep fun k hk => hB3.block k hk).more fun k hk => by omega) (fun _ h => h) hdat (fun _ h => h) (HV.out.below hB3w) (HT.out.below hB3w))
  have HJ := Lib.hid hj
  have HB1 := Lib.hid hB1
  have HW := Lib.hid (And.intro hW2 hW3)
  have HB3 := Lib.hid hB3w
  have HB31 := Lib.hid hB3
  clear hW2 hW3 g2 g3 hdat hB3w hB3 hj hB1 hs1 s2 s3
  go_wp2_with fail
  have e3 : (W1.alloc (.cells #[.string ⟨#[97]⟩, .int .i64 2, .int .i64 0] 39)).alloc (.cells #[.slice (some ⟨W1.heap.size, 0, none⟩) 1 1, .slice none 0 0] 22) = W3 := by rw [HW.out.2, HW.out.1]; rfl
  rw [e3]
  clear e3 HW
  refine HALL.out.mono ?_
  rintro e W4 hpost
  obtain ⟨_, hyes, hb4⟩ := uni_all hpost
  obtain ⟨A4, c4, x0, x1, x2, log, rfl, hs4, hg0, _, _, ht, hb0, hb1⟩ := hyes rfl
  obtain ⟨y, rfl, hyk⟩ := fact_uni ht hb0 hb1 hg0
  obtain ⟨b5, o5, A5, c5, rfl, _, z0, hs5⟩ := hs4.sl_ (k := 0) (by simp)
  have hcap4 : 3 ≤ c4 := hs4.1
  simp only [List.getElem_cons_zero, Nat.add_zero] at z0 hs5
  rw [show List.length [y] = 1 from rfl] at z0
  obtain ⟨b6, o6, A6, c6, rfl, _, z1, _, _, _⟩ := hs5.lin_ (k := 0) (by simp)
  simp only [List.getElem_cons_zero, Nat.zero_mul, Nat.add_zero] at z1
  rw [hyk] at z1
  have hcap5 : 1 ≤ c5 := hs5.1
  have HB4 := Lib.hid (HB3.out.trans (hb4.mono HB3.out.size))
  have HB41 := Lib.hid (HB31.out.trans (hb4.mono HB31.out.size))
  clear hpost hyes hb4 hs4 hs5 hg0 ht hb0 hb1 hyk HALL
  go_wp2_with fail
  clear z0 z1 hcap4 hcap5
  -- the two Sources
  obtain ⟨W5, hW5⟩ : ∃ W5, W5 = W4.alloc (.cells (([(a, (A, c)), (b, (B, cb))] : List (List Rec × (Option Addr × Nat))).flatMap rowC).toArray 22) := ⟨_, rfl⟩
  have hB5 : Below W4.heap.size W4 W5 := by rw [hW5]; exact (Below.refl _ _).alloc (Nat.le_refl _) _
  have g5 : W5.heap[W4.heap.size]? = some (.cells (([(a, (A, c)), (b, (B, cb))] : List (List Rec × (Option Addr × Nat))).flatMap rowC).toArray 22 (0, 0)) := by rw [hW5]; exact heap_alloc_new _ _
  have hz4 := HB4.out.size
  have hz41 := HB41.out.size
  have hB5w : Below w.heap.size w W5 := HB4.out.trans (hB5.mono hz4)
  have hB51 : Below W1.heap.size W1 W5 := HB41.out.trans (hB5.mono hz41)
  have hz5 := hB5w.size
  have hz51 := hB51.size
  have hdat : SlA (slE recE) (· < W5.heap.size) W5 (some ⟨W4.heap.size, 0, none⟩) 2 [a, b] := lit_rows _ g5 (by simp) (block_lt g5) (fun x hx => by
    simp only [List.mem_cons, List.not_mem_nil, or_false] at hx
    rcases hx with rfl | rfl
    · exact (HA.out.keep fun k hk => hB5w.block k hk).more fun k hk => by omega
    · exact (HB.out.keep fun k hk => hB5w.block k hk).more fun k hk => by omega)
  have HALL := Lib.hid (dall_ok (· < W5.heap.size) (some ⟨gj, 0, none⟩) 6 uniJ (· < W5.heap.size) (some ⟨W4.heap.size, 0, none⟩) 2 [a, b] W5 ((HJ.out.keep fun k hk => hB51.block k hk).more fun k hk => by omega) (fun _ h => h) hdat (fun _ h => h) (HV.out.below hB5w) (HT.out.below hB5w))
  have HW := Lib.hid hW5
  have HB5 := Lib.hid hB5w
  clear hW5 g5 hdat hB5w hB5 hB51 HJ HB1 HB3 HB31 HB41 HA HB HV HT
  have e5 : W4.alloc (.cells #[.slice A a.length c, .slice B b.length cb] 22) = W5 := by rw [HW.out]; rfl
  rw [e5]
  clear e5 HW
  refine HALL.out.mono ?_
  rintro e W6 hpost
  obtain ⟨hno, hyes, hb6⟩ := uni_all hpost
  have HB6 := Lib.hid (HB5.out.trans (hb6.mono HB5.out.size))
  by_cases h0 : dataErr [a, b] = 0
  · obtain ⟨A7, c7, x0, x1, x2, log, rfl, hs7, hg0, hg1, hg2, ht, hb0, hb1⟩ := hyes h0
    rw [← hb0] at hg1
    rw [← hb1] at hg2
    have ht4 : TagsUnder 4 log := fun p hp => by have := ht p hp; omega
    have HCNT := Lib.hid (uni_count ht hg0 hg1 hg2)
    have HQ1 : Hid (∀ z ∈ x1, z.key.size ≤ 40 ∧ (z.key.size + 2 ≤ 40 → numsOf x0 (⟨#[48, 58]⟩ ++ z.key) = z.nums)) := fun z hz => by
      refine ⟨?_, fun hsz => ?_⟩
      · obtain ⟨r, hr, e⟩ := (hg1.keys z.key).1 (List.mem_map.2 ⟨z, hz, rfl⟩)
        rw [hb0] at hr
        rw [← e]; exact recErr_no ((data_ok h0 a (by simp)).2 r hr)
      · have hk : (⟨#[48, 58]⟩ : ByteArray) ++ z.key = uniKey ((0 : Nat) : Int) z.key := (uniKey_pre (j := 0) (by omega) _).symm
        rw [hk, hg0.of, uni_nums ht4 (by omega) _ hsz, hg1.nums z hz]
    have HQ2 : Hid (∀ z ∈ x2, z.key.size ≤ 40 ∧ (z.key.size + 2 ≤ 40 → numsOf x0 (⟨#[49, 58]⟩ ++ z.key) = z.nums)) := fun z hz => by
      refine ⟨?_, fun hsz => ?_⟩
      · obtain ⟨r, hr, e⟩ := (hg2.keys z.key).1 (List.mem_map.2 ⟨z, hz, rfl⟩)
        rw [hb1] at hr
        rw [← e]; exact recErr_no ((data_ok h0 b (by simp)).2 r hr)
      · have hk : (⟨#[49, 58]⟩ : ByteArray) ++ z.key = uniKey ((1 : Nat) : Int) z.key := (uniKey_pre (j := 1) (by omega) _).symm
        rw [hk, hg0.of, uni_nums ht4 (by omega) _ hsz, hg2.nums z hz]
    obtain ⟨b8, o8, A8, c8, rfl, _, q0, hx0⟩ := hs7.sl_ (k := 0) (by simp)
    obtain ⟨b9, o9, A9, c9, hbo1, _, q1, hx1⟩ := hs7.sl_ (k := 1) (by simp)
    obtain ⟨b10, o10, A10, c10, hbo2, _, q2, hx2⟩ := hs7.sl_ (k := 2) (by simp)
    injection hbo1 with hbo1
    injection hbo1 with e1 e2
    subst e1; subst e2
    injection hbo2 with hbo2
    injection hbo2 with e1 e2
    subst e1; subst e2
    simp only [List.getElem_cons_zero, List.getElem_cons_succ, Nat.add_zero] at q0 q1 q2 hx0 hx1 hx2
    have hcap7 : 3 ≤ c7 := hs7.1
    have hm1 : x1.length ≤ 300 := Nat.le_trans hg1.len_le (by rw [hb0]; exact (data_ok h0 a (by simp)).1)
    have hm2 : x2.length ≤ 300 := Nat.le_trans hg2.len_le (by rw [hb1]; exact (data_ok h0 b (by simp)).1)
    have hl0 := hx0.le
    have hl1 := hx1.le
    have hl2 := hx2.le
    have HX1 := Lib.hid hx1
    have HX2 := Lib.hid hx2
    have HNA : Hid (∀ (k : ByteArray) (W : World), W.heap = W6.heap → Calls Tryz.prog 12 #[.slice A8 x0.length c8, .string k] W fun e w' => ∃ A c, e = .returned (.slice A (numsOf x0 k).length c) ∧ SlA (intE .i64) (· < W6.heap.size) W6 A c (numsOf x0 k) ∧ W = w') := fun k W hW => by
      have hk : Same (· < W6.heap.size) W6 W := fun j _ => by rw [hW]
      have hk' : Same (· < W6.heap.size) W W6 := fun j _ => by rw [hW]
      exact (nums_ok (· < W6.heap.size) A8 c8 x0 k W (hx0.keep hk)).mono fun e w' ⟨A, c, he, hs, hw⟩ => ⟨A, c, he, hs.keep hk', hw⟩
    clear hno hyes hpost hb6 hs7 hg0 hg1 hg2 ht ht4 hb0 hb1 h0 HALL hx0 hx1 hx2
    go_wp2_with fail
    go_loopw [10, 11] (fun nv iv wx => ∃ i n : Nat, 1 ≤ i ∧ i ≤ 3 ∧ n ≤ 1000 * i ∧ iv = .int .i64 i ∧ nv = .int .i64 n ∧ Hid ((i = 1 → n = 0) ∧ (i = 2 → n = cntShort x1) ∧ (i = 3 → n = cntShort x1 + cntShort x2)) ∧ Hid (wx.heap = W6.heap ∧ Below w.heap.size w wx)) (fun _ iv _ => 3 - (intOf iv).toNat)
    case atStart => exact ⟨1, 0, by omega, by omega, by omega, rfl, rfl, ⟨fun _ => rfl, fun h => by omega, fun h => by omega⟩, rfl, HB6.out⟩
    case round =>
      obtain ⟨i, n, hi1, hi3, hn6, rfl, rfl, HN0, HW⟩ := hrel
      have hc : i = 1 ∨ i = 2 ∨ i = 3 := by omega
      rcases hc with rfl | rfl | rfl
      · have hn := HN0.out.1 rfl
        clear hi1 hi3 HN0
        have hq : ∀ p, wr.cell? p = W6.cell? p := fun p => World.cell?_of_block (by rw [HW.out.1])
        have r0 := (hq _).trans q0
        have r1 := (hq _).trans q1
        have HN1 := Lib.hid hn
        clear hn hq
        go_wp2_with fail
        go_loopw [10, 13] (fun nv kv wx => ∃ k n : Nat, k ≤ x1.length ∧ n ≤ 1000 * 1 + k ∧ kv = .int .i64 k ∧ nv = .int .i64 n ∧ Hid (n = 0 + cntShort (x1.take k)) ∧ Hid (wx.heap = W6.heap ∧ Below w.heap.size w wx)) (fun _ kv _ => x1.length - (intOf kv).toNat)
        case atStart => exact ⟨0, n, Nat.zero_le _, by omega, rfl, rfl, by show _ = _; have := HN1.out; simp [cntShort] at this ⊢; omega, HW⟩
        case round =>
          clear HN1 HW r0 r1
          obtain ⟨k, n, hk, hn2, rfl, rfl, HN, HW⟩ := hrel
          have hq : ∀ p, wr.cell? p = W6.cell? p := fun p => World.cell?_of_block (by rw [HW.out.1])
          have r0 := (hq _).trans q0
          have r1 := (hq _).trans q1
          by_cases hlk : k < x1.length
          · obtain ⟨bz, oz, An, cn, rfl, _, z0, z1, _, hzn⟩ := HX1.out.lin_ hlk
            have hcz := HX1.out.1
            have HZ := Lib.hid (HQ1.out _ (List.getElem_mem hlk))
            have HCT := Lib.hid (cnt_take x1 hlk)
            generalize x1[k] = z at z0 z1 hzn HZ HCT
            obtain ⟨zk, zs⟩ := z
            simp only at z0 z1 hzn HCT
            have r2 := (hq _).trans z0
            have r3 := (hq _).trans z1
            have hzs : zk.size ≤ 40 := HZ.out.1
            obtain ⟨ky, hky⟩ : ∃ ky : ByteArray, ky = ⟨#[48, 58]⟩ ++ zk := ⟨_, rfl⟩
            have hkys : ky.size = zk.size + 2 := by rw [hky, ByteArray.size_append, show (⟨#[48, 58]⟩ : ByteArray).size = 2 from rfl]; omega
            have HKY := Lib.hid hky
            have HZN := Lib.hid hzn
            have hzl := hzn.le
            clear hzn hky
            go_upto_region 19 with (fail)
            rw [← HKY.out]
            by_cases hsz : zk.size + 2 ≤ 40
            · have d1 : decide ((40 : Int) < (ky.size : Int)) = false := decide_eq_false (by omega)
              have d1' : decide (40 < ky.size) = false := decide_eq_false (by omega)
              have hnum : numsOf x0 ky = zs := by rw [HKY.out]; exact HZ.out.2 hsz
              have HN2 : Hid (n + 1 = 0 + cntShort (x1.take (k + 1))) := by
                show _ = _
                rw [HCT.out, if_pos hsz]; have := HN.out; omega
              have HNK := Lib.hid (HNA.out ky)
              rw [hnum] at HNK
              clear HN HZ HCT hnum
              go_upto_region 21 with (fail)
              go_cut [15] from 98 to 111 (fun lv wx => lv = .bool true ∧ Hid (wx.heap = W6.heap ∧ Below w.heap.size w wx))
              case first =>
                have HW0 : Hid (wr.drew.heap = W6.heap) := HW.out.1
                go_region_held3 (fun W => W.cell? ⟨b8, o8, none⟩ = some (.slice A8 x0.length c8) ∧ W.cell? ⟨b8, o8 + 1, none⟩ = some (.slice (some ⟨bz, oz, none⟩) x1.length c9) ∧ W.cell? ⟨bz, oz + k * 2 + 1, none⟩ = some (.slice An zs.length cn)) (first | exact ⟨r0, r1, r3⟩ | go_keep)
                  (first | (go_at_call 12; refine (HNK.out _ (by exact HW.out.1)).mono ?_; rintro e w' ⟨An2, cn2, rfl, hsn, rfl⟩; have HSN := Lib.hid hsn; clear hsn) | (go_at_call 13; refine (ints_same An2 An cn2 cn zs _ (· < W6.heap.size) (· < W6.heap.size) (HSN.out.keep fun j _ => by exact congrArg (·[j]?) HW.out.1) (HZN.out.keep fun j _ => by exact congrArg (·[j]?) HW.out.1)).mono ?_; rintro e w' ⟨rfl, m, rfl⟩))
                all_goals
                  go_wp2_with fail
                  go_meet
                  case rel => exact ⟨rfl, HW.out.1, HW.out.2.os, HW.out.2.tape, HW.out.2.output, HW.out.2.size, HW.out.2.block⟩
              case rest =>
                obtain ⟨rfl, HW2⟩ := hcut
                clear HNK HZN r0 r1 r2 r3
                go_wp2_with fail
                go_roundw
                case rel => exact ⟨k + 1, n + 1, by omega, by omega, by go_num, by go_num, HN2, HW2⟩
                case measure => simp [intOf]; omega
            · have d1 : decide ((40 : Int) < (ky.size : Int)) = true := decide_eq_true (by omega)
              have d1' : decide (40 < ky.size) = true := decide_eq_true (by omega)
              have HN2 : Hid (n = 0 + cntShort (x1.take (k + 1))) := by
                show _ = _
                rw [HCT.out, if_neg hsz]; have := HN.out; omega
              clear HN HZ HCT
              go_wp2_with fail
              go_roundw
              case rel => exact ⟨k + 1, n, by omega, by omega, by go_num, rfl, HN2, HW⟩
              case measure => simp [intOf]; omega
          · have dk : decide (k < x1.length) = false := decide_eq_false hlk
            have HN2 : Hid (n = 0 + cntShort x1) := by
              have h := HN.out
              rw [List.take_of_length_le (by omega)] at h
              exact h
            have hk3 : k ≤ 300 := by omega
            clear HN hk hlk
            go_wp2_with fail
            refine ⟨⟨1 + 1, n, by omega, by omega, by omega, by go_num, rfl, ?_, HW⟩, ?_⟩
            · show _ ∧ _ ∧ _
              have := HN2.out
              exact ⟨fun h => by omega, fun h => by omega, fun h => by omega⟩
            · simp [intOf]
      · have hn := HN0.out.2.1 rfl
        clear hi1 hi3 HN0
        have hq : ∀ p, wr.cell? p = W6.cell? p := fun p => World.cell?_of_block (by rw [HW.out.1])
        have r0 := (hq _).trans q0
        have r1 := (hq _).trans q2
        have HN1 := Lib.hid hn
        clear hn hq
        go_wp2_with fail
        go_loopw [10, 13] (fun nv kv wx => ∃ k n : Nat, k ≤ x2.length ∧ n ≤ 1000 * 2 + k ∧ kv = .int .i64 k ∧ nv = .int .i64 n ∧ Hid (n = cntShort x1 + cntShort (x2.take k)) ∧ Hid (wx.heap = W6.heap ∧ Below w.heap.size w wx)) (fun _ kv _ => x2.length - (intOf kv).toNat)
        case atStart => exact ⟨0, n, Nat.zero_le _, by omega, rfl, rfl, by show _ = _; have := HN1.out; simp [cntShort] at this ⊢; omega, HW⟩
        case round =>
          clear HN1 HW r0 r1
          obtain ⟨k, n, hk, hn2, rfl, rfl, HN, HW⟩ := hrel
          have hq : ∀ p, wr.cell? p = W6.cell? p := fun p => World.cell?_of_block (by rw [HW.out.1])
          have r0 := (hq _).trans q0
          have r1 := (hq _).trans q2
          by_cases hlk : k < x2.length
          · obtain ⟨bz, oz, An, cn, rfl, _, z0, z1, _, hzn⟩ := HX2.out.lin_ hlk
            have hcz := HX2.out.1
            have HZ := Lib.hid (HQ2.out _ (List.getElem_mem hlk))
            have HCT := Lib.hid (cnt_take x2 hlk)
            generalize x2[k] = z at z0 z1 hzn HZ HCT
            obtain ⟨zk, zs⟩ := z
            simp only at z0 z1 hzn HCT
            have r2 := (hq _).trans z0
            have r3 := (hq _).trans z1
            have hzs : zk.size ≤ 40 := HZ.out.1
            obtain ⟨ky, hky⟩ : ∃ ky : ByteArray, ky = ⟨#[49, 58]⟩ ++ zk := ⟨_, rfl⟩
            have hkys : ky.size = zk.size + 2 := by rw [hky, ByteArray.size_append, show (⟨#[49, 58]⟩ : ByteArray).size = 2 from rfl]; omega
            have HKY := Lib.hid hky
            have HZN := Lib.hid hzn
            have hzl := hzn.le
            clear hzn hky
            go_upto_region 19 with (fail)
            rw [← HKY.out]
            by_cases hsz : zk.size + 2 ≤ 40
            · have d1 : decide ((40 : Int) < (ky.size : Int)) = false := decide_eq_false (by omega)
              have d1' : decide (40 < ky.size) = false := decide_eq_false (by omega)
              have hnum : numsOf x0 ky = zs := by rw [HKY.out]; exact HZ.out.2 hsz
              have HN2 : Hid (n + 1 = cntShort x1 + cntShort (x2.take (k + 1))) := by
                show _ = _
                rw [HCT.out, if_pos hsz]; have := HN.out; omega
              have HNK := Lib.hid (HNA.out ky)
              rw [hnum] at HNK
              clear HN HZ HCT hnum
              go_upto_region 21 with (fail)
              go_cut [15] from 98 to 111 (fun lv wx => lv = .bool true ∧ Hid (wx.heap = W6.heap ∧ Below w.heap.size w wx))
              case first =>
                have HW0 : Hid (wr.drew.heap = W6.heap) := HW.out.1
                go_region_held3 (fun W => W.cell? ⟨b8, o8, none⟩ = some (.slice A8 x0.length c8) ∧ W.cell? ⟨b8, o8 + 2, none⟩ = some (.slice (some ⟨bz, oz, none⟩) x2.length c10) ∧ W.cell? ⟨bz, oz + k * 2 + 1, none⟩ = some (.slice An zs.length cn)) (first | exact ⟨r0, r1, r3⟩ | go_keep)
                  (first | (go_at_call 12; refine (HNK.out _ (by exact HW.out.1)).mono ?_; rintro e w' ⟨An2, cn2, rfl, hsn, rfl⟩; have HSN := Lib.hid hsn; clear hsn) | (go_at_call 13; refine (ints_same An2 An cn2 cn zs _ (· < W6.heap.size) (· < W6.heap.size) (HSN.out.keep fun j _ => by exact congrArg (·[j]?) HW.out.1) (HZN.out.keep fun j _ => by exact congrArg (·[j]?) HW.out.1)).mono ?_; rintro e w' ⟨rfl, m, rfl⟩))
                all_goals
                  go_wp2_with fail
                  go_meet
                  case rel => exact ⟨rfl, HW.out.1, HW.out.2.os, HW.out.2.tape, HW.out.2.output, HW.out.2.size, HW.out.2.block⟩
              case rest =>
                obtain ⟨rfl, HW2⟩ := hcut
                clear HNK HZN r0 r1 r2 r3
                go_wp2_with fail
                go_roundw
                case rel => exact ⟨k + 1, n + 1, by omega, by omega, by go_num, by go_num, HN2, HW2⟩
                case measure => simp [intOf]; omega
            · have d1 : decide ((40 : Int) < (ky.size : Int)) = true := decide_eq_true (by omega)
              have d1' : decide (40 < ky.size) = true := decide_eq_true (by omega)
              have HN2 : Hid (n = cntShort x1 + cntShort (x2.take (k + 1))) := by
                show _ = _
                rw [HCT.out, if_neg hsz]; have := HN.out; omega
              clear HN HZ HCT
              go_wp2_with fail
              go_roundw
              case rel => exact ⟨k + 1, n, by omega, by omega, by go_num, rfl, HN2, HW⟩
              case measure => simp [intOf]; omega
          · have dk : decide (k < x2.length) = false := decide_eq_false hlk
            have HN2 : Hid (n = cntShort x1 + cntShort x2) := by
              have h := HN.out
              rw [List.take_of_length_le (by omega)] at h
              exact h
            have hk3 : k ≤ 300 := by omega
            clear HN hk hlk
            go_wp2_with fail
            refine ⟨⟨2 + 1, n, by omega, by omega, by omega, by go_num, rfl, ?_, HW⟩, ?_⟩
            · show _ ∧ _ ∧ _
              have := HN2.out
              exact ⟨fun h => by omega, fun h => by omega, fun h => by omega⟩
            · simp [intOf]
      · have hn := HN0.out.2.2 rfl
        have hq : ∀ p, wr.cell? p = W6.cell? p := fun p => World.cell?_of_block (by rw [HW.out.1])
        have r0 := (hq _).trans q0
        have hfin : ((n : Int) == (x0.length : Int)) = true := by rw [beq_iff_eq, HCNT.out, hn]
        have hfin2 : n = x0.length := by rw [HCNT.out, hn]
        subst hfin2
        clear hi1 hi3 HN0 hn hq
        go_wp2_with fail
        go_ret
        exact ⟨rfl, HW.out.2⟩
  · obtain ⟨j, rfl⟩ := hno h0
    clear hno hyes hpost h0 HALL
    unfold errV
    go_wp2_with fail
    go_ret
    exact ⟨rfl, HB6.out⟩
end Go.Proofs.YtmbhfadidpkkhaaGreatDoor
