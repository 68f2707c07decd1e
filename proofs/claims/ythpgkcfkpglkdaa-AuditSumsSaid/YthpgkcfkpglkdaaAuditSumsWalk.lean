/-
  The walk of AuditSums: it returns true. No condition beside where the lines lie.
-/
import Derived.Test.YthpgkcfkpglkdaaAudMerge
import Derived.Test.YthpgkcfkpglkdaaAudJudge
import Derived.Test.YthpgkcfkpglkdaaLinesSame
namespace Go.Proofs.Ythpgkcfkpglkdaa
open Go.RowKit Go.ChangeShapes Go.WideShapes Go.Shelf
set_option linter.unusedVariables false

theorem intC_len (xs : List Int) : (xs.flatMap intC).length = xs.length := by
  induction xs with
  | nil => rfl
  | cons a xs ih => rw [List.flatMap_cons, List.length_append, ih, List.length_cons]; show 1 + _ = _; omega
def keyLA : ByteArray := ⟨#[97]⟩
theorem lit_lin {W : World} {g1 g2 : Nat} {xs : List Int} {t : TypeId} (h1 : W.heap[g1]? = some (.cells (xs.flatMap intC).toArray t (0, 0))) (h2 : W.heap[g2]? = some (.cells #[.string keyLA, .slice (some ⟨g1, 0, none⟩) xs.length xs.length] 29 (0, 0))) (hx : ∀ x ∈ xs, (Lit.int .i64 x).wf = true) (hl : xs.length ≤ 2) :
    SlA linE (· < W.heap.size) W (some ⟨g2, 0, none⟩) 1 [⟨keyLA, xs⟩] := by
  have ho : OwnS W t 1 (some ⟨g1, 0, none⟩) xs.length xs.length (xs.flatMap intC) := by
    have hlen : (xs.flatMap intC).length = xs.length * 1 := by rw [Nat.mul_one, intC_len]
    refine ⟨hlen, Nat.le_refl _, by unfold maxLen; omega, .inr ⟨g1, 0, _, rfl, h1, by rw [List.size_toArray, hlen]; omega, fun j u hj => by rw [Nat.zero_add]; simpa using hj⟩⟩
  refine ⟨Nat.le_refl _, by unfold maxLen; omega, fun i x hxi => ?_⟩
  have hi : i = 0 := by
    have := (List.getElem?_eq_some_iff.1 hxi).1
    simpa using this
  subst hi
  injection hxi with hxi
  subst hxi
  refine ⟨g2, 0, [.string keyLA, .slice (some ⟨g1, 0, none⟩) xs.length xs.length], rfl, block_lt h2, fun j u hj => ?_, _, rfl, (by show keyLA.size ≤ maxLen; unfold maxLen; decide), some ⟨g1, 0, none⟩, xs.length, rfl, ?_⟩
  · rw [cell_of_row W g2 _ _ _ _ h2]
    have e : (0 + (0 * linE.sz + j)) = j := by omega
    show #[Value.string keyLA, .slice (some ⟨g1, 0, none⟩) xs.length xs.length][0 + (0 * 2 + j)]? = some u
    rw [show 0 + (0 * 2 + j) = j from by omega]
    simpa using hj
  · exact OwnS.sl (E := intE .i64) intC (fun _ => rfl) ho rfl (fun k e => ho.lt k e) (fun x hx' => ⟨rfl, hx x hx'⟩)
theorem lit_ok (xs : List Int) (h1 : 1 ≤ xs.length) (h2 : xs.length ≤ 400) : AOk [⟨keyLA, xs⟩] := ⟨by simp, fun x hx => by rw [List.mem_singleton.1 hx]; exact ⟨h1, h2⟩, by simp⟩
def audW (w : World) : World := ((((w.alloc (.cells #[.int .i64 1] 3)).alloc (.cells #[.string ⟨#[97]⟩, .slice (some ⟨w.heap.size, 0, none⟩) 1 1] 29)).alloc (.cells #[.int .i64 1] 3)).alloc (.cells #[.string ⟨#[97]⟩, .slice (some ⟨w.heap.size + 1 + 1, 0, none⟩) 1 1] 29))
theorem audW_ok (w : World) : SlA linE (· < (audW w).heap.size) (audW w) (some ⟨w.heap.size + 1, 0, none⟩) 1 [⟨keyLA, [1]⟩] ∧ SlA linE (· < (audW w).heap.size) (audW w) (some ⟨w.heap.size + 1 + 1 + 1, 0, none⟩) 1 [⟨keyLA, [1]⟩] ∧ Below w.heap.size w (audW w) := by
  have e : ∀ (W : World) (o : Obj) (k : Nat), W.heap.size = k → (W.alloc o).heap[k]? = some o := fun W o k hk => by rw [← hk]; exact heap_alloc_new W o
  have b0 : (audW w).heap[w.heap.size]? = some (.cells #[.int .i64 1] 3 (0, 0)) := (heap_alloc_old _ _ (by simp <;> omega)).trans ((heap_alloc_old _ _ (by simp <;> omega)).trans ((heap_alloc_old _ _ (by simp)).trans (heap_alloc_new _ _)))
  have b1 : (audW w).heap[w.heap.size + 1]? = some (.cells #[.string ⟨#[97]⟩, .slice (some ⟨w.heap.size, 0, none⟩) 1 1] 29 (0, 0)) := (heap_alloc_old _ _ (by simp <;> omega)).trans ((heap_alloc_old _ _ (by simp)).trans (e _ _ _ (by simp)))
  have b2 : (audW w).heap[w.heap.size + 1 + 1]? = some (.cells #[.int .i64 1] 3 (0, 0)) := (heap_alloc_old _ _ (by simp)).trans (e _ _ _ (by simp))
  have b3 : (audW w).heap[w.heap.size + 1 + 1 + 1]? = some (.cells #[.string ⟨#[97]⟩, .slice (some ⟨w.heap.size + 1 + 1, 0, none⟩) 1 1] 29 (0, 0)) := e _ _ _ (by simp)
  have hw : ∀ x ∈ [(1 : Int)], (Lit.int .i64 x).wf = true := fun x hx => by rw [List.mem_singleton.1 hx]; decide
  exact ⟨lit_lin (xs := [1]) b0 b1 hw (by decide), lit_lin (xs := [1]) b2 b3 hw (by decide), ((((Below.refl _ _).alloc (Nat.le_refl _) _).alloc (by simp) _).alloc (by simp <;> omega) _).alloc (by simp <;> omega) _⟩
def audW2 (w : World) : World := (w.alloc (.cells #[.int .i64 1, .int .i64 2] 3)).alloc (.cells #[.string ⟨#[97]⟩, .slice (some ⟨w.heap.size, 0, none⟩) 2 2] 29)
theorem audW2_ok (w : World) : SlA linE (· < (audW2 w).heap.size) (audW2 w) (some ⟨w.heap.size + 1, 0, none⟩) 1 [⟨keyLA, [1, 2]⟩] ∧ Below w.heap.size w (audW2 w) := by
  have e : ∀ (W : World) (o : Obj) (k : Nat), W.heap.size = k → (W.alloc o).heap[k]? = some o := fun W o k hk => by rw [← hk]; exact heap_alloc_new W o
  have b0 : (audW2 w).heap[w.heap.size]? = some (.cells #[.int .i64 1, .int .i64 2] 3 (0, 0)) := (heap_alloc_old _ _ (by simp)).trans (heap_alloc_new _ _)
  have b1 : (audW2 w).heap[w.heap.size + 1]? = some (.cells #[.string ⟨#[97]⟩, .slice (some ⟨w.heap.size, 0, none⟩) 2 2] 29 (0, 0)) := e _ _ _ (by simp)
  have hw : ∀ x ∈ [(1 : Int), 2], (Lit.int .i64 x).wf = true := fun x hx => by
    simp only [List.mem_cons, List.not_mem_nil, or_false] at hx
    rcases hx with rfl | rfl <;> decide
  exact ⟨lit_lin (xs := [1, 2]) b0 b1 hw (by decide), ((Below.refl _ _).alloc (Nat.le_refl _) _).alloc (by simp) _⟩
/-- The lines of which some are missing, in memory. -/
def cutR (many : Nat) (p : LineR) : LineR := (p.1, ⟨p.2.A, p.2.cap, p.2.xs.take (p.2.xs.length - many)⟩)
theorem cutR_lin (many : Nat) (q : List LineR) (a : Nat) : (q.modify a (cutR many)).map linOf = cutL (q.map linOf) a many := by
  unfold cutL
  refine List.ext_getElem? fun i => ?_
  rw [List.getElem?_map, List.getElem?_modify, List.getElem?_modify, List.getElem?_map]
  cases q[i]? with
  | none => rfl
  | some p =>
    show some (linOf (if a = i then cutR many p else p)) = some (if a = i then cutX many (linOf p) else linOf p)
    split <;> rfl
theorem cut_of {l : List Lin} {a many : Nat} (ha : a < l.length) (hm1 : 1 ≤ many) (hm : many < l[a].nums.length) : Cut l (cutL l a many) a := by
  have hl := cutL_len l a many
  refine ⟨hl, ha, fun i h h' => ?_, fun i h h' hi => ?_, fun h h' => ?_⟩
  · rw [cutL_at]; split <;> rfl
  · rw [cutL_at, if_neg (by omega)]
  · rw [cutL_at, if_pos rfl]
    refine ⟨?_, ?_⟩
    · show l[a].nums.take (l[a].nums.length - many) = l[a].nums.take (l[a].nums.take (l[a].nums.length - many)).length
      rw [List.length_take, Nat.min_eq_left (by omega)]
    · show (l[a].nums.take (l[a].nums.length - many)).length < _
      rw [List.length_take]; omega
theorem info_lineW : (Try.prog.info? 29).map (fun i => (i.zero, i.size, i.bytes)) = some (some (.agg #[.string ByteArray.empty, .slice none 0 0]), 2, 40) := by kernel_rfl
set_option maxRecDepth 100000 in
set_option maxHeartbeats 8000000 in
theorem auditSums_walk (A : Option Addr) (c : Nat) (l : List Lin) (at_ many : Int) (w : World) (hl : SlA linE (· < w.heap.size) w A c l) (wat : (Lit.int .i64 at_).wf = true) (wmany : (Lit.int .i64 many).wf = true) :
    Calls Try.prog 3 #[.slice A l.length c, .int .i64 at_, .int .i64 many] w fun e w' => e = .returned (.bool true) ∧ Below w.heap.size w w' := by
  have HL : Hid (∀ W, Below w.heap.size w W → SlA linE (· < w.heap.size) W A c l) := fun W h => hl.keep fun k hk => h.block k hk
  have HLT : Hid (∀ W, Below w.heap.size w W → ∀ k, k < w.heap.size → k < W.heap.size) := fun W h k hk => Nat.lt_of_lt_of_le hk h.size
  have hle := hl.le
  obtain ⟨a1, a2, a3⟩ := audW_ok w
  have HF1 := Lib.hid (aless_ok _ _ (some ⟨w.heap.size + 1, 0, none⟩) (some ⟨w.heap.size + 1 + 1 + 1, 0, none⟩) 1 1 [⟨keyLA, [1]⟩] [⟨keyLA, [1]⟩] (audW w) a1 (fun _ h => h) a2 (fun _ h => h) (lit_ok [1] (by decide) (by decide)) (lit_ok [1] (by decide) (by decide)) (by decide +kernel) (k := 0) rfl)
  have HB1 := Lib.hid a3
  clear hl a1 a2 a3
  go_enter Try.func3, Try.ntmps3
  go_wp2_with fail
  change Calls _ _ _ (audW w) _
  refine HF1.out.mono ?_
  rintro e w1 ⟨rfl, b1⟩
  have B1 := Lib.hid (HB1.out.trans (b1.mono HB1.out.size))
  clear b1 HF1 HB1
  obtain ⟨a1, a3⟩ := audW2_ok w1
  have HF2 := Lib.hid (aless_ok _ (fun _ => False) (some ⟨w1.heap.size + 1, 0, none⟩) none 1 0 [⟨keyLA, [1, 2]⟩] [] (audW2 w1) a1 (fun _ h => h) (SlA.nil _ _ _ none 0 (Nat.zero_le _)) (fun _ h => h.elim) (lit_ok [1, 2] (by decide) (by decide)) AOk.nil rfl (k := 2) rfl)
  have HB2 := Lib.hid a3
  clear a1 a3
  go_wp2_with fail
  change Calls _ _ _ (audW2 w1) _
  refine HF2.out.mono ?_
  rintro e w2 ⟨rfl, b2⟩
  have B2 := Lib.hid (B1.out.trans ((HB2.out.trans (b2.mono HB2.out.size)).mono B1.out.size))
  clear b2 HF2 HB2 B1
  go_wp2_with fail
  have hck := acheck_ok _ A c l w2 (HL.out w2 B2.out) (HLT.out w2 B2.out)
  refine hck.mono ?_
  clear hck
  rintro e w3 ⟨h3, b3⟩
  have B3 := Lib.hid (B2.out.trans (b3.mono B2.out.size))
  clear b3 B2
  rcases h3 with ⟨rfl, hok⟩ | ⟨⟨k, rfl⟩, _⟩
  · have HOK := Lib.hid hok
    have h400 := hok.len
    have hm1 := amerge_ok _ (fun _ => False) A none c 0 l [] w3 (HL.out w3 B3.out) (HLT.out w3 B3.out) (SlA.nil _ _ _ none 0 (Nat.zero_le _)) (fun _ h => h.elim) hok AOk.nil (by rw [List.append_nil]; exact hok)
    rw [List.append_nil] at hm1
    have HM1 := Lib.hid hm1
    clear hm1 hok
    go_wp2_with fail
    refine HM1.out.mono ?_
    rintro e w4 ⟨⟨A4, c4, rfl, s4⟩, b4⟩
    have S4 := Lib.hid s4
    have B4 := Lib.hid (B3.out.trans (b4.mono B3.out.size))
    have HM2 := Lib.hid (amerge_ok (fun _ => False) _ none A 0 c [] l w4 (SlA.nil _ _ _ none 0 (Nat.zero_le _)) (fun _ h => h.elim) (HL.out w4 B4.out) (HLT.out w4 B4.out) AOk.nil HOK.out HOK.out)
    rw [List.nil_append] at HM2
    clear s4 b4 HM1 B3
    go_wp2_with fail
    refine HM2.out.mono ?_
    rintro e w5 ⟨⟨A5, c5, rfl, s5⟩, b5⟩
    have S5 := Lib.hid s5
    have S4b : Hid (SlA linE (· < w4.heap.size) w5 A4 c4 l) := S4.out.keep fun k hk => b5.block k hk
    have B5 := Lib.hid (B4.out.trans (b5.mono B4.out.size))
    have HS1 := Lib.hid (lines_same A4 A c4 c l w5 _ _ S4b.out (HL.out w5 B5.out))
    clear s5 b5 HM2 B4 S4 S4b
    go_wp2_with fail
    refine HS1.out.mono ?_
    rintro e w6 ⟨rfl, q6, rfl⟩
    have HS2 := Lib.hid (lines_same A5 A c5 c l (w5.drewN q6) _ _ (S5.out.drewN q6) ((HL.out w5 B5.out).drewN q6))
    clear HS1 S5
    go_wp2_with fail
    refine HS2.out.mono ?_
    rintro e w7 ⟨rfl, q7, rfl⟩
    have B7 : Hid (Below w.heap.size w ((w5.drewN q6).drewN q7)) := bdrewN (bdrewN B5.out q6) q7
    clear HS2 B5
    generalize (w5.drewN q6).drewN q7 = w7 at B7 ⊢
    obtain ⟨n, hn⟩ : ∃ n, n = l.length := ⟨_, rfl⟩
    rw [← hn] at hle h400 ⊢
    have HN := Lib.hid hn
    clear hn
    go_upto_region 14 with (fail)
    go_cut [113] from 92 to 113 (fun bv wx => (∃ bt : Bool, bv = .bool bt ∧ Hid (bt = false → 0 ≤ at_ ∧ 1 ≤ many ∧ ∃ h : at_.toNat < l.length, many < (l[at_.toNat].nums.length : Int))) ∧ w7 = wx)
    case first =>
      by_cases h1 : at_ < 0
      · have d1 : decide (at_ < 0) = true := decide_eq_true h1
        clear h1
        go_wp2_with fail
        go_meet
        case rel => exact ⟨⟨true, rfl, fun e => by cases e⟩, rfl⟩
      · obtain ⟨an, rfl⟩ : ∃ an : Nat, at_ = an := ⟨at_.toNat, by omega⟩
        have d1 : decide ((an : Int) < 0) = false := decide_eq_false h1
        by_cases h2 : n ≤ an
        · have d2 : decide (n ≤ an) = true := decide_eq_true h2
          clear h1
          go_wp2_with fail
          go_meet
          case rel => exact ⟨⟨true, rfl, fun e => by cases e⟩, rfl⟩
        · have d2 : decide (n ≤ an) = false := decide_eq_false h2
          by_cases h3 : many < 1
          · have d3 : decide (many < 1) = true := decide_eq_true h3
            clear h1
            go_wp2_with fail
            go_meet
            case rel => exact ⟨⟨true, rfl, fun e => by cases e⟩, rfl⟩
          · obtain ⟨mn, rfl⟩ : ∃ mn : Nat, many = mn := ⟨many.toNat, by omega⟩
            have d3 : decide ((mn : Int) < 1) = false := decide_eq_false h3
            have hal : an < l.length := by rw [← HN.out]; omega
            obtain ⟨b, off, A2, c2, hA, hb, x0, x1, _, hx⟩ := (HL.out w7 B7.out).lin_ hal
            subst hA
            have hcap := (HL.out w7 B7.out).1
            rw [← HN.out] at hcap
            have hnl := hx.le
            obtain ⟨xl, hxl⟩ : ∃ xl, xl = l[an].nums.length := ⟨_, rfl⟩
            rw [← hxl] at x1 hnl
            have HXL := Lib.hid hxl
            have HAL := Lib.hid hal
            have han : an < n := by omega
            clear hx hxl x0 h1
            by_cases h4 : xl ≤ mn
            · have d4 : decide (xl ≤ mn) = true := decide_eq_true h4
              go_wp2_with fail
              go_meet
              case rel => exact ⟨⟨true, rfl, fun e => by cases e⟩, rfl⟩
            · have d4 : decide (xl ≤ mn) = false := decide_eq_false h4
              have HX4 : Hid (mn < xl ∧ 1 ≤ mn) := ⟨by omega, by omega⟩
              clear h3 h4
              go_wp2_with fail
              go_meet
              case rel => exact ⟨⟨false, rfl, fun _ => ⟨Int.natCast_nonneg _, by have := HX4.out.2; omega, by rw [Int.toNat_natCast]; exact HAL.out, by simp only [Int.toNat_natCast]; rw [← HXL.out]; have := HX4.out.1; omega⟩⟩, rfl⟩
    case rest =>
      obtain ⟨⟨bt, rfl, HBT⟩, hw⟩ := hcut
      subst hw
      cases bt with
      | true =>
        go_wp2_with fail
        go_ret
        exact ⟨rfl, B7.out⟩
      | false =>
        obtain ⟨ha0, hm0, han, hmn⟩ := HBT.out rfl
        obtain ⟨an, rfl⟩ : ∃ an : Nat, at_ = an := ⟨at_.toNat, by omega⟩
        obtain ⟨mn, rfl⟩ : ∃ mn : Nat, many = mn := ⟨many.toNat, by omega⟩
        simp only [Int.toNat_natCast] at han hmn
        have hmn' : mn < l[an].nums.length := by omega
        have hm1 : 1 ≤ mn := by omega
        obtain ⟨q, hq, hsl, hrows⟩ := lin_raw (HL.out w (Below.refl _ _))
        have hql : q.length = l.length := by rw [← hq, List.length_map]
        obtain ⟨Q, hQ⟩ : ∃ Q, Q = q.modify an (cutR mn) := ⟨_, rfl⟩
        have hQl : Q.length = n := by rw [hQ, List.length_modify, hql, HN.out]
        have HQL : Hid (Q.map linOf = cutL l an mn) := by show _ = _; rw [hQ, cutR_lin, hq]
        have HQN := Lib.hid hQl
        have HSQ : Hid (∀ W, Below w.heap.size w W → SlA linC (· < w.heap.size) W A c q) := fun W h => hsl.keep fun k hk => h.block k hk
        have HRQ : Hid (∀ W, Below w.heap.size w W → ∀ p ∈ Q, SlA (intE .i64) (· < W.heap.size) W p.2.A p.2.cap p.2.xs ∧ p.1.size ≤ maxLen) := fun W h p hp => by
          have base : ∀ p' ∈ q, SlA (intE .i64) (· < W.heap.size) W p'.2.A p'.2.cap p'.2.xs ∧ p'.1.size ≤ maxLen := fun p' hp' => ⟨((hrows p' hp').1.keep fun k hk => h.block k hk).more fun k hk => Nat.lt_of_lt_of_le hk h.size, (hrows p' hp').2⟩
          rw [hQ] at hp
          obtain ⟨i, hi, rfl⟩ := List.mem_iff_getElem.1 hp
          rw [List.getElem_modify]
          have hiq : i < q.length := by rw [List.length_modify] at hi; exact hi
          split
          · exact ⟨(base q[i] (List.getElem_mem hiq)).1.head (by omega), (base q[i] (List.getElem_mem hiq)).2⟩
          · exact base q[i] (List.getElem_mem hiq)
        have HAT : Hid (∀ i (h : i < n), ∃ p : LineR, q[i]? = some p ∧ Q[i]? = some (if an = i then cutR mn p else p) ∧ (an = i → mn < p.2.xs.length)) := fun i h => by
          have hiq : i < q.length := by rw [hql, ← HN.out]; exact h
          refine ⟨q[i], List.getElem?_eq_getElem hiq, by rw [hQ, List.getElem?_modify, List.getElem?_eq_getElem hiq]; rfl, fun e => ?_⟩
          subst e
          have e2 : linOf q[an] = l[an] := by
            have h1 : (q.map linOf)[an]? = some l[an] := by rw [hq]; exact List.getElem?_eq_getElem han
            rw [List.getElem?_map, List.getElem?_eq_getElem hiq] at h1
            exact Option.some.inj h1
          have e3 : q[an].2.xs = l[an].nums := congrArg Lin.nums e2
          rw [e3]; exact hmn'
        have HROW : Hid (∀ W, Below w.heap.size w W → ∀ p ∈ q, SlA (intE .i64) (· < w.heap.size) W p.2.A p.2.cap p.2.xs) := fun W h p hp => (hrows p hp).1.keep fun k hk => h.block k hk
        have HHAN := Lib.hid han
        have HHMN := Lib.hid hmn'
        obtain ⟨V, hV⟩ : ∃ V : Nat → List Value, V = fun i => (Q.take i).flatMap lineCells := ⟨_, rfl⟩
        have HV1 : Hid (∀ i p, Q[i]? = some p → V (i + 1) = V i ++ lineCells p) := fun i p hp => by
          obtain ⟨hil, rfl⟩ := List.getElem?_eq_some_iff.1 hp
          rw [hV]
          show (Q.take (i + 1)).flatMap lineCells = (Q.take i).flatMap lineCells ++ _
          rw [List.take_succ_eq_append_getElem hil, List.flatMap_append]
          simp
        have HV0 : Hid (V 0 = []) := by rw [hV]; rfl
        have HVN : Hid (V n = Q.flatMap lineCells) := by
          rw [hV]
          show (Q.take n).flatMap lineCells = _
          rw [List.take_of_length_le (by omega)]
        have hann : an < n := by rw [HN.out]; exact han
        clear HBT ha0 hm0 hmn hmn' hq hsl hrows hql hQ hQl hV
        go_wp2_with fail
        go_loopw [18, 19] (fun gv iv wr => ∃ (i : Nat) (Ag : Option Addr) (cg : Nat), i ≤ n ∧ iv = .int .i64 i ∧ gv = .slice Ag i cg ∧ Hid (wr.ownsRow w7.heap.size 29 2 (.slice Ag i cg) i (V i)) ∧ Hid (Below w7.heap.size w7 wr)) (fun _ iv _ => n - (intOf iv).toNat)
        case atStart => exact ⟨0, none, 0, Nat.zero_le _, rfl, rfl, (by show World.ownsRow _ _ _ _ _ _ _; rw [HV0.out]; exact World.ownsRow_nil _ _ _ _), Below.refl _ _⟩
        case round =>
          obtain ⟨i, Ag, cg, hi, rfl, rfl, HO, HBX⟩ := hrel
          have hbw : Below w.heap.size w wr := B7.out.trans (HBX.out.mono B7.out.size)
          by_cases hlt : i < n
          · obtain ⟨p, hp1, hp2, hp3⟩ := HAT.out i hlt
            have hpq : p ∈ q := List.mem_of_getElem? hp1
            obtain ⟨b, off, cs, hA, hb, hc, hr⟩ := (HSQ.out wr hbw).2.2 i p hp1
            subst hr
            subst hA
            have x0 := hc 0 (.string p.1) rfl
            have x1 := hc 1 (.slice p.2.A p.2.xs.length p.2.cap) rfl
            rw [Nat.add_zero] at x0
            rw [← Nat.add_assoc] at x1
            change wr.cell? ⟨b, off + i * 2, none⟩ = _ at x0
            change wr.cell? ⟨b, off + i * 2 + 1, none⟩ = _ at x1
            have hbl : b < wr.heap.size := Nat.lt_of_lt_of_le hb hbw.size
            have hcap := (HL.out wr hbw).1
            rw [← HN.out] at hcap
            have HNX := Lib.hid (HV1.out i _ hp2)
            have HRW := HROW.out wr hbw p hpq
            have hpl := HRW.le
            have hpc := HRW.1
            have hsome : an = i → ∃ g o, p.2.A = some ⟨g, o, none⟩ := fun e => by
              obtain ⟨g, o, hg, _⟩ := HRW.int_ (k := 0) (by have := hp3 e; omega)
              exact ⟨g, o, hg⟩
            obtain ⟨key, ⟨pA, pc, pxs⟩⟩ := p
            simp only at x0 x1 hpl hpc hp3 hsome
            obtain ⟨pl, hpll⟩ : ∃ pl, pl = pxs.length := ⟨_, rfl⟩
            rw [← hpll] at x1 hpl hpc hp3
            have HPL := Lib.hid hpll
            obtain ⟨W4, hW4⟩ : ∃ W4, W4 = wr.alloc (.cells #[.string key, .slice pA pl pc] 29) := ⟨_, rfl⟩
            have hb4 : Below wr.heap.size wr W4 := by rw [hW4]; exact (Below.refl _ _).alloc (Nat.le_refl _) _
            have hxb : W4.heap[wr.heap.size]? = some (.cells #[.string key, .slice pA pl pc] 29 (0, 0)) := by rw [hW4]; exact heap_alloc_new _ _
            have HP3 := Lib.hid hp3
            have HSM := Lib.hid hsome
            have HB4 := Lib.hid hb4
            have HXB := Lib.hid hxb
            have HBWR := Lib.hid hbw
            clear hp1 hp2 hp3 hpq hc HRW hsome hpll hb4 hxb hbw hb
            go_upto_region 21 with (fail)
            rw [← hW4]
            clear hW4 x0 x1
            obtain ⟨xb, hxbe⟩ : ∃ xb, xb = wr.heap.size := ⟨_, rfl⟩
            rw [← hxbe] at HB4 HXB ⊢
            have HXE := Lib.hid hxbe
            clear hxbe
            have y0 : W4.cell? ⟨xb, 0, none⟩ = some (.string key) := (cell_of_row W4 _ 0 _ _ _ HXB.out).trans rfl
            have y1 : W4.cell? ⟨xb, 1, none⟩ = some (.slice pA pl pc) := (cell_of_row W4 _ 1 _ _ _ HXB.out).trans rfl
            have yf : ∀ j, W4.frozen? ⟨xb, j, none⟩ = false := fun j => by simp [World.frozen?, HXB.out]
            go_upto_if 126 with (fail)
            go_cut [] from 114 to 139 (fun wx => ∃ (P : LineR) (Pn : Nat), Hid (Pn = P.2.xs.length) ∧ Hid (V (i + 1) = V i ++ lineCells P) ∧ Hid (Below xb wr wx) ∧ Hid (wx.heap[xb]? = some (.cells #[.string P.1, .slice P.2.A Pn P.2.cap] 29 (0, 0))))
            case first =>
              by_cases hia : i = an
              · have hpm := HP3.out hia.symm
                obtain ⟨g, o, hA⟩ := HSM.out hia.symm
                have hpA : pA = some ⟨g, o, none⟩ := hA
                subst hpA
                have dia : decide (i = an) = true := decide_eq_true hia
                have dib : ((i : Int) == (an : Int)) = true := by simp [hia]
                have esub : ((pl : Nat) : Int) - ((mn : Nat) : Int) = ((pl - mn : Nat) : Int) := by omega
                have HNX2 : Hid (V (i + 1) = V i ++ lineCells (cutR mn (key, ⟨some ⟨g, o, none⟩, pc, pxs⟩))) := by
                  have h := HNX.out
                  rw [if_pos hia.symm] at h; exact h
                have HLN : Hid (pl - mn = (cutR mn (key, ⟨some ⟨g, o, none⟩, pc, pxs⟩)).2.xs.length) := by
                  show pl - mn = (pxs.take (pxs.length - mn)).length
                  rw [List.length_take, ← HPL.out]; omega
                have HX5 : Hid (Below xb wr (W4.setCell ⟨xb, 1, none⟩ (.slice (some ⟨g, o, none⟩) (pl - mn) pc)) ∧ (W4.setCell ⟨xb, 1, none⟩ (.slice (some ⟨g, o, none⟩) (pl - mn) pc)).heap[xb]? = some (.cells #[.string key, .slice (some ⟨g, o, none⟩) (pl - mn) pc] 29 (0, 0))) := by
                  refine ⟨HB4.out.setCell (p := ⟨xb, 1, none⟩) (Nat.le_refl _) _, ?_⟩
                  have := HXB.out
                  simp [World.setCell, Array.getElem?_modify, this]
                have hsubl : pl - mn ≤ pl := Nat.sub_le _ _
                clear hpm hA HNX
                subst hia
                go_wp2_with fail
                go_meet
                case rel => exact ⟨cutR mn (key, ⟨some ⟨g, o, none⟩, pc, pxs⟩), pl - mn, HLN, HNX2, HX5.out.1, HX5.out.2⟩
              · have dia : decide (i = an) = false := decide_eq_false hia
                have dib : ((i : Int) == (an : Int)) = false := by simp; omega
                have HNX2 : Hid (V (i + 1) = V i ++ lineCells (key, ⟨pA, pc, pxs⟩)) := by
                  have h := HNX.out
                  rw [if_neg (fun e => hia e.symm)] at h; exact h
                clear HNX
                go_wp2_with fail
                go_meet
                case rel => exact ⟨(key, ⟨pA, pc, pxs⟩), pl, HPL, HNX2, HB4, HXB⟩
            case rest =>
              obtain ⟨P, Pn, HPN, HVP, HBC, HHC⟩ := hcut
              obtain ⟨wx, rfl⟩ : ∃ wx, wx = wc := ⟨_, rfl⟩
              obtain ⟨pk, ⟨qA, qc, qxs⟩⟩ := P
              have z0 : wx.cell? ⟨xb, 0, none⟩ = some (.string pk) := (cell_of_row wx _ 0 _ _ _ HHC.out).trans rfl
              have z1 : wx.cell? ⟨xb, 1, none⟩ = some (.slice qA Pn qc) := (cell_of_row wx _ 1 _ _ _ HHC.out).trans rfl
              have hbwx : Below wr.heap.size wr wx := by rw [← HXE.out]; exact HBC.out
              have HO4 := Lib.hid (own_keepJ HO.out hbwx)
              have HB6 : Hid (Below w7.heap.size w7 wx) := HBX.out.trans (hbwx.mono HBX.out.size)
              have HVC : Hid (V (i + 1) = V i ++ [.string pk, .slice qA Pn qc]) := by
                show _ = _
                rw [HVP.out, HPN.out]; rfl
              clear y0 y1 yf hbwx HO HBC HHC HXB HB4 HVP
              go_wp2_with (at_builtin; refine wpList_push (w0 := wx) rfl _ _ 22 rfl w7.heap.size 29 _ 2 40 Try.underlying22 info_lineW rfl (by decide) (.slice Ag i cg) i _ rfl HO4.out [.string pk, .slice qA Pn qc] (by simp [Act.eval]) rfl ?_ ?_ ?_ HB6.out.size HB6.out (Nat.le_refl _) ?_)
              · first | exact ⟨rfl, rfl⟩ | (intro u hu; simp only [List.mem_cons, List.not_mem_nil, or_false] at hu; rcases hu with rfl | rfl <;> rfl)
              · unfold maxLen; omega
              · omega
              · intro v9 w9 hown9 hg9 hb9 hat9
                obtain ⟨A9, c9, rfl, _, _⟩ := OwnS.of_row hown9
                have HO9 : Hid (w9.ownsRow w7.heap.size 29 2 (.slice A9 (i + 1) c9) (i + 1) (V (i + 1))) := by
                  show World.ownsRow _ _ _ _ _ _ _
                  rw [HVC.out]; exact hown9
                have HB9 := Lib.hid hb9
                clear hown9 hg9 hb9 hat9
                go_wp2_with fail
                go_roundw
                case rel => exact ⟨i + 1, A9, c9, by omega, by go_num, rfl, HO9, HB9⟩
                case measure => simp [intOf]; omega
          · have hie : i = n := by omega
            subst hie
            have di : decide (i < i) = false := decide_eq_false (Nat.lt_irrefl _)
            have hgl : SlA linE (· < wr.heap.size) wr Ag cg (cutL l an mn) := by
              obtain ⟨A8, c8, e8, ho8, hb8⟩ := OwnS.of_row HO.out
              injection e8 with e8 _ e9
              subst e8; subst e9
              rw [HVN.out] at ho8
              have h1 : SlA linC (· < wr.heap.size) wr Ag cg Q := OwnS.sl (E := linC) lineCells (fun _ => rfl) ho8 HQN.out.symm (fun k e => ho8.lt k e) (fun x _ => rfl)
              have h2 := raw_lin h1 (HRQ.out wr hbw)
              rw [HQL.out] at h2
              exact h2
            have hok2 := cutL_ok HOK.out HHAN.out HHMN.out
            have hlc := cutL_len l an mn
            have HANC : Hid (an < (cutL l an mn).length) := by show _ < _; rw [hlc]; exact HHAN.out
            have hJ : ∀ W, Below wr.heap.size wr W → Calls Try.prog 8 #[.slice A l.length c, .slice Ag (cutL l an mn).length cg] W (JudgePost (l[an]'HHAN.out).key ((l[an]'HHAN.out).nums.length - mn) W) := fun W hW => by
              have hbW : Below w.heap.size w W := hbw.trans (hW.mono hbw.size)
              refine ajudge_ok _ _ A Ag c cg l (cutL l an mn) an W (HL.out W hbW) (HLT.out W hbW) (hgl.keep fun k hk => hW.block k hk) (fun k hk => Nat.lt_of_lt_of_le hk hW.size) HOK.out hok2 (cut_of HHAN.out hm1 HHMN.out) _ _ (fun _ => rfl) (fun h => ?_)
              rw [cutL_at, if_pos rfl]
              show _ = (List.take (l[an].nums.length - mn) l[an].nums).length
              rw [List.length_take]; omega
            have hle1 := aless_ok _ _ A Ag c cg l (cutL l an mn) wr (HL.out wr hbw) (HLT.out wr hbw) hgl (fun _ h => h) HOK.out hok2 (cutL_pfx HOK.out an mn) (k := mn) (cutL_cnt HHAN.out (Nat.le_of_lt HHMN.out))
            obtain ⟨bl_, ofl, _, _, hA1, hbl, x0, _, _, _⟩ := (HL.out w (Below.refl _ _)).lin_ HHAN.out
            obtain ⟨bg, ofg, gA, gc, hA2, hbg, _, y1, _, _⟩ := hgl.lin_ (k := an) HANC.out
            have hyl : ((cutL l an mn)[an]'HANC.out).nums.length = (l[an]'HHAN.out).nums.length - mn := by
              rw [cutL_at, if_pos rfl]
              show (List.take (l[an].nums.length - mn) l[an].nums).length = _
              rw [List.length_take]; omega
            rw [hyl] at y1
            clear hyl
            generalize (l[an]'HHAN.out).nums.length - mn = nn at hJ y1
            generalize (l[an]'HHAN.out).key = kk at hJ x0
            rw [hlc, ← HN.out] at hJ hle1
            have hcapl := (HL.out w (Below.refl _ _)).1
            rw [← HN.out] at hcapl
            have hcapg := hgl.1
            rw [hlc, ← HN.out] at hcapg
            subst hA1
            subst hA2
            have HJ := Lib.hid hJ
            have HLE := Lib.hid hle1
            have HX0 := Lib.hid x0
            have HY1 := Lib.hid y1
            have HBLW := Lib.hid hbl
            have HBGW := Lib.hid hbg
            have HBWR := Lib.hid hbw
            clear hJ hle1 x0 y1 hgl hok2 hlc hbl hbg hbw HO HBX HAT HVN HV0 HV1 HRQ HSQ HROW
            go_wp2_with fail
            refine HLE.out.mono ?_
            rintro e w8 ⟨rfl, b8⟩
            have HB8 := Lib.hid b8
            have HJ8 := Lib.hid (HJ.out w8 b8)
            clear b8 HLE HJ
            go_wp2_with fail
            refine HJ8.out.mono ?_
            rintro e w9 ⟨rfl, b9⟩
            have hb9 : Below wr.heap.size wr w9 := HB8.out.trans (b9.mono HB8.out.size)
            have HB9 : Hid (Below w.heap.size w w9) := HBWR.out.trans (hb9.mono HBWR.out.size)
            have z0 := (HB9.out.cell (p := ⟨bl_, ofl + an * 2, none⟩) HBLW.out).trans HX0.out
            have z1 := (hb9.cell (p := ⟨bg, ofg + an * 2 + 1, none⟩) HBGW.out).trans HY1.out
            clear b9 hb9 HJ8
            go_wp2_with fail
            go_ret
            exact ⟨rfl, HB9.out⟩
  · unfold errA
    go_wp2_with fail
    go_ret
    exact ⟨rfl, B3.out⟩
end Go.Proofs.Ythpgkcfkpglkdaa
