/-
  The contract of den.Prefix: it tells whether any lines are the beginning of any others. No condition.
-/
import Derived.Test.YthpgkcfkpglkdaaElts
import Derived.WalkSpells
import Derived.WalkLawsBesides
import Derived.Deep.QuietTactic
import Derived.BigQuiet
import Derived.Laws.IdiomStrings
import Derived.IntWalk
namespace Go.Proofs.Ythpgkcfkpglkdaa
open Go.RowKit
set_option linter.unusedVariables false


def keyIs (key : ByteArray) (y : Lin) : Bool := y.key.toList == key.toList
def findK (b : List Lin) (key : ByteArray) : Nat := b.findIdx (keyIs key)
def okL (b : List Lin) (x : Lin) : Bool := match b[findK b x.key]? with
  | none => false
  | some y => decide (x.nums.length ≤ y.nums.length ∧ x.nums = y.nums.take x.nums.length)
def pfx (a b : List Lin) : Bool := a.all (okL b)

theorem findK_le (b : List Lin) (key : ByteArray) : findK b key ≤ b.length := List.findIdx_le_length
theorem findK_hit (b : List Lin) (key : ByteArray) (k : Nat) (hk : k < b.length) (h : keyIs key b[k] = true) (hn : ∀ i (hi : i < k), keyIs key (b[i]'(by omega)) = false) : findK b key = k := by
  unfold findK
  rw [List.findIdx_eq hk]
  exact ⟨h, fun i hi => by simpa using hn i hi⟩
theorem findK_none (b : List Lin) (key : ByteArray) (hn : ∀ i (hi : i < b.length), keyIs key b[i] = false) : findK b key = b.length := by
  unfold findK
  rw [List.findIdx_eq_length]
  intro x hx
  obtain ⟨i, hi, rfl⟩ := List.mem_iff_getElem.1 hx
  exact hn i hi

set_option maxRecDepth 100000 in
theorem same_key (k key : ByteArray) (v : Value) (g : Nat) (w : World) (hc : w.cell? ⟨g, 0, none⟩ = some (.string key)) (hg : g < w.heap.size) :
    Calls Try.prog 20 #[.agg #[.string k, v], .pointer (some ⟨g, 0, none⟩)] w fun e w' => e = .returned (.bool (k.toList == key.toList)) ∧ Below w.heap.size w w' := by
  go_enter Try.func20, Try.ntmps20
  go_wp2
  go_ret
  exact ⟨rfl, (Below.refl _ _).alloc (Nat.le_refl _) _⟩

set_option maxRecDepth 100000 in
theorem index_any (A : Option Addr) (c g : Nat) (b : List Lin) (key : ByteArray) (w : World) (h : SlA linE (· < w.heap.size) w A c b) (hc : w.cell? ⟨g, 0, none⟩ = some (.string key)) (hg : g < w.heap.size) :
    Calls Try.prog 19 #[.slice A b.length c, .func (.func 20) #[] #[.pointer (some ⟨g, 0, none⟩)]] w fun e w' =>
      ((findK b key < b.length ∧ e = .returned (.int .i64 (findK b key))) ∨ (findK b key = b.length ∧ e = .returned (.int .i64 (-1)))) ∧ Below w.heap.size w w' := by
  have hn := h.le
  have H := Lib.hid h
  have HC := Lib.hid hc
  clear h hc
  go_enter Try.func19, Try.ntmps19
  go_wp2
  go_loopw [8] (fun i wr => ∃ k : Nat, k ≤ b.length ∧ i = .int .i64 k ∧ Hid (∀ i (hi : i < k), ∀ hb : i < b.length, keyIs key b[i] = false) ∧ Hid (Below w.heap.size w wr)) (fun i _ => b.length - (intOf i).toNat)
  case atStart => exact ⟨0, Nat.zero_le _, rfl, fun i hi => absurd hi (by omega), Below.refl _ _⟩
  case round =>
    obtain ⟨k, hk, rfl, HN, HB⟩ := hrel
    by_cases hlt : k < b.length
    · obtain ⟨b0, o0, A', c', rfl, _, x0, x1, _, _⟩ := (H.out.keep (Same.below HB.out)).lin_ hlt
      have hgw : wr.cell? ⟨g, 0, none⟩ = some (.string key) := (HB.out.cell (p := ⟨g, 0, none⟩) hg).trans HC.out
      have hgl : g < wr.heap.size := by have := HB.out.size; omega
      by_cases hkey : keyIs key b[k] = true
      · have hfin := findK_hit b key k hlt hkey (fun i hi => HN.out i hi _)
        have hk2 : ((b[k]).key.toList == key.toList) = true := hkey
        obtain ⟨y, hy⟩ : ∃ y, y = b[k].key := ⟨_, rfl⟩
        rw [← hy] at hk2 x0
        have HF := Lib.hid hfin
        clear hfin hkey hy
        go_wp2_with fail
        refine (same_key y key _ g _ hgw hgl).mono ?_
        rintro e w2 ⟨rfl, hb2⟩
        rw [hk2]
        go_wp2_with fail
        go_ret
        refine ⟨.inl ⟨by rw [HF.out]; exact hlt, by rw [HF.out]; rfl⟩, HB.out.trans (hb2.mono HB.out.size)⟩
      · have hkey' : keyIs key b[k] = false := by simpa using hkey
        have hk2 : ((b[k]).key.toList == key.toList) = false := hkey'
        obtain ⟨y, hy⟩ : ∃ y, y = b[k].key := ⟨_, rfl⟩
        rw [← hy] at hk2 x0
        have HK := Lib.hid hkey'
        clear hkey hkey' hy
        go_wp2_with fail
        refine (same_key y key _ g _ hgw hgl).mono ?_
        rintro e w2 ⟨rfl, hb2⟩
        rw [hk2]
        go_wp2_with fail
        go_roundw
        case rel =>
          refine ⟨k + 1, by omega, by go_num, fun i hi hb => ?_, HB.out.trans (hb2.mono HB.out.size)⟩
          by_cases e : i = k
          · subst e; exact HK.out
          · exact HN.out i (by omega) hb
        case measure => simp [intOf]; omega
    · go_wp2_with fail
      go_ret
      refine ⟨.inr ⟨findK_none b key (fun i hi => HN.out i (by omega) hi), rfl⟩, HB.out⟩

set_option maxRecDepth 100000 in
theorem equal_any (A B : Option Addr) (c d : Nat) (l m : List Int) (w : World) (F G : Nat → Prop) (ha : SlA (intE .i64) F w A c l) (hb : SlA (intE .i64) G w B d m) :
    Calls Try.prog 21 #[.slice A l.length c, .slice B m.length d] w fun e w' => e = .returned (.bool (decide (l = m))) ∧ ∃ k, w' = w.drewN k := by
  have hn := ha.le
  have hm := hb.le
  have H := Lib.hid ha
  have H' := Lib.hid hb
  clear ha hb
  by_cases hl : l.length = m.length
  · have hb1 : ((l.length : Int) == m.length) = true := by rw [beq_iff_eq]; omega
    have HL := Lib.hid hl
    clear hl
    go_enter Try.func21, Try.ntmps21
    go_wp2
    go_loopw [13] (fun i wr => ∃ k q : Nat, k ≤ l.length ∧ i = .int .i64 k ∧ wr = w.drewN q ∧ Hid (l.take k = m.take k)) (fun i _ => l.length - (intOf i).toNat)
    case atStart => exact ⟨0, 0, Nat.zero_le _, rfl, rfl, rfl⟩
    case round =>
      obtain ⟨k, q, hk, rfl, rfl, HT⟩ := hrel
      by_cases hlt : k < l.length
      · have hlt' : k < m.length := by have := HL.out; omega
        obtain ⟨b, off, rfl, _, c0, _⟩ := H.out.int_ hlt
        obtain ⟨b', off', rfl, _, d0, _⟩ := H'.out.int_ hlt'
        have t1 := List.take_succ_eq_append_getElem hlt
        have t2 := List.take_succ_eq_append_getElem hlt'
        obtain ⟨x, hx⟩ : ∃ x, x = l[k] := ⟨_, rfl⟩
        obtain ⟨y, hy⟩ : ∃ y, y = m[k] := ⟨_, rfl⟩
        rw [← hx] at c0 t1
        rw [← hy] at d0 t2
        have T1 := Lib.hid t1
        have T2 := Lib.hid t2
        by_cases hxy : x = y
        · subst hxy
          clear hx hy t1 t2
          go_wp2
          go_quiet (fail)
          go_wp2
          go_roundw
          case rel =>
            refine ⟨k + 1, q + nq, by omega, by go_num, by simp, ?_⟩
            show _ = _
            rw [T1.out, T2.out, HT.out]
          case measure => simp [intOf]; omega
        · have hne : (x == y) = false := beq_eq_false_iff_ne.2 hxy
          have hfin : decide (l = m) = false := by
            rw [decide_eq_false_iff_not]
            intro e
            subst e
            exact hxy (hx.trans hy.symm)
          have HF := Lib.hid hfin
          clear hx hy t1 t2 hxy hfin
          go_wp2
          go_quiet (fail)
          go_wp2
          go_ret
          rw [HF.out]
          exact ⟨rfl, q + nq, by simp⟩
      · have hfin : decide (l = m) = true := by
          rw [decide_eq_true_iff]
          have h1 := HT.out
          rw [List.take_of_length_le (by omega), List.take_of_length_le (by have := HL.out; omega)] at h1
          exact h1
        have HF := Lib.hid hfin
        clear hfin
        go_wp2
        go_ret
        rw [HF.out]
        exact ⟨rfl, q, rfl⟩
  · have hb1 : ((l.length : Int) == m.length) = false := by rw [beq_eq_false_iff_ne]; omega
    have hfin : decide (l = m) = false := by
      rw [decide_eq_false_iff_not]; intro e; subst e; exact hl rfl
    have HF := Lib.hid hfin
    clear hl hfin
    go_enter Try.func21, Try.ntmps21
    go_wp2
    go_ret
    rw [HF.out]
    exact ⟨rfl, 0, rfl⟩

theorem equal_n (A B : Option Addr) (c d n : Nat) (l m : List Int) (w : World) (F G : Nat → Prop) (hl : l.length = n) (hm : m.length = n) (ha : SlA (intE .i64) F w A c l) (hb : SlA (intE .i64) G w B d m) :
    Calls Try.prog 21 #[.slice A n c, .slice B n d] w fun e w' => e = .returned (.bool (decide (l = m))) ∧ ∃ k, w' = w.drewN k := by
  have h := equal_any A B c d l m w F G ha hb
  rw [hl, hm] at h
  exact h
theorem pfx_false {a b : List Lin} {k : Nat} (hk : k < a.length) (h : okL b a[k] = false) : pfx a b = false := by
  unfold pfx
  rw [List.all_eq_false]
  exact ⟨a[k], List.getElem_mem hk, by rw [h]; simp⟩
theorem pfx_true {a b : List Lin} (h : ∀ i (hi : i < a.length), okL b a[i] = true) : pfx a b = true := by
  unfold pfx
  rw [List.all_eq_true]
  intro x hx
  obtain ⟨i, hi, rfl⟩ := List.mem_iff_getElem.1 hx
  exact h i hi
theorem okL_none {b : List Lin} {x : Lin} (h : findK b x.key = b.length) : okL b x = false := by
  unfold okL; rw [h, List.getElem?_eq_none (Nat.le_refl _)]
theorem okL_some {b : List Lin} {x : Lin} (h : findK b x.key < b.length) : okL b x = decide (x.nums.length ≤ b[findK b x.key].nums.length ∧ x.nums = b[findK b x.key].nums.take x.nums.length) := by
  unfold okL; rw [List.getElem?_eq_getElem h]

set_option maxHeartbeats 1000000 in
set_option maxRecDepth 100000 in
theorem denPrefix_any (A B : Option Addr) (c d : Nat) (a b : List Lin) (w : World) (ha : SlA linE (· < w.heap.size) w A c a) (hb : SlA linE (· < w.heap.size) w B d b) :
    Calls Try.prog 10 #[.slice A a.length c, .slice B b.length d] w fun e w' => e = .returned (.bool (pfx a b)) ∧ Below w.heap.size w w' := by
  have hn := ha.le
  have hm := hb.le
  have H := Lib.hid ha
  have H' := Lib.hid hb
  clear ha hb
  go_enter Try.func10, Try.ntmps10
  go_wp2
  go_loopw [10] (fun i wr => ∃ k : Nat, k ≤ a.length ∧ i = .int .i64 k ∧ Hid (∀ i (hi : i < k), ∀ ha : i < a.length, okL b a[i] = true) ∧ Hid (Below w.heap.size w wr)) (fun i _ => a.length - (intOf i).toNat)
  case atStart => exact ⟨0, Nat.zero_le _, rfl, fun i hi => absurd hi (by omega), Below.refl _ _⟩
  case round =>
    obtain ⟨k, hk, rfl, HN, HB⟩ := hrel
    by_cases hlt : k < a.length
    · have hsz := HB.out.size
      have haw := (H.out.keep (Same.below HB.out))
      have hbw := (H'.out.keep (Same.below HB.out)).more (F' := (· < wr.heap.size)) (fun j (hj : j < w.heap.size) => by show j < wr.heap.size; omega)
      obtain ⟨b0, o0, A', c', rfl, _, x0, x1, _, hnum⟩ := haw.lin_ hlt
      obtain ⟨x, hx⟩ : ∃ x, x = a[k] := ⟨_, rfl⟩
      rw [← hx] at x0 x1 hnum
      have HX := Lib.hid hx
      have HNUM := Lib.hid hnum
      have HBW := Lib.hid hbw
      have hxl := hnum.le
      clear hx hnum hbw haw
      go_wp2_with fail
      have hbel1 : Below wr.heap.size wr (wr.alloc (.cells #[.string x.key, .slice A' x.nums.length c'] 29)) := (Below.refl _ _).alloc (Nat.le_refl _) _
      refine (index_any B d wr.heap.size b x.key _ (HBW.out.below hbel1) (by simp) (by simp)).mono ?_
      rintro e w2 ⟨hres, hb2⟩
      have hb3 : Below w.heap.size w w2 := HB.out.trans ((hbel1.mono hsz).trans (hb2.mono (by simp; omega)))
      have y0 : w2.cell? ⟨wr.heap.size, 0, none⟩ = some (.string x.key) := (hb2.cell (p := ⟨wr.heap.size, 0, none⟩) (by simp)).trans (by simp)
      have y1 : w2.cell? ⟨wr.heap.size, 1, none⟩ = some (.slice A' x.nums.length c') := (hb2.cell (p := ⟨wr.heap.size, 1, none⟩) (by simp)).trans (by simp)
      have HB3 := Lib.hid hb3
      have hnum2 : SlA (intE .i64) (· < w.heap.size) w2 A' c' x.nums :=
        HNUM.out.keep ((Same.below (hbel1.trans (hb2.mono (by simp)))).less (fun j (hj : j < w.heap.size) => by show j < wr.heap.size; omega))
      have hbw2 : SlA linE (· < w.heap.size) w2 B d b := H'.out.keep (Same.below hb3)
      have HNUM2 := Lib.hid hnum2
      clear hb2 hb3 hbel1 HNUM HBW hnum2 x0 x1
      rcases hres with ⟨hf, rfl⟩ | ⟨hf, rfl⟩
      · obtain ⟨b1, o1, A1, c1, rfl, _, z0, z1, _, hnum1⟩ := hbw2.lin_ hf
        have hok := okL_some (x := x) hf
        obtain ⟨j, hj⟩ : ∃ j, j = findK b x.key := ⟨_, rfl⟩
        obtain ⟨y, hy⟩ : ∃ y, y = b[findK b x.key] := ⟨_, rfl⟩
        rw [← hy] at z0 z1 hnum1 hok
        rw [← hj] at z0 z1 hf ⊢
        have hyl := hnum1.le
        have HOK := Lib.hid hok
        have HNUM1 := Lib.hid hnum1
        clear hj hy hok hnum1 hbw2
        by_cases hlen : x.nums.length ≤ y.nums.length
        · have hd1 : decide (y.nums.length < x.nums.length) = false := by simp; omega
          have hcap : y.nums.length ≤ c1 := HNUM1.out.1
          have hxc : x.nums.length ≤ c1 := Nat.le_trans hlen hcap
          have hj0 : decide ((j : Int) < 0) = false := by rw [decide_eq_false_iff_not]; omega
          have hxc2 : (x.nums.length : Int) ≤ (c1 : Int) := by omega
          by_cases heq : x.nums = y.nums.take x.nums.length
          · have hokt : okL b x = true := by rw [HOK.out, decide_eq_true_iff]; exact ⟨hlen, heq⟩
            have HE := Lib.hid heq
            have HT := Lib.hid hokt
            clear heq hokt
            have HY := Lib.hid (HNUM1.out.head hlen)
            have HYL := Lib.hid (show (y.nums.take x.nums.length).length = x.nums.length by rw [List.length_take]; omega)
            clear HNUM1
            go_wp2_with fail
            go_quiet ((go_at_call 21; exact Calls.quiet_of (equal_n _ _ _ _ _ x.nums (y.nums.take x.nums.length) _ _ _ rfl HYL.out (HNUM2.out.drewN _) (HY.out.drewN _))))
            rw [show decide (x.nums = y.nums.take x.nums.length) = true from decide_eq_true HE.out]
            go_wp2_with fail
            go_roundw
            case rel =>
              refine ⟨k + 1, by omega, by go_num, fun i hi hai => ?_, bdrewN HB3.out nq⟩
              by_cases e : i = k
              · subst e; rw [← HX.out]; exact HT.out
              · exact HN.out i (by omega) hai
            case measure => simp [intOf]; omega
          · have hokf : okL b x = false := by rw [HOK.out, decide_eq_false_iff_not]; exact fun h => heq h.2
            have hfin := pfx_false hlt (by rw [← HX.out]; exact hokf)
            have HF := Lib.hid hfin
            have HE := Lib.hid heq
            have HT := Lib.hid hokf
            clear heq hokf hfin
            have HY := Lib.hid (HNUM1.out.head hlen)
            have HYL := Lib.hid (show (y.nums.take x.nums.length).length = x.nums.length by rw [List.length_take]; omega)
            clear HNUM1
            go_wp2_with fail
            go_quiet ((go_at_call 21; exact Calls.quiet_of (equal_n _ _ _ _ _ x.nums (y.nums.take x.nums.length) _ _ _ rfl HYL.out (HNUM2.out.drewN _) (HY.out.drewN _))))
            rw [show decide (x.nums = y.nums.take x.nums.length) = false from decide_eq_false HE.out]
            go_wp2_with fail
            go_ret
            rw [HF.out]
            exact ⟨rfl, bdrewN HB3.out _⟩
        · have hd1 : decide (y.nums.length < x.nums.length) = true := by simp; omega
          have hj0 : decide ((j : Int) < 0) = false := by rw [decide_eq_false_iff_not]; omega
          have hokf : okL b x = false := by rw [HOK.out, decide_eq_false_iff_not]; exact fun h => hlen h.1
          have hfin := pfx_false hlt (by rw [← HX.out]; exact hokf)
          have HF := Lib.hid hfin
          clear hokf hfin hlen
          go_wp2_with fail
          go_quiet (fail)
          go_wp2
          go_ret
          rw [HF.out]
          exact ⟨rfl, bdrewN HB3.out _⟩
      · have hfin := pfx_false hlt (by rw [← HX.out]; exact okL_none hf)
        have HF := Lib.hid hfin
        clear hfin hf hbw2
        have hneg : decide ((-1 : Int) < 0) = true := by decide
        go_wp2_with fail
        go_quiet (fail)
        go_wp2
        go_ret
        rw [HF.out]
        exact ⟨rfl, bdrewN HB3.out _⟩
    · have hfin : pfx a b = true := pfx_true (fun i hi => HN.out i (by omega) hi)
      have HF := Lib.hid hfin
      clear hfin
      go_wp2
      go_ret
      rw [HF.out]
      exact ⟨rfl, HB.out⟩
end Go.Proofs.Ythpgkcfkpglkdaa
