/-
  slices.Concat of two rows of lines. Conditions: where the lines lie; no more than 400 each.
-/
import Derived.Test.YthpgkcfkpglkdaaAudCheck
import Derived.Test.YthpgkcfkpglkdaaLinOf
import Derived.Test.YthpgkcfkpglkdaaRefOwn
import Derived.Lib.AppendZeros
import Derived.Laws.AppendOwn
namespace Go.Proofs.Ythpgkcfkpglkdaa
open Go.RowKit Go.ChangeShapes Go.WideShapes
set_option linter.unusedVariables false

theorem lin_raw {F : Nat → Prop} {w : World} {A : Option Addr} {c : Nat} {l : List Lin} (h : SlA linE F w A c l) :
    ∃ q : List LineR, q.map linOf = l ∧ SlA linC F w A c q ∧ ∀ p ∈ q, SlA (intE .i64) F w p.2.A p.2.cap p.2.xs ∧ p.1.size ≤ maxLen := by
  obtain ⟨h1, h2, h3⟩ := h
  have hx : ∀ i : Fin l.length, ∃ p : LineR, linOf p = l[i.val] ∧ (∃ b off, A = some ⟨b, off, none⟩ ∧ F b ∧ ∀ j u, (lineCells p)[j]? = some u → w.cell? ⟨b, off + (i.val * 2 + j), none⟩ = some u) ∧ SlA (intE .i64) F w p.2.A p.2.cap p.2.xs ∧ p.1.size ≤ maxLen := fun i => by
    obtain ⟨b, off, cs, e, hb, hc, v, rfl, hk, A', c', rfl, hn⟩ := h3 i.val l[i.val] (List.getElem?_eq_getElem i.isLt)
    exact ⟨(l[i.val].key, ⟨A', c', l[i.val].nums⟩), rfl, ⟨b, off, e, hb, hc⟩, hn, hk⟩
  obtain ⟨f, hf⟩ := Classical.axiomOfChoice hx
  refine ⟨List.ofFn f, ?_, ⟨by rw [List.length_ofFn]; exact h1, h2, fun i x hi => ?_⟩, fun p hp => ?_⟩
  · refine List.ext_getElem (by simp) fun i hi hi2 => ?_
    rw [List.getElem_map, List.getElem_ofFn]
    exact (hf ⟨i, hi2⟩).1
  · have hil : i < l.length := by have := (List.getElem?_eq_some_iff.1 hi).1; rwa [List.length_ofFn] at this
    rw [List.getElem?_eq_getElem (by rw [List.length_ofFn]; exact hil), List.getElem_ofFn] at hi
    injection hi with hi
    subst hi
    obtain ⟨b, off, e, hb, hc⟩ := (hf ⟨i, hil⟩).2.1
    exact ⟨b, off, lineCells (f ⟨i, hil⟩), e, hb, hc, rfl⟩
  · obtain ⟨i, hi, rfl⟩ := List.mem_iff_getElem.1 hp
    rw [List.getElem_ofFn]
    exact (hf _).2.2
theorem raw_lin {F : Nat → Prop} {w : World} {A : Option Addr} {c : Nat} {q : List LineR} (h : SlA linC F w A c q) (hq : ∀ p ∈ q, SlA (intE .i64) F w p.2.A p.2.cap p.2.xs ∧ p.1.size ≤ maxLen) : SlA linE F w A c (q.map linOf) := by
  obtain ⟨h1, h2, h3⟩ := h
  refine ⟨by simpa using h1, h2, fun i x hx => ?_⟩
  rw [List.getElem?_map] at hx
  cases hp : q[i]? with
  | none => rw [hp] at hx; cases hx
  | some p =>
    rw [hp] at hx
    injection hx with hx
    subst hx
    obtain ⟨b, off, cs, e, hb, hc, hr⟩ := h3 i p hp
    obtain ⟨q1, q2⟩ := hq p (List.mem_of_getElem? hp)
    exact ⟨b, off, cs, e, hb, hc, .slice p.2.A p.2.xs.length p.2.cap, hr, q2, p.2.A, p.2.cap, rfl, q1⟩
theorem src_linesA {F : Nat → Prop} {w : World} {A : Option Addr} {c : Nat} {q : List LineR} (h : SlA linC F w A c q) : Src Try.prog 2 22 (.slice A q.length c) q.length (q.flatMap lineCells) w :=
  Src.of_sl (P := Try.prog) (tx := 22) h Try.underlying22 lineCells (fun cs x hx => hx) (fun _ => rfl) (fun x u hu => by simp [lineCells] at hu; rcases hu with rfl | rfl <;> rfl)
theorem zeros_size (z : Array Value) (hz : z.size = 2) (n : Nat) : (Builtin.zeroCells z n).size = n * 2 := by rw [size_zeroCells, hz]
set_option maxRecDepth 100000 in
theorem agrow_ok (n : Nat) (w : World) (hn : n ≤ 800) :
    Calls Try.prog 22 #[.slice none 0 0, .int .i64 n] w fun e w' => (∃ A cap, e = .returned (.slice A 0 cap) ∧ OwnS w' 29 2 A cap 0 [] ∧ ∀ k, blk A = some k → w.heap.size ≤ k) ∧ Below w.heap.size w w' := by
  by_cases h0 : n = 0
  · subst h0
    go_enter Try.func22, Try.ntmps22
    go_wp2_with fail
    go_ret
    exact ⟨⟨none, 0, rfl, OwnS.nil _ _ _, nofun⟩, Below.refl _ _⟩
  · have d0 : decide (0 < n) = true := decide_eq_true (by omega)
    obtain ⟨i0, hi0, hz0, hs0, hb0⟩ := info_parts info_line
    have hr := Go.Lib.run_append_nil_zeros (P := Try.prog) w 22 3 22 29 i0 (.agg #[.string ByteArray.empty, .slice none 0 0]) .i64 .i64 Try.underlying22 Try.underlying3 hi0 hz0 n (by omega) (by rw [hs0]; decide) (by omega) (by rw [hb0]; omega)
    have hge := grownCap_ge w n 0 29
    have hle := grownCap_le_maxLen w n 0 29 (by unfold maxLen; omega)
    obtain ⟨cap, hcap⟩ : ∃ cap, cap = grownCap w n 0 29 := ⟨_, rfl⟩
    rw [← hcap] at hr hge hle
    obtain ⟨W2, hW2⟩ : ∃ W2, W2 = w.drew.alloc (.cells (Builtin.zeroCells (Value.agg #[.string ByteArray.empty, .slice none 0 0]).cells n ++ Builtin.zeroCells (Value.agg #[.string ByteArray.empty, .slice none 0 0]).cells (cap - n)) 29) := ⟨_, rfl⟩
    rw [← hW2] at hr
    have HO : Hid (OwnS W2 29 2 (some ⟨w.heap.size, 0, none⟩) cap 0 []) := by
      refine ⟨rfl, Nat.zero_le _, hle, .inr ⟨w.heap.size, 0, _, rfl, by rw [hW2]; exact heap_alloc_new w.drew _, ?_, fun j u hj => by simp at hj⟩⟩
      rw [Array.size_append, zeros_size _ rfl, zeros_size _ rfl]
      omega
    have HB : Hid (Below w.heap.size w W2) := by rw [hW2]; exact (Below.refl _ _).drew.alloc (Nat.le_refl _) _
    have HR := Lib.hid hr
    clear hr hW2 hcap hi0 hz0 hs0 hb0 h0
    go_enter Try.func22, Try.ntmps22
    go_wp2_with (at_builtin; refine Lib.wpList_append_run _ rfl _ _ _ _ rfl (.slice none 0 0) (.int .i64 n) (by simp [Act.eval]) rfl _ _ HR.out ?_)
    go_wp2_with fail
    go_ret
    exact ⟨⟨_, cap, rfl, HO.out, fun k hk => by injection hk with hk; exact Nat.le_of_eq hk⟩, HB.out⟩
def ConcatPost (F G : Nat → Prop) (l m : List Lin) (w : World) (e : Ending) (w' : World) : Prop := (∃ A' c', e = .returned (.slice A' (l ++ m).length c') ∧ SlA linE (fun k => (F k ∨ G k ∨ w.heap.size ≤ k) ∧ k < w'.heap.size) w' A' c' (l ++ m)) ∧ Below w.heap.size w w'
set_option maxRecDepth 100000 in
set_option maxHeartbeats 2000000 in
theorem aconcat_ok (F G : Nat → Prop) (A B : Option Addr) (c d g : Nat) (l m : List Lin) (w : World) (hl : SlA linE F w A c l) (hF : ∀ k, F k → k < w.heap.size) (hm : SlA linE G w B d m) (hG : ∀ k, G k → k < w.heap.size) (hl4 : l.length ≤ 400) (hm4 : m.length ≤ 400)
    (hg : g < w.heap.size) (c0 : w.cell? ⟨g, 0, none⟩ = some (.slice A l.length c)) (c1 : w.cell? ⟨g, 1, none⟩ = some (.slice B m.length d)) :
    Calls Try.prog 12 #[.slice (some ⟨g, 0, none⟩) 2 2] w (ConcatPost F G l m w) := by
  obtain ⟨ql, hql, hsl, hrl⟩ := lin_raw hl
  obtain ⟨qm, hqm, hsm, hrm⟩ := lin_raw hm
  have HLL : Hid (ql.length = l.length) := by show _ = _; rw [← hql, List.length_map]
  have HMM : Hid (qm.length = m.length) := by show _ = _; rw [← hqm, List.length_map]
  have HSL : Hid (∀ W, Below w.heap.size w W → SlA linC F W A c ql) := fun W h => hsl.keep fun k hk => h.block k (hF k hk)
  have HSM : Hid (∀ W, Below w.heap.size w W → SlA linC G W B d qm) := fun W h => hsm.keep fun k hk => h.block k (hG k hk)
  have HFIN : Hid (∀ (W : World) (A' : Option Addr) (c' : Nat), Below w.heap.size w W → OwnS W 29 2 A' c' (l.length + m.length) (ql.flatMap lineCells ++ qm.flatMap lineCells) → (∀ k, blk A' = some k → w.heap.size ≤ k) → SlA linE (fun k => (F k ∨ G k ∨ w.heap.size ≤ k) ∧ k < W.heap.size) W A' c' (l ++ m)) := fun W A' c' hb ho hbl => by
    have h1 : SlA linC (fun k => (F k ∨ G k ∨ w.heap.size ≤ k) ∧ k < W.heap.size) W A' c' (ql ++ qm) := OwnS.sl (E := linC) lineCells (fun _ => rfl) (by rw [List.flatMap_append]; exact ho) (by rw [List.length_append, HLL.out, HMM.out]) (fun k e => ⟨.inr (.inr (hbl k e)), ho.lt k e⟩) (fun x _ => rfl)
    have h2 := raw_lin h1 fun p hp => by
      rcases List.mem_append.1 hp with hp | hp
      · exact ⟨((hrl p hp).1.keep fun k hk => hb.block k (hF k hk)).more fun k hk => ⟨.inl hk, Nat.lt_of_lt_of_le (hF k hk) hb.size⟩, (hrl p hp).2⟩
      · exact ⟨((hrm p hp).1.keep fun k hk => hb.block k (hG k hk)).more fun k hk => ⟨.inr (.inl hk), Nat.lt_of_lt_of_le (hG k hk) hb.size⟩, (hrm p hp).2⟩
    rw [List.map_append, hql, hqm] at h2
    exact h2
  clear hl hF hm hG hql hsl hrl hqm hsm hrm
  unfold ConcatPost
  rw [show (l ++ m).length = l.length + m.length from List.length_append]
  obtain ⟨ln, hln⟩ : ∃ ln, ln = l.length := ⟨_, rfl⟩
  obtain ⟨mn, hmn⟩ : ∃ mn, mn = m.length := ⟨_, rfl⟩
  rw [← hln] at hl4 c0 HLL HFIN ⊢
  rw [← hmn] at hm4 c1 HMM HFIN ⊢
  clear hln hmn
  go_enter Try.func12, Try.ntmps12
  go_wp2_with fail
  go_loopw [3, 11] (fun sv iv wr => ∃ i s : Nat, i ≤ 2 ∧ iv = .int .i64 i ∧ sv = .int .i64 s ∧ s = (if i = 0 then 0 else if i = 1 then ln else ln + mn) ∧ wr = w) (fun _ iv _ => 2 - (intOf iv).toNat)
  case atStart => exact ⟨0, 0, by omega, rfl, rfl, rfl, rfl⟩
  case round =>
    obtain ⟨i, s, hi, rfl, rfl, hs, rfl⟩ := hrel
    by_cases h0 : i = 0
    · subst h0
      obtain rfl : s = 0 := by simpa using hs
      clear hs
      go_wp2_with fail
      go_roundw
      case rel => exact ⟨1, ln, by omega, by go_num, by go_num, by simp, trivial⟩
      case measure => simp [intOf]
    · by_cases h1 : i = 1
      · subst h1
        obtain rfl : s = ln := by simpa using hs
        clear hs
        go_wp2_with fail
        go_roundw
        case rel => exact ⟨2, s + mn, by omega, by go_num, by go_num, by simp, trivial⟩
        case measure => simp [intOf]
      · obtain rfl : i = 2 := by omega
        obtain rfl : s = ln + mn := by simpa using hs
        clear hs h0 h1
        obtain ⟨w0, rfl⟩ : ∃ w0, w0 = wr := ⟨_, rfl⟩
        have HGR := Lib.hid (agrow_ok (ln + mn) w0 (by omega))
        have HSZ := Lib.hid hg
        have HC0 := Lib.hid c0
        have HC1 := Lib.hid c1
        go_wp2_with fail
        refine HGR.out.mono ?_
        rintro e w2 ⟨⟨A2, cp, rfl, ho2, hb2⟩, b2⟩
        have HO2 := Lib.hid ho2
        have HBA := Lib.hid hb2
        have B2 := Lib.hid b2
        clear ho2 hb2 b2 HGR
        go_wp2_with fail
        go_loopw [6, 27] (fun av iv wx => ∃ (i n cp : Nat) (A2 : Option Addr), i ≤ 2 ∧ iv = .int .i64 i ∧ av = .slice A2 n cp ∧ n = (if i = 0 then 0 else if i = 1 then ln else ln + mn) ∧ Hid (OwnS wx 29 2 A2 cp n (if i = 0 then [] else if i = 1 then ql.flatMap lineCells else ql.flatMap lineCells ++ qm.flatMap lineCells)) ∧ Hid (∀ k, blk A2 = some k → w0.heap.size ≤ k) ∧ Hid (Below w0.heap.size w0 wx)) (fun _ iv _ => 2 - (intOf iv).toNat)
        case atStart => exact ⟨0, 0, cp, A2, by omega, rfl, rfl, rfl, HO2, HBA, B2⟩
        case round =>
          clear HO2 HBA B2
          obtain ⟨i, n, cp, A2, hi, rfl, rfl, hn, HO, HBA, HB⟩ := hrel
          have hgl : g < wr.heap.size := Nat.lt_of_lt_of_le HSZ.out HB.out.size
          have c0 := (HB.out.cell (p := ⟨g, 0, none⟩) HSZ.out).trans HC0.out
          have c1 := (HB.out.cell (p := ⟨g, 1, none⟩) HSZ.out).trans HC1.out
          by_cases h0 : i = 0
          · subst h0
            obtain rfl : n = 0 := by simpa using hn
            have HO2 : Hid (OwnS wr 29 2 A2 cp 0 []) := by show OwnS _ _ _ _ _ _ _; simpa using HO.out
            have HSRC : Hid (Src Try.prog 2 22 (.slice A ln c) ln (ql.flatMap lineCells) wr) := by
              have h := src_linesA (HSL.out wr HB.out)
              rw [HLL.out] at h; exact h
            clear HO hn
            go_wp2_with (at_builtin; refine wpList_append_S (w := wr) rfl _ _ 22 22 rfl 29 _ 2 40 Try.underlying22 info_line rfl (by decide) A2 cp 0 _ rfl HO2.out (.slice A ln c) rfl ln (ql.flatMap lineCells) HSRC.out ?_ ?_ ?_)
            any_goals (first | (show _ ≤ maxLen; unfold maxLen; omega) | (show _ ≤ 140737488355328; omega) | skip)
            intro A5 c5 w5 ho5 hg5 hat5
            have hB5 : Below w0.heap.size w0 w5 := HB.out.grown hg5 HB.out.size HBA.out
            have hA5 : ∀ k, blk A5 = some k → w0.heap.size ≤ k := fun k hk => by
              rcases hat5 with h | h
              · exact HBA.out k (h ▸ hk)
              · rw [h] at hk; injection hk with hk; rw [← hk]; exact HB.out.size
            have HO5 := Lib.hid ho5
            have HB5 := Lib.hid hB5
            have HA5 := Lib.hid hA5
            clear ho5 hg5 hat5 hB5 hA5 HO2 HSRC
            go_wp2_with fail
            go_roundw
            case rel => exact ⟨1, ln, c5, A5, by omega, by go_num, by first | rfl | (congr 1; omega), by simp, (by show OwnS _ _ _ _ _ _ _; simpa using HO5.out), HA5, HB5⟩
            case measure => simp [intOf]
          by_cases h1 : i = 1
          · subst h1
            obtain rfl : ln = n := by simpa using hn.symm
            have HO2 : Hid (OwnS wr 29 2 A2 cp ln (ql.flatMap lineCells)) := by show OwnS _ _ _ _ _ _ _; simpa using HO.out
            have HSRC : Hid (Src Try.prog 2 22 (.slice B mn d) mn (qm.flatMap lineCells) wr) := by
              have h := src_linesA (HSM.out wr HB.out)
              rw [HMM.out] at h; exact h
            clear HO hn
            go_wp2_with (at_builtin; refine wpList_append_S (w := wr) rfl _ _ 22 22 rfl 29 _ 2 40 Try.underlying22 info_line rfl (by decide) A2 cp ln _ rfl HO2.out (.slice B mn d) rfl mn (qm.flatMap lineCells) HSRC.out ?_ ?_ ?_)
            any_goals (first | (show _ ≤ maxLen; unfold maxLen; omega) | (show _ ≤ 140737488355328; omega) | skip)
            intro A5 c5 w5 ho5 hg5 hat5
            have hB5 : Below w0.heap.size w0 w5 := HB.out.grown hg5 HB.out.size HBA.out
            have hA5 : ∀ k, blk A5 = some k → w0.heap.size ≤ k := fun k hk => by
              rcases hat5 with h | h
              · exact HBA.out k (h ▸ hk)
              · rw [h] at hk; injection hk with hk; rw [← hk]; exact HB.out.size
            have HO5 := Lib.hid ho5
            have HB5 := Lib.hid hB5
            have HA5 := Lib.hid hA5
            clear ho5 hg5 hat5 hB5 hA5 HO2 HSRC
            go_wp2_with fail
            go_roundw
            case rel => exact ⟨2, ln + mn, c5, A5, by omega, by go_num, by first | rfl | (congr 1; omega), by simp, (by show OwnS _ _ _ _ _ _ _; simpa using HO5.out), HA5, HB5⟩
            case measure => simp [intOf]
          · obtain rfl : i = 2 := by omega
            have hn2 : n = ln + mn := by simpa using hn
            subst hn2
            have HO2 : Hid (OwnS wr 29 2 A2 cp (ln + mn) (ql.flatMap lineCells ++ qm.flatMap lineCells)) := by show OwnS _ _ _ _ _ _ _; simpa using HO.out
            clear HO hn h0 h1 c0 c1
            go_wp2_with fail
            go_ret
            exact ⟨⟨A2, cp, rfl, HFIN.out _ _ _ HB.out HO2.out HBA.out⟩, HB.out⟩
end Go.Proofs.Ythpgkcfkpglkdaa
