/-
  The statements' own whole numbers (weirgatebig), by words: division by one word, the digits of a number. No condition.
-/
import Derived.Test.YthanjafbgcljgaaGreatDoorBig
namespace Go.Proofs.YthanjafbgcljgaaGreatDoor
open Go.RowKit Go.ChangeShapes Go.WideShapes
set_option linter.unusedVariables false

/-! ### A number divided by one word -/
theorem small_step (V r a d : Nat) (hd : 0 < d) (hr : r = V % d) : (a + 4294967296 * V) / d = 4294967296 * (V / d) + (r * 4294967296 + a) / d ∧ (a + 4294967296 * V) % d = (r * 4294967296 + a) % d := by
  have h1 := Nat.div_add_mod V d
  have h2 : a + 4294967296 * V = d * (4294967296 * (V / d)) + (r * 4294967296 + a) := by
    rw [Nat.mul_left_comm]
    have : 4294967296 * V = 4294967296 * (d * (V / d)) + 4294967296 * (V % d) := by rw [← Nat.mul_add, h1]
    rw [hr]; omega
  rw [h2, Nat.mul_add_div hd, Nat.mul_add_mod]
  exact ⟨rfl, rfl⟩
theorem small_lt (r a d : Nat) (hd : 0 < d) (hr : r < d) (ha : a < 4294967296) : (r * 4294967296 + a) / d < 4294967296 := by
  rw [Nat.div_lt_iff_lt_mul hd]
  have : (r + 1) * 4294967296 ≤ d * 4294967296 := Nat.mul_le_mul_right _ hr
  rw [Nat.add_mul] at this
  omega
/-- The quotient's block: so many still noughts, then the words found. -/
def qCells (k : Nat) (qs : List Nat) : Array Value := ((List.replicate k 0 ++ qs).map u32v).toArray
theorem q_made (w : World) (n : Nat) : (w.alloc (.cells (madeCells #[.int .u32 0] n) 70)).heap[w.heap.size]? = some (.cells (qCells n []) 70 (0, 0)) := by
  rw [heap_alloc_new w _]
  congr 2
  apply Array.ext'
  rw [toList_madeCells_one]
  simp [qCells, u32v]
theorem q_at (k : Nat) (qs : List Nat) : (qCells (k + 1) qs)[k]? = some (u32v 0) := by
  unfold qCells
  rw [List.getElem?_toArray, List.getElem?_map, List.getElem?_append_left (by simp), List.getElem?_replicate, if_pos (by omega)]
  rfl
theorem q_set (k : Nat) (qs : List Nat) (x : Nat) : (qCells (k + 1) qs).setIfInBounds k (u32v x) = qCells k (x :: qs) := by
  unfold qCells
  apply Array.ext'
  rw [Array.toList_setIfInBounds]
  apply List.ext_getElem?
  intro j
  rw [List.getElem?_set]
  simp only [List.getElem?_map, List.length_map, List.length_append, List.length_replicate]
  by_cases e : k = j
  · subst e
    rw [if_pos rfl, if_pos (by omega), List.getElem?_append_right (by simp)]
    simp
  · rw [if_neg e]
    by_cases hj : j < k
    · rw [List.getElem?_append_left (by simp; omega), List.getElem?_append_left (by simp; omega)]
      simp [hj, show j < k + 1 by omega]
    · rw [List.getElem?_append_right (by simp; omega), List.getElem?_append_right (by simp; omega)]
      simp only [List.length_replicate]
      rw [show j - k = (j - (k + 1)) + 1 by omega, List.getElem?_cons_succ]
set_option maxRecDepth 100000 in
set_option maxHeartbeats 1000000 in
theorem small_ok (F : Nat → Prop) (A : Option Addr) (c : Nat) (l : List Nat) (d : Nat) (w : World) (h : SlA u32E F w A c l) (hF : ∀ k, F k → k < w.heap.size) (hd : 0 < d) (hd2 : d < 4294967296) (hl : l.length ≤ 1000) :
    Calls Tryz.prog 90 #[.slice A l.length c, .int .u32 (d : Int)] w fun e w' => ∃ n q, e = .returned (.tuple #[.slice (some ⟨w.heap.size, 0, none⟩) n l.length, .int .u32 ((wVal l % d : Nat) : Int)]) ∧ n ≤ List.length q ∧ TrimOf q n ∧
      SlA u32E (fun k => w.heap.size ≤ k ∧ k < w'.heap.size) w' (some ⟨w.heap.size, 0, none⟩) l.length q ∧ wVal q = wVal l / d ∧ q.length = l.length ∧ Below w.heap.size w w' := by
  have H := Lib.hid h
  have HF := Lib.hid hF
  have hmk : ∀ u : World, (Instr.makeSlice 90 (.int .i64 (l.length : Int)) (.int .i64 (l.length : Int))).run Tryz.prog u = .ok (.slice (some ⟨u.heap.size, 0, none⟩) l.length l.length) (u.alloc (.cells (madeCells #[.int .u32 0] l.length) 70)) := fun u =>
    run_make_row' (P := Tryz.prog) 90 70 (.int .u32 0) 4 Tryz.underlying90 u32_info rfl .i64 .i64 l.length (by omega) (by omega) u
  have hc := h.1
  clear h hF
  go_enter Tryz.func90, Tryz.ntmps90
  go_wp2_with fail
  go_loopw [7, 8] (fun rv iv wx => ∃ (k : Nat) (qs : List Nat), k ≤ l.length ∧ iv = .int .i64 ((k : Int) - 1) ∧ rv = .int .u64 ((wVal (l.drop k) % d : Nat) : Int) ∧ Hid (wx.heap[w.heap.size]? = some (.cells (qCells k qs) 70 (0, 0)) ∧ k + qs.length = l.length ∧ (∀ x ∈ qs, x < 4294967296) ∧ wVal qs = wVal (l.drop k) / d ∧ Below w.heap.size w wx)) (fun _ iv _ => (intOf iv + 1).toNat)
  case atStart => exact ⟨l.length, [], Nat.le_refl _, rfl, by simp [wVal], q_made w l.length, by simp, nofun, by simp [wVal], (Below.refl _ _).alloc (Nat.le_refl _) _⟩
  case round =>
    obtain ⟨k, qs, hk, rfl, rfl, HI⟩ := hrel
    by_cases h0 : k = 0
    · subst h0
      obtain ⟨hg, hq, hqs, hv, hb⟩ := HI.out
      rw [Nat.zero_add] at hq
      rw [List.drop_zero] at hv ⊢
      have hsl : SlA u32E (fun k => w.heap.size ≤ k ∧ k < wr.heap.size) wr (some ⟨w.heap.size, 0, none⟩) l.length qs := by
        rw [← hq]
        exact ws_sl qs hg (by simp [qCells]; intros; rfl) ⟨Nat.le_refl _, block_lt hg⟩ hqs (by unfold maxLen; omega)
      have HT := Lib.hid (trim_ok _ _ _ _ _ hsl)
      have HS := Lib.hid hsl
      have HR := Lib.hid (And.intro hv (And.intro hq hb))
      rw [hq] at HT
      have hrd := Nat.mod_lt (wVal l) hd
      obtain ⟨r, hr⟩ : ∃ r, r = wVal l % d := ⟨_, rfl⟩
      rw [← hr] at hrd ⊢
      have HRM := Lib.hid hr
      clear hr
      clear HI hg hq hqs hv hb hsl
      go_wp2_with fail
      refine HT.out.mono ?_
      rintro e w3 ⟨n, rfl, hn, ht, rfl⟩
      go_wp2_with fail
      go_ret2
      exact ⟨n, qs, by rw [← HRM.out]; rfl, by rw [HR.out.2.1]; exact hn, ht, HS.out, HR.out⟩
    · obtain ⟨m, rfl⟩ : ∃ m, k = m + 1 := ⟨k - 1, by omega⟩
      obtain ⟨b, off, rfl, hb, c0, hw⟩ := H.out.u32_ (k := m) (by omega)
      have e1 : ((m + 1 : Nat) : Int) - 1 = (m : Int) := by omega
      have hz : wr.cell? ⟨b, off + m, none⟩ = some (.int .u32 (l[m] : Int)) := (HI.out.2.2.2.2.cell (p := ⟨b, off + m, none⟩) (HF.out _ hb)).trans c0
      have HD := Lib.hid (List.drop_eq_getElem_cons (show m < l.length by omega))
      generalize l[m] = a at hz hw HD
      obtain ⟨V, hV⟩ : ∃ V, V = wVal (l.drop (m + 1)) := ⟨_, rfl⟩
      rw [← hV] at HI ⊢
      have HV := Lib.hid hV
      have hrd := Nat.mod_lt V hd
      obtain ⟨r, hr⟩ : ∃ r, r = V % d := ⟨_, rfl⟩
      rw [← hr] at hrd ⊢
      have HR := Lib.hid hr
      clear hV hr c0
      have hra : r * 4294967296 + a < 18446744073709551616 := by
        have : (r + 1) * 4294967296 ≤ d * 4294967296 := Nat.mul_le_mul_right _ hrd
        rw [Nat.add_mul] at this
        omega
      have hor := or_add r a hw hra
      have hq32 := small_lt r a d hd hrd hw
      obtain ⟨T, hT⟩ : ∃ T, T = r * 4294967296 + a := ⟨_, rfl⟩
      rw [← hT] at hra hor hq32
      have HT := Lib.hid hT
      clear hT
      obtain ⟨Q, hQ⟩ : ∃ Q, Q = T / d := ⟨_, rfl⟩
      rw [← hQ] at hq32
      have hq1 : ((T : Int) / (d : Int)) = (Q : Int) := by rw [hQ]; exact Int.natCast_ediv T d ▸ rfl
      have HQ := Lib.hid hQ
      clear hQ
      obtain ⟨R, hR⟩ : ∃ R, R = T % d := ⟨_, rfl⟩
      have hr1 : ((T : Int) % (d : Int)) = (R : Int) := by rw [hR]; rfl
      have HRR := Lib.hid hR
      clear hR
      have hcl : wr.cell? ⟨w.heap.size, m, none⟩ = some (u32v 0) := by
        have h1 := cell_of_row wr w.heap.size m _ _ _ HI.out.1
        rw [h1]
        exact q_at m qs
      have hfz : wr.frozen? ⟨w.heap.size, m, none⟩ = false := by simp [World.frozen?, HI.out.1]
      unfold u32v at hcl
      have HN : Hid ((wr.setCell ⟨w.heap.size, m, none⟩ (.int .u32 (Q : Int))).heap[w.heap.size]? = some (.cells (qCells m (Q :: qs)) 70 (0, 0)) ∧ m + (Q :: qs).length = l.length ∧ (∀ x ∈ Q :: qs, x < 4294967296) ∧ wVal (Q :: qs) = wVal (l.drop m) / d ∧ Below w.heap.size w (wr.setCell ⟨w.heap.size, m, none⟩ (.int .u32 (Q : Int)))) := by
        obtain ⟨i1, i2, i3, i4, i5⟩ := HI.out
        refine ⟨?_, by rw [List.length_cons]; omega, ?_, ?_, i5.setCell (Nat.le_refl _) _⟩
        · rw [show (wr.setCell ⟨w.heap.size, m, none⟩ (.int .u32 (Q : Int))).heap[w.heap.size]? = some (.cells ((qCells (m + 1) qs).setIfInBounds m (u32v Q)) 70 (0, 0)) by simp [World.setCell, Array.getElem?_modify, i1, u32v], q_set]
        · intro x hx
          rcases List.mem_cons.1 hx with rfl | hx
          · exact hq32
          · exact i3 x hx
        · rw [HD.out, wVal, wVal, i4, ← HV.out, (small_step V r a d hd HR.out).1, HQ.out, HT.out]; omega
      have HN2 : Hid (R = wVal (l.drop m) % d) := by
        show _ = _
        rw [HD.out, wVal, ← HV.out, (small_step V r a d hd HR.out).2, HRR.out, HT.out]
      clear HI HR HRR HQ HD HV HT
      go_wp2_with fail
      go_roundw
      case rel => exact ⟨m, Q :: qs, by omega, rfl, by rw [hr1, HN2.out], HN⟩
      case measure => simp [intOf]

/-! ### The digits -/
theorem own_stays {w w' : World} {B e size n : Nat} {v : Value} {xs : List Value} (h : w.ownsRow B e size v n xs) (hb : Below w.heap.size w w') : w'.ownsRow B e size v n xs :=
  h.kept (row := none) ⟨hb.os, hb.tape, hb.output, hb.size, fun k hk _ => hb.block k hk⟩ (by
    cases hv : v.ownBlock with
    | none => exact .inl rfl
    | some k => exact .inr (by simp))
def bytV (x : UInt8) : Value := .int .u8 (x.toNat : Int)
theorem u8_info : (Tryz.prog.info? 5).map (fun i => (i.zero, i.size, i.bytes)) = some (some (.int .u8 0), 1, 1) := by kernel_rfl
/-- The digits but for a nought alone. -/
def dds (V : Nat) : List UInt8 := if V = 0 then [] else Lib.decDigits V
theorem dds_step {V : Nat} (h : V ≠ 0) : dds V = dds (V / 10) ++ [UInt8.ofNat (48 + V % 10)] := by
  unfold dds
  rw [if_neg h]
  by_cases h1 : V < 10
  · rw [Lib.decDigits, dif_pos h1, if_pos (by omega), Nat.mod_eq_of_lt h1]; rfl
  · rw [Lib.decDigits, dif_neg h1, if_neg (by omega)]
/-- A row whose first and last i are turned round. -/
def revC (l : List UInt8) (i : Nat) : List UInt8 := (List.range l.length).map fun p => if p < i ∨ l.length ≤ p + i then l.getD (l.length - 1 - p) 0 else l.getD p 0
theorem revC_len (l : List UInt8) (i : Nat) : (revC l i).length = l.length := by unfold revC; simp
theorem revC_get (l : List UInt8) (i : Nat) {p : Nat} (hp : p < l.length) : (revC l i)[p]? = some (if p < i ∨ l.length ≤ p + i then l.getD (l.length - 1 - p) 0 else l.getD p 0) := by
  unfold revC
  rw [List.getElem?_map, List.getElem?_range hp]; rfl
theorem revC_zero (l : List UInt8) : revC l 0 = l := by
  apply List.ext_getElem?
  intro p
  by_cases hp : p < l.length
  · rw [revC_get l 0 hp, if_neg (by omega), List.getD_eq_getElem?_getD, List.getElem?_eq_getElem hp]; rfl
  · rw [List.getElem?_eq_none (by rw [revC_len]; omega), List.getElem?_eq_none (by omega)]
theorem revC_end (l : List UInt8) {i : Nat} (h : l.length ≤ 2 * i + 1) : revC l i = l.reverse := by
  apply List.ext_getElem?
  intro p
  by_cases hp : p < l.length
  · rw [revC_get l i hp, List.getElem?_reverse hp]
    by_cases hc : p < i ∨ l.length ≤ p + i
    · rw [if_pos hc, List.getD_eq_getElem?_getD, List.getElem?_eq_getElem (by omega)]; rfl
    · rw [if_neg hc, show l.length - 1 - p = p by omega, List.getD_eq_getElem?_getD, List.getElem?_eq_getElem hp]; rfl
  · rw [List.getElem?_eq_none (by rw [revC_len]; omega), List.getElem?_eq_none (by rw [List.length_reverse]; omega)]
theorem revC_step (l : List UInt8) {i : Nat} (h : 2 * i + 1 < l.length) : ((revC l i).set i (l.getD (l.length - 1 - i) 0)).set (l.length - 1 - i) (l.getD i 0) = revC l (i + 1) := by
  apply List.ext_getElem?
  intro p
  by_cases hp : p < l.length
  · rw [revC_get l (i + 1) hp, List.getElem?_set, List.getElem?_set, revC_get l i hp]
    simp only [List.length_set, revC_len]
    by_cases h1 : l.length - 1 - i = p
    · rw [if_pos h1, if_pos (by omega), if_pos (.inr (by omega)), ← h1, show l.length - 1 - (l.length - 1 - i) = i by omega]
    · rw [if_neg h1]
      by_cases h2 : i = p
      · rw [if_pos h2, if_pos (by omega), if_pos (.inl (by omega)), h2]
      · rw [if_neg h2]
        by_cases hc : p < i ∨ l.length ≤ p + i
        · rw [if_pos hc, if_pos (by omega)]
        · rw [if_neg hc, if_neg (by omega)]
  · rw [List.getElem?_eq_none (by rw [List.length_set, List.length_set, revC_len]; omega), List.getElem?_eq_none (by rw [revC_len]; omega)]
theorem OwnS.set1 {w : World} {e : TypeId} {cap n g off j : Nat} {xs : List Value} (h : OwnS w e 1 (some ⟨g, off, none⟩) cap n xs) (hj : j < n) (u : Value) : OwnS (w.setCell ⟨g, off + j, none⟩ u) e 1 (some ⟨g, off, none⟩) cap n (xs.set j u) := by
  obtain ⟨h1, h2, h3, h4⟩ := h
  refine ⟨by rw [List.length_set]; exact h1, h2, h3, ?_⟩
  rcases h4 with ⟨h4, _⟩ | ⟨g', off', cur, e1, hh, hc, hr⟩
  · cases h4
  · injection e1 with e1; injection e1 with e1 e2; subst e1; subst e2
    refine .inr ⟨g, off, cur.setIfInBounds (off + j) u, rfl, by simp [World.setCell, Array.getElem?_modify, hh], by simpa using hc, fun i v hi => ?_⟩
    rw [List.getElem?_set] at hi
    by_cases e : j = i
    · subst e
      rw [if_pos rfl] at hi
      split at hi
      · injection hi with hi; subst hi
        rw [Array.getElem?_setIfInBounds_self_of_lt (by omega)]
      · cases hi
    · rw [if_neg e] at hi
      rw [Array.getElem?_setIfInBounds_ne (by omega)]
      exact hr i v hi
def sliceLen : Value → Nat
  | .slice _ n _ => n
  | _ => 0
theorem dec20_len {V : Nat} (h : V < 18446744073709551616) : (Lib.decDigits V).length ≤ 20 := by
  rw [Lib.decDigits_length]
  have : ∀ (k u : Nat), u < 10 ^ (k + 1) → Lib.nDigits u ≤ k + 1 := fun k => by
    induction k with
    | zero => intro u hu; rw [Lib.nDigits_small (by simpa using hu)]; omega
    | succ k ih =>
      intro u hu
      by_cases h1 : u < 10
      · rw [Lib.nDigits_small h1]; omega
      · rw [Lib.nDigits_big h1]
        have := ih (u / 10) (by rw [Nat.pow_succ] at hu; omega)
        omega
  exact this 19 V (by omega)
def numeral (neg : Bool) (V : Nat) : List UInt8 := if V = 0 then [48] else if neg then 45 :: Lib.decDigits V else Lib.decDigits V
theorem flat_one {α β : Type} (f : α → β) : ∀ l : List α, (l.flatMap fun x => [f x]) = l.map f
  | [] => rfl
  | x :: l => by rw [List.flatMap_cons, flat_one f l]; rfl
theorem own_len {w : World} {B e size n : Nat} {v : Value} {xs : List Value} (h : w.ownsRow B e size v n xs) : sliceLen v = n := by
  rcases h.2 with ⟨rfl, h0⟩ | ⟨g, cap, cur, rfl, _⟩
  · exact h0.symm
  · rfl
set_option maxRecDepth 100000 in
set_option maxHeartbeats 1000000 in
theorem text_ok (g : Nat) (neg : Bool) (V : Nat) (w : World) (h : BigAt w g neg V) (hl : V < 18446744073709551616) :
    Calls Tryz.prog 58 #[.pointer (some ⟨g, 0, none⟩), .int .i64 10] w fun e w' => e = .returned (.string ⟨(numeral neg V).toArray⟩) ∧ Below w.heap.size w w' := by
  obtain ⟨A0, n, c, l, hg, hn, ht, hsl, hv, hlen, hfp⟩ := h.ex
  have c0 := cell_of_row w g 0 _ _ _ hg
  have c1 := cell_of_row w g 1 _ _ _ hg
  simp at c0 c1
  have hglt := block_lt hg
  clear hg h
  by_cases h0 : n = 0
  · subst h0
    have hV := (ht.zero (Nat.zero_le _)).2 rfl
    have HN : Hid (numeral neg V = [48]) := by unfold numeral; rw [← hv, hV]; rfl
    clear hsl hv ht hV
    go_enter Tryz.func58, Tryz.ntmps58
    go_wp2_with fail
    go_ret
    rw [HN.out]
    exact ⟨rfl, Below.refl _ _⟩
  · have hV : V ≠ 0 := fun e => h0 ((ht.zero hn).1 (hv.trans e))
    have hhd := hsl.head hn
    have hnl : (l.take n).length = n := by rw [List.length_take]; omega
    have HT1 := twin_ok _ _ _ _ w hhd (by omega)
    rw [hnl] at HT1
    have HT2 := Lib.hid HT1
    have hcap := hsl.1
    have hvt : wVal (l.take n) = V := ht.val.trans hv
    have HTR : Hid (n = 0 ↔ wVal (l.take n) = 0) := ⟨fun e => absurd e h0, fun e => absurd (hvt.symm.trans e) hV⟩
    have HVT := Lib.hid hvt
    have HNL := Lib.hid hnl
    clear HT1 hhd hsl ht hv hvt
    generalize l.take n = ws at HT2 HTR HVT HNL
    go_enter Tryz.func58, Tryz.ntmps58
    go_wp2_with fail
    refine HT2.out.mono ?_
    rintro e w2 ⟨A2, c2, rfl, hs2, hb2⟩
    have HS2 : Hid (SlA u32E (fun k => w.heap.size ≤ k ∧ k < w2.heap.size) w2 A2 c2 ws) := hs2
    have HB2 := Lib.hid hb2
    clear hs2 hb2 HT2
    go_wp2_with fail
    go_loopw [5, 6] (fun bv av wx => ∃ (bs : List UInt8) (A : Option Addr) (n c : Nat) (l : List Nat), av = .slice A n c ∧ n ≤ 1000 ∧ l.length = n ∧ Hid ((n = 0 ↔ wVal l = 0) ∧ SlA u32E (fun k => w.heap.size ≤ k ∧ k < wx.heap.size) wx A c l ∧ Lib.decDigits V = dds (wVal l) ++ bs.reverse) ∧ Hid (wx.ownsRow w.heap.size 5 1 bv bs.length (bs.map bytV)) ∧ Hid (Below w.heap.size w wx)) (fun bv _ _ => (Lib.decDigits V).length - sliceLen bv)
    case atStart => exact ⟨[], A2, n, c2, ws, rfl, by omega, HNL.out, ⟨HTR.out, HS2.out, by rw [HVT.out]; unfold dds; rw [if_neg hV]; simp⟩, World.ownsRow_nil _ _ _ _, HB2.out⟩
    case round =>
      clear HTR HVT HNL HS2 HB2
      obtain ⟨bs, A, m, cm, ls, rfl, hm, hlm, HI, HO, HB⟩ := hrel
      by_cases hm0 : m = 0
      · subst hm0
        have hrev : Lib.decDigits V = bs.reverse := by rw [HI.out.2.2, HI.out.1.1 rfl]; rfl
        have hbl : bs.length ≤ 20 := by have := dec20_len hl; rw [hrev, List.length_reverse] at this; exact this
        have hx0 : wr.cell? ⟨g, 0, none⟩ = some (.bool neg) := (HB.out.cell (p := ⟨g, 0, none⟩) hglt).trans c0
        have HREV := Lib.hid hrev
        have hszr := HB.out.size
        clear HI hrev hlm
        go_upto_if 52 with (fail)
        go_cut [5] from 53 to 55 (fun bv wx => ∃ bs2 : List UInt8, bs2.length ≤ 21 ∧ Hid (bs2.reverse = numeral neg V) ∧ Hid (wx.ownsRow w.heap.size 5 1 bv bs2.length (bs2.map bytV)) ∧ Hid (Below w.heap.size w wx))
        case first =>
          cases neg with
          | false =>
            go_wp2_with fail
            go_meet
            case rel => exact ⟨bs, by omega, (by show _ = _; rw [← HREV.out]; unfold numeral; rw [if_neg hV]; rfl), HO, HB⟩
          | true =>
            go_wp2_with (at_builtin; refine wpList_push (w0 := wr) rfl _ _ 28 rfl w.heap.size 5 (.int .u8 0) 1 1 Tryz.underlying28 u8_info rfl (by decide) u5 bs.length _ rfl HO.out [.int .u8 45] (by simp [Act.eval]) rfl ?_ ?_ ?_ HB.out.size HB.out (Nat.le_refl _) ?_)
            · first | rfl | (intro u hu; rw [List.mem_singleton.1 hu]; rfl)
            · unfold maxLen; omega
            · omega
            · intro v4 w4 hown4 hg4 hb4 hat4
              have HO4 : Hid (w4.ownsRow w.heap.size 5 1 v4 (bs ++ [45]).length ((bs ++ [45]).map bytV)) := by
                rw [List.length_append, List.length_singleton, List.map_append, List.map_singleton]; exact hown4
              have HB4 := Lib.hid hb4
              clear hown4 hg4 hb4 hat4 HO HB
              go_wp2_with fail
              go_meet
              case rel => exact ⟨bs ++ [45], by rw [List.length_append, List.length_singleton]; omega, (by show _ = _; rw [List.reverse_append, ← HREV.out]; unfold numeral; rw [if_neg hV]; rfl), HO4, HB4⟩
        case rest =>
          clear HO HB HREV hbl hx0
          obtain ⟨bs2, hbl, HREV, HO, HB⟩ := hcut
          obtain ⟨A5, c5, hv5, hown5, hbs5⟩ := OwnS.of_row HO.out
          obtain rfl := hv5
          have hnp : 0 < bs2.length := by
            rcases bs2 with _ | ⟨x, xs⟩
            · have := HREV.out
              unfold numeral at this
              rw [if_neg hV] at this
              have hd := Lib.decDigits_length V
              have hd2 := Lib.nDigits_pos V
              split at this
              · cases this
              · rw [← this] at hd; simp at hd; omega
            · simp
          obtain ⟨g5, o5, rfl, hg5, hc5⟩ := hown5.head hnp (by decide)
          have hb5 := hbs5 g5 rfl
          have hcap5 := hown5.2.1
          have HOW := Lib.hid hown5
          clear hown5 hbs5 HO hc5
          go_wp2_with fail
          go_loopw [8, 9] (fun iv jv wx => ∃ i j : Nat, 2 * i ≤ bs2.length ∧ i + j + 1 = bs2.length ∧ iv = .int .i64 i ∧ jv = .int .i64 j ∧ Hid (OwnS wx 5 1 (some ⟨g5, o5, none⟩) c5 bs2.length ((revC bs2 i).map bytV)) ∧ Hid (Below w.heap.size w wx)) (fun iv _ _ => bs2.length - (intOf iv).toNat)
          case atStart => exact ⟨0, bs2.length - 1, by omega, by omega, rfl, (by congr 1; omega), (by rw [revC_zero]; exact HOW.out), HB⟩
          case round =>
            clear HOW HB
            obtain ⟨i, j, hi, hij1, rfl, rfl, HOW, HB⟩ := hrel
            by_cases hij : 2 * i + 1 < bs2.length
            · have hcell : ∀ p, p < bs2.length → wr.cell? ⟨g5, o5 + p, none⟩ = some (bytV ((revC bs2 i).getD p 0)) := fun p hp => by
                obtain ⟨g', o', e, _, hc⟩ := HOW.out.head hnp (by decide)
                injection e with e; injection e with e1 e2; subst e1; subst e2
                refine hc p _ ?_
                rw [List.getElem?_map, List.getD_eq_getElem?_getD, List.getElem?_eq_getElem (by rw [revC_len]; exact hp)]
                rfl
              have hold : ∀ p, i ≤ p → p + i < bs2.length → (revC bs2 i).getD p 0 = bs2.getD p 0 := fun p h1 h2 => by
                rw [List.getD_eq_getElem?_getD, revC_get bs2 i (by omega), if_neg (by omega)]; rfl
              have y0 := hcell i (by omega)
              have y1 := hcell j (by omega)
              rw [hold i (Nat.le_refl _) (by omega)] at y0
              rw [hold j (by omega) (by omega)] at y1
              have hfz : ∀ (W : World) (cs : List Value) (p : Nat), OwnS W 5 1 (some ⟨g5, o5, none⟩) c5 bs2.length cs → W.frozen? ⟨g5, p, none⟩ = false := fun W cs p h => by
                rcases h.2.2.2 with ⟨h4, _⟩ | ⟨g', off', cur, e1, hh, _⟩
                · cases h4
                · injection e1 with e1; injection e1 with e1 e2; subst e1; simp [World.frozen?, hh]
              have f0 := hfz _ _ (o5 + i) HOW.out
              have hst := revC_step bs2 hij
              rw [show bs2.length - 1 - i = j by omega] at hst
              have HST := Lib.hid hst
              have hs1 := HOW.out.set1 (j := i) (by omega) (bytV (bs2.getD j 0))
              have f1 := hfz _ _ (o5 + j) hs1
              have y2 : (wr.setCell ⟨g5, o5 + i, none⟩ (bytV (bs2.getD j 0))).cell? ⟨g5, o5 + j, none⟩ = some (bytV (bs2.getD j 0)) := by
                obtain ⟨g', o', e, _, hc⟩ := hs1.head hnp (by decide)
                injection e with e; injection e with e1 e2; subst e1; subst e2
                refine hc j _ ?_
                rw [List.getElem?_set_ne (by omega), List.getElem?_map, List.getElem?_eq_getElem (by rw [revC_len]; omega), Option.map_some]
                have := hold j (by omega) (by omega)
                rw [List.getD_eq_getElem?_getD, List.getElem?_eq_getElem (by rw [revC_len]; omega)] at this
                rw [← this]; rfl
              have HS2 : Hid (OwnS ((wr.setCell ⟨g5, o5 + i, none⟩ (bytV (bs2.getD j 0))).setCell ⟨g5, o5 + j, none⟩ (bytV (bs2.getD i 0))) 5 1 (some ⟨g5, o5, none⟩) c5 bs2.length ((revC bs2 (i + 1)).map bytV)) := by
                have h2 := hs1.set1 (j := j) (by omega) (bytV (bs2.getD i 0))
                rw [← List.map_set, ← List.map_set, HST.out] at h2
                exact h2
              have HB2 : Hid (Below w.heap.size w ((wr.setCell ⟨g5, o5 + i, none⟩ (bytV (bs2.getD j 0))).setCell ⟨g5, o5 + j, none⟩ (bytV (bs2.getD i 0)))) := (HB.out.setCell hb5 _).setCell hb5 _
              have dij : decide (i < j) = true := decide_eq_true (by omega)
              clear hcell hold hfz hst HST hs1 HOW HB
              unfold bytV at y0 y1 y2 f1 HS2 HB2
              generalize bs2.getD i 0 = x at y0 HS2 HB2
              generalize bs2.getD j 0 = y at y1 y2 f1 HS2 HB2
              go_wp2_with fail
              go_roundw
              case rel => exact ⟨i + 1, j - 1, by omega, by omega, by go_num, by go_num, HS2, HB2⟩
              case measure => simp [intOf]; omega
            · have dij : decide (i < j) = false := decide_eq_false (by omega)
              have hrv := revC_end bs2 (i := i) (by omega)
              have hsl : SlA bytE (· < wr.heap.size) wr (some ⟨g5, o5, none⟩) c5 (numeral neg V) := by
                have h1 := HOW.out
                rw [hrv, HREV.out] at h1
                have h2 : OwnS wr 5 bytE.sz (some ⟨g5, o5, none⟩) c5 bs2.length ((numeral neg V).flatMap fun x => [bytV x]) := by
                  rw [show ((numeral neg V).flatMap fun x => [bytV x]) = (numeral neg V).map bytV from flat_one bytV _]
                  exact h1
                exact h2.sl (E := bytE) (fun x => [bytV x]) (fun _ => rfl) (by rw [← HREV.out, List.length_reverse]) (fun k e => HOW.out.lt k e) (fun x _ => rfl)
              have hcv := conv_string (P := Tryz.prog) (src := 28) (dst := 9) hsl Tryz.underlying28 Tryz.underlying5 Tryz.underlying9
              rw [← HREV.out, List.length_reverse, HREV.out] at hcv
              clear hsl hrv HOW
              go_wp2_with fail
              go_ret
              exact ⟨rfl, HB.out⟩
      · have hwv : wVal ls ≠ 0 := fun e => hm0 (HI.out.1.2 e)
        have HSM := small_ok _ A cm ls 10 wr HI.out.2.1 (fun k hk => hk.2) (by decide) (by decide) (by omega)
        rw [hlm] at HSM
        have HC := Lib.hid HSM
        clear HSM
        have hbl := HO.out.1
        have hdd := dds_step hwv
        have hdl : bs.length < (Lib.decDigits V).length := by
          rw [HI.out.2.2, hdd]
          simp only [List.length_append, List.length_reverse, List.length_singleton]
          omega
        have HDD := Lib.hid hdd
        have hdm : (Lib.decDigits V).length ≤ 20 := dec20_len hl
        have HWV := Lib.hid hwv
        clear hdd hwv hbl
        have hm63 : m ≤ 1000 := hm
        go_wp2_with fail
        refine HC.out.mono ?_
        rintro e w3 ⟨n3, q, rfl, hn3, ht3, hs3, hv3, hql, hb3⟩
        have hrr := Nat.mod_lt (wVal ls) (show 0 < 10 by decide)
        obtain ⟨r, hr⟩ : ∃ r, r = wVal ls % 10 := ⟨_, rfl⟩
        rw [← hr] at hrr ⊢
        have HRE := Lib.hid hr
        have dr : decide (r < 10) = true := decide_eq_true hrr
        have hu8 : ((UInt8.ofNat (48 + r)).toNat : Int) = 48 + (r : Int) := by rw [UInt8.toNat_ofNat']; omega
        have HN3 : Hid ((n3 = 0 ↔ wVal (q.take n3) = 0) ∧ SlA u32E (fun k => wr.heap.size ≤ k ∧ k < w3.heap.size) w3 (some ⟨wr.heap.size, 0, none⟩) m (q.take n3) ∧ wVal (q.take n3) = wVal ls / 10 ∧ (q.take n3).length = n3) :=
          ⟨by rw [ht3.val]; exact (ht3.zero hn3).symm, hs3.head hn3, by rw [ht3.val, hv3], by rw [List.length_take]; omega⟩
        have hn3m : n3 ≤ m := by omega
        have HB3 := Lib.hid hb3
        have HO3 : Hid (w3.ownsRow w.heap.size 5 1 u5 bs.length (bs.map bytV)) := own_stays HO.out hb3
        clear hn3 ht3 hs3 hv3 hql hb3 hr
        have hsz3 := HB3.out.size
        have hszr := HB.out.size
        go_wp2_with (at_builtin; refine wpList_push (w0 := w3) rfl _ _ 28 rfl w.heap.size 5 (.int .u8 0) 1 1 Tryz.underlying28 u8_info rfl (by decide) u5 bs.length _ rfl HO3.out [.int .u8 (48 + (r : Int))] (by simp [Act.eval]) rfl ?_ ?_ ?_ (by omega) (HB.out.trans (HB3.out.mono HB.out.size)) (Nat.le_refl _) ?_)
        · intro u hu; rw [List.mem_singleton.1 hu]; rfl
        · unfold maxLen; omega
        · omega
        · intro v4 w4 hown4 hg4 hb4 hat4
          have HO4 : Hid (w4.ownsRow w.heap.size 5 1 v4 (bs ++ [UInt8.ofNat (48 + r)]).length ((bs ++ [UInt8.ofNat (48 + r)]).map bytV)) := by
            rw [List.length_append, List.length_singleton, List.map_append, List.map_singleton, show bytV (UInt8.ofNat (48 + r)) = .int .u8 (48 + (r : Int)) by unfold bytV; rw [hu8]]
            exact hown4
          have hsz4 := hg4.size
          have HI4 : Hid ((n3 = 0 ↔ wVal (q.take n3) = 0) ∧ SlA u32E (fun k => w.heap.size ≤ k ∧ k < w4.heap.size) w4 (some ⟨wr.heap.size, 0, none⟩) m (q.take n3) ∧ Lib.decDigits V = dds (wVal (q.take n3)) ++ (bs ++ [UInt8.ofNat (48 + r)]).reverse) := by
            refine ⟨HN3.out.1, (HN3.out.2.1.keep fun k hk => hg4.block k hk.2 fun e => ?_).more fun k hk => ⟨by have := hk.1; omega, by have := hk.2; omega⟩, ?_⟩
            · have := (HO.out.lt k e.symm).2
              have := hk.1
              omega
            · rw [HI.out.2.2, HDD.out, HN3.out.2.2.1, HRE.out]; simp
          have HB4 := Lib.hid hb4
          have HNL4 : Hid ((q.take n3).length = n3) := HN3.out.2.2.2
          have hl4 := own_len HO4.out
          rw [List.length_append, List.length_singleton] at hl4
          have hl5 := own_len HO.out
          clear hown4 hg4 hb4 hat4 HI HO HB HB3 HO3 HN3 HDD HRE HWV
          go_wp2_with fail
          go_roundw
          case rel => exact ⟨bs ++ [UInt8.ofNat (48 + r)], some ⟨wr.heap.size, 0, none⟩, n3, m, q.take n3, rfl, by omega, HNL4.out, HI4, HO4, HB4⟩
          case measure => rw [hl4, hl5]; omega
theorem string_ok (g : Nat) (s : ByteArray) (w : World) (h : Calls Tryz.prog 58 #[.pointer (some ⟨g, 0, none⟩), .int .i64 10] w fun e w' => e = .returned (.string s) ∧ Below w.heap.size w w') :
    Calls Tryz.prog 44 #[.pointer (some ⟨g, 0, none⟩)] w fun e w' => e = .returned (.string s) ∧ Below w.heap.size w w' := by
  have H := Lib.hid h
  clear h
  go_enter Tryz.func44, Tryz.ntmps44
  go_wp2_with fail
  refine H.out.mono ?_
  rintro e w2 ⟨rfl, hb⟩
  have HB := Lib.hid hb
  clear hb H
  go_wp2_with fail
  go_ret
  exact ⟨rfl, HB.out⟩
theorem digits_ok (x : Int) (w : World) (hx : -9223372036854775808 ≤ x ∧ x ≤ 9223372036854775807) :
    Calls Tryz.prog 23 #[.int .i64 x] w fun e w' => e = .returned (.string ⟨(Lib.itoa x).toArray⟩) ∧ Below w.heap.size w w' := by
  have HN := Lib.hid (newInt_ok x w hx)
  have HT := Lib.hid (fun g W h => text_ok g (decide (x < 0)) x.natAbs W h (by omega))
  have hnum : numeral (decide (x < 0)) x.natAbs = Lib.itoa x := by
    unfold numeral Lib.itoa
    by_cases h0 : x < 0
    · rw [if_neg (by omega), decide_eq_true h0, if_pos rfl, if_pos h0]
    · rw [if_neg h0, decide_eq_false h0]
      by_cases h1 : x = 0
      · subst h1; rw [if_pos (by decide)]; exact (Lib.decDigits_one (i := 0) (by omega)).symm
      · rw [if_neg (by omega), if_neg (by decide), show x.natAbs = x.toNat by omega]
  rw [hnum] at HT
  clear hx hnum
  go_enter Tryz.func23, Tryz.ntmps23
  go_wp2_with fail
  refine HN.out.mono ?_
  rintro e w2 ⟨g, rfl, hg, hb⟩
  have HT2 := Lib.hid (HT.out g w2 hg)
  have HB := Lib.hid hb
  clear hg hb HN HT
  go_wp2_with fail
  refine (string_ok g _ w2 HT2.out).mono ?_
  rintro e w3 ⟨rfl, hb⟩
  have HB3 := Lib.hid (HB.out.trans (hb.mono HB.out.size))
  clear hb HB HT2
  go_wp2_with fail
  go_ret
  exact ⟨rfl, HB3.out⟩
end Go.Proofs.YthanjafbgcljgaaGreatDoor
