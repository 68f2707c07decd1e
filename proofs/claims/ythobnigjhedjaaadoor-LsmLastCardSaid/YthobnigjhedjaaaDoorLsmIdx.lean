/-
  slices.IndexFunc at lsm's two closures; ContainsFunc with put's, DeleteFunc with Compact's where nothing is dead. Conditions: where the entries lie.
-/
import Derived.Test.YthobnigjhedjaaaDoorLsmAll
namespace Go.Proofs.YthobnigjhedjaaaDoor
open Go.RowKit
open Go.Sort hiding Below
set_option linter.unusedVariables false

theorem str_eqL {a b : ByteArray} : (a.toList == b.toList) = decide (a = b) := by
  rw [Lib.toList_data, Lib.toList_data]
  by_cases e : a = b
  · subst e; simp
  · rw [decide_eq_false e]
    refine beq_eq_false_iff_ne.2 fun h => e ?_
    cases a; cases b
    congr 1
    exact Array.toList_inj.1 h
def isKey (key : ByteArray) (x : Ent) : Bool := decide (x.key = key)
def isDead (x : Ent) : Bool := x.dead
set_option maxRecDepth 100000 in
theorem clo_put (eb : Nat) (key : ByteArray) (x : Ent) (w : World) (h : w.cell? ⟨eb, 0, none⟩ = some (.string key)) :
    Calls Tryd.prog 51 #[.agg #[.string x.key, .string x.value, .bool x.dead], .pointer (some ⟨eb, 0, none⟩)] w fun e w' => e = .returned (.bool (isKey key x)) ∧ Below w.heap.size w w' := by
  have hl := cell_lt h
  simp only at hl
  have hb : Hid (∀ o, Below w.heap.size w (w.alloc o)) := fun o => (Below.refl _ _).alloc (Nat.le_refl _) _
  have HE : Hid ((x.key.toList == key.toList) = isKey key x) := str_eqL
  go_enter Tryd.func51, Tryd.ntmps51
  go_wp2_with fail
  go_ret
  exact ⟨by show Ending.returned (.bool (x.key.toList == key.toList)) = _; rw [HE.out], hb.out _⟩
set_option maxRecDepth 100000 in
theorem clo_dead (x : Ent) (w : World) : Calls Tryd.prog 37 #[.agg #[.string x.key, .string x.value, .bool x.dead]] w fun e w' => e = .returned (.bool (isDead x)) ∧ Below w.heap.size w w' := by
  have hb : Hid (∀ o, Below w.heap.size w (w.alloc o)) := fun o => (Below.refl _ _).alloc (Nat.le_refl _) _
  go_enter Tryd.func37, Tryd.ntmps37
  go_wp2_with fail
  go_ret
  exact ⟨rfl, hb.out _⟩
set_option maxRecDepth 100000 in
theorem eindexP (A : Option Addr) (c : Nat) (l : List Ent) (eb : Nat) (key : ByteArray) (w : World) (h : SlA entE (EntRow w) w A c l) (hx : w.cell? ⟨eb, 0, none⟩ = some (.string key)) :
    Calls Tryd.prog 61 #[.slice A l.length c, .func (.func 51) #[] #[.pointer (some ⟨eb, 0, none⟩)]] w fun e w' =>
      (((∀ x ∈ l, isKey key x = false) ∧ e = .returned (.int .i64 (-1))) ∨ ((∃ x ∈ l, isKey key x = true) ∧ ∃ k : Nat, k < l.length ∧ e = .returned (.int .i64 k))) ∧ Below w.heap.size w w' := by
  have hn := h.le
  have H := Lib.hid h
  have hxl := cell_lt hx
  simp only at hxl
  have HX := Lib.hid hx
  clear h hx
  go_enter Tryd.func61, Tryd.ntmps61
  go_wp2
  go_loopw [8] (fun i wr => ∃ k : Nat, k ≤ l.length ∧ i = .int .i64 k ∧ Hid (∀ i (hi : i < k), ∀ hb : i < l.length, (fun x : Ent => isKey key x) l[i] = false) ∧ Hid (Below w.heap.size w wr)) (fun i _ => l.length - (intOf i).toNat)
  case atStart => exact ⟨0, Nat.zero_le _, rfl, fun i hi => absurd hi (by omega), Below.refl _ _⟩
  case round =>
    obtain ⟨k, hk, rfl, HN, HB⟩ := hrel
    by_cases hlt : k < l.length
    · obtain ⟨b0, o0, rfl, hb0, x0, x1, x2, hz0, hz1⟩ := (H.out.later HB.out).ent_ hlt
      have hbl := hb0.lt
      have hU := clo_put eb key l[k] wr ((HB.out.cell (p := ⟨eb, 0, none⟩) hxl).trans HX.out)
      obtain ⟨y, hy⟩ : ∃ y, y = l[k] := ⟨_, rfl⟩
      have HY := Lib.hid hy
      rw [← hy] at x0 x1 x2 hU
      obtain ⟨yk, yv, yd⟩ := y
      simp only at x0 x1 x2 hU
      obtain ⟨bt, hbt⟩ : ∃ bt, bt = (fun x : Ent => isKey key x) ⟨yk, yv, yd⟩ := ⟨_, rfl⟩
      have hU' := hU
      simp only at hbt
      rw [← hbt] at hU'
      have HBT := Lib.hid hbt
      clear hbt hy hU hz0 hz1 hb0
      cases bt with
      | true =>
        go_wp2_with fail
        refine hU'.mono ?_
        rintro e w2 ⟨rfl, hb2⟩
        go_wp2_with fail
        go_ret
        exact ⟨.inr ⟨⟨l[k], List.getElem_mem hlt, by rw [← HY.out]; exact HBT.out.symm⟩, k, hlt, rfl⟩, HB.out.trans (hb2.mono HB.out.size)⟩
      | false =>
        go_wp2_with fail
        refine hU'.mono ?_
        rintro e w2 ⟨rfl, hb2⟩
        go_wp2_with fail
        go_roundw
        case rel =>
          refine ⟨k + 1, by omega, by go_num, fun i hi hb => ?_, HB.out.trans (hb2.mono HB.out.size)⟩
          by_cases e : i = k
          · subst e
            show (fun x : Ent => isKey key x) _ = _
            rw [← HY.out]; exact HBT.out.symm
          · exact HN.out i (by omega) hb
        case measure => simp [intOf]; omega
    · go_wp2_with fail
      go_ret
      refine ⟨.inl ⟨fun x hx => ?_, rfl⟩, HB.out⟩
      obtain ⟨i, hi, rfl⟩ := List.mem_iff_getElem.1 hx
      exact HN.out i (by omega) hi
set_option maxRecDepth 100000 in
theorem eindexD (A : Option Addr) (c : Nat) (l : List Ent) (w : World) (h : SlA entE (EntRow w) w A c l) :
    Calls Tryd.prog 61 #[.slice A l.length c, .func (.func 37) #[] #[]] w fun e w' =>
      (((∀ x ∈ l, isDead x = false) ∧ e = .returned (.int .i64 (-1))) ∨ ((∃ x ∈ l, isDead x = true) ∧ ∃ k : Nat, k < l.length ∧ e = .returned (.int .i64 k))) ∧ Below w.heap.size w w' := by
  have hn := h.le
  have H := Lib.hid h
  clear h
  go_enter Tryd.func61, Tryd.ntmps61
  go_wp2
  go_loopw [8] (fun i wr => ∃ k : Nat, k ≤ l.length ∧ i = .int .i64 k ∧ Hid (∀ i (hi : i < k), ∀ hb : i < l.length, (fun x : Ent => isDead x) l[i] = false) ∧ Hid (Below w.heap.size w wr)) (fun i _ => l.length - (intOf i).toNat)
  case atStart => exact ⟨0, Nat.zero_le _, rfl, fun i hi => absurd hi (by omega), Below.refl _ _⟩
  case round =>
    obtain ⟨k, hk, rfl, HN, HB⟩ := hrel
    by_cases hlt : k < l.length
    · obtain ⟨b0, o0, rfl, hb0, x0, x1, x2, hz0, hz1⟩ := (H.out.later HB.out).ent_ hlt
      have hbl := hb0.lt
      have hU := clo_dead l[k] wr
      obtain ⟨y, hy⟩ : ∃ y, y = l[k] := ⟨_, rfl⟩
      have HY := Lib.hid hy
      rw [← hy] at x0 x1 x2 hU
      obtain ⟨yk, yv, yd⟩ := y
      simp only at x0 x1 x2 hU
      obtain ⟨bt, hbt⟩ : ∃ bt, bt = (fun x : Ent => isDead x) ⟨yk, yv, yd⟩ := ⟨_, rfl⟩
      have hU' := hU
      simp only at hbt
      rw [← hbt] at hU'
      have HBT := Lib.hid hbt
      clear hbt hy hU hz0 hz1 hb0
      cases bt with
      | true =>
        go_wp2_with fail
        refine hU'.mono ?_
        rintro e w2 ⟨rfl, hb2⟩
        go_wp2_with fail
        go_ret
        exact ⟨.inr ⟨⟨l[k], List.getElem_mem hlt, by rw [← HY.out]; exact HBT.out.symm⟩, k, hlt, rfl⟩, HB.out.trans (hb2.mono HB.out.size)⟩
      | false =>
        go_wp2_with fail
        refine hU'.mono ?_
        rintro e w2 ⟨rfl, hb2⟩
        go_wp2_with fail
        go_roundw
        case rel =>
          refine ⟨k + 1, by omega, by go_num, fun i hi hb => ?_, HB.out.trans (hb2.mono HB.out.size)⟩
          by_cases e : i = k
          · subst e
            show (fun x : Ent => isDead x) _ = _
            rw [← HY.out]; exact HBT.out.symm
          · exact HN.out i (by omega) hb
        case measure => simp [intOf]; omega
    · go_wp2_with fail
      go_ret
      refine ⟨.inl ⟨fun x hx => ?_, rfl⟩, HB.out⟩
      obtain ⟨i, hi, rfl⟩ := List.mem_iff_getElem.1 hx
      exact HN.out i (by omega) hi
set_option maxRecDepth 100000 in
theorem econtains_ok (A : Option Addr) (c : Nat) (l : List Ent) (eb : Nat) (key : ByteArray) (w : World) (h : SlA entE (EntRow w) w A c l) (hx : w.cell? ⟨eb, 0, none⟩ = some (.string key)) :
    Calls Tryd.prog 50 #[.slice A l.length c, .func (.func 51) #[] #[.pointer (some ⟨eb, 0, none⟩)]] w fun e w' => e = .returned (.bool (efind l key).isSome) ∧ Below w.heap.size w w' := by
  have hI := eindexP A c l eb key w h hx
  have hE : Hid ((∀ x ∈ l, isKey key x = false) → (efind l key).isSome = false) := fun h => by
    rw [efind_none.2 fun x hx e => by have := h x hx; simp [isKey, e] at this]; rfl
  have hE2 : Hid ((∃ x ∈ l, isKey key x = true) → (efind l key).isSome = true) := fun ⟨x, hx, h⟩ => by
    cases he : efind l key with
    | some y => rfl
    | none => exact absurd (by simpa [isKey] using h) (efind_none.1 he x hx)
  clear h
  go_enter Tryd.func50, Tryd.ntmps50
  go_wp2_with fail
  refine hI.mono ?_
  rintro e w1 ⟨⟨h, rfl⟩ | ⟨h, k, hk, rfl⟩, hb⟩
  · have H1 := Lib.hid (hE.out h)
    clear h
    go_wp2_with fail
    go_ret
    exact ⟨by rw [H1.out]; rfl, hb⟩
  · have H1 := Lib.hid (hE2.out h)
    clear h
    go_wp2_with fail
    go_ret
    exact ⟨by rw [H1.out]; simp, hb⟩
set_option maxRecDepth 100000 in
theorem edelete_ok (A : Option Addr) (c : Nat) (l : List Ent) (w : World) (h : SlA entE (EntRow w) w A c l) (hd : ∀ x ∈ l, x.dead = false) :
    Calls Tryd.prog 36 #[.slice A l.length c, .func (.func 37) #[] #[]] w fun e w' => e = .returned (.slice A l.length c) ∧ Below w.heap.size w w' := by
  have hI := eindexD A c l w h
  have HD := Lib.hid hd
  clear h hd
  go_enter Tryd.func36, Tryd.ntmps36
  go_wp2_with fail
  refine hI.mono ?_
  rintro e w1 ⟨⟨h, rfl⟩ | ⟨⟨x, hx, h⟩, k, hk, rfl⟩, hb⟩
  · clear h
    go_wp2_with fail
    go_ret
    exact ⟨rfl, hb⟩
  · unfold isDead at h
    rw [HD.out x hx] at h
    cases h
end Go.Proofs.YthobnigjhedjaaaDoor
