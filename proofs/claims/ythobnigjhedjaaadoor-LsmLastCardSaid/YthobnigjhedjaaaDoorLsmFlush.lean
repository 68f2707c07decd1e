/-
  Package lsm: Get, Flush, Compact where nothing is dead. Conditions: a store as LsmOk says, but for how many are fresh; no more than 900 lists.
-/
import Derived.Test.YthobnigjhedjaaaDoorLsmIdx
namespace Go.Proofs.YthobnigjhedjaaaDoor
open Go.RowKit Go.ChangeShapes Go.WideShapes
open Go.Sort hiding Below
set_option linter.unusedVariables false

/-- A store, but for how many are fresh. -/
structure LsmPre (F : EMap) (L : List (List Ent)) : Prop where
  keyed : EKeyed F
  ents : ∀ e ∈ evals F ++ L.flatten, entOk e
  rise : ∀ l ∈ L, TabOk l ∧ l ≠ []
  many : (allOf F L).length ≤ 400
theorem LsmOk.pre {limit : Nat} {F : EMap} {L : List (List Ent)} (h : LsmOk limit F L) : LsmPre F L := ⟨h.keyed, h.ents, h.rise, h.many⟩
theorem LsmPre.sized {F : EMap} {L : List (List Ent)} (h : LsmPre F L) : ESized F := fun p hp => by
  have h1 := h.ents p.2 (List.mem_append_left _ (List.mem_map.2 ⟨p, hp, rfl⟩))
  have h2 := h.keyed.2 p hp
  obtain ⟨a, b, _⟩ := h1
  unfold maxLen
  rw [← h2]
  exact ⟨by omega, by omega, by omega⟩
theorem LsmPre.few {F : EMap} {L : List (List Ent)} (h : LsmPre F L) : F.length ≤ 400 := Nat.le_trans (fresh_len h.keyed L) h.many
theorem LsmPre.lists {F : EMap} {L : List (List Ent)} (h : LsmPre F L) : ∀ l ∈ L, l.length ≤ 400 := fun l hl => (h.rise l hl).1.1
def errI (k : Int) : Value := .iface 51 (.int .i64 k)
/-- What Get answers. -/
def gotV : Option Ent → Value
  | none => .tuple #[.string ⟨#[]⟩, errI 6]
  | some e => if e.dead then .tuple #[.string ⟨#[]⟩, errI 6] else .tuple #[.string e.value, .nilIface]
set_option maxRecDepth 100000 in
set_option maxHeartbeats 1000000 in
theorem get_ok (B g limit : Nat) (F : EMap) (L : List (List Ent)) (key : ByteArray) (w : World) (S : Lsm B w g limit F L) (hP : LsmPre F L) (hL : L.length ≤ 900) :
    Calls Tryd.prog 14 #[.pointer (some ⟨g, 0, none⟩), .string key] w fun e w' => e = .returned (gotV (view F L key)) ∧ Below w.heap.size w w' := by
  obtain ⟨bf, A1, c1, tvs, A2, c2, lvs, S⟩ := S
  have hA := all_ok B g bf A1 c1 tvs A2 c2 lvs limit F L w S hP.keyed hP.sized (by have := hP.few; omega) (by omega) hP.lists
  clear S hP hL
  go_enter Tryd.func14, Tryd.ntmps14
  go_wp2_with fail
  refine hA.mono ?_
  rintro e w1 ⟨A, c, q, rfl, q1, q2, q3, q4, q5, q6⟩
  have HSL : Hid (SlA entE (EntRow w1) w1 A c q) := q5.more fun k hk => hk.2
  have HK := Lib.hid q1
  have HV : Hid (efind q key = view F L key) := (q3 key).trans rfl
  have HB := Lib.hid q6
  have hle := q5.le
  clear hA q1 q2 q3 q4 q5 q6
  go_wp2_with fail
  go_loopw [11] (fun iv wr => ∃ k : Nat, k ≤ q.length ∧ iv = .int .i64 k ∧ Hid (∀ i (hi : i < k), ∀ hb : i < q.length, q[i].key = key → q[i].dead = true) ∧ Hid (Below w1.heap.size w1 wr)) (fun iv _ => q.length - (intOf iv).toNat)
  case atStart => exact ⟨0, Nat.zero_le _, rfl, fun i hi => absurd hi (by omega), Below.refl _ _⟩
  case round =>
    obtain ⟨k, hk, rfl, HN, HBR⟩ := hrel
    by_cases hlt : k < q.length
    · obtain ⟨b0, o0, rfl, hb0, x0, x1, x2, hz0, hz1⟩ := (HSL.out.later HBR.out).ent_ hlt
      have hbl := hb0.lt
      obtain ⟨y, hy⟩ : ∃ y, y = q[k] := ⟨_, rfl⟩
      have HY := Lib.hid hy
      rw [← hy] at x0 x1 x2
      obtain ⟨yk, yv, yd⟩ := y
      simp only at x0 x1 x2
      have HB2 : Hid (Below w1.heap.size w1 (wr.alloc (.cells #[.string yk, .string yv, .bool yd] 67))) := HBR.out.alloc HBR.out.size _
      have HBW : Hid (Below w.heap.size w (wr.alloc (.cells #[.string yk, .string yv, .bool yd] 67))) := HB.out.trans (HB2.out.mono HB.out.size)
      have HNX : Hid ((yk = key → yd = true) → ∀ i (hi : i < k + 1), ∀ hb : i < q.length, q[i].key = key → q[i].dead = true) := fun h i hi hb h3 => by
        by_cases e : i = k
        · subst e
          rw [← HY.out] at h3 ⊢
          exact h h3
        · exact HN.out i (by omega) hb h3
      have HF : Hid (yk = key → efind q key = some ⟨yk, yv, yd⟩) := fun e => by
        have := efind_mem HK.out (List.getElem_mem hlt)
        rw [← HY.out] at this
        rw [← e]; exact this
      have hs := str_eqL (a := yk) (b := key)
      clear hy hb0 hz0 hz1
      by_cases hkk : yk = key
      · rw [decide_eq_true hkk] at hs
        have HKK := Lib.hid hkk
        clear hkk
        cases yd with
        | false =>
          go_wp2_with fail
          go_ret2
          refine ⟨?_, HBW.out⟩
          rw [← HV.out, HF.out HKK.out]; rfl
        | true =>
          go_wp2_with fail
          go_roundw
          case rel => exact ⟨k + 1, by omega, by go_num, HNX.out fun _ => rfl, HB2⟩
          case measure => simp [intOf]; omega
      · rw [decide_eq_false hkk] at hs
        go_wp2_with fail
        go_roundw
        case rel => exact ⟨k + 1, by omega, by go_num, HNX.out fun e => absurd e hkk, HB2⟩
        case measure => simp [intOf]; omega
    · go_wp2_with fail
      go_ret2
      refine ⟨?_, HB.out.trans (HBR.out.mono HB.out.size)⟩
      have hk' : k = q.length := by omega
      rw [← HV.out]
      cases he : efind q key with
      | none => rfl
      | some x =>
        obtain ⟨h1, h2⟩ := efind_some he
        obtain ⟨i, hi, rfl⟩ := List.mem_iff_getElem.1 h1
        have := HN.out i (by omega) hi h2
        simp only [gotV, this, ↓reduceIte]
        rfl
end Go.Proofs.YthobnigjhedjaaaDoor
