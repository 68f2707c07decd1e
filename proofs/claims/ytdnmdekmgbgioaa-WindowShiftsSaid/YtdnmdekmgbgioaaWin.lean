/-
  Contracts of package window's smaller functions, and of frame.Record. No condition but the model's own bounds.
-/
import Derived.Test.YtdnmdekmgbgioaaPanes
import Derived.Test.YtdnmdekmgbgioaaMap
import Derived.Outline
namespace Go.Proofs.Ytdnmdekmgbgioaa
open Go.RowKit
set_option linter.unusedVariables false

def recOk (r : Rec) : Bool := decide (r.key.size ≤ 40) && decide (0 ≤ r.time) && decide (r.time ≤ 1000000)
theorem recOk_iff {r : Rec} : recOk r = true ↔ r.key.size ≤ 40 ∧ 0 ≤ r.time ∧ r.time ≤ 1000000 := by simp [recOk, and_assoc]

theorem record_yes (r : Rec) (w : World) (h : recOk r = true) : Calls Try.prog 47 #[.agg #[.string r.key, .int .i64 r.num, .int .i64 r.time]] w fun e w' => e = .returned (.bool true) ∧ Below w.heap.size w w' := by
  obtain ⟨h1, h2, h3⟩ := recOk_iff.1 h
  have H := Lib.hid h
  clear h
  go_enter Try.func47, Try.ntmps47
  go_wp2
  go_ret
  exact ⟨rfl, (Below.refl _ _).alloc (Nat.le_refl _) _⟩
theorem record_no (r : Rec) (w : World) (h : recOk r = false) : Calls Try.prog 47 #[.agg #[.string r.key, .int .i64 r.num, .int .i64 r.time]] w fun e w' => e = .returned (.bool false) ∧ Below w.heap.size w w' := by
  have h' : ¬ (r.key.size ≤ 40 ∧ 0 ≤ r.time ∧ r.time ≤ 1000000) := fun e => by rw [recOk_iff.2 e] at h; cases h
  have H := Lib.hid h
  clear h
  by_cases h1 : r.key.size ≤ 40
  · by_cases h2 : 0 ≤ r.time
    · have h3 : ¬ r.time ≤ 1000000 := fun h3 => h' ⟨h1, h2, h3⟩
      have d1 : decide (r.key.size ≤ 40) = true := decide_eq_true h1
      have d2 : decide (0 ≤ r.time) = true := decide_eq_true h2
      have d3 : decide (r.time ≤ 1000000) = false := decide_eq_false h3
      clear h'
      go_enter Try.func47, Try.ntmps47
      go_wp2
      go_ret
      exact ⟨rfl, (Below.refl _ _).alloc (Nat.le_refl _) _⟩
    · have d1 : decide (r.key.size ≤ 40) = true := decide_eq_true h1
      have d2 : decide (0 ≤ r.time) = false := decide_eq_false h2
      clear h'
      go_enter Try.func47, Try.ntmps47
      go_wp2
      go_ret
      exact ⟨rfl, (Below.refl _ _).alloc (Nat.le_refl _) _⟩
  · have d1 : decide (r.key.size ≤ 40) = false := decide_eq_false h1
    clear h'
    go_enter Try.func47, Try.ntmps47
    go_wp2
    go_ret
    exact ⟨rfl, (Below.refl _ _).alloc (Nat.le_refl _) _⟩

/-! ### check -/
theorem check_full (A : Option Addr) (c : Nat) (l : List Rec) (w : World) (hl : SlA recE (· < w.heap.size) w A c l) (h : 400 < l.length) :
    Calls Try.prog 25 #[.slice A l.length c] w fun e w' => e = .returned (.iface 73 (.int .i64 4)) ∧ Below w.heap.size w w' := by
  have hle := hl.le
  clear hl
  go_enter Try.func25, Try.ntmps25
  go_wp2_with fail
  go_ret
  exact ⟨rfl, Below.refl _ _⟩
/-- Fine: all of them are records. -/
def AllOk (l : List Rec) : Prop := l.length ≤ 400 ∧ ∀ r ∈ l, recOk r = true
def CheckPost (w : World) (l : List Rec) (e : Ending) (w' : World) : Prop := ((AllOk l ∧ e = .returned .nilIface) ∨ (¬ AllOk l ∧ e = .returned (.iface 73 (.int .i64 1)))) ∧ Below w.heap.size w w'
set_option maxRecDepth 100000 in
theorem check_loop (A : Option Addr) (c : Nat) (l : List Rec) (w : World) (hl : SlA recE (· < w.heap.size) w A c l) (h : l.length ≤ 400) :
    Calls Try.prog 25 #[.slice A l.length c] w fun e w' => ((AllOk l ∧ e = .returned .nilIface) ∨ (¬ AllOk l ∧ e = .returned (.iface 73 (.int .i64 1)))) ∧ Below w.heap.size w w' := by
  have H := Lib.hid hl
  have hd0 : decide (400 < l.length) = false := by simp; omega
  clear hl
  have HP : Hid (∀ (e : Ending) (w' : World), ((AllOk l ∧ e = .returned .nilIface) ∨ (¬ AllOk l ∧ e = .returned (.iface 73 (.int .i64 1)))) ∧ Below w.heap.size w w' → CheckPost w l e w') := fun e w' h => h
  refine Calls.mono (R := CheckPost w l) ?_ fun e w' h => h
  go_enter Try.func25, Try.ntmps25
  go_wp2_with fail
  go_loopw [11] (fun kv wr => ∃ k : Nat, k ≤ l.length ∧ kv = .int .i64 k ∧ Hid (∀ r ∈ l.take k, recOk r = true) ∧ Hid (Below w.heap.size w wr)) (fun kv _ => l.length - (intOf kv).toNat)
  case atStart => exact ⟨0, by omega, rfl, nofun, Below.refl _ _⟩
  case round =>
    obtain ⟨k, hk, rfl, HK, HB⟩ := hrel
    by_cases hlt : k < l.length
    · obtain ⟨b, off, rfl, hb, c0, c1, c2, _, _, _⟩ := H.out.rec_ hlt
      have e0 := (HB.out.cell (p := ⟨b, off + k * 3, none⟩) hb).trans c0
      have e1 := (HB.out.cell (p := ⟨b, off + k * 3 + 1, none⟩) hb).trans c1
      have e2 := (HB.out.cell (p := ⟨b, off + k * 3 + 2, none⟩) hb).trans c2
      have hz := HB.out.size
      have htk : ∀ r ∈ l.take (k + 1), r ∈ l.take k ∨ r = l[k] := fun r hr => by
        rw [List.take_succ_eq_append_getElem hlt] at hr
        rcases List.mem_append.1 hr with hr | hr
        · exact .inl hr
        · exact .inr (List.mem_singleton.1 hr)
      have hmem : l[k] ∈ l := List.getElem_mem hlt
      obtain ⟨r, hr⟩ : ∃ r, r = l[k] := ⟨_, rfl⟩
      rw [← hr] at e0 e1 e2 htk hmem
      have HTK := Lib.hid htk
      have HMEM := Lib.hid hmem
      clear hr c0 c1 c2 htk hmem
      cases hok : recOk r with
      | true =>
        have HOK := Lib.hid hok
        clear hok
        go_wp2_with fail
        refine (record_yes r _ HOK.out).mono ?_
        rintro e w3 ⟨rfl, hb3⟩
        have HB3 := Lib.hid ((HB.out.alloc hz _).trans (hb3.mono (by simp; omega)))
        clear hb3 hz
        go_wp2_with fail
        go_roundw
        case rel =>
          refine ⟨k + 1, by omega, by go_num, fun r' hr' => ?_, HB3⟩
          rcases HTK.out r' hr' with h1 | rfl
          · exact HK.out r' h1
          · exact HOK.out
        case measure => simp [intOf]; omega
      | false =>
        have HOK := Lib.hid hok
        clear hok
        go_wp2_with fail
        refine (record_no r _ HOK.out).mono ?_
        rintro e w3 ⟨rfl, hb3⟩
        have HB3 := Lib.hid ((HB.out.alloc hz _).trans (hb3.mono (by simp; omega)))
        clear hb3 hz
        go_wp2_with fail
        go_ret
        exact HP.out _ _ ⟨.inr ⟨(fun h => by have := h.2 r HMEM.out; rw [HOK.out] at this; cases this), rfl⟩, HB3.out⟩
    · obtain rfl : k = l.length := by omega
      go_wp2_with fail
      go_ret
      exact HP.out _ _ ⟨.inl ⟨⟨h, fun r hr => HK.out r (by rw [List.take_length]; exact hr)⟩, rfl⟩, HB.out⟩
theorem time_yes (n : Int) (w : World) (h1 : 1 ≤ n) (h2 : n ≤ 1000000) : Calls Try.prog 26 #[.int .i64 n] w fun e w' => e = .returned (.bool true) ∧ w = w' := by
  go_enter Try.func26, Try.ntmps26
  go_wp2
  go_ret
  exact ⟨rfl, rfl⟩
theorem time_no (n : Int) (w : World) (h : ¬ (1 ≤ n ∧ n ≤ 1000000)) : Calls Try.prog 26 #[.int .i64 n] w fun e w' => e = .returned (.bool false) ∧ w = w' := by
  by_cases h1 : 1 ≤ n
  · have h2 : ¬ n ≤ 1000000 := fun h2 => h ⟨h1, h2⟩
    have d1 : decide (1 ≤ n) = true := decide_eq_true h1
    have d2 : decide (n ≤ 1000000) = false := decide_eq_false h2
    clear h
    go_enter Try.func26, Try.ntmps26
    go_wp2
    go_ret
    exact ⟨rfl, rfl⟩
  · have d1 : decide (1 ≤ n) = false := decide_eq_false h1
    clear h
    go_enter Try.func26, Try.ntmps26
    go_wp2
    go_ret
    exact ⟨rfl, rfl⟩
end Go.Proofs.Ytdnmdekmgbgioaa
