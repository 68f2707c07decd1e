/-
  Contracts of slices.Clone at entries, and of table.Part and table.Scan. Condition: the entries rise, or are a table's.
-/
import Derived.Test.YtdnmdekmgbgioaaTabPart
import Derived.Lib.LazyBuf
namespace Go.Proofs.Ytdnmdekmgbgioaa
open Go.RowKit
open Go.Sort hiding Below
set_option linter.unusedVariables false

def EntsPost (w : World) (l : List Ent) (e : Ending) (w' : World) : Prop := ∃ A' c', e = .returned (.slice A' l.length c') ∧ SlA entE (· < w'.heap.size) w' A' c' l ∧ Below w.heap.size w w'
theorem ent_sizes {F : Nat → Prop} {w : World} {A : Option Addr} {c : Nat} {l : List Ent} (h : SlA entE F w A c l) : ∀ x ∈ l, x.key.size ≤ maxLen ∧ x.value.size ≤ maxLen := fun x hx => by
  obtain ⟨k, hk, rfl⟩ := List.mem_iff_getElem.1 hx
  obtain ⟨_, _, _, _, _, _, _, h1, h2⟩ := h.ent_ hk
  exact ⟨h1, h2⟩
set_option maxRecDepth 100000 in
theorem clone_any (A : Option Addr) (c : Nat) (l : List Ent) (w : World) (hl : SlA entE (· < w.heap.size) w A c l) (hn : l.length ≤ 1000000) :
    Calls Try.prog 63 #[.slice A l.length c] w (EntsPost w l) := by
  have hsz := ent_sizes hl
  have HSZ := Lib.hid hsz
  clear hsz
  rcases A with _ | ad
  · have h0 : l = [] := by
      cases l with
      | nil => rfl
      | cons x l => obtain ⟨b, off, cs, e, _⟩ := hl.2.2 0 x rfl; cases e
    subst h0
    clear hl
    have hnil := run_eql_slice_nil (P := Try.prog) w 46 51 none 0 c Try.underlying46
    simp only [Option.isNone] at hnil
    go_enter Try.func63, Try.ntmps63
    go_wp2_with fail
    go_ret
    exact ⟨none, 0, rfl, SlA.nil _ _ _ _ _ (by simp [maxLen]), Below.refl _ _⟩
  · have H := Lib.hid hl
    have hw1 : ∀ W, Below w.heap.size w W → Src Try.prog 3 46 (.slice (some ad) l.length c) l.length (l.flatMap entCells) W := fun W hb =>
      Src.of_sl (P := Try.prog) (tx := 46) (H.out.below hb) Try.underlying46 entCells (fun cs x hx => hx.1) (fun _ => rfl) (fun x u hu => by simp [entCells] at hu; rcases hu with rfl | rfl | rfl <;> rfl)
    have HS := Lib.hid hw1
    obtain ⟨n, hn'⟩ : ∃ n, n = l.length := ⟨_, rfl⟩
    have HN := Lib.hid hn'
    rw [← hn'] at hn ⊢
    rw [← hn'] at HS
    clear hl hw1 hn'
    have hown : OwnS (w.alloc (.cells #[] 51)) 51 3 (some ⟨w.heap.size, 0, none⟩) 0 0 [] := ⟨rfl, Nat.le_refl _, Nat.zero_le _, .inr ⟨w.heap.size, 0, #[], rfl, heap_alloc_new w _, by simp, fun j u hj => by simp at hj⟩⟩
    have HO := Lib.hid hown
    have HB : Hid (Below w.heap.size w (w.alloc (.cells #[] 51))) := (Below.refl _ _).alloc (Nat.le_refl _) _
    clear hown
    have hnil := run_eql_slice_nil (P := Try.prog) w 46 51 (some ad) n c Try.underlying46
    simp only [Option.isNone] at hnil
    go_enter Try.func63, Try.ntmps63
    go_wp2_with (at_builtin; refine wpList_append_S rfl (.tmp 5) (.tmp 6) 46 46 rfl 51 _ 3 40 Try.underlying46 info_ent rfl (by decide) _ _ _ _ rfl HO.out _ rfl _ _ (HS.out _ HB.out) (by unfold maxLen; omega) (by omega) ?_)
    intro A' cap' w' hown hg hat
    have HO' := Lib.hid hown
    have HB' : Hid (Below w.heap.size w w') := HB.out.grown hg (by simp) (fun k e => by simp [blk] at e; omega)
    clear hown hg hat
    go_wp2_with fail
    go_ret
    refine ⟨A', cap', by simp [HN.out], ?_, HB'.out⟩
    have ho := HO'.out
    exact OwnS.sl (E := entE) entCells (fun _ => rfl) ho HN.out (fun k e => ho.lt k e) (fun x hx => ⟨rfl, HSZ.out x hx⟩)

theorem part_len (l : List Ent) (low high : ByteArray) (k : Nat) (hk : k = if high.size = 0 then l.length else below high l) : part l low high = (l.take k).drop (below low l) := by rw [hk]; rfl
set_option maxRecDepth 100000 in
theorem part_gen (A : Option Addr) (c : Nat) (l : List Ent) (low high : ByteArray) (w : World) (k : Nat) (hl : SlA entE (· < w.heap.size) w A c l) (hr : Rises l) (hn : l.length ≤ 1000000) (hk : k = if high.size = 0 then l.length else below high l) :
    Calls Try.prog 35 #[.slice A l.length c, .string low, .string high] w (EntsPost w (part l low high)) := by
  have hkl : k ≤ l.length := by rw [hk]; split; exact Nat.le_refl _; exact below_le _ _
  have hS1 := search_any A c l low w hl hr (by omega)
  have hS2 : ∀ w', Below w.heap.size w w' → Calls Try.prog 62 #[.slice A l.length c, .string high] w' fun e w'' => (∃ B : Bool, e = .returned (.tuple #[.int .i64 (below high l), .bool B])) ∧ Below w'.heap.size w' w'' := fun w' hb => search_any A c l high w' (hl.below hb) hr (by omega)
  have hpart := part_len l low high k hk
  obtain ⟨i, hi⟩ : ∃ i, i = below low l := ⟨_, rfl⟩
  have hil : i ≤ l.length := by rw [hi]; exact below_le _ _
  rw [← hi] at hS1 hpart
  rw [hpart]
  have hcl : ∀ (b off : Nat), A = some ⟨b, off, none⟩ → ∀ w', Below w.heap.size w w' → i < k → Calls Try.prog 63 #[.slice (some ⟨b, off + i * 3, none⟩) (k - i) (c - i)] w' (EntsPost w' ((l.take k).drop i)) := by
    intro b off hA w' hb hik
    subst hA
    have h1 := ((hl.below hb).head hkl).cut (k := i) (by rw [List.length_take]; omega)
    have h2 := clone_any _ _ _ w' h1 (by rw [List.length_drop, List.length_take]; omega)
    rw [List.length_drop, List.length_take, Nat.min_eq_left hkl] at h2
    exact h2
  have hA0 : i < k → ∃ b off, A = some ⟨b, off, none⟩ := fun h => by obtain ⟨b, off, e, _⟩ := hl.ent_ (k := i) (by omega); exact ⟨b, off, e⟩
  have hempty : k ≤ i → (l.take k).drop i = [] := fun h => List.drop_eq_nil_of_le (by rw [List.length_take]; omega)
  have hcc := hl.1
  have HS1 := Lib.hid hS1
  have HS2 := Lib.hid hS2
  have HCL := Lib.hid hcl
  have HA0 := Lib.hid hA0
  have HE := Lib.hid hempty
  obtain ⟨m, hm⟩ : ∃ m, m = below high l := ⟨_, rfl⟩
  rw [← hm] at hk HS2
  obtain ⟨n, hn'⟩ : ∃ n, n = l.length := ⟨_, rfl⟩
  rw [← hn'] at hk hkl hil hn hcc HS1 HS2 ⊢
  obtain ⟨R, hR⟩ : ∃ R, R = (l.take k).drop i := ⟨_, rfl⟩
  rw [← hR] at HCL HE ⊢
  clear hl hr hS1 hS2 hcl hA0 hempty hpart hi hm hn' hR
  have hend : ∀ (w4 : World), Hid (Below w.heap.size w w4) → k ≤ i → EntsPost w R (.returned (.slice none 0 0)) w4 := fun w4 hb h => by
    rw [HE.out h]; exact ⟨none, 0, rfl, SlA.nil _ _ _ _ _ (by simp [maxLen]), hb.out⟩
  have HEND := Lib.hid hend
  clear hend
  by_cases hh : high.size = 0
  · have hhe := bytes_nil hh
    rw [if_pos hh] at hk
    subst hhe
    subst hk
    by_cases hik : k ≤ i
    · have dk : decide (k ≤ i) = true := decide_eq_true hik
      go_enter Try.func35, Try.ntmps35
      go_wp2_with fail
      refine HS1.out.mono ?_
      rintro e w1 ⟨⟨B, rfl⟩, hb⟩
      have HB := Lib.hid hb
      clear hb
      go_wp2_with fail
      go_ret
      exact HEND.out _ HB hik
    · have hik' : i < k := by omega
      have dk : decide (k ≤ i) = false := decide_eq_false hik
      obtain ⟨b, off, rfl⟩ := HA0.out hik'
      have hci : ¬ c = i := by omega
      go_enter Try.func35, Try.ntmps35
      go_wp2_with fail
      refine HS1.out.mono ?_
      rintro e w1 ⟨⟨B, rfl⟩, hb⟩
      have HB := Lib.hid hb
      clear hb
      go_wp2_with fail
      refine (HCL.out b off rfl _ HB.out hik').mono ?_
      rintro e w2 ⟨A', c', rfl, h1, h2⟩
      have HR : Hid (EntsPost w R (.returned (.slice A' R.length c')) w2) := ⟨A', c', rfl, h1, HB.out.trans (h2.mono HB.out.size)⟩
      clear h1 h2
      go_wp2_with fail
      go_ret
      exact HR.out
  · have hne := bytes_ne hh
    rw [if_neg hh] at hk
    subst hk
    by_cases hik : k ≤ i
    · have dk : decide (k ≤ i) = true := decide_eq_true hik
      go_enter Try.func35, Try.ntmps35
      go_wp2_with fail
      refine HS1.out.mono ?_
      rintro e w1 ⟨⟨B, rfl⟩, hb⟩
      have HB := Lib.hid hb
      clear hb
      go_wp2_with fail
      refine (HS2.out _ HB.out).mono ?_
      rintro e w2 ⟨⟨B2, rfl⟩, hb2⟩
      have HB2 : Hid (Below w.heap.size w w2) := HB.out.trans (hb2.mono HB.out.size)
      clear hb2
      go_wp2_with fail
      go_ret
      exact HEND.out _ HB2 hik
    · have hik' : i < k := by omega
      have dk : decide (k ≤ i) = false := decide_eq_false hik
      obtain ⟨b, off, rfl⟩ := HA0.out hik'
      have hci : ¬ c = i := by omega
      go_enter Try.func35, Try.ntmps35
      go_wp2_with fail
      refine HS1.out.mono ?_
      rintro e w1 ⟨⟨B, rfl⟩, hb⟩
      have HB := Lib.hid hb
      clear hb
      go_wp2_with fail
      refine (HS2.out _ HB.out).mono ?_
      rintro e w2 ⟨⟨B2, rfl⟩, hb2⟩
      have HB2 : Hid (Below w.heap.size w w2) := HB.out.trans (hb2.mono HB.out.size)
      clear hb2
      go_wp2_with fail
      refine (HCL.out b off rfl _ HB2.out hik').mono ?_
      rintro e w3 ⟨A', c', rfl, h1, h2⟩
      have HR : Hid (EntsPost w R (.returned (.slice A' R.length c')) w3) := ⟨A', c', rfl, h1, HB2.out.trans (h2.mono HB2.out.size)⟩
      clear h1 h2
      go_wp2_with fail
      go_ret
      exact HR.out
theorem part_any (A : Option Addr) (c : Nat) (l : List Ent) (low high : ByteArray) (w : World) (hl : SlA entE (· < w.heap.size) w A c l) (hr : Rises l) (hn : l.length ≤ 1000000) :
    Calls Try.prog 35 #[.slice A l.length c, .string low, .string high] w (EntsPost w (part l low high)) := part_gen A c l low high w _ hl hr hn rfl
theorem scan_ok (A : Option Addr) (c : Nat) (l : List Ent) (low high : ByteArray) (w : World) (hl : SlA bytE (· < w.heap.size) w A c (tabB l)) (hok : TabOk l) :
    Calls Try.prog 17 #[.slice A (tabB l).length c, .string low, .string high] w fun e w' => ∃ A' c', e = .returned (.tuple #[.slice A' (part l low high).length c', .nilIface]) ∧ SlA entE (· < w'.heap.size) w' A' c' (part l low high) ∧ Below w.heap.size w w' := by
  have HR := Lib.hid (read_ok A c l w hl hok)
  have HRI := Lib.hid hok.2.2
  have hll := hok.1
  clear hl hok
  go_enter Try.func17, Try.ntmps17
  go_wp2_with fail
  refine HR.out.mono ?_
  rintro e w1 ⟨A1, c1, rfl, hs, hb⟩
  have HS := Lib.hid (hs.more (F' := (· < w1.heap.size)) fun k h => h.2)
  have HB := Lib.hid hb
  clear hs hb
  go_wp2_with fail
  refine (part_any A1 c1 l low high _ HS.out HRI.out (by omega)).mono ?_
  rintro e w2 ⟨A2, c2, rfl, hs2, hb2⟩
  have HS2 := Lib.hid hs2
  have HB2 := Lib.hid (HB.out.trans (hb2.mono HB.out.size))
  clear hs2 hb2
  go_wp2_with fail
  go_ret2
  exact ⟨A2, c2, rfl, HS2.out, HB2.out⟩
end Go.Proofs.Ytdnmdekmgbgioaa
