/-
  Contracts of package frame: Open, over a sealed piece, and over the beginning of one. Conditions: at most 2^40 bytes.
-/
import Derived.Test.YthanjafbgcljgaaGreatDoorSeal
namespace Go.Proofs.YthanjafbgcljgaaGreatDoor
open Go.RowKit Go.ChangeShapes Go.WideShapes
set_option linter.unusedVariables false

theorem sealB_length (x : List UInt8) : (sealB x).length = (numB x.length).length + x.length + 4 := by
  unfold sealB; rw [List.length_append, List.length_append]; rfl
theorem sum4_get (s k : Nat) (hk : k < 4) (hs : s < 4294967296) : ∃ b, (sum4 s)[k]? = some b ∧ (b.toNat : Int) = ((s / 256 ^ k % 256 : Nat) : Int) := by
  have e : ∀ x : Nat, ((UInt8.ofNat (x % 256)).toNat : Int) = ((x % 256 : Nat) : Int) := fun x => by rw [UInt8.toNat_ofNat']; omega
  rcases (show k = 0 ∨ k = 1 ∨ k = 2 ∨ k = 3 by omega) with rfl | rfl | rfl | rfl
  · exact ⟨_, rfl, by rw [e]; simp⟩
  · exact ⟨_, rfl, by rw [e]⟩
  · exact ⟨_, rfl, by rw [e]⟩
  · exact ⟨_, rfl, by rw [e]⟩

set_option maxRecDepth 100000 in
set_option maxHeartbeats 4000000 in
theorem open_ok (c : Nat) (A : Option Addr) (l x tail : List UInt8) (w : World) (hl : SlA bytE (· < w.heap.size) w A c l) (hb : l.length ≤ 1099511627776) (hd : l = sealB x ++ tail) : Calls Tryz.prog 29 #[.slice A l.length c] w fun e w' =>
    ∃ A' c', e = .returned (.tuple #[.slice A' x.length c', .int .i64 (sealB x).length, .nilIface]) ∧ SlA bytE (· < w'.heap.size) w' A' c' x ∧ Below w.heap.size w w' := by
  obtain ⟨m, hm⟩ : ∃ m, m = (numB x.length).length := ⟨_, rfl⟩
  obtain ⟨n, hn⟩ : ∃ n, n = x.length := ⟨_, rfl⟩
  have hll : l.length = m + n + 4 + tail.length := by rw [hd, List.length_append, sealB_length, ← hm, hn]
  have hsl : (sealB x).length = m + n + 4 := by rw [sealB_length, ← hm, hn]
  have hm1 : m ≤ 10 := by rw [hm]; exact numB_len _
  obtain ⟨b, off, rfl, hbF, hc00⟩ := hl.byt_ (k := 0) (by omega)
  clear hc00
  have hcap := hl.1
  have hle := hl.le
  have hdrop : (l.drop m).take n = x := by
    rw [hd]; unfold sealB
    rw [List.append_assoc, List.append_assoc, List.drop_append_of_le_length (by omega), hm, List.drop_length, List.nil_append, hn, List.take_left]
  have hin : SlA bytE (· < w.heap.size) w (some ⟨b, off + m, none⟩) (c - m) x := by
    have h1 := (hl.cut (k := m) (by omega)).head (k := n) (by rw [List.length_drop]; omega)
    rw [hdrop] at h1
    simpa [bytE] using h1
  have hsum := sumB_lt x
  obtain ⟨s, hs⟩ : ∃ s, s = sumB x := ⟨_, rfl⟩
  rw [← hs] at hsum
  have hbyte : ∀ k, k < 4 → w.cell? ⟨b, off + (m + n + k), none⟩ = some (.int .u8 ((s / 256 ^ k % 256 : Nat) : Int)) := by
    intro k hk
    obtain ⟨u, hu, he⟩ := sum4_get s k hk hsum
    have h1 : l[m + n + k]? = some u := by
      rw [hd]; unfold sealB
      rw [← hs, List.append_assoc, List.getElem?_append_right (by rw [List.length_append]; omega), List.length_append, ← hm, ← hn, show m + n + k - (m + n) = k by omega, List.getElem?_append_left (by simp [sum4]; omega), hu]
    have h2 : m + n + k < l.length := by omega
    obtain ⟨b', off', e, _, hc⟩ := hl.byt_ h2
    injection e with e; injection e with e1 e2; subst e1; subst e2
    rw [hc]
    rw [List.getElem?_eq_getElem h2] at h1
    injection h1 with h1
    rw [h1, he]
  have hnum := rdNum_ok w.heap.size c 0 (some ⟨b, off, none⟩) l (x ++ sum4 s ++ tail) (· < w.heap.size) (n : Int) (w.alloc (.cells #[.slice (some ⟨b, off, none⟩) l.length c, .int .i64 0, .nilIface] 86)) (heap_alloc_new w _) (hl.keep fun k hk => Below.heap_alloc _ _ _ hk) (by simp) (fun k hk => by have hk' : k < w.heap.size := hk; simp; omega) (by omega) (by omega) (by
      rw [List.drop_zero, hd]; unfold sealB; rw [hn, hs]; simp only [List.append_assoc])
  obtain ⟨L, hL⟩ : ∃ L, L = l.length := ⟨_, rfl⟩
  have hmn : (numB (n : Int)).length = m := by rw [hn]; exact hm.symm
  rw [hmn, Nat.zero_add] at hnum
  rw [hsl, ← hn]
  rw [← hL] at hnum hcap hle hb hll ⊢
  have hll2 : m + n + 4 ≤ L := by omega
  have HNUM := Lib.hid hnum
  have HIN := Lib.hid hin
  have HBY := Lib.hid hbyte
  have HN := Lib.hid hn
  have HS := Lib.hid hs
  have HL := Lib.hid hl
  clear hnum hin hbyte hn hs hm hl hd hsl hdrop hL hmn hll
  go_enter Tryz.func29, Tryz.ntmps29
  go_wp2_with fail
  refine HNUM.out.mono ?_; rintro e w1 ⟨rfl, hr, hf⟩
  obtain ⟨c0, c1, c2, fz⟩ := hr.cells
  have hz1 := hf.size
  simp at hz1
  have HF1 : Hid (Below w.heap.size w w1) := ((Below.refl _ _).alloc (Nat.le_refl _) _).trans (hf.below (by simp) (fun k hk => by rw [hk]; exact Nat.le_refl _))
  clear fz hr hf HNUM
  have d1 : decide ((L : Int) - m - 4 < n) = false := by simp; omega
  have d2 : decide ((n : Int) < 0) = false := by simp
  have d3 : (c == m) = false := by rw [beq_eq_false_iff_ne]; omega
  have d4 : ¬ c = m := by omega
  go_wp2_with fail
  have hin1 := HIN.out.below HF1.out
  have hsm := sum_any (c - m) (some ⟨b, off + m, none⟩) x _ w1 hin1
  rw [← HN.out, ← HS.out] at hsm
  refine hsm.mono ?_; rintro e w' ⟨rfl, rfl⟩
  have hb1 : ∀ k, k < 4 → w1.cell? ⟨b, off + (m + n + k), none⟩ = some (.int .u8 ((s / 256 ^ k % 256 : Nat) : Int)) := fun k hk => (HF1.out.cell (p := ⟨b, _, none⟩) hbF).trans (HBY.out k hk)
  have HB1 := Lib.hid hb1
  have HIN1 := Lib.hid hin1
  clear hsm hb1 hin1 HBY
  go_wp2_with fail
  go_loopw [43] (fun i wr => ∃ k q : Nat, k ≤ 4 ∧ i = .int .i64 k ∧ wr = w1.drewN q) (fun i _ => 4 - (intOf i).toNat)
  case atStart => exact ⟨0, 0, by omega, rfl, rfl⟩
  case round =>
    obtain ⟨k, q, hk, rfl, rfl⟩ := hrel
    by_cases hk4 : k < 4
    · have hc := HB1.out k hk4
      obtain ⟨p, hp⟩ : ∃ p, p = m + n + k := ⟨_, rfl⟩
      rw [← hp] at hc
      have e1 : IntKind.i64.wrap ((m : Int) + n + k) = (p : Int) := by rw [IntWalk.i64_in _ (by omega)]; omega
      have e2 : (m : Int) + n + k = (p : Int) := by omega
      have hpL : p < L := by omega
      have HP := Lib.hid hp
      clear hp
      obtain ⟨v, hv⟩ : ∃ v, v = s / 256 ^ k % 256 := ⟨_, rfl⟩
      rw [← hv] at hc
      have d5 : ((v : Int) != (s : Int) / 2 ^ (8 * k) % 256) = false := by
        have e : (v : Int) = (s : Int) / 2 ^ (8 * k) % 256 := by
          rw [hv, show (256 : Nat) ^ k = 2 ^ (8 * k) by rw [Nat.pow_mul]]
          rw [Int.natCast_emod, Int.natCast_ediv, Int.natCast_pow]; rfl
        rw [e]; simp
      clear hv
      go_wp2_with fail
      go_quiet (fail)
      go_wp2_with fail
      go_roundw
      case rel => exact ⟨k + 1, _, by omega, by go_num, rfl⟩
      case measure => simp [intOf]; omega
    · obtain rfl : k = 4 := by omega
      have hsrc : Src Tryz.prog 1 28 (.slice (some ⟨b, off + m, none⟩) n (c - m)) n (bcells x) (w1.drewN q) := by
        have := Src.of_sl (P := Tryz.prog) (tx := 28) (HIN1.out.drewN q) Tryz.underlying28 (fun b => [Value.int .u8 (b.toNat : Int)]) (fun cs x hx => hx) (fun _ => rfl) (fun x u hu => by simp at hu; subst hu; rfl)
        rw [HN.out]
        rw [flat_bcells x] at this
        exact this
      have HSRC := Lib.hid hsrc
      clear hsrc
      have hz2 : w.heap.size ≤ w1.heap.size := by omega
      have e1 : IntKind.i64.wrap ((m : Int) + n + 4) = (m : Int) + n + 4 := IntWalk.i64_in _ (by omega)
      go_wp2_with (refine wpList_append_src (w := w1.drewN q) rfl _ _ 28 28 rfl w.heap.size 5 (.int .u8 0) 1 1 Tryz.underlying28 info_u8 rfl (by decide) (.slice none 0 0) 0 [] rfl (World.ownsRow_nil _ _ _ _) (.slice (some ⟨b, off + m, none⟩) n (c - m)) rfl n (bcells x) HSRC.out ?_ ?_ hz2 (bdrewN HF1.out q) (Nat.le_refl _) ?_)
      · unfold maxLen; omega
      · omega
      · intro v' w3 hown3 hg3 hbel3 _
        try simp only [Nat.zero_add, List.nil_append] at hown3
        have HROW := Lib.hid <| own_sl1 (E := bytE) (l := x) (fun b => Value.int .u8 (b.toNat : Int)) rfl (fun x _ F => rfl) (n := n) (v := v') (w := w3) (base := w.heap.size) (e := 5) hown3
        clear hg3 hown3 HSRC
        go_wp2_with fail
        go_ret3
        obtain ⟨_, A', c', hv', hsl⟩ := HROW.out
        refine ⟨A', c', ?_, hsl.more (fun k hk => hk.2), hbel3⟩
        have e9 : (m : Int) + n + 4 = ((m + n + 4 : Nat) : Int) := by omega
        show Ending.returned (.tuple #[v', .int .i64 ((m : Int) + n + 4), .nilIface]) = _
        rw [e9, hv', ← HN.out]

set_option maxRecDepth 100000 in
set_option maxHeartbeats 4000000 in
theorem open_short (c j : Nat) (A : Option Addr) (l x : List UInt8) (w : World) (hl : SlA bytE (· < w.heap.size) w A c l) (hb : x.length ≤ 1099511627776) (hj : j < (sealB x).length) (hd : l = (sealB x).take j) : Calls Tryz.prog 29 #[.slice A l.length c] w fun e w' =>
    e = .returned (.tuple #[.slice none 0 0, .int .i64 0, errFile]) ∧ Below w.heap.size w w' := by
  have hle := hl.le
  have hlj : l.length = j := by rw [hd, List.length_take, Nat.min_eq_left (by omega)]
  have hm10 := numB_len (x.length : Int)
  have hsl := sealB_length x
  by_cases hjm : j < (numB x.length).length
  · have hnum := rdNum_short w.heap.size c 0 j A l (· < w.heap.size) (x.length : Int) (w.alloc (.cells #[.slice A l.length c, .int .i64 0, .nilIface] 86)) (heap_alloc_new w _) (hl.keep fun k hk => Below.heap_alloc _ _ _ hk) (by simp) (fun k hk => by have hk' : k < w.heap.size := hk; simp; omega) (by omega) (by omega) (by
      rw [List.drop_zero, hd]; unfold sealB; rw [List.append_assoc, List.take_append_of_le_length (by omega)]) hjm (Nat.zero_le _)
    obtain ⟨L, hL⟩ : ∃ L, L = l.length := ⟨_, rfl⟩
    rw [← hL] at hnum hle ⊢
    have HNUM := Lib.hid hnum
    clear hnum hl hd hL hlj hsl hj hjm hm10
    go_enter Tryz.func29, Tryz.ntmps29
    go_wp2_with fail
    refine HNUM.out.mono ?_; rintro e w1 ⟨rfl, hr, hf⟩
    obtain ⟨c0, c1, c2, fz⟩ := hr.cells
    have hz1 := hf.size
    simp at hz1
    have HF1 : Hid (Below w.heap.size w w1) := ((Below.refl _ _).alloc (Nat.le_refl _) _).trans (hf.below (by simp) (fun k hk => by rw [hk]; exact Nat.le_refl _))
    unfold errFile at c2
    clear fz hr hf HNUM
    go_wp2_with fail
    go_ret3
    exact ⟨rfl, HF1.out⟩
  · obtain ⟨m, hm⟩ : ∃ m, m = (numB x.length).length := ⟨_, rfl⟩
    obtain ⟨n, hn⟩ : ∃ n, n = x.length := ⟨_, rfl⟩
    have hnum := rdNum_ok w.heap.size c 0 A l ((x ++ sum4 (sumB x)).take (j - m)) (· < w.heap.size) (n : Int) (w.alloc (.cells #[.slice A l.length c, .int .i64 0, .nilIface] 86)) (heap_alloc_new w _) (hl.keep fun k hk => Below.heap_alloc _ _ _ hk) (by simp) (fun k hk => by have hk' : k < w.heap.size := hk; simp; omega) (by omega) (by omega) (by
      rw [List.drop_zero, hd]; unfold sealB; rw [List.append_assoc, List.take_append, hm, hn, List.take_of_length_le (by omega)])
    have hmn : (numB (n : Int)).length = m := by rw [hn]; exact hm.symm
    rw [hmn, Nat.zero_add] at hnum
    obtain ⟨L, hL⟩ : ∃ L, L = l.length := ⟨_, rfl⟩
    rw [← hm, ← hn] at hsl
    have hj2 : L < m + n + 4 := by omega
    have hm2 : m ≤ 10 := by omega
    have hn2 : n ≤ 1099511627776 := by omega
    rw [← hL] at hnum hle ⊢
    have HNUM := Lib.hid hnum
    clear hnum hl hd hlj hsl hj hjm hm10 hm hn hmn hL
    go_enter Tryz.func29, Tryz.ntmps29
    go_wp2_with fail
    refine HNUM.out.mono ?_; rintro e w1 ⟨rfl, hr, hf⟩
    obtain ⟨c0, c1, c2, fz⟩ := hr.cells
    have hz1 := hf.size
    simp at hz1
    have HF1 : Hid (Below w.heap.size w w1) := ((Below.refl _ _).alloc (Nat.le_refl _) _).trans (hf.below (by simp) (fun k hk => by rw [hk]; exact Nat.le_refl _))
    clear fz hr hf HNUM
    have d1 : decide ((L : Int) - m - 4 < n) = true := by simp; omega
    have d2 : decide ((n : Int) < 0) = false := by simp
    go_wp2_with fail
    go_ret3
    exact ⟨rfl, HF1.out⟩
end Go.Proofs.YthanjafbgcljgaaGreatDoor
