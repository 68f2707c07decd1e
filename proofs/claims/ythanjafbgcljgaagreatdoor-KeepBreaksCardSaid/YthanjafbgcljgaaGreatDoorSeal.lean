/-
  Contracts of package frame: sum, Seal, Open. Conditions: at most 2^40 bytes.
-/
import Derived.Test.YthanjafbgcljgaaGreatDoorReader
namespace Go.Proofs.YthanjafbgcljgaaGreatDoor
open Go.RowKit Go.ChangeShapes Go.WideShapes
set_option linter.unusedVariables false

def sumB (l : List UInt8) : Nat := l.foldl (fun x c => (x * 31 + c.toNat) % 4294967296) 1
def sum4 (s : Nat) : List UInt8 := [UInt8.ofNat (s % 256), UInt8.ofNat (s / 256 % 256), UInt8.ofNat (s / 65536 % 256), UInt8.ofNat (s / 16777216 % 256)]
def sealB (l : List UInt8) : List UInt8 := numB l.length ++ l ++ sum4 (sumB l)
theorem sumB_lt (l : List UInt8) : sumB l < 4294967296 := by
  unfold sumB
  have : ∀ (l : List UInt8) (x : Nat), x < 4294967296 → l.foldl (fun x c => (x * 31 + c.toNat) % 4294967296) x < 4294967296 := by
    intro l
    induction l with
    | nil => intro x hx; exact hx
    | cons c l ih => intro x hx; exact ih _ (Nat.mod_lt _ (by omega))
  exact this l 1 (by omega)
theorem sumB_snoc (l : List UInt8) (k : Nat) (h : k < l.length) : sumB (l.take (k + 1)) = (sumB (l.take k) * 31 + l[k].toNat) % 4294967296 := by
  rw [List.take_succ_eq_append_getElem h]
  unfold sumB
  rw [List.foldl_append]; rfl

theorem sum_any (c : Nat) (A : Option Addr) (l : List UInt8) (F : Nat → Prop) (w : World) (hl : SlA bytE F w A c l) : Calls Tryz.prog 34 #[.slice A l.length c] w fun e w' => e = .returned (.int .u32 (sumB l)) ∧ w = w' := by
  have hle := hl.le
  have H := Lib.hid hl
  clear hl
  go_enter Tryz.func34, Tryz.ntmps34
  go_wp2_with fail
  go_loop [3, 8] (fun x i => ∃ k m : Nat, k ≤ l.length ∧ i = .int .i64 k ∧ x = .int .u32 m ∧ Hid (m = sumB (l.take k))) (fun _ i => l.length - (intOf i).toNat)
  case atStart => exact ⟨0, 1, Nat.zero_le _, rfl, rfl, rfl⟩
  case round =>
    obtain ⟨k, m, hk, rfl, rfl, HM⟩ := hrel
    by_cases hlt : k < l.length
    · obtain ⟨b, off, rfl, _, hc⟩ := H.out.byt_ hlt
      obtain ⟨v, hv⟩ : ∃ v : Nat, v = l[k].toNat := ⟨_, rfl⟩
      rw [← hv] at hc
      have hvl : v < 256 := by rw [hv]; exact UInt8.toNat_lt _
      have HV := Lib.hid hv
      have hml : m < 4294967296 := by rw [HM.out]; exact sumB_lt _
      clear hv
      go_wp2_with fail
      go_round
      case rel =>
        refine ⟨k + 1, (m * 31 + v) % 4294967296, by omega, by go_num, ?_, ?_⟩
        · congr 1; omega
        · show _ = _
          rw [sumB_snoc l k hlt, HM.out, HV.out]
      case measure => simp [intOf]; omega
    · obtain rfl : k = l.length := by omega
      go_wp2_with fail
      go_ret
      refine ⟨?_, rfl⟩
      have h5 := HM.out
      rw [List.take_of_length_le (Nat.le_refl _)] at h5
      rw [h5]; rfl
theorem sum4_cells (s : Nat) (h : s < 4294967296) : bcells (sum4 s) = [.int .u8 ((s : Int) % 256), .int .u8 ((s : Int) / 256 % 256), .int .u8 ((s : Int) / 65536 % 256), .int .u8 ((s : Int) / 16777216)] := by
  have e0 : (s : Int) / 16777216 = ((s / 16777216 % 256 : Nat) : Int) := by omega
  have e : ∀ x : Nat, ((UInt8.ofNat (x % 256)).toNat : Int) = ((x % 256 : Nat) : Int) := fun x => by rw [UInt8.toNat_ofNat']; omega
  simp only [bcells, sum4, List.map_cons, List.map_nil, e, e0]
  simp
theorem flat_bcells (l : List UInt8) : l.flatMap (fun b => [Value.int .u8 (b.toNat : Int)]) = bcells l := by
  unfold bcells
  induction l with
  | nil => rfl
  | cons x l ih => rw [List.flatMap_cons, ih]; rfl
set_option maxRecDepth 100000 in
theorem seal_ok (c : Nat) (A : Option Addr) (l : List UInt8) (w : World) (hl : SlA bytE (· < w.heap.size) w A c l) (hb : l.length ≤ 1099511627776) : Calls Tryz.prog 16 #[.slice A l.length c] w fun e w' =>
    ∃ v, e = .returned v ∧ w'.ownsRow w.heap.size 5 1 v (sealB l).length (bcells (sealB l)) ∧ Below w.heap.size w w' := by
  have H := Lib.hid hl
  have hnl : (numB l.length).length ≤ 10 := numB_len _
  have hsl := sumB_lt l
  obtain ⟨s, hs⟩ : ∃ s, s = sumB l := ⟨_, rfl⟩
  have hfin : (sealB l).length = (numB l.length).length + l.length + 4 ∧ bcells (sealB l) = bcells (numB l.length) ++ bcells l ++ bcells (sum4 s) := by
    refine ⟨?_, ?_⟩
    · unfold sealB; rw [List.length_append, List.length_append]; rfl
    · unfold sealB; rw [bcells_append, bcells_append, hs]
  have HF := Lib.hid hfin
  have hsum := sum_any c A l _ w hl
  rw [← hs] at hsum hsl
  have HSUM := Lib.hid hsum
  have HS := Lib.hid (sum4_cells s hsl)
  clear hfin hl hs hsum
  obtain ⟨n, hn⟩ : ∃ n, n = l.length := ⟨_, rfl⟩
  rw [← hn] at hb
  have HN := Lib.hid hn
  clear hn
  go_enter Tryz.func16, Tryz.ntmps16
  go_wp2_with fail
  refine HSUM.out.mono ?_; rintro e w' ⟨rfl, rfl⟩
  go_wp2_with fail
  rw [← HN.out]
  refine (num_ok n _ (by omega) (by omega)).mono ?_; rintro e w1 ⟨v, rfl, hown, hbel⟩
  have hsrc : Src Tryz.prog 1 28 (.slice A n c) n (bcells l) w1 := by
    have := Src.of_sl (P := Tryz.prog) (tx := 28) (H.out.below hbel) Tryz.underlying28 (fun b => [Value.int .u8 (b.toNat : Int)]) (fun cs x hx => hx) (fun _ => rfl) (fun x u hu => by simp at hu; subst hu; rfl)
    rw [HN.out]
    rw [flat_bcells l] at this
    exact this
  have HSRC := Lib.hid hsrc
  clear hsrc
  go_wp2_with (refine wpList_append_src rfl _ _ 28 28 rfl w.heap.size 5 (.int .u8 0) 1 1 Tryz.underlying28 info_u8 rfl (by decide) _ _ _ rfl hown (.slice A n c) rfl _ _ HSRC.out ?_ ?_ hbel.size hbel (Nat.le_refl _) ?_)
  · rw [← HN.out] at hnl; unfold maxLen; rw [HN.out]; rw [HN.out] at hnl hb; omega
  · rw [HN.out]; rw [HN.out] at hb; omega
  · intro v' w2 hown2 hg2 hbel2 _
    clear hown hbel hg2 HSRC
    have hlen2 : (numB l.length).length + n + 4 ≤ 1099511627776 + 14 := by rw [HN.out]; rw [HN.out] at hb; omega
    go_wp2_with (at_builtin; refine wpList_append_src (w := w2.alloc (.cells #[.int .u8 ((s : Int) % 256), .int .u8 ((s : Int) / 256 % 256), .int .u8 ((s : Int) / 65536 % 256), .int .u8 ((s : Int) / 16777216)] 5)) rfl (.tmp 12) (.tmp 24) 28 28 rfl w.heap.size 5 (.int .u8 0) 1 1 Tryz.underlying28 info_u8 rfl (by decide) v' _ _ rfl (hown2.alloc _) (.slice (some ⟨w2.heap.size, 0, none⟩) 4 4) rfl 4 _ (Src.ofSlice _ Tryz.underlying28 ⟨w2.heap.size, 0, none⟩ 4 4 _ rfl (cells_new w2 [.int .u8 ((s : Int) % 256), .int .u8 ((s : Int) / 256 % 256), .int .u8 ((s : Int) / 65536 % 256), .int .u8 ((s : Int) / 16777216)] 5) ?c0) ?c1 ?c2 ?c3 (hbel2.alloc hbel2.size _) (Nat.le_refl _) ?_)
    case c0 => intro u hu; simp at hu; rcases hu with rfl | rfl | rfl | rfl <;> rfl
    case c1 => rw [← HN.out] at hlen2; unfold maxLen; omega
    case c2 => rw [← HN.out] at hlen2; omega
    case c3 => have := hbel2.size; simp; omega
    intro v3 w3 hown3 hg3 hbel3 _
    clear hown2 hbel2 hg3
    go_wp2_with fail
    go_ret
    refine ⟨_, rfl, ?_, hbel3⟩
    rw [HF.out.1, HF.out.2, HS.out, ← HN.out, List.append_assoc]
    exact hown3
end Go.Proofs.YthanjafbgcljgaaGreatDoor
