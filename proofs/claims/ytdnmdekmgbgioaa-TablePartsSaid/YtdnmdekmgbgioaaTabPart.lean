/-
  Contracts of strings.Compare and of table's search, Part, Scan. Condition: the entries rise.
-/
import Derived.Test.YtdnmdekmgbgioaaTabRead
import Derived.Lib.Bytealg
import Derived.Lib.Walk
namespace Go.Proofs.Ytdnmdekmgbgioaa
open Go.RowKit
open Go.Sort hiding Below
set_option linter.unusedVariables false

set_option maxRecDepth 100000 in
set_option maxHeartbeats 1000000 in
theorem cmpString_any (a b : ByteArray) (w : World) : Calls Try.prog 87 #[.string a, .string b] w fun e w' => e = .returned (.int .i64 (Lib.compareBytes a.data.toList b.data.toList)) ∧ w = w' := by
  go_enter Try.func87, Try.ntmps87
  go_wp2
  rw [run_callFunc_extern Try.func124 (by kernel_rfl) (by kernel_rfl) (by kernel_rfl) (e := Extern.BytealgCompare.compare) (by kernel_rfl), Lib.run_compareString]
  simp only [Result.andThen]
  rw [Oper.upon_value]
  go_wp2
  go_ret
  exact ⟨rfl, rfl⟩
theorem compareS_any (a b : ByteArray) (w : World) : Calls Try.prog 66 #[.string a, .string b] w fun e w' => e = .returned (.int .i64 (Lib.compareBytes a.data.toList b.data.toList)) ∧ w = w' := by
  go_enter Try.func66, Try.ntmps66
  go_wp2_with fail
  refine (cmpString_any a b _).mono ?_
  rintro e w' ⟨rfl, rfl⟩
  go_wp2_with fail
  go_ret
  exact ⟨rfl, rfl⟩
theorem compareBytes_eq : ∀ (a b : List UInt8), Lib.compareBytes a b = if ltStr a b then -1 else if ltStr b a then 1 else 0
  | [], [] => by simp [Lib.compareBytes, ltStr]
  | [], y :: b => by simp [Lib.compareBytes, ltStr]
  | x :: a, [] => by simp [Lib.compareBytes, ltStr]
  | x :: a, y :: b => by
    have ih := compareBytes_eq a b
    simp only [ltStr, decide_eq_true_eq, List.cons_lt_cons_iff] at ih ⊢
    unfold Lib.compareBytes
    by_cases h1 : x < y
    · have h2 : ¬ y < x := fun h => UInt8.lt_asymm h1 h
      simp [h1]
    · by_cases h2 : y < x
      · have h3 : x ≠ y := fun e => by subst e; exact UInt8.lt_irrefl _ h2
        simp [h1, h2, h3]
      · have h3 : x = y := UInt8.le_antisymm (UInt8.not_lt.1 h2) (UInt8.not_lt.1 h1)
        subst h3
        simp only [if_neg h1]
        rw [ih]
        simp [UInt8.lt_irrefl]
theorem compareBytes_cmpS (a b : ByteArray) : Lib.compareBytes a.data.toList b.data.toList = cmpS a b := compareBytes_eq _ _
theorem search1_any (k v : ByteArray) (d : Bool) (key : ByteArray) (w : World) : Calls Try.prog 85 #[.agg #[.string k, .string v, .bool d], .string key] w fun e w' => e = .returned (.int .i64 (cmpS k key)) ∧ Below w.heap.size w w' := by
  have hc : ∀ w, Calls Try.prog 66 #[.string k, .string key] w fun e w' => e = .returned (.int .i64 (cmpS k key)) ∧ w = w' := fun w => by rw [← compareBytes_cmpS]; exact compareS_any k key w
  have HC := Lib.hid hc
  obtain ⟨m, hm⟩ : ∃ m, m = cmpS k key := ⟨_, rfl⟩
  rw [← hm]
  rw [← hm] at HC
  clear hc hm
  go_enter Try.func85, Try.ntmps85
  go_wp2_with fail
  refine (HC.out _).mono ?_
  rintro e w' ⟨rfl, rfl⟩
  go_wp2_with fail
  go_ret
  exact ⟨rfl, (Below.refl _ _).alloc (Nat.le_refl _) _⟩
theorem cmpS_neg (a b : ByteArray) : decide (cmpS a b < 0) = kLt a b := by
  unfold cmpS kLt
  cases h1 : ltStr a.data.toList b.data.toList with
  | true => simp
  | false => cases h2 : ltStr b.data.toList a.data.toList <;> simp

set_option maxRecDepth 100000 in
set_option maxHeartbeats 2000000 in
theorem bsearch_any (A : Option Addr) (c : Nat) (l : List Ent) (key : ByteArray) (w : World) (hl : SlA entE (· < w.heap.size) w A c l) (hr : Rises l) (hn : l.length ≤ 1000000000) :
    Calls Try.prog 84 #[.slice A l.length c, .string key, .func (.func 85) #[] #[]] w fun e w' => (∃ B : Bool, e = .returned (.tuple #[.int .i64 (below key l), .bool B])) ∧ Below w.heap.size w w' := by
  have H := Lib.hid hl
  have HI := Lib.hid (below_iff hr key)
  have hble := below_le key l
  obtain ⟨m, hm⟩ : ∃ m, m = below key l := ⟨_, rfl⟩
  have HM := Lib.hid hm
  rw [← hm] at hble
  rw [← hm]
  obtain ⟨n, hn'⟩ : ∃ n, n = l.length := ⟨_, rfl⟩
  have HN := Lib.hid hn'
  rw [← hn'] at hble hn
  rw [← hn']
  clear hl hr hm hn'
  go_enter Try.func84, Try.ntmps84
  go_wp2_with fail
  go_loopw [9, 10] (fun iv jv wr => ∃ i j : Nat, i ≤ m ∧ m ≤ j ∧ j ≤ n ∧ iv = .int .i64 i ∧ jv = .int .i64 j ∧ Hid (Below w.heap.size w wr)) (fun iv jv _ => (intOf jv).toNat - (intOf iv).toNat)
  case atStart => exact ⟨0, n, by omega, hble, by omega, rfl, rfl, Below.refl _ _⟩
  case round =>
    obtain ⟨i, j, hi, hj, hjn, rfl, rfl, HB⟩ := hrel
    have hz := HB.out.size
    by_cases hlt : i < j
    · obtain ⟨h, hh⟩ : ∃ h, h = (i + j) / 2 := ⟨_, rfl⟩
      have hh1 : i ≤ h := by omega
      have hh2 : h < j := by omega
      have hhl : h < l.length := by rw [← HN.out]; omega
      obtain ⟨b0, off, rfl, hb0, c0, c1', c2', -, -⟩ := H.out.ent_ hhl
      have e0 := (HB.out.cell (p := ⟨b0, off + h * 3, none⟩) hb0).trans c0
      have e1 := (HB.out.cell (p := ⟨b0, off + h * 3 + 1, none⟩) hb0).trans c1'
      have e2 := (HB.out.cell (p := ⟨b0, off + h * 3 + 2, none⟩) hb0).trans c2'
      have hit := HI.out h hhl
      obtain ⟨r, hr⟩ : ∃ r, r = l[h] := ⟨_, rfl⟩
      rw [← hr] at e0 e1 e2 hit
      obtain ⟨rk, rv, rd⟩ := r
      simp only at e0 e1 e2 hit
      rw [← HM.out] at hit
      have HIT := Lib.hid hit
      have HH := Lib.hid hh
      rw [hh] at e0 e1 e2
      have hcast : ((i : Int) + (j : Int)) / 2 = (h : Int) := by omega
      have HC := Lib.hid hcast
      clear hr c0 c1' c2' hhl hit hh hcast
      go_wp2_with fail
      refine (search1_any rk rv rd key _).mono ?_
      rintro e w2 ⟨rfl, hb2⟩
      have HB2 : Hid (Below w.heap.size w w2) := HB.out.trans (hb2.mono hz)
      have hcm := cmpS_neg rk key
      obtain ⟨q, hq⟩ : ∃ q, q = cmpS rk key := ⟨_, rfl⟩
      rw [← hq] at hcm ⊢
      clear hb2 hq
      cases hlk : kLt rk key with
      | true =>
        have HLK := Lib.hid hlk
        rw [hlk] at hcm
        have hhm : h < m := HIT.out.1 HLK.out
        clear hlk e0 e1 e2
        go_wp2_with fail
        go_roundw
        case rel => exact ⟨h + 1, j, by omega, by omega, by omega, by rw [HC.out]; go_num, rfl, HB2⟩
        case measure => simp [intOf]; omega
      | false =>
        have HLK := Lib.hid hlk
        rw [hlk] at hcm
        have hhm : ¬ h < m := fun h' => by have := HIT.out.2 h'; rw [HLK.out] at this; cases this
        clear hlk e0 e1 e2
        go_wp2_with fail
        go_roundw
        case rel => exact ⟨i, h, by omega, by omega, by omega, rfl, by rw [HC.out], HB2⟩
        case measure => simp [intOf]; omega
    · obtain rfl : i = j := by omega
      obtain rfl : i = m := by omega
      by_cases hmn : i < n
      · have dk : decide (i < n) = true := decide_eq_true hmn
        obtain ⟨b0, off, rfl, hb0, c0, c1', c2', -, -⟩ := H.out.ent_ (k := i) (by rw [← HN.out]; exact hmn)
        have e0 := (HB.out.cell (p := ⟨b0, off + i * 3, none⟩) hb0).trans c0
        have e1 := (HB.out.cell (p := ⟨b0, off + i * 3 + 1, none⟩) hb0).trans c1'
        have e2 := (HB.out.cell (p := ⟨b0, off + i * 3 + 2, none⟩) hb0).trans c2'
        obtain ⟨r, hr⟩ : ∃ r, r = l[i]'(by rw [← HN.out]; exact hmn) := ⟨_, rfl⟩
        rw [← hr] at e0 e1 e2
        obtain ⟨rk, rv, rd⟩ := r
        simp only at e0 e1 e2
        clear hr c0 c1' c2'
        go_wp2_with fail
        refine (search1_any rk rv rd key _).mono ?_
        rintro e w2 ⟨rfl, hb2⟩
        have HB2 : Hid (Below w.heap.size w w2) := HB.out.trans (hb2.mono hz)
        obtain ⟨q, hq⟩ : ∃ q, q = cmpS rk key := ⟨_, rfl⟩
        rw [← hq]
        clear hb2 hq
        go_wp2_with fail
        go_ret2
        exact ⟨⟨_, rfl⟩, HB2.out⟩
      · have dk : decide (i < n) = false := decide_eq_false hmn
        go_wp2_with fail
        go_ret2
        exact ⟨⟨_, rfl⟩, HB.out⟩
theorem search_any (A : Option Addr) (c : Nat) (l : List Ent) (key : ByteArray) (w : World) (hl : SlA entE (· < w.heap.size) w A c l) (hr : Rises l) (hn : l.length ≤ 1000000000) :
    Calls Try.prog 62 #[.slice A l.length c, .string key] w fun e w' => (∃ B : Bool, e = .returned (.tuple #[.int .i64 (below key l), .bool B])) ∧ Below w.heap.size w w' := by
  have H := Lib.hid (bsearch_any A c l key w hl hr hn)
  obtain ⟨m, hm⟩ : ∃ m, m = below key l := ⟨_, rfl⟩
  rw [← hm]
  rw [← hm] at H
  clear hl hr hn hm
  go_enter Try.func62, Try.ntmps62
  go_wp2_with fail
  refine H.out.mono ?_
  rintro e w' ⟨⟨B, rfl⟩, hb⟩
  have HB := Lib.hid hb
  clear hb
  go_wp2_with fail
  go_ret2
  exact ⟨⟨B, rfl⟩, HB.out⟩
end Go.Proofs.Ytdnmdekmgbgioaa
