/-
  Contracts of weirref2.Same (of entries that are the same) and of table.Merge, where what is dead is kept. Condition: each is a table's bytes, and they make a table.
-/
import Derived.Test.YtdnmdekmgbgioaaTabMix
namespace Go.Proofs.Ytdnmdekmgbgioaa
open Go.RowKit
open Go.Sort hiding Below
set_option linter.unusedVariables false

theorem same_ents (A B : Option Addr) (c d : Nat) (l : List Ent) (w : World) (F G : Nat → Prop) (ha : SlA entE F w A c l) (hb : SlA entE G w B d l) :
    Calls Try.prog 18 #[.slice A l.length c, .slice B l.length d] w fun e w' => e = .returned (.bool true) ∧ ∃ k, w' = w.drewN k := by
  have hn := ha.le
  have H := Lib.hid ha
  have H' := Lib.hid hb
  clear ha hb
  go_enter Try.func18, Try.ntmps18
  go_wp2
  go_loopw [5] (fun i wr => ∃ k q : Nat, k ≤ l.length ∧ i = .int .i64 k ∧ wr = w.drewN q) (fun i _ => l.length - (intOf i).toNat)
  case atStart => exact ⟨0, 0, Nat.zero_le _, rfl, rfl⟩
  case round =>
    obtain ⟨k, q, hk, rfl, rfl⟩ := hrel
    by_cases hlt : k < l.length
    · obtain ⟨b, off, rfl, _, c0, c1, c2, _⟩ := H.out.ent_ hlt
      obtain ⟨b', off', rfl, _, d0, d1, d2, _⟩ := H'.out.ent_ hlt
      obtain ⟨s, hs⟩ : ∃ s, s = l[k] := ⟨_, rfl⟩
      rw [← hs] at c0 c1 c2 d0 d1 d2
      clear hs
      go_wp2
      go_quiet (fail)
      go_wp2
      go_roundw
      case rel => exact ⟨k + 1, q + nq, by omega, by go_num, by simp⟩
      case measure => simp [intOf]; omega
    · go_wp2
      go_ret
      exact ⟨rfl, q, rfl⟩
theorem info_ents : (Try.prog.info? 46).map (fun i => (i.zero, i.size, i.bytes)) = some (some (Value.slice none 0 0), 1, 24) := by kernel_rfl
/-- Slice values, one a list; none of them lies in the row's own block. -/
def Vals (w : World) (R : Option Nat) (vs : List Value) (ls : List (List Ent)) : Prop := vs.length = ls.length ∧ ∀ (i : Nat) (v : Value) (l : List Ent), vs[i]? = some v → ls[i]? = some l → ∃ (A : Option Addr) (c : Nat), v = Value.slice A l.length c ∧ SlA entE (fun k => k < w.heap.size ∧ R ≠ some k) w A c l
theorem Vals.below {w w' : World} {R : Option Nat} {vs : List Value} {ls : List (List Ent)} (h : Vals w R vs ls) (hb : Below w.heap.size w w') : Vals w' R vs ls :=
  ⟨h.1, fun i v l h1 h2 => by
    obtain ⟨A, c, e, hs⟩ := h.2 i v l h1 h2
    exact ⟨A, c, e, (hs.keep fun k hk => hb.block k hk.1).more fun k hk => ⟨Nat.lt_of_lt_of_le hk.1 hb.size, hk.2⟩⟩⟩
theorem Vals.grown {w w' : World} {R R' : Option Nat} {vs : List Value} {ls : List (List Ent)} (h : Vals w R vs ls) (hg : w.grownBy w' R) (hR : R' = R ∨ ∃ k, R' = some k ∧ w.heap.size ≤ k) : Vals w' R' vs ls :=
  ⟨h.1, fun i v l h1 h2 => by
    obtain ⟨A, c, e, hs⟩ := h.2 i v l h1 h2
    refine ⟨A, c, e, (hs.keep fun k hk => hg.block k hk.1 (fun e => hk.2 e.symm)).more fun k hk => ⟨Nat.lt_of_lt_of_le hk.1 hg.size, fun e2 => ?_⟩⟩
    rcases hR with rfl | ⟨j, rfl, hj⟩
    · exact hk.2 e2
    · injection e2 with e2; omega⟩
theorem Vals.sl {w : World} {R : Option Nat} {vs : List Value} {ls : List (List Ent)} {A : Option Addr} {cap n : Nat} {e : TypeId} (h : Vals w R vs ls) (ho : OwnS w e 1 A cap n vs) : n = ls.length ∧ SlA (slE entE) (· < w.heap.size) w A cap ls := by
  have hl := ho.1
  have hn : n = ls.length := by rw [← h.1]; omega
  refine ⟨hn, by have := ho.2.1; omega, ho.2.2.1, fun i x hx => ?_⟩
  have hi : i < ls.length := (List.getElem?_eq_some_iff.1 hx).1
  have hiv : i < vs.length := by rw [h.1]; exact hi
  obtain ⟨g, off, rfl, hg, hc⟩ := ho.head (by omega) (by decide)
  obtain ⟨A1, c1, hv, hs⟩ := h.2 i vs[i] x (List.getElem?_eq_getElem hiv) hx
  refine ⟨g, off, [vs[i]], rfl, hg, fun j u hj => ?_, vs[i], rfl, A1, c1, hv, hs.more fun k hk => hk.1⟩
  cases j with
  | zero =>
    simp at hj
    subst hj
    have := hc i vs[i] (List.getElem?_eq_getElem hiv)
    simpa [slE] using this
  | succ j => simp at hj
theorem Vals.snoc {w : World} {R : Option Nat} {vs : List Value} {ls : List (List Ent)} {l : List Ent} {A : Option Addr} {c : Nat} (h : Vals w R vs ls) (hs : SlA entE (fun k => k < w.heap.size ∧ R ≠ some k) w A c l) : Vals w R (vs ++ [Value.slice A l.length c]) (ls ++ [l]) := by
  refine ⟨by simp [h.1], fun i v x hv hx => ?_⟩
  have hlen := h.1
  by_cases hi : i < vs.length
  · rw [List.getElem?_append_left hi] at hv
    rw [List.getElem?_append_left (by omega)] at hx
    exact h.2 i v x hv hx
  · rw [List.getElem?_append_right (by omega)] at hv
    rw [List.getElem?_append_right (by omega)] at hx
    rw [← hlen] at hx
    cases hj : i - vs.length with
    | zero =>
      rw [hj] at hv hx
      simp at hv hx
      subst hv; subst hx
      exact ⟨A, c, rfl, hs⟩
    | succ j => rw [hj] at hv; simp at hv
set_option maxRecDepth 100000 in
set_option maxHeartbeats 2000000 in
theorem merge_ok (A : Option Addr) (c : Nat) (ls : List (List Ent)) (l : List Ent) (w : World) (hl : SlA (slE bytE) (· < w.heap.size) w A c (ls.map tabB)) (hok : ∀ x ∈ ls, TabOk x) (hcnt : cnt ls ≤ 1000000) (hlen : ls.length ≤ 1000) (hl0 : TabOk l) (hp : (mixed ls).Perm l) :
    Calls Try.prog 19 #[.slice A ls.length c, .bool true] w fun e w' => ∃ A' c', e = .returned (.tuple #[.slice A' (tabB l).length c', .nilIface]) ∧ SlA bytE (· < w'.heap.size) w' A' c' (tabB l) ∧ Below w.heap.size w w' := by
  have H := Lib.hid hl
  have HOK := Lib.hid hok
  have HCNT := Lib.hid hcnt
  have HL0 := Lib.hid hl0
  have HP := Lib.hid hp
  clear hl hok hcnt hl0 hp
  go_enter Try.func19, Try.ntmps19
  go_wp2_with fail
  go_loopw [6, 13] (fun lv iv wr => ∃ (k c' : Nat) (A' : Option Addr) (vs : List Value), k ≤ ls.length ∧ iv = .int .i64 k ∧ lv = .slice A' k c' ∧ Hid (OwnS wr 46 1 A' c' k vs) ∧ Hid (Vals wr (blk A') vs (ls.take k)) ∧ Hid (∀ b, blk A' = some b → w.heap.size ≤ b) ∧ Hid (Below w.heap.size w wr)) (fun _ iv _ => ls.length - (intOf iv).toNat)
  case atStart => exact ⟨0, 0, none, [], by omega, rfl, rfl, OwnS.nil _ _ _, ⟨rfl, fun i v l h => by simp at h⟩, (by intro k e; cases e), Below.refl _ _⟩
  case round =>
    obtain ⟨k, c', A', vs, hk, rfl, rfl, HO, HV, HA, HB⟩ := hrel
    have hz := HB.out.size
    by_cases hlt : k < ls.length
    · have dk1 : decide (k < ls.length) = true := decide_eq_true hlt
      obtain ⟨b0, off, A1, c1, rfl, hb0, c0, hs1⟩ := H.out.sl_ (k := k) (by rw [List.length_map]; exact hlt)
      rw [List.getElem_map] at c0 hs1
      have e0 := (HB.out.cell (p := ⟨b0, off + k, none⟩) hb0).trans c0
      have hrd := read_ok A1 c1 ls[k] wr ((hs1.below HB.out)) (HOK.out _ (List.getElem_mem hlt))
      have htk := List.take_succ_eq_append_getElem hlt
      obtain ⟨x, hx⟩ : ∃ x, x = ls[k] := ⟨_, rfl⟩
      rw [← hx] at e0 hrd htk
      have HRD := Lib.hid hrd
      have HTK := Lib.hid htk
      clear hx c0 hs1 hrd htk
      go_wp2_with fail
      refine HRD.out.mono ?_
      rintro e w2 ⟨A2, c2, rfl, hs2, hb2⟩
      have hrowlt := HO.out.lt
      have hv2 := (HV.out.below hb2).snoc (hs2.more fun k hk => ⟨hk.2, fun e => by have := hrowlt k e; omega⟩)
      have HV2 := Lib.hid hv2
      clear hrowlt hv2
      have HO2 := Lib.hid (HO.out.keep fun k e => hb2.block k (HO.out.lt k e))
      have HB2 := Lib.hid (HB.out.trans (hb2.mono hz))
      have hz2 := HB2.out.size
      clear hs2 hb2 HV HO HB HRD
      go_wp2_with (at_builtin; refine wpList_push_S (w0 := w2) rfl (.tmp 25) (.tmp 27) 91 rfl 46 _ 1 24 Try.underlying91 info_ents rfl (by decide) A' c' k _ rfl HO2.out [.slice A2 x.length c2] rfl rfl (by simp [Value.oneCell']) (by unfold maxLen; omega) (by omega) ?_)
      intro A3 c3 w3 ho3 hg3 hat3
      have hbl3 : Below w.heap.size w w3 := HB2.out.grown hg3 hz2 HA.out
      have HB3 := Lib.hid hbl3
      have HA3 : Hid (∀ b, blk A3 = some b → w.heap.size ≤ b) := fun b e => by
        rcases hat3 with h1 | ⟨j, h1, h2⟩
        · exact HA.out b (h1 ▸ e)
        · rw [h1] at e; injection e with e; subst e; omega
      have HO3 := Lib.hid ho3
      have hv3 := HV2.out.grown hg3 hat3
      rw [← HTK.out] at hv3
      have HV3 := Lib.hid hv3
      clear ho3 hg3 hat3 hbl3 hv3 HV2 HO2 HB2 HA HTK
      go_wp2_with fail
      go_roundw
      case rel => exact ⟨k + 1, c3, A3, _, by omega, by go_num, rfl, HO3, HV3, HA3, HB3⟩
      case measure => simp [intOf]; omega
    · obtain rfl : k = ls.length := by omega
      have dk1 : decide (ls.length < ls.length) = false := by simp
      have hv := HV.out
      rw [List.take_length] at hv
      obtain ⟨-, hsl⟩ := hv.sl HO.out
      have HMX := Lib.hid (mix_any A' c' ls _ hsl HCNT.out)
      clear hv hsl HV HO HA
      go_wp2_with fail
      refine HMX.out.mono ?_
      rintro e w3 ⟨A3, c3, q, rfl, hq1, hq2, hq3, hq4⟩
      have hql : q = l := sorted_eq HL0.out.2.2 (hq1.trans HP.out) hq2
      subst hql
      have HB3 := Lib.hid (HB.out.trans (hq4.mono hz))
      have HBU := Lib.hid (build_any A3 c3 q w3 hq3)
      clear hq1 hq2 hq3 hq4 HMX
      go_wp2_with fail
      refine HBU.out.mono ?_
      rintro e w4 ⟨⟨-, A4, c4, rfl, hs4⟩ | ⟨hno, -⟩, hb4⟩
      · have HS4 := Lib.hid hs4
        have HB4 := Lib.hid (HB3.out.trans (hb4.mono HB3.out.size))
        clear hs4 hb4
        go_wp2_with fail
        go_ret2
        exact ⟨A4, c4, rfl, HS4.out, HB4.out⟩
      · exact absurd HL0.out hno
end Go.Proofs.Ytdnmdekmgbgioaa
