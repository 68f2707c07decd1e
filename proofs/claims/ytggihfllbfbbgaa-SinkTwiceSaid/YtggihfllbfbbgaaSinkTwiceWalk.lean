/-
  The walk of SinkTwice: it returns true, whatever the counts and the id. No condition.
-/
import Derived.Test.YtggihfllbfbbgaaSinkTwicePlain
namespace Go.Proofs.Ytggihfllbfbbgaa
open Go.RowKit
set_option linter.unusedVariables false

/-- Behind i rounds. -/
def Inv2 (w wr : World) (gs : Nat) (cs : List Nat) (op : List Rec) : Prop :=
  (∀ c ∈ cs, c ≤ 50) ∧ One w.heap.size wr gs ⟨op, blocks cs, (cs.length : Int), []⟩ ∧ Below w.heap.size w wr

set_option maxHeartbeats 4000000 in
set_option maxRecDepth 100000 in
theorem sinkTwice_walk (A : Option Addr) (c : Nat) (l : List Int) (u : Int) (w : World) (hl : SlA (intE .i64) (· < w.heap.size) w A c l) (hr : c * 8 ≤ 140737488351232) (wu : (Lit.int .i64 u).wf = true) :
    Calls Try.prog 12 #[.slice A l.length c, .int .i64 u] w fun e w' => e = .returned (.bool true) ∧ Below w.heap.size w w' := by
  have hle := hl.le
  have H := Lib.hid hl
  clear hl hr wu
  go_enter Try.func12, Try.ntmps12
  go_wp2_with fail
  refine (sinkNew_any _).mono ?_
  rintro e w1 ⟨rfl, hs1, hb1⟩
  have HS := Lib.hid hs1
  have HB := Lib.hid hb1
  have hz1 := hb1.size
  obtain ⟨g1, hg1⟩ : ∃ g, g = w.heap.size := ⟨_, rfl⟩
  have hs1' : SinkAt w1 (fun k => w.heap.size ≤ k ∧ k < w1.heap.size) g1 sinkNew := by rw [hg1]; exact hs1
  rw [← hg1]
  have HS := Lib.hid hs1'
  clear hs1 hb1 hs1' hg1
  go_wp2_with fail
  refine (add_ok g1 _ ⟨⟨#[]⟩, 5, 0⟩ _ _ HS.out ⟨by show 0 ≤ maxLen; omega, by show (Lit.int .i64 5).wf = true; decide, by show (Lit.int .i64 0).wf = true; decide⟩ (by show 0 < 400; omega)).mono ?_
  rintro e w2 ⟨rfl, hs2, hf2⟩
  obtain ⟨⟨F2, hs2', d2⟩, hb2⟩ := One.next hz1 (fun k hk => hk) hs2 hf2
  have HS2 := Lib.hid hs2'
  have D2 := Lib.hid d2
  have HB2 := Lib.hid (HB.out.trans hb2)
  clear hs2 hf2 hs2' d2 hb2 HS HB hz1
  go_wp2_with fail
  refine (seal_ok g1 _ 1 F2 _ HS2.out (by omega) (by show (0 : Int) < 1; omega) (by show 0 < 4294967296; omega)).mono ?_
  rintro e w3 ⟨rfl, hs3, hf3⟩
  obtain ⟨⟨F3, hs3', d3⟩, hb3⟩ := One.next HB2.out.size D2.out hs3 hf3
  have HS3 := Lib.hid hs3'
  have D3 := Lib.hid d3
  have HB3 := Lib.hid (HB2.out.trans hb3)
  clear hs3 hf3 hs3' d3 hb3 HS2 D2 HB2
  go_wp2_with fail
  refine (commit_ok g1 _ 1 F3 _ HS3.out (by omega) (fun k hk => (D3.out k hk).2) (by show 0 + 1 ≤ 1000000000; omega) (by show 1 ≤ 1000000000; omega)).mono ?_
  rintro e w4 ⟨j, hj1, hj2, hj3, rfl, hs4, hf4⟩
  have hj : j = 1 := by
    have h1 : j ≤ 1 := hj1
    rcases Nat.lt_or_ge j 1 with h | h
    · have h0 : j = 0 := by omega
      subst h0
      have e : (1 : Int) < 1 := hj3 (by show 0 < 1; omega)
      omega
    · omega
  subst hj
  rw [show commN (sealS (addS sinkNew ⟨⟨#[]⟩, 5, 0⟩) 1) 1 = 1 from rfl]
  obtain ⟨_, hb4⟩ := One.next HB3.out.size D3.out hs4 hf4
  have HB4 := Lib.hid (HB3.out.trans hb4)
  clear hj1 hj2 hj3 hs4 hf4 hb4 HS3 D3 HB3
  go_wp2_with fail
  refine (sinkNew_any _).mono ?_
  rintro e w5 ⟨rfl, hs5, hb5⟩
  have hz4 := HB4.out.size
  have hinv : Inv2 w w5 w4.heap.size [] [] := ⟨nofun, ⟨_, hs5, fun k hk => ⟨by omega, hk.2⟩⟩, HB4.out.trans (hb5.mono hz4)⟩
  obtain ⟨gs, hgs⟩ : ∃ g, g = w4.heap.size := ⟨_, rfl⟩
  rw [← hgs] at hinv ⊢
  have HI := Lib.hid hinv
  clear hs5 hb5 hinv hgs HB4 hz4
  go_wp2_with fail
  go_loopw [11, 12] (fun tv iv wr => ∃ (cs : List Nat) (t i : Nat), i ≤ l.length ∧ i ≤ 20 ∧ t ≤ 50 * i ∧ tv = .int .i64 t ∧ iv = .int .i64 i ∧ Hid (cs.length = i) ∧ Hid (t = (sums cs u.toNat).length) ∧ Hid (Inv2 w wr gs cs [])) (fun _ iv _ => 20 - (intOf iv).toNat)
  case atStart => exact ⟨[], 0, 0, by omega, by omega, by omega, rfl, rfl, rfl, by show 0 = _; simp [sums, blocks], HI⟩
  case round =>
    clear HI
    obtain ⟨cs, t, i, hi, hi20, ht, rfl, rfl, HCL, HT, HI⟩ := hrel
    by_cases hlt : i < l.length ∧ i < 20
    · obtain ⟨hlt, hlt20⟩ := hlt
      have hd1 : decide (i < l.length) = true := decide_eq_true hlt
      obtain ⟨b, off, rfl, hbb, hc, _⟩ := H.out.int_ hlt
      obtain ⟨x, hx⟩ : ∃ x, x = l[i] := ⟨_, rfl⟩
      rw [← hx] at hc
      clear hx
      have hcr : ∀ wr' : World, Below w.heap.size w wr' → wr'.cell? ⟨b, off + i, none⟩ = some (.int .i64 x) := fun wr' hb => (hb.cell (p := ⟨b, _, none⟩) hbb).trans hc
      have HC := Lib.hid hcr
      clear hcr hc hbb
      have hc0 := HC.out wr HI.out.2.2
      by_cases hx0 : x < 0
      · go_wp2_with fail
        go_ret
        exact ⟨rfl, HI.out.2.2⟩
      · by_cases hx50 : 50 < x
        · go_wp2_with fail
          go_ret
          exact ⟨rfl, HI.out.2.2⟩
        · obtain ⟨m, rfl⟩ := Int.eq_ofNat_of_zero_le (by omega : 0 ≤ x)
          have hm : m ≤ 50 := by omega
          have hdm0 : decide ((m : Int) < 0) = false := by rw [decide_eq_false_iff_not]; omega
          have hdm5 : decide (50 < (m : Int)) = false := by rw [decide_eq_false_iff_not]; omega
          have hdm6 : decide (50 < m) = false := by rw [decide_eq_false_iff_not]; omega
          have hdi : decide ((i : Int) < 20) = true := by rw [decide_eq_true_iff]; omega
          have hdi2 : decide (i < 20) = true := decide_eq_true hlt20
          clear hx0 hx50
          go_wp2_with fail
          obtain ⟨wo, hwo⟩ : ∃ wo : World, wo = wr := ⟨_, rfl⟩
          go_loopw [13] (fun kv wr => ∃ k : Nat, k ≤ m ∧ kv = .int .i64 k ∧ Hid (Inv2 w wr gs cs (List.replicate k (recAt i)))) (fun kv _ => m - (intOf kv).toNat)
          case atStart => exact ⟨0, by omega, rfl, HI⟩
          case round =>
            clear HI hc0 hwo wo
            obtain ⟨k, hk, rfl, HI⟩ := hrel
            obtain ⟨q1, ⟨Fs, hs, d1⟩, hbel⟩ := HI.out
            have hc0 := HC.out wr hbel
            have Q1 := Lib.hid q1
            have D1 := Lib.hid d1
            have HS := Lib.hid hs
            have HB := Lib.hid hbel
            clear q1 d1 hs hbel HI
            by_cases hkm : k < m
            · go_wp2_with fail
              have hro := recAt_ok i (by omega)
              refine (add_ok gs _ (recAt i) Fs _ HS.out hro (by show (List.replicate k (recAt i)).length < 400; rw [List.length_replicate]; omega)).mono ?_
              rintro e w3 ⟨rfl, hs', hf⟩
              obtain ⟨hone, hb3⟩ := One.next HB.out.size D1.out hs' hf
              have hinv : Inv2 w w3 gs cs (List.replicate (k + 1) (recAt i)) := by
                refine ⟨Q1.out, ?_, HB.out.trans hb3⟩
                rw [List.replicate_succ']; exact hone
              have HI := Lib.hid hinv
              clear hs' hf hone hb3 hinv HS HB D1
              go_wp2_with fail
              go_roundw
              case rel => exact ⟨k + 1, by omega, by go_num, HI⟩
              case measure => simp [intOf]; omega
            · obtain rfl : k = m := by omega
              have hbl : (blocks cs).length ≤ 20 := by rw [blocks_length, HCL.out]; exact hi20
              go_wp2_with fail
              refine (seal_ok gs _ ((i : Int) + 1) Fs _ HS.out (by omega) (by show (cs.length : Int) < (i : Int) + 1; rw [HCL.out]; omega) (by show (blocks cs).length < _; omega)).mono ?_
              rintro e w3 ⟨rfl, hs', hf⟩
              obtain ⟨hone, hb3⟩ := One.next HB.out.size D1.out hs' hf
              have hb3' := HB.out.trans hb3
              have hc3 := HC.out w3 hb3'
              have hinv : Inv2 w w3 gs (cs ++ [k]) [] := by
                refine ⟨fun y hy => ?_, ?_, hb3'⟩
                · rcases List.mem_append.1 hy with hy | hy
                  · exact Q1.out y hy
                  · simp at hy; subst hy; exact hm
                · have e1 : sealS ⟨List.replicate k (recAt i), blocks cs, (cs.length : Int), []⟩ ((i : Int) + 1) = ⟨[], blocks (cs ++ [k]), ((cs ++ [k]).length : Int), []⟩ := by
                    rw [blocks_snoc, HCL.out]
                    simp [sealS, HCL.out]
                  rw [e1] at hone
                  exact hone
              have HI := Lib.hid hinv
              have hsn := sums_snoc cs k u.toNat
              rw [HCL.out] at hsn
              have HCL2 := Lib.hid (show (cs ++ [k]).length = i + 1 by simp [HCL.out])
              clear hs' hf hone hb3 hb3' hinv HS HB D1 HC H hc0 hbl
              by_cases hiu : (i : Int) < u
              · rw [if_pos (by omega)] at hsn
                have HT2 := Lib.hid (show t + k = (sums (cs ++ [k]) u.toNat).length by rw [hsn, ← HT.out])
                clear hsn
                go_wp2_with fail
                go_roundw
                case rel => exact ⟨cs ++ [k], t + k, i + 1, by omega, by omega, by omega, by go_num, by go_num, HCL2, HT2, HI⟩
                case measure => simp [intOf]; omega
              · rw [if_neg (by omega)] at hsn
                have HT2 := Lib.hid (show t = (sums (cs ++ [k]) u.toNat).length by rw [hsn, ← HT.out]; rfl)
                clear hsn
                go_wp2_with fail
                go_roundw
                case rel => exact ⟨cs ++ [k], t, i + 1, by omega, by omega, by omega, rfl, by go_num, HCL2, HT2, HI⟩
                case measure => simp [intOf]; omega
    · obtain ⟨q1, ⟨Fs, hs, d1⟩, hbel⟩ := HI.out
      have hbl : (blocks cs).length ≤ 20 := by rw [blocks_length, HCL.out]; exact hi20
      have hbs : ((blocks cs).flatMap (·.2)).length ≤ 1000 := by have := blocks_sum cs q1; rw [HCL.out] at this; omega
      have D1 := Lib.hid d1
      have HS := Lib.hid hs
      have HB := Lib.hid hbel
      have HLT := Lib.hid hlt
      clear q1 d1 hs hbel HI H
      by_cases hu : u < 1
      · clear hbl hbs
        by_cases hil : i < l.length
        · have hi2 : ¬ i < 20 := fun h => HLT.out ⟨hil, h⟩
          have hdl : decide (i < l.length) = true := decide_eq_true hil
          have hdi : decide ((i : Int) < 20) = false := by rw [decide_eq_false_iff_not]; omega
          clear hlt
          go_wp2_with fail
          go_ret
          exact ⟨rfl, HB.out⟩
        · have hdl : decide (i < l.length) = false := by rw [decide_eq_false_iff_not]; omega
          clear hlt
          go_wp2_with fail
          go_ret
          exact ⟨rfl, HB.out⟩
      · by_cases hil : i < l.length
        · have hi2 : ¬ i < 20 := fun h => HLT.out ⟨hil, h⟩
          have hdl : decide (i < l.length) = true := decide_eq_true hil
          have hdi : decide ((i : Int) < 20) = false := by rw [decide_eq_false_iff_not]; omega
          clear hlt
          go_wp2_with fail
          refine (commit_ok gs _ u Fs _ HS.out (by omega) (fun k hk => (D1.out k hk).2) (by show 0 + ((blocks cs).flatMap (·.2)).length ≤ _; omega) (by show (blocks cs).length ≤ _; omega)).mono ?_
          rintro e w3 ⟨j, hj1, hj2, hj3, rfl, hs', hf⟩
          have htake : (blocks cs).take j = (blocks cs).take u.toNat := comm_first cs u j hj1 hj2 hj3
          have hcn : commN ⟨[], blocks cs, (cs.length : Int), []⟩ j = t := by
            unfold commN; show (((blocks cs).take j).flatMap (·.2)).length = t
            rw [htake, HT.out]; rfl
          have hS1 : commJ ⟨[], blocks cs, (cs.length : Int), []⟩ j = ⟨[], (blocks cs).drop j, (cs.length : Int), sums cs u.toNat⟩ := by
            unfold commJ; show (⟨[], (blocks cs).drop j, (cs.length : Int), [] ++ ((blocks cs).take j).flatMap (·.2)⟩ : SinkSt) = _
            rw [htake]; rfl
          rw [hS1] at hs'
          rw [hcn]
          have hnext : ∀ x, ((blocks cs).drop j)[0]? = some x → u < x.1 := by
            intro x h
            rw [List.getElem?_drop, Nat.add_zero] at h
            rcases Nat.lt_or_ge j (blocks cs).length with hj | hj
            · rw [List.getElem?_eq_getElem hj] at h
              injection h with h
              rw [← h]; exact hj3 hj
            · rw [List.getElem?_eq_none hj] at h; cases h
          have hsl1 : (sums cs u.toNat).length = t := HT.out.symm
          have hsl2 : ((blocks cs).drop j).length ≤ 20 := by rw [List.length_drop]; omega
          have hsl3 : (((blocks cs).drop j).flatMap (·.2)).length ≤ 1000 := by
            have e : blocks cs = (blocks cs).take j ++ (blocks cs).drop j := (List.take_append_drop j _).symm
            have h4 := congrArg (fun z => (List.flatMap (·.2) z).length) e
            simp only [List.flatMap_append, List.length_append] at h4
            omega
          obtain ⟨rest, hrest⟩ : ∃ r, r = (blocks cs).drop j := ⟨_, rfl⟩
          rw [← hrest] at hs' hsl2 hsl3
          rw [← hrest] at hnext
          obtain ⟨⟨F3, hs3, d3⟩, hb3⟩ := One.next HB.out.size D1.out hs' hf
          have HS3 := Lib.hid hs3
          have D3 := Lib.hid d3
          have HB3 := Lib.hid (HB.out.trans hb3)
          have HNX := Lib.hid hnext
          have HSL1 := Lib.hid hsl1
          have HSL3 := Lib.hid hsl3
          clear hj1 hj2 hj3 hs' hf htake hcn hS1 hnext hrest hs3 d3 hb3 HS D1 HB hsl1 hsl3 hbs hbl
          go_wp2_with fail
          refine (commit_ok gs _ u F3 _ HS3.out (by omega) (fun k hk => (D3.out k hk).2) (by show (sums cs u.toNat).length + (rest.flatMap (·.2)).length ≤ _; have := HSL1.out; have := HSL3.out; omega) (by show rest.length ≤ _; omega)).mono ?_
          rintro e w4 ⟨j, hj1, hj2, hj3, rfl, hs', hf⟩
          have hj : j = 0 := by
            rcases Nat.eq_zero_or_pos j with h | h
            · exact h
            · have hl : 0 < rest.length := Nat.lt_of_lt_of_le h hj1
              have h5 := hj2 0 h hl
              have h6 := HNX.out _ (List.getElem?_eq_getElem hl)
              exact absurd h5 (by show ¬ rest[0].1 ≤ u; omega)
          subst hj
          rw [commJ_zero] at hs'
          rw [show commN ⟨[], rest, (cs.length : Int), sums cs u.toNat⟩ 0 = 0 from rfl]
          obtain ⟨⟨F4, hs4, d4⟩, hb4⟩ := One.next HB3.out.size D3.out hs' hf
          have HS4 := Lib.hid hs4
          have D4 := Lib.hid d4
          have HB4 := Lib.hid (HB3.out.trans hb4)
          clear hj1 hj2 hj3 hs' hf hs4 d4 hb4 HS3 D3 HB3
          go_wp2_with fail
          refine (commit_ok gs _ 1 F4 _ HS4.out (by omega) (fun k hk => (D4.out k hk).2) (by show (sums cs u.toNat).length + (rest.flatMap (·.2)).length ≤ _; have := HSL1.out; have := HSL3.out; omega) (by show rest.length ≤ _; omega)).mono ?_
          rintro e w5 ⟨j, hj1, hj2, hj3, rfl, hs', hf⟩
          have hj : j = 0 := by
            rcases Nat.eq_zero_or_pos j with h | h
            · exact h
            · have hl : 0 < rest.length := Nat.lt_of_lt_of_le h hj1
              have h5 := hj2 0 h hl
              have h6 := HNX.out _ (List.getElem?_eq_getElem hl)
              exact absurd h5 (by show ¬ rest[0].1 ≤ 1; omega)
          subst hj
          rw [commJ_zero] at hs'
          rw [show commN ⟨[], rest, (cs.length : Int), sums cs u.toNat⟩ 0 = 0 from rfl]
          obtain ⟨⟨F5, hs5, d5⟩, hb5⟩ := One.next HB4.out.size D4.out hs' hf
          have HS5 := Lib.hid hs5
          have D5 := Lib.hid d5
          have HB5 := Lib.hid (HB4.out.trans hb5)
          clear hj1 hj2 hj3 hs' hf hs5 d5 hb5 HS4 D4 HB4
          go_wp2_with fail
          refine (abort_any gs _ F5 _ HS5.out (by show 0 + (rest.flatMap (·.2)).length ≤ _; have := HSL3.out; omega) (by show rest.length ≤ _; omega)).mono ?_
          rintro e w6 ⟨rfl, hs6, hf6⟩
          have HS6 := Lib.hid hs6
          have HB6 := Lib.hid (HB5.out.trans (hf6.below HB5.out.size fun k hk => (D5.out k hk).1))
          clear hs6 hf6 HS5 D5 HB5
          go_wp2_with fail
          refine (written_any gs _ F5 _ HS6.out (by show (sums cs u.toNat).length ≤ _; have := HSL1.out; omega)).mono ?_
          rintro e w7 ⟨A1, c1, rfl, hsl, hb7⟩
          obtain ⟨r, hr⟩ : ∃ r, r = sums cs u.toNat := ⟨_, rfl⟩
          have hsl' : SlA recE (· < w7.heap.size) w7 A1 c1 r := by rw [hr]; exact hsl
          rw [show (abortS ⟨[], rest, (cs.length : Int), sums cs u.toNat⟩).written = r from hr.symm]
          have hrl : r.length = t := by rw [hr]; exact HSL1.out
          have hrn : ((r.length : Int) == (t : Int)) = true := by rw [beq_iff_eq]; omega
          have hsort : ∀ k (h : k + 1 < r.length), r[k].num ≤ r[k + 1].num := by
            intro k h
            have := (sums_sorted cs u.toNat).1
            rw [← hr] at this
            exact List.pairwise_iff_getElem.1 this k (k + 1) (by omega) h (by omega)
          have hle3 : r.length ≤ 1000 := by omega
          have HSL := Lib.hid hsl'
          have HSO := Lib.hid hsort
          have HB7 := Lib.hid (HB6.out.trans (hb7.mono HB6.out.size))
          clear hsl hsl' hr hrl hsort hb7 HS6 HB6 HSL1
          go_wp2_with fail
          have hrt : t = r.length := by have h0 := hrn; simp only [beq_iff_eq] at h0; omega
          subst hrt
          clear hrn
          go_loopw [23] (fun iv wr => ∃ k d : Nat, 1 ≤ k ∧ k ≤ r.length + 1 ∧ iv = .int .i64 k ∧ wr = w7.drewN d) (fun iv _ => r.length + 1 - (intOf iv).toNat)
          case atStart => exact ⟨1, 0, by omega, by omega, rfl, rfl⟩
          case round =>
            obtain ⟨k, d, hk1, hk, rfl, rfl⟩ := hrel
            by_cases hkn : k < r.length
            · obtain ⟨k', rfl⟩ : ∃ k', k = k' + 1 := ⟨k - 1, by omega⟩
              obtain ⟨b1, o1, rfl, _, y0, y1, y2, _⟩ := HSL.out.rec_ hkn
              obtain ⟨b2, o2, e2, _, z0, z1, z2, _⟩ := HSL.out.rec_ (k := k') (by omega)
              injection e2 with e2; injection e2 with e21 e22; subst e21; subst e22
              have hso := HSO.out k' hkn
              obtain ⟨x, hx⟩ : ∃ x, x = r[k' + 1].num := ⟨_, rfl⟩
              obtain ⟨y, hy⟩ : ∃ y, y = (r[k']'(by omega)).num := ⟨_, rfl⟩
              rw [← hx] at y1 hso
              rw [← hy] at z1 hso
              have hxy : decide (x < y) = false := by rw [decide_eq_false_iff_not]; omega
              have hdl : decide (k' + 1 < r.length) = true := decide_eq_true hkn
              have w1' : IntKind.i64.wrap (((k' + 1 : Nat) : Int) - 1) = (k' : Int) := by rw [IntWalk.i64_in _ (by omega)]; omega
              have w2' : IntKind.i64.wrap ((k' : Int) + 1 - 1) = (k' : Int) := by rw [IntWalk.i64_in _ (by omega)]; omega
              clear hx hy y0 y2 z0 z2
              go_wp2_with fail
              go_quiet (fail)
              go_wp2_with fail
              go_roundw
              case rel =>
                have hrelx : ∃ k d' : Nat, 1 ≤ k ∧ k ≤ r.length + 1 ∧ Value.int .i64 ((k' + 1 + 1 : Nat) : Int) = .int .i64 k ∧ w7.drewN (d + nq) = w7.drewN d' := ⟨k' + 1 + 1, d + nq, by omega, by omega, rfl, rfl⟩
                refine ⟨u4, .int .i64 ((k' + 1 + 1 : Nat) : Int), ?_⟩
                simp only [hrelx, true_and]
                simp
              case measure => simp [intOf]; omega
            · go_wp2_with fail
              go_ret
              exact ⟨rfl, bdrewN HB7.out d⟩
        · have hdl : decide (i < l.length) = false := by rw [decide_eq_false_iff_not]; omega
          clear hlt
          go_wp2_with fail
          refine (commit_ok gs _ u Fs _ HS.out (by omega) (fun k hk => (D1.out k hk).2) (by show 0 + ((blocks cs).flatMap (·.2)).length ≤ _; omega) (by show (blocks cs).length ≤ _; omega)).mono ?_
          rintro e w3 ⟨j, hj1, hj2, hj3, rfl, hs', hf⟩
          have htake : (blocks cs).take j = (blocks cs).take u.toNat := comm_first cs u j hj1 hj2 hj3
          have hcn : commN ⟨[], blocks cs, (cs.length : Int), []⟩ j = t := by
            unfold commN; show (((blocks cs).take j).flatMap (·.2)).length = t
            rw [htake, HT.out]; rfl
          have hS1 : commJ ⟨[], blocks cs, (cs.length : Int), []⟩ j = ⟨[], (blocks cs).drop j, (cs.length : Int), sums cs u.toNat⟩ := by
            unfold commJ; show (⟨[], (blocks cs).drop j, (cs.length : Int), [] ++ ((blocks cs).take j).flatMap (·.2)⟩ : SinkSt) = _
            rw [htake]; rfl
          rw [hS1] at hs'
          rw [hcn]
          have hnext : ∀ x, ((blocks cs).drop j)[0]? = some x → u < x.1 := by
            intro x h
            rw [List.getElem?_drop, Nat.add_zero] at h
            rcases Nat.lt_or_ge j (blocks cs).length with hj | hj
            · rw [List.getElem?_eq_getElem hj] at h
              injection h with h
              rw [← h]; exact hj3 hj
            · rw [List.getElem?_eq_none hj] at h; cases h
          have hsl1 : (sums cs u.toNat).length = t := HT.out.symm
          have hsl2 : ((blocks cs).drop j).length ≤ 20 := by rw [List.length_drop]; omega
          have hsl3 : (((blocks cs).drop j).flatMap (·.2)).length ≤ 1000 := by
            have e : blocks cs = (blocks cs).take j ++ (blocks cs).drop j := (List.take_append_drop j _).symm
            have h4 := congrArg (fun z => (List.flatMap (·.2) z).length) e
            simp only [List.flatMap_append, List.length_append] at h4
            omega
          obtain ⟨rest, hrest⟩ : ∃ r, r = (blocks cs).drop j := ⟨_, rfl⟩
          rw [← hrest] at hs' hsl2 hsl3
          rw [← hrest] at hnext
          obtain ⟨⟨F3, hs3, d3⟩, hb3⟩ := One.next HB.out.size D1.out hs' hf
          have HS3 := Lib.hid hs3
          have D3 := Lib.hid d3
          have HB3 := Lib.hid (HB.out.trans hb3)
          have HNX := Lib.hid hnext
          have HSL1 := Lib.hid hsl1
          have HSL3 := Lib.hid hsl3
          clear hj1 hj2 hj3 hs' hf htake hcn hS1 hnext hrest hs3 d3 hb3 HS D1 HB hsl1 hsl3 hbs hbl
          go_wp2_with fail
          refine (commit_ok gs _ u F3 _ HS3.out (by omega) (fun k hk => (D3.out k hk).2) (by show (sums cs u.toNat).length + (rest.flatMap (·.2)).length ≤ _; have := HSL1.out; have := HSL3.out; omega) (by show rest.length ≤ _; omega)).mono ?_
          rintro e w4 ⟨j, hj1, hj2, hj3, rfl, hs', hf⟩
          have hj : j = 0 := by
            rcases Nat.eq_zero_or_pos j with h | h
            · exact h
            · have hl : 0 < rest.length := Nat.lt_of_lt_of_le h hj1
              have h5 := hj2 0 h hl
              have h6 := HNX.out _ (List.getElem?_eq_getElem hl)
              exact absurd h5 (by show ¬ rest[0].1 ≤ u; omega)
          subst hj
          rw [commJ_zero] at hs'
          rw [show commN ⟨[], rest, (cs.length : Int), sums cs u.toNat⟩ 0 = 0 from rfl]
          obtain ⟨⟨F4, hs4, d4⟩, hb4⟩ := One.next HB3.out.size D3.out hs' hf
          have HS4 := Lib.hid hs4
          have D4 := Lib.hid d4
          have HB4 := Lib.hid (HB3.out.trans hb4)
          clear hj1 hj2 hj3 hs' hf hs4 d4 hb4 HS3 D3 HB3
          go_wp2_with fail
          refine (commit_ok gs _ 1 F4 _ HS4.out (by omega) (fun k hk => (D4.out k hk).2) (by show (sums cs u.toNat).length + (rest.flatMap (·.2)).length ≤ _; have := HSL1.out; have := HSL3.out; omega) (by show rest.length ≤ _; omega)).mono ?_
          rintro e w5 ⟨j, hj1, hj2, hj3, rfl, hs', hf⟩
          have hj : j = 0 := by
            rcases Nat.eq_zero_or_pos j with h | h
            · exact h
            · have hl : 0 < rest.length := Nat.lt_of_lt_of_le h hj1
              have h5 := hj2 0 h hl
              have h6 := HNX.out _ (List.getElem?_eq_getElem hl)
              exact absurd h5 (by show ¬ rest[0].1 ≤ 1; omega)
          subst hj
          rw [commJ_zero] at hs'
          rw [show commN ⟨[], rest, (cs.length : Int), sums cs u.toNat⟩ 0 = 0 from rfl]
          obtain ⟨⟨F5, hs5, d5⟩, hb5⟩ := One.next HB4.out.size D4.out hs' hf
          have HS5 := Lib.hid hs5
          have D5 := Lib.hid d5
          have HB5 := Lib.hid (HB4.out.trans hb5)
          clear hj1 hj2 hj3 hs' hf hs5 d5 hb5 HS4 D4 HB4
          go_wp2_with fail
          refine (abort_any gs _ F5 _ HS5.out (by show 0 + (rest.flatMap (·.2)).length ≤ _; have := HSL3.out; omega) (by show rest.length ≤ _; omega)).mono ?_
          rintro e w6 ⟨rfl, hs6, hf6⟩
          have HS6 := Lib.hid hs6
          have HB6 := Lib.hid (HB5.out.trans (hf6.below HB5.out.size fun k hk => (D5.out k hk).1))
          clear hs6 hf6 HS5 D5 HB5
          go_wp2_with fail
          refine (written_any gs _ F5 _ HS6.out (by show (sums cs u.toNat).length ≤ _; have := HSL1.out; omega)).mono ?_
          rintro e w7 ⟨A1, c1, rfl, hsl, hb7⟩
          obtain ⟨r, hr⟩ : ∃ r, r = sums cs u.toNat := ⟨_, rfl⟩
          have hsl' : SlA recE (· < w7.heap.size) w7 A1 c1 r := by rw [hr]; exact hsl
          rw [show (abortS ⟨[], rest, (cs.length : Int), sums cs u.toNat⟩).written = r from hr.symm]
          have hrl : r.length = t := by rw [hr]; exact HSL1.out
          have hrn : ((r.length : Int) == (t : Int)) = true := by rw [beq_iff_eq]; omega
          have hsort : ∀ k (h : k + 1 < r.length), r[k].num ≤ r[k + 1].num := by
            intro k h
            have := (sums_sorted cs u.toNat).1
            rw [← hr] at this
            exact List.pairwise_iff_getElem.1 this k (k + 1) (by omega) h (by omega)
          have hle3 : r.length ≤ 1000 := by omega
          have HSL := Lib.hid hsl'
          have HSO := Lib.hid hsort
          have HB7 := Lib.hid (HB6.out.trans (hb7.mono HB6.out.size))
          clear hsl hsl' hr hrl hsort hb7 HS6 HB6 HSL1
          go_wp2_with fail
          have hrt : t = r.length := by have h0 := hrn; simp only [beq_iff_eq] at h0; omega
          subst hrt
          clear hrn
          go_loopw [23] (fun iv wr => ∃ k d : Nat, 1 ≤ k ∧ k ≤ r.length + 1 ∧ iv = .int .i64 k ∧ wr = w7.drewN d) (fun iv _ => r.length + 1 - (intOf iv).toNat)
          case atStart => exact ⟨1, 0, by omega, by omega, rfl, rfl⟩
          case round =>
            obtain ⟨k, d, hk1, hk, rfl, rfl⟩ := hrel
            by_cases hkn : k < r.length
            · obtain ⟨k', rfl⟩ : ∃ k', k = k' + 1 := ⟨k - 1, by omega⟩
              obtain ⟨b1, o1, rfl, _, y0, y1, y2, _⟩ := HSL.out.rec_ hkn
              obtain ⟨b2, o2, e2, _, z0, z1, z2, _⟩ := HSL.out.rec_ (k := k') (by omega)
              injection e2 with e2; injection e2 with e21 e22; subst e21; subst e22
              have hso := HSO.out k' hkn
              obtain ⟨x, hx⟩ : ∃ x, x = r[k' + 1].num := ⟨_, rfl⟩
              obtain ⟨y, hy⟩ : ∃ y, y = (r[k']'(by omega)).num := ⟨_, rfl⟩
              rw [← hx] at y1 hso
              rw [← hy] at z1 hso
              have hxy : decide (x < y) = false := by rw [decide_eq_false_iff_not]; omega
              have hdl : decide (k' + 1 < r.length) = true := decide_eq_true hkn
              have w1' : IntKind.i64.wrap (((k' + 1 : Nat) : Int) - 1) = (k' : Int) := by rw [IntWalk.i64_in _ (by omega)]; omega
              have w2' : IntKind.i64.wrap ((k' : Int) + 1 - 1) = (k' : Int) := by rw [IntWalk.i64_in _ (by omega)]; omega
              clear hx hy y0 y2 z0 z2
              go_wp2_with fail
              go_quiet (fail)
              go_wp2_with fail
              go_roundw
              case rel =>
                have hrelx : ∃ k d' : Nat, 1 ≤ k ∧ k ≤ r.length + 1 ∧ Value.int .i64 ((k' + 1 + 1 : Nat) : Int) = .int .i64 k ∧ w7.drewN (d + nq) = w7.drewN d' := ⟨k' + 1 + 1, d + nq, by omega, by omega, rfl, rfl⟩
                refine ⟨u4, .int .i64 ((k' + 1 + 1 : Nat) : Int), ?_⟩
                simp only [hrelx, true_and]
                simp
              case measure => simp [intOf]; omega
            · go_wp2_with fail
              go_ret
              exact ⟨rfl, bdrewN HB7.out d⟩
end Go.Proofs.Ytggihfllbfbbgaa
