/-
  Package audit: the contracts of Check, both, count, and of Less at right lines. Conditions: where the lines lie.
-/
import Derived.Test.YthpgkcfkpglkdaaAudP
import Derived.Test.YthpgkcfkpglkdaaHeap
import Derived.Deep.CutRange
import Derived.BigQuiet
namespace Go.Proofs.Ythpgkcfkpglkdaa
open Go.RowKit
set_option linter.unusedVariables false

def errA (k : Int) : Value := .iface 38 (.int .i64 k)
def Bad (e : Ending) : Prop := ∃ k : Int, e = .returned (errA k)
/-- Of the first i lines all is right. -/
def AOkN (l : List Lin) (i : Nat) : Prop := AOk (l.take i)
theorem AOkN.next {l : List Lin} {i : Nat} (h : AOkN l i) (hi : i < l.length) (hl : l.length ≤ 400) (hn : 1 ≤ l[i].nums.length ∧ l[i].nums.length ≤ 400) (hk : ∀ (h0 : 0 < i), kLess (l[i - 1]'(by omega)).key l[i].key) : AOkN l (i + 1) := by
  have ht : l.take (i + 1) = l.take i ++ [l[i]] := List.take_succ_eq_append_getElem hi
  refine ⟨by rw [List.length_take]; omega, fun x hx => ?_, ?_⟩
  · rw [ht] at hx
    rcases List.mem_append.1 hx with hx | hx
    · exact h.nums x hx
    · rw [List.mem_singleton.1 hx]; exact hn
  · rw [ht, List.map_append, List.pairwise_append]
    refine ⟨h.keys, by simp, fun a ha b hb => ?_⟩
    simp at hb
    subst hb
    obtain ⟨x, hx, rfl⟩ := List.mem_map.1 ha
    obtain ⟨j, hj, rfl⟩ := List.mem_iff_getElem.1 hx
    rw [List.length_take] at hj
    have hi0 : 0 < i := by omega
    have h1 := hk hi0
    rw [List.getElem_take]
    rcases Nat.lt_or_ge j (i - 1) with h2 | h2
    · have h3 := h.at_ (i := j) (j := i - 1) (by rw [List.length_take]; omega) h2
      rw [List.getElem_take, List.getElem_take] at h3
      exact kLess_trans h3 h1
    · have : j = i - 1 := by omega
      subst this
      exact h1
set_option maxRecDepth 100000 in
set_option maxHeartbeats 2000000 in
theorem acheck_ok (F : Nat → Prop) (A : Option Addr) (c : Nat) (l : List Lin) (w : World) (hl : SlA linE F w A c l) (hF : ∀ k, F k → k < w.heap.size) :
    Calls Try.prog 5 #[.slice A l.length c] w fun e w' => ((e = .returned .nilIface ∧ AOk l) ∨ (Bad e ∧ ¬ AOk l)) ∧ Below w.heap.size w w' := by
  have HL := Lib.hid hl
  have HF := Lib.hid hF
  have hle := hl.le
  clear hl hF
  by_cases h400 : 400 < l.length
  · have d1 : decide (400 < l.length) = true := decide_eq_true h400
    have HN : Hid (¬ AOk l) := fun h => by have := h.len; omega
    go_enter Try.func5, Try.ntmps5
    go_wp2_with fail
    go_ret
    exact ⟨.inr ⟨⟨4, rfl⟩, HN.out⟩, Below.refl _ _⟩
  · have d1 : decide (400 < l.length) = false := decide_eq_false h400
    go_enter Try.func5, Try.ntmps5
    go_wp2_with fail
    go_loopw [11] (fun iv wr => ∃ i : Nat, i ≤ l.length ∧ iv = .int .i64 i ∧ Hid (AOkN l i) ∧ Hid (Below w.heap.size w wr)) (fun iv _ => l.length - (intOf iv).toNat)
    case atStart => exact ⟨0, Nat.zero_le _, rfl, AOk.nil, Below.refl _ _⟩
    case round =>
      obtain ⟨i, hi, rfl, HK, HB⟩ := hrel
      by_cases hlt : i < l.length
      · have hlr := HL.out.keep (w' := wr) fun k hk => HB.out.block k (HF.out k hk)
        obtain ⟨b, off, A2, c2, rfl, hFb, x0, x1, _, hx⟩ := hlr.lin_ hlt
        have hbl : b < wr.heap.size := Nat.lt_of_lt_of_le (HF.out b hFb) HB.out.size
        have hnl := hx.le
        have HNX := Lib.hid (fun a b => HK.out.next hlt (by omega) a b)
        have HBN : Hid (AOk l → (1 ≤ l[i].nums.length ∧ l[i].nums.length ≤ 400) ∧ ∀ h0 : 0 < i, kLess (l[i - 1]'(by omega)).key l[i].key) := fun h => ⟨h.nums _ (List.getElem_mem hlt), fun h0 => h.at_ hlt (by omega)⟩
        have hprev : ∀ h0 : 0 < i, ∃ kp, kp = (l[i - 1]'(by omega)).key ∧ wr.cell? ⟨b, off + (i - 1) * 2, none⟩ = some (.string kp) := fun h0 => by
          obtain ⟨b', off', A3, c3, e, _, y0, _⟩ := hlr.lin_ (k := i - 1) (by omega)
          injection e with e; injection e with e1 e2; subst e1; subst e2
          exact ⟨_, rfl, y0⟩
        have HPREV := Lib.hid hprev
        have hcap := hlr.1
        clear hx hlr HK hprev
        obtain ⟨key, hkey⟩ : ∃ key, key = l[i].key := ⟨_, rfl⟩
        obtain ⟨n, hn⟩ : ∃ n, n = l[i].nums.length := ⟨_, rfl⟩
        rw [← hn] at x1 hnl HNX HBN
        rw [← hkey] at x0 HNX HBN
        clear hkey hn
        have HB1 : Hid (∀ o : Obj, Below w.heap.size w (wr.alloc o)) := fun o => HB.out.alloc HB.out.size _
        obtain ⟨W1, hW1⟩ : ∃ W1, W1 = wr.alloc (.cells #[.string key, .slice A2 n c2] 29) := ⟨_, rfl⟩
        have HBW : Hid (Below w.heap.size w W1) := by rw [hW1]; exact HB1.out _
        have hxb : W1.heap[wr.heap.size]? = some (.cells #[.string key, .slice A2 n c2] 29 (0, 0)) := by rw [hW1]; exact heap_alloc_new _ _
        have y0 : W1.cell? ⟨wr.heap.size, 0, none⟩ = some (.string key) := (cell_of_row W1 _ 0 _ _ _ hxb).trans rfl
        have y1 : W1.cell? ⟨wr.heap.size, 1, none⟩ = some (.slice A2 n c2) := (cell_of_row W1 _ 1 _ _ _ hxb).trans rfl
        have HOLD : Hid (∀ p : Addr, p.block < wr.heap.size → W1.cell? p = wr.cell? p) := fun p hp => by rw [hW1]; exact World.cell?_alloc_old _ _ _ (Nat.ne_of_lt hp)
        go_upto_region 6 with (fail)
        rw [← hW1]
        clear hW1 x0 x1 HB HB1 hxb
        generalize wr.heap.size = xb at y0 y1 hbl HOLD ⊢
        by_cases hn4 : 400 < n
        · have d4 : decide (400 < n) = true := decide_eq_true hn4
          have HN : Hid (¬ AOk l) := fun h => by have := (HBN.out h).1.2; omega
          go_wp2_with fail
          go_ret
          exact ⟨.inr ⟨⟨4, rfl⟩, HN.out⟩, HBW.out⟩
        · have d4 : decide (400 < n) = false := decide_eq_false hn4
          go_upto_region 8 with (fail)
          go_cut [22] from 12 to 43 (fun bv wx => (∃ bt : Bool, bv = .bool bt ∧ Hid (bt = true → AOk l → False) ∧ Hid (bt = false → ∀ h0 : 0 < i, kLess (l[i - 1]'(by omega)).key key)) ∧ ∃ q, wx = W1.drewN q)
          case first =>
            by_cases hi0 : 0 < i
            · obtain ⟨kp, hkp, hcp⟩ := HPREV.out hi0
              obtain ⟨i', rfl⟩ : ∃ i', i = i' + 1 := ⟨i - 1, by omega⟩
              have hcp2 := (HOLD.out ⟨b, off + i' * 2, none⟩ hbl).trans hcp
              have e1 : ((i' + 1 : Nat) : Int) - 1 = (i' : Int) := by omega
              have d0 : decide (0 < i' + 1) = true := decide_eq_true (by omega)
              have hi2 : i' < l.length := by omega
              have HKP := Lib.hid hkp
              have HTR : Hid (Op.bytesLess kp.toList key.toList = decide (kLess kp key)) := kLess_bytes _ _
              clear hkp hcp
              by_cases hb : kLess kp key
              · have hb1 : Op.bytesLess kp.toList key.toList = true := by rw [HTR.out]; exact decide_eq_true hb
                have HX := Lib.hid hb
                clear hb
                go_quiet (fail)
                go_wp2_with fail
                go_meet
                case rel => exact ⟨⟨false, rfl, (fun e => by cases e), fun _ _ => by rw [HKP.out] at HX; exact HX.out⟩, _, by first | rfl | exact World.drewN_drewN _ _ _⟩
              · have hb1 : Op.bytesLess kp.toList key.toList = false := by rw [HTR.out]; exact decide_eq_false hb
                have HX : Hid (AOk l → False) := fun h => hb (by rw [HKP.out]; exact (HBN.out h).2 (by omega))
                clear hb
                go_quiet (fail)
                go_wp2_with fail
                go_meet
                case rel => exact ⟨⟨true, rfl, (fun _ => HX.out), fun e => by cases e⟩, _, by first | rfl | exact World.drewN_drewN _ _ _⟩
            · have hi0' : i = 0 := by omega
              subst hi0'
              have d0 : decide (0 < 0) = false := rfl
              go_quiet (fail)
              go_wp2_with fail
              go_meet
              case rel => exact ⟨⟨false, rfl, (fun e => by cases e), fun _ h => absurd h (Nat.lt_irrefl _)⟩, _, by first | rfl | exact World.drewN_drewN _ _ _⟩
          case rest =>
            obtain ⟨⟨bt, rfl, HT, HFL⟩, q, rfl⟩ := hcut
            have HBQ : Hid (Below w.heap.size w (W1.drewN q)) := bdrewN HBW.out q
            cases bt with
            | true =>
              have HN : Hid (¬ AOk l) := HT.out rfl
              go_wp2_with fail
              go_ret
              exact ⟨.inr ⟨⟨5, rfl⟩, HN.out⟩, HBQ.out⟩
            | false =>
              by_cases hn0 : n = 0
              · have d5 : decide (n = 0) = true := decide_eq_true hn0
                have HN : Hid (¬ AOk l) := fun h => by have := (HBN.out h).1.1; omega
                subst hn0
                go_wp2_with fail
                go_ret
                exact ⟨.inr ⟨⟨3, rfl⟩, HN.out⟩, HBQ.out⟩
              · have d5 : ((n : Int) == 0) = false := by simp; omega
                have d6 : decide (n = 0) = false := decide_eq_false hn0
                have HK2 : Hid (AOkN l (i + 1)) := HNX.out ⟨by omega, by omega⟩ (HFL.out rfl)
                clear HNX HBN HPREV HOLD
                go_wp2_with fail
                go_roundw
                case rel => exact ⟨i + 1, by omega, by go_num, HK2, HBQ⟩
                case measure => simp [intOf]; omega
      · have di : decide (i < l.length) = false := decide_eq_false hlt
        have HK2 : Hid (AOk l) := by
          have h := HK.out
          unfold AOkN at h
          rw [List.take_of_length_le (by omega)] at h
          exact h
        clear HK hlt
        go_wp2_with fail
        go_ret
        exact ⟨.inl ⟨rfl, HK2.out⟩, HB.out⟩
set_option maxRecDepth 100000 in
theorem aboth_ok (F G : Nat → Prop) (A B : Option Addr) (c d : Nat) (l m : List Lin) (w : World) (hl : SlA linE F w A c l) (hF : ∀ k, F k → k < w.heap.size) (hm : SlA linE G w B d m) (hG : ∀ k, G k → k < w.heap.size) (ha : AOk l) (hb : AOk m) :
    Calls Try.prog 9 #[.slice A l.length c, .slice B m.length d] w fun e w' => e = .returned .nilIface ∧ Below w.heap.size w w' := by
  have HC := Lib.hid (acheck_ok F A c l w hl hF)
  have HM := Lib.hid hm
  have HG := Lib.hid hG
  clear hl hF hm hG
  go_enter Try.func9, Try.ntmps9
  go_wp2_with fail
  refine HC.out.mono ?_
  rintro e w1 ⟨h1, b1⟩
  obtain ⟨rfl, _⟩ := h1.resolve_right fun h => h.2 ha
  have HC2 := Lib.hid (acheck_ok G B d m w1 (HM.out.keep fun k hk => b1.block k (HG.out k hk)) (fun k hk => Nat.lt_of_lt_of_le (HG.out k hk) b1.size))
  have B1 := Lib.hid b1
  clear b1 h1 HC
  go_wp2_with fail
  refine HC2.out.mono ?_
  rintro e w2 ⟨h2, b2⟩
  obtain ⟨rfl, _⟩ := h2.resolve_right fun h => h.2 hb
  have B2 := Lib.hid (B1.out.trans (b2.mono B1.out.size))
  clear b2 h2 HC2
  go_wp2_with fail
  go_ret
  exact ⟨rfl, B2.out⟩
set_option maxRecDepth 100000 in
theorem acount_ok (F : Nat → Prop) (A : Option Addr) (c : Nat) (l : List Lin) (w : World) (hl : SlA linE F w A c l) (hF : ∀ k, F k → k < w.heap.size) (ha : AOk l) :
    Calls Try.prog 11 #[.slice A l.length c] w fun e w' => e = .returned (.int .i64 (cntL l : Nat)) ∧ Below w.heap.size w w' := by
  have HL := Lib.hid hl
  have HF := Lib.hid hF
  have HA := Lib.hid ha
  have hle := hl.le
  have h400 := ha.len
  clear hl hF ha
  go_enter Try.func11, Try.ntmps11
  go_wp2_with fail
  go_loopw [3, 8] (fun nv iv wr => ∃ i n : Nat, i ≤ l.length ∧ iv = .int .i64 i ∧ nv = .int .i64 n ∧ Hid (n = cntL (l.take i)) ∧ n ≤ 400 * i ∧ Hid (Below w.heap.size w wr)) (fun _ iv _ => l.length - (intOf iv).toNat)
  case atStart => exact ⟨0, 0, Nat.zero_le _, rfl, rfl, rfl, Nat.le_refl _, Below.refl _ _⟩
  case round =>
    obtain ⟨i, n, hi, rfl, rfl, HN, hn, HB⟩ := hrel
    by_cases hlt : i < l.length
    · obtain ⟨b, off, A2, c2, rfl, hFb, x0, x1, _, hx⟩ := (HL.out.keep (w' := wr) fun k hk => HB.out.block k (HF.out k hk)).lin_ hlt
      have hbl : b < wr.heap.size := Nat.lt_of_lt_of_le (HF.out b hFb) HB.out.size
      have hnl := (HA.out.nums _ (List.getElem_mem hlt)).2
      have HNX := Lib.hid (cntL_take hlt)
      have HB1 : Hid (∀ o : Obj, Below w.heap.size w (wr.alloc o)) := fun o => HB.out.alloc HB.out.size _
      clear hx
      obtain ⟨m, hm⟩ : ∃ m, m = l[i].nums.length := ⟨_, rfl⟩
      rw [← hm] at x1 hnl HNX
      generalize l[i].key = key at x0
      clear hm
      go_wp2_with fail
      go_roundw
      case rel => exact ⟨i + 1, n + m, by omega, by go_num, by go_num, (by show _ = _; rw [HNX.out, HN.out]), by omega, HB1.out _⟩
      case measure => simp [intOf]; omega
    · have di : decide (i < l.length) = false := decide_eq_false hlt
      have HN2 : Hid (n = cntL l) := by
        have h := HN.out
        rw [List.take_of_length_le (by omega)] at h; exact h
      clear hlt HN
      go_wp2_with fail
      go_ret
      exact ⟨by rw [← HN2.out]; rfl, HB.out⟩
set_option maxRecDepth 100000 in
theorem aless_ok (F G : Nat → Prop) (A B : Option Addr) (c d : Nat) (l m : List Lin) (w : World) (hl : SlA linE F w A c l) (hF : ∀ k, F k → k < w.heap.size) (hm : SlA linE G w B d m) (hG : ∀ k, G k → k < w.heap.size) (ha : AOk l) (hb : AOk m) (hp : pfx m l = true) {k : Nat} (hk : cntL l = cntL m + k) :
    Calls Try.prog 4 #[.slice A l.length c, .slice B m.length d] w fun e w' => e = .returned (.tuple #[.int .i64 (k : Nat), .nilIface]) ∧ Below w.heap.size w w' := by
  have HC := Lib.hid (aboth_ok F G A B c d l m w hl hF hm hG ha hb)
  have HL : Hid (∀ W, Below w.heap.size w W → SlA linE (· < W.heap.size) W A c l) := fun W h => (hl.keep fun k hk => h.block k (hF k hk)).more fun k hk => Nat.lt_of_lt_of_le (hF k hk) h.size
  have HM : Hid (∀ W, Below w.heap.size w W → SlA linE (· < W.heap.size) W B d m) := fun W h => (hm.keep fun k hk => h.block k (hG k hk)).more fun k hk => Nat.lt_of_lt_of_le (hG k hk) h.size
  have hcl := cntL_le ha l.length
  rw [List.take_length] at hcl
  have hl4 := ha.len
  have HA := Lib.hid ha
  have HBB := Lib.hid hb
  have HP := Lib.hid hp
  clear hl hF hm hG ha hb hp
  go_enter Try.func4, Try.ntmps4
  go_wp2_with fail
  refine HC.out.mono ?_
  rintro e w1 ⟨rfl, b1⟩
  have B1 := Lib.hid b1
  have HPX := Lib.hid (denPrefix_any B A d c m l w1 (HM.out w1 b1) (HL.out w1 b1))
  rw [HP.out] at HPX
  clear b1 HC
  go_wp2_with fail
  refine HPX.out.mono ?_
  rintro e w2 ⟨rfl, b2⟩
  have B2 := Lib.hid (B1.out.trans (b2.mono B1.out.size))
  have HC1 := Lib.hid (acount_ok _ A c l w2 (HL.out w2 B2.out) (fun _ h => h) HA.out)
  clear b2 HPX B1
  go_wp2_with fail
  refine HC1.out.mono ?_
  rintro e w3 ⟨rfl, b3⟩
  have B3 := Lib.hid (B2.out.trans (b3.mono B2.out.size))
  have HC2 := Lib.hid (acount_ok _ B d m w3 (HM.out w3 B3.out) (fun _ h => h) HBB.out)
  obtain ⟨cl, hcle⟩ : ∃ cl, cl = cntL l := ⟨_, rfl⟩
  obtain ⟨cm, hcme⟩ : ∃ cm, cm = cntL m := ⟨_, rfl⟩
  rw [← hcle] at hcl hk ⊢
  rw [← hcme] at hk HC2
  have HK := Lib.hid hk
  clear b3 HC1 B2 hcle hcme hk
  go_wp2_with fail
  refine HC2.out.mono ?_
  rintro e w4 ⟨rfl, b4⟩
  have B4 := Lib.hid (B3.out.trans (b4.mono B3.out.size))
  have e4 : ((cl : Nat) : Int) - ((cm : Nat) : Int) = (k : Int) := by have := HK.out; omega
  clear b4 HC2 B3
  go_wp2_with fail
  go_ret2
  exact ⟨rfl, B4.out⟩
end Go.Proofs.Ythpgkcfkpglkdaa
