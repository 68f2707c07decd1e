/-
  The contract of spread.Even. Condition: at most 400 things, from 1 to 16 workers; else its errors.
-/
import Derived.Test.YtggihfllbfbbgaaGroup
import Derived.Deep.RegionLaw
import Derived.Deep.OwnRows
namespace Go.Proofs.Ytggihfllbfbbgaa
open Go.RowKit
set_option linter.unusedVariables false

theorem info_str : (Try.prog.info? 9).map (fun i => (i.zero, i.size, i.bytes)) = some (some (.string ByteArray.empty), 1, 16) := by kernel_rfl
theorem info_strs : (Try.prog.info? 31).map (fun i => (i.zero, i.size, i.bytes)) = some (some (.slice none 0 0), 1, 24) := by kernel_rfl

theorem check_ok (n p : Int) (w : World) (h1 : 1 ≤ p) (h2 : p ≤ 16) (h3 : n ≤ 400) : Calls Try.prog 39 #[.int .i64 n, .int .i64 p] w fun e w' => e = .returned .nilIface ∧ w = w' := by
  go_enter Try.func39, Try.ntmps39
  go_wp2
  all_goals (go_ret; exact ⟨rfl, rfl⟩)
theorem check_bad (n p : Int) (w : World) (h : ¬ (1 ≤ p ∧ p ≤ 16 ∧ n ≤ 400)) : Calls Try.prog 39 #[.int .i64 n, .int .i64 p] w fun e w' => (∃ k : Int, e = .returned (.iface 46 (.int .i64 k))) ∧ w = w' := by
  by_cases h1 : 1 ≤ p
  · by_cases h2 : p ≤ 16
    · have h3 : 400 < n := by omega
      go_enter Try.func39, Try.ntmps39
      go_wp2
      all_goals (go_ret; exact ⟨⟨_, rfl⟩, rfl⟩)
    · go_enter Try.func39, Try.ntmps39
      go_wp2
      all_goals (go_ret; exact ⟨⟨_, rfl⟩, rfl⟩)
  · go_enter Try.func39, Try.ntmps39
    go_wp2
    all_goals (go_ret; exact ⟨⟨_, rfl⟩, rfl⟩)

/-- The first k things, spread in turn. -/
def spr {α : Type} (p : Nat) (l : List α) : Nat → List (List α)
  | 0 => List.replicate p []
  | k + 1 => match l[k]? with | none => spr p l k | some x => (spr p l k).modify (k % p) (· ++ [x])
theorem spr_length {α : Type} (p : Nat) (l : List α) (k : Nat) : (spr p l k).length = p := by
  induction k with
  | zero => simp [spr]
  | succ k ih => unfold spr; split <;> simp [ih]
theorem spr_mem {α : Type} (p : Nat) (l : List α) (k : Nat) : ∀ r ∈ spr p l k, ∀ x ∈ r, x ∈ l := by
  induction k with
  | zero => intro r hr x hx; simp [spr] at hr; rw [hr.2] at hx; cases hx
  | succ k ih =>
    unfold spr
    split
    · exact ih
    · rename_i x hx
      intro r hr y hy
      obtain ⟨i, hi⟩ := List.getElem?_of_mem hr
      rw [List.getElem?_modify] at hi
      cases hs : (spr p l k)[i]? with
      | none => rw [hs] at hi; simp at hi
      | some r0 =>
        rw [hs] at hi
        simp at hi
        split at hi
        · subst hi
          rcases List.mem_append.1 hy with hy | hy
          · exact ih r0 (List.mem_of_getElem? hs) y hy
          · simp at hy; subst hy; exact List.mem_of_getElem? hx
        · subst hi; exact ih r0 (List.mem_of_getElem? hs) y hy
theorem spr_succ {α : Type} (p : Nat) (l : List α) (k : Nat) (hk : k < l.length) (hp : 0 < p) :
    ∃ r, (spr p l k)[k % p]? = some r ∧ spr p l (k + 1) = (spr p l k).set (k % p) (r ++ [l[k]]) := by
  have h : k % p < (spr p l k).length := by rw [spr_length]; exact Nat.mod_lt _ hp
  refine ⟨(spr p l k)[k % p], List.getElem?_eq_getElem h, ?_⟩
  conv => lhs; unfold spr
  rw [List.getElem?_eq_getElem hk]
  apply List.ext_getElem?
  intro i
  rw [List.getElem?_modify, List.getElem?_set]
  by_cases hi : k % p = i
  · subst hi
    simp [h]
  · simp [hi]
theorem spr_rowlen {α : Type} (p : Nat) (l : List α) (k : Nat) : ∀ r ∈ spr p l k, r.length ≤ k := by
  induction k with
  | zero => intro r hr; simp [spr] at hr; rw [hr.2]; simp
  | succ k ih =>
    unfold spr
    split
    · intro r hr; have := ih r hr; omega
    · rename_i x hx
      intro r hr
      obtain ⟨i, hi⟩ := List.getElem?_of_mem hr
      rw [List.getElem?_modify] at hi
      cases hs : (spr p l k)[i]? with
      | none => rw [hs] at hi; simp at hi
      | some r0 =>
        have := ih r0 (List.mem_of_getElem? hs)
        rw [hs] at hi
        simp at hi
        split at hi
        · subst hi; simp; omega
        · subst hi; omega

set_option maxHeartbeats 1000000 in
set_option maxRecDepth 100000 in
theorem even_ok (A : Option Addr) (c p : Nat) (l : List ByteArray) (w : World) (h : SlA strE (· < w.heap.size) w A c l) (h1 : 1 ≤ p) (h2 : p ≤ 16) (h3 : l.length ≤ 400) :
    Calls Try.prog 17 #[.slice A l.length c, .int .i64 p] w fun e w' => ∃ A' c', e = .returned (.tuple #[.slice A' p c', .nilIface]) ∧ SlA (slE strE) (· < w'.heap.size) w' A' c' (spr p l l.length) ∧ Below w.heap.size w w' := by
  have H := Lib.hid h
  clear h
  have hmk : ∀ u : World, (Instr.makeSlice 32 (.int .i64 (p : Int)) (.int .i64 (p : Int))).run Try.prog u = .ok (.slice (some ⟨u.heap.size, 0, none⟩) p p) (u.alloc (.cells (madeCells #[.slice none 0 0] p) 31)) := fun u =>
    run_make_row' (P := Try.prog) 32 31 (.slice none 0 0) 24 Try.underlying32 info_strs rfl .i64 .i64 p (by omega) (by omega) u
  go_enter Try.func17, Try.ntmps17
  go_wp2_with fail
  refine (check_ok l.length p _ (by omega) (by omega) (by omega)).mono ?_; rintro e w' ⟨rfl, rfl⟩
  go_wp2_with fail
  clear hmk
  go_loopw [21] (fun i wr => ∃ (k : Nat) (vs : List Value), k ≤ l.length ∧ i = .int .i64 k ∧ Hid (Nest wr w.heap.size w.heap.size 31 9 1 vs ((spr p l k).map fun r => r.flatMap fun s => [Value.string s]) ((spr p l k).map (·.length))) ∧ Below w.heap.size w wr) (fun i _ => l.length - (intOf i).toNat)
  case atStart =>
    refine ⟨0, List.replicate p (.slice none 0 0), Nat.zero_le _, rfl, ?_, (Below.refl _ _).alloc (Nat.le_refl _) _⟩
    have := Nest.made w w.heap.size 31 9 1 p (Nat.le_refl _) (by decide)
    show Nest _ _ _ _ _ _ _ _ _
    simpa [spr] using this
  case round =>
    obtain ⟨k, vs, hk, rfl, HN, hbel⟩ := hrel
    by_cases hlt : k < l.length
    · obtain ⟨b, off, rfl, hb, hc, hsz⟩ := (H.out.keep (Same.below hbel)).str_ hlt
      obtain ⟨s, hs⟩ : ∃ s, s = l[k] := ⟨_, rfl⟩
      rw [← hs] at hc
      have HS := Lib.hid hs
      clear hs hsz
      obtain ⟨j, hj⟩ : ∃ j, j = k % p := ⟨_, rfl⟩
      have hjp : j < p := by rw [hj]; exact Nat.mod_lt _ (by omega)
      have hmod : (k : Int).tmod p = (j : Int) := by rw [hj, Int.tmod_eq_emod_of_nonneg (by omega)]; simp
      have hmod2 : (k : Int) % p = (j : Int) := by rw [hj]; simp
      have hp0 : ¬ p = 0 := by omega
      have HJ := Lib.hid hj
      clear hj
      have hlenv : vs.length = p := by rw [HN.out.len, List.length_map, spr_length]
      obtain ⟨v, hv⟩ : ∃ v, vs[j]? = some v := ⟨vs[j], List.getElem?_eq_getElem (by omega)⟩
      have hcv := HN.out.cell j
      rw [hv] at hcv
      have hfz := HN.out.frozen j
      obtain ⟨r, hr, hsucc⟩ := spr_succ p l k hlt (by omega)
      have hrl : r.length ≤ 400 := by have := spr_rowlen p l k r (List.mem_of_getElem? hr); omega
      have hown := HN.out.own j v (r.flatMap fun s => [Value.string s]) r.length hv (by rw [List.getElem?_map, HJ.out, hr]; rfl) (by rw [List.getElem?_map, HJ.out, hr]; rfl)
      have HO := Lib.hid hown
      have HV := Lib.hid hv
      have HR := Lib.hid hr
      have HSU := Lib.hid hsucc
      have hgl := HN.out.lt
      clear hown hv hr hlenv hsucc
      go_wp2_with fail
      go_region_law (refine step_push rfl (.tmp 35) (.tmp 37) 31 rfl w.heap.size 9 _ 1 16 Try.underlying31 info_str rfl (by decide) v r.length _ (by simp [Act.eval]) HO.out [.string s] (by simp [Act.eval]) rfl (by simp [Value.oneCell']) (by unfold maxLen; omega) (by omega) hbel.size hbel (Nat.le_refl _) ?_; intro v' w1 hown1 hg1 hbel1 hat1; obtain ⟨g', cap', rfl, _, _⟩ := hown1.form (by omega); obtain ⟨hc1, hf1⟩ := HN.out.after HV.out hg1 j; rw [HV.out] at hc1)
      all_goals
        clear hc1 hf1
        go_wp2_with fail
        go_roundw
        case rel =>
          refine ⟨k + 1, vs.set j (.slice (some ⟨g', 0, none⟩) (r.length + 1) cap'), by omega, by go_num, ?_, hbel1.setCell (Nat.le_refl _) _⟩
          have hp := (HN.out.drewN 0).push (w' := w1) HV.out hown1 hg1 (hat1.imp_right .inr)
          show Nest _ _ _ _ _ _ _ _ _
          rw [HSU.out, List.map_set, List.map_set, ← HJ.out, HS.out.symm, List.flatMap_append, List.length_append]
          exact hp
        case measure => simp [intOf]; omega
    · obtain rfl : k = l.length := by omega
      have hrow := HN.out.sl (E := strE) (ls := spr p l l.length) (cap := p) (fun s => [Value.string s]) (fun _ => rfl) (by decide) (fun r hr x hx F u => ⟨rfl, by
        obtain ⟨i, hi⟩ := List.getElem?_of_mem (spr_mem p l l.length r hr x hx)
        obtain ⟨_, _, _, _, _, _, _, h⟩ := H.out.2.2 i x hi
        exact h⟩) (by rw [spr_length]; omega) (by unfold maxLen; omega)
      have HR := Lib.hid hrow
      clear hrow
      go_wp2_with fail
      go_ret2
      exact ⟨_, _, rfl, HR.out, hbel⟩

set_option maxRecDepth 100000 in
theorem even_bad (A : Option Addr) (c n : Nat) (p : Int) (w : World) (hn : n ≤ 9223372036854775807) (h : ¬ (1 ≤ p ∧ p ≤ 16 ∧ n ≤ 400)) :
    Calls Try.prog 17 #[.slice A n c, .int .i64 p] w fun e w' => (∃ k : Int, e = .returned (.tuple #[.slice none 0 0, .iface 46 (.int .i64 k)])) ∧ w = w' := by
  have HN := Lib.hid hn
  clear hn
  go_enter Try.func17, Try.ntmps17
  go_wp2_with fail
  refine (check_bad n p _ (by omega)).mono ?_; rintro e w' ⟨⟨k, rfl⟩, rfl⟩
  go_wp2_with fail
  go_ret2
  exact ⟨⟨k, rfl⟩, rfl⟩

theorem spr_get {α : Type} (p : Nat) (l : List α) (hp : 0 < p) (n : Nat) (hn : n ≤ l.length) : ∀ i r, (spr p l n)[i]? = some r → ∀ k, r[k]? = if k * p + i < n then l[k * p + i]? else none := by
  induction n with
  | zero =>
    intro i r hr k
    unfold spr at hr
    rw [List.getElem?_replicate] at hr
    split at hr
    · injection hr with hr; subst hr; simp
    · cases hr
  | succ n ih =>
    intro i r hr k
    obtain ⟨r0, h0, hs⟩ := spr_succ p l n (by omega) hp
    rw [hs, List.getElem?_set] at hr
    have hlen : n % p < (spr p l n).length := by rw [spr_length]; exact Nat.mod_lt _ hp
    have hdm : n / p * p + n % p = n := Nat.div_add_mod' n p
    by_cases hi : n % p = i
    · rw [if_pos hi, if_pos hlen] at hr
      injection hr with hr
      subst hr
      rw [hi] at h0
      have key := ih (by omega) i r0 h0
      have hl0 : r0.length = n / p := by
        rcases Nat.lt_trichotomy r0.length (n / p) with h | h | h
        · have h1 := key r0.length
          rw [List.getElem?_eq_none (Nat.le_refl _)] at h1
          have hlt : r0.length * p + i < n := by
            have : (r0.length + 1) * p ≤ n / p * p := Nat.mul_le_mul_right _ h
            rw [Nat.succ_mul] at this
            omega
          rw [if_pos hlt, List.getElem?_eq_getElem (by omega)] at h1
          cases h1
        · exact h
        · have h1 := key (n / p)
          rw [List.getElem?_eq_getElem h, if_neg (by omega)] at h1
          cases h1
      by_cases hk : k < r0.length
      · rw [List.getElem?_append_left hk, key k]
        have : k * p + i < n := by
          have h2 := key k
          rw [List.getElem?_eq_getElem hk] at h2
          by_cases h3 : k * p + i < n
          · exact h3
          · rw [if_neg h3] at h2; cases h2
        rw [if_pos this, if_pos (by omega)]
      · rw [List.getElem?_append_right (by omega)]
        by_cases hk2 : k = r0.length
        · subst hk2
          have e : r0.length * p + i = n := by rw [hl0, ← hi]; exact hdm
          rw [if_pos (show r0.length * p + i < n + 1 by omega)]
          simp only [Nat.sub_self, e]
          rw [List.getElem?_eq_getElem (show n < l.length by omega)]
          rfl
        · rw [List.getElem?_eq_none (by simp; omega)]
          have : ¬ k * p + i < n + 1 := by
            have h4 : (r0.length + 1) * p ≤ k * p := Nat.mul_le_mul_right _ (by omega)
            rw [Nat.succ_mul, hl0] at h4
            omega
          rw [if_neg this]
    · rw [if_neg hi] at hr
      have key := ih (by omega) i r hr
      rw [key k]
      have hne : k * p + i ≠ n := by
        intro e
        have hip : i < p := by
          rcases Nat.lt_or_ge i (spr p l n).length with h | h
          · rw [spr_length] at h; exact h
          · rw [List.getElem?_eq_none h] at hr; cases hr
        apply hi
        rw [← e, Nat.mul_comm, Nat.mul_add_mod]
        exact Nat.mod_eq_of_lt hip
      by_cases h3 : k * p + i < n
      · rw [if_pos h3, if_pos (by omega)]
      · rw [if_neg h3, if_neg (by omega)]

/-- How long the rows are. -/
theorem spr_lt {α : Type} (p : Nat) (l : List α) (hp : 0 < p) {i : Nat} {r : List α} (hr : (spr p l l.length)[i]? = some r) (k : Nat) : k < r.length ↔ k * p + i < l.length := by
  have h := spr_get p l hp l.length (Nat.le_refl _) i r hr k
  by_cases h3 : k * p + i < l.length
  · rw [if_pos h3, List.getElem?_eq_getElem h3] at h
    refine ⟨fun _ => h3, fun _ => ?_⟩
    rcases Nat.lt_or_ge k r.length with h5 | h5
    · exact h5
    · rw [List.getElem?_eq_none h5] at h; cases h
  · rw [if_neg h3] at h
    refine ⟨fun h5 => ?_, fun h5 => absurd h5 h3⟩
    rw [List.getElem?_eq_getElem h5] at h; cases h
end Go.Proofs.Ytggihfllbfbbgaa
