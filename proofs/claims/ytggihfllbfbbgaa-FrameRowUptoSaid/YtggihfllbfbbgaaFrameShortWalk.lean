/-
  The walk of FrameShort: it returns true. Condition: the text takes no more bytes than the form's own reach.
-/
import Derived.Test.YtggihfllbfbbgaaFrame
namespace Go.Proofs.Ytggihfllbfbbgaa
open Go.RowKit
set_option linter.unusedVariables false

theorem vl_mono (f m m' : Nat) (h : m ≤ m') : (vl f m).length ≤ (vl f m').length := by
  induction f generalizing m m' with
  | zero => simp [vl]
  | succ f ih =>
    unfold vl
    by_cases h1 : m < 128
    · rw [if_pos h1]; split <;> simp
    · rw [if_neg h1, if_neg (by omega)]
      simp only [List.length_cons]
      have := ih (m / 128) (m' / 128) (Nat.div_le_div_right h)
      omega
theorem numB_mono (a b : Int) (h : zz a ≤ zz b) : (numB a).length ≤ (numB b).length := by
  rw [numB_length, numB_length]; exact vl_mono 9 _ _ h
theorem numB_one (a : Int) (h : -64 ≤ a) (h' : a < 64) : (numB a).length = 1 := by
  rw [numB_length]
  have : zz a < 128 := by unfold zz; split <;> omega
  show (vl 9 (zz a)).length = 1
  unfold vl
  rw [if_pos this]; rfl
theorem numB_pos (a : Int) : 1 ≤ (numB a).length := by
  have := numB_mono 0 a (by unfold zz; simp)
  rw [numB_one 0 (by omega) (by omega)] at this
  exact this
theorem numB_64 : numB (-64) = [127] := by decide +kernel
theorem slice_form {w : World} {B : Nat} {e : TypeId} {v : Value} {n : Nat} {xs : List Value} (h : w.ownsRow B e 1 v n xs) (hn : 1 ≤ n) : ∃ g cap, v = .slice (some ⟨g, 0, none⟩) n cap ∧ B ≤ g ∧ g < w.heap.size ∧ n ≤ cap := by
  obtain ⟨g, cap, hv, hb, hl⟩ := h.form (by omega)
  rcases h.2 with ⟨_, h0⟩ | ⟨g', cap', cur, hv', _, _, hc, _⟩
  · omega
  · rw [hv] at hv'; injection hv' with e1 e2 e3
    exact ⟨g, cap, hv, hb, hl, by omega⟩

set_option maxHeartbeats 1600000 in
set_option maxRecDepth 100000 in
theorem frameShort_walk0 (a b : Int) (s : ByteArray) (w : World) (ha : -9223372036854775808 ≤ a ∧ a ≤ 9223372036854775807) (hb : -9223372036854775808 ≤ b ∧ b ≤ 9223372036854775807) (hs : s.size ≤ 140737488351232) :
    Calls Try.prog 4 #[.int .i64 a, .int .i64 b, .string s] w fun e w' => e = .returned (.bool true) ∧ Below w.heap.size w w' := by
  have HA := Lib.hid ha
  have HB := Lib.hid hb
  have HS := Lib.hid hs
  clear ha hb hs
  go_enter Try.func4, Try.ntmps4
  go_wp2_with fail
  refine (num_ok (-64) _ (by omega) (by omega)).mono ?_; rintro e w1 ⟨v1, rfl, hown1, hbel1⟩
  rw [numB_64] at hown1
  obtain ⟨g1, cap1, rfl, hg1, hlt1, hc1⟩ := slice_form hown1 (by simp)
  have c1 : w1.cell? ⟨g1, 0, none⟩ = some (.int .u8 127) := hown1.cellAt 0 (by simp)
  have e1 : (([127] : List UInt8).length) = 1 := rfl
  rw [e1]
  go_wp2_with fail
  refine (num_ok a _ HA.out.1 HA.out.2).mono ?_; rintro e w2 ⟨v2, rfl, hown2, hbel2⟩
  obtain ⟨g2, cap2, rfl, hg2, hlt2, hc2⟩ := slice_form hown2 (numB_pos a)
  have hla := numB_len a
  obtain ⟨la, hla'⟩ : ∃ n, n = (numB a).length := ⟨_, rfl⟩
  rw [← hla'] at hla ⊢
  have HLA := Lib.hid hla'
  clear hla' hown2 hc2
  go_wp2_with fail
  refine (num_ok b _ HB.out.1 HB.out.2).mono ?_; rintro e w3 ⟨v3, rfl, hown3, hbel3⟩
  obtain ⟨g3, cap3, rfl, hg3, hlt3, hc3⟩ := slice_form hown3 (numB_pos b)
  have hlb := numB_len b
  obtain ⟨lb, hlb'⟩ : ∃ n, n = (numB b).length := ⟨_, rfl⟩
  rw [← hlb'] at hlb ⊢
  have HLB := Lib.hid hlb'
  clear hlb' hown3 hc3 hown1 hc1
  go_wp2_with fail
  refine (text_any s _ HS.out).mono ?_; rintro e w4 ⟨v4, rfl, hown4, hbel4⟩
  have hlt : (textB s).length = (numB s.size).length + s.size := by
    unfold textB; rw [List.length_append, Array.length_toList]; rfl
  obtain ⟨g4, cap4, rfl, hg4, hlt4, hc4⟩ := slice_form hown4 (by rw [hlt]; have := numB_pos s.size; omega)
  rw [hlt] at hown4 hc4 ⊢
  have hk1 := numB_pos s.size
  have hk10 := numB_len s.size
  obtain ⟨k, hk⟩ : ∃ n, n = (numB s.size).length := ⟨_, rfl⟩
  rw [← hk] at hown4 hk1 hk10 hc4 ⊢
  have hcv : (convert 27 9 (.slice (some ⟨g4, k, none⟩) s.size (cap4 - k))).run Try.prog w4 = .ok (.string s) w4 := by
    obtain ⟨hn, A, c, hv, hsl⟩ := own_sl1 (E := bytE) (l := textB s) (fun b => Value.int .u8 (b.toNat : Int)) rfl (fun _ _ _ => rfl) hown4
    injection hv with e1 e2 e3
    subst e1; subst e3
    have hcut := hsl.cut (k := k) (by omega)
    have hd : (textB s).drop k = s.data.toList := by
      unfold textB; rw [hk]; exact List.drop_left
    rw [hd] at hcut
    have := conv_string (P := Try.prog) (src := 27) (dst := 9) hcut Try.underlying27 Try.underlying5 Try.underlying9
    rw [string_eq] at this
    have e : s.data.toList.length = s.size := by rw [Array.length_toList]; rfl
    rw [e] at this
    simpa [bytE] using this
  have hcv0 : cap4 = k → (convert 27 9 (.slice (some ⟨g4, 0, none⟩) s.size (cap4 - k))).run Try.prog w4 = .ok (.string s) w4 := by
    intro h
    have h0 : s.size = 0 := by omega
    have hl : s.data.toList = [] := List.eq_nil_of_length_eq_zero (by rw [Array.length_toList]; exact h0)
    have := conv_string (P := Try.prog) (src := 27) (dst := 9) (SlA.nil bytE (fun _ => True) w4 (some ⟨g4, 0, none⟩) (cap4 - k) (by unfold maxLen; omega)) Try.underlying27 Try.underlying5 Try.underlying9
    rw [h0]
    rw [← hl, string_eq] at this
    rw [hl] at this
    exact this
  have HK := Lib.hid hk
  clear hk hown4 hlt
  have hbel : Below w.heap.size w w4 := hbel1.trans ((hbel2.mono hbel1.size).trans ((hbel3.mono (Nat.le_trans hbel1.size hbel2.size)).trans (hbel4.mono (Nat.le_trans (Nat.le_trans hbel1.size hbel2.size) hbel3.size))))
  have HB4 := Lib.hid hbel
  clear hbel hbel1 hbel2 hbel3 hbel4 e1
  have hmono : ((0 ≤ a ∧ a ≤ b) ∨ (a < 0 ∧ b ≤ a)) → la ≤ lb := by
    intro h
    rw [HLA.out, HLB.out]
    apply numB_mono
    unfold zz
    split <;> split <;> omega
  have hone : -64 ≤ a → a < 64 → la = 1 := fun h h' => by rw [HLA.out]; exact numB_one a h h'
  have HM := Lib.hid hmono
  have HO := Lib.hid hone
  clear hmono hone
  have fin : ∀ {x : Bool}, (x = true) → Ending.returned (.bool x) = .returned (.bool true) ∧ Below w.heap.size w w4 := fun h => ⟨by rw [h], HB4.out⟩
  by_cases hck : cap4 = k
  · subst hck
    clear hcv
    have hcv := hcv0 rfl
    clear hcv0
    rw [Nat.sub_self, show s.size = 0 by omega] at hcv
    by_cases h64 : -64 ≤ a ∧ a < 64
    · obtain ⟨h1, h2⟩ := h64
      have hla1 := HO.out h1 h2
      subst hla1
      go_wp2_with fail
      all_goals (go_ret; first | exact fin rfl | exact fin (by simp; have := HM.out (by omega); omega))
    · go_wp2_with fail
      all_goals (go_ret; first | exact fin rfl | exact fin (by simp; have := HM.out (by omega); omega))
  · clear hcv0
    by_cases h64 : -64 ≤ a ∧ a < 64
    · obtain ⟨h1, h2⟩ := h64
      have hla1 := HO.out h1 h2
      subst hla1
      go_wp2_with fail
      all_goals (go_ret; first | exact fin rfl | exact fin (by simp; have := HM.out (by omega); omega))
    · go_wp2_with fail
      all_goals (go_ret; first | exact fin rfl | exact fin (by simp; have := HM.out (by omega); omega))
theorem frameShort_walk (a b : Int) (s : ByteArray) (w : World) (ha : (Lit.int .i64 a).wf = true) (hb : (Lit.int .i64 b).wf = true) (hm : s.size ≤ maxLen) (hs : s.size ≤ 140737488351232) :
    Calls Try.prog 4 #[.int .i64 a, .int .i64 b, .string s] w fun e w' => e = .returned (.bool true) ∧ Below w.heap.size w w' :=
  frameShort_walk0 a b s w (bounds_i64 ha) (bounds_i64 hb) hs
end Go.Proofs.Ytggihfllbfbbgaa
