/-
  Package keep, plain: the names of pictures: their length, their signs, which number stands in one. No condition: plain definitions and lemmas.
-/
import Derived.Test.YthanjafbgcljgaaGreatDoorDiskOps
import Derived.Lib.Atoi
import Derived.Lib.ItoaNum
import Derived.Lib.Strings
namespace Go.Proofs.YthanjafbgcljgaaGreatDoor
open Go.RowKit
set_option linter.unusedVariables false

def picHead : ByteArray := ⟨#[112, 105, 99, 45]⟩
def halfN : ByteArray := ⟨#[104, 97, 108, 102]⟩
def picN (id : Int) : ByteArray := ⟨(picHead.data.toList ++ Lib.itoa id).toArray⟩
def Good (id : Int) : Prop := 1 ≤ id ∧ id ≤ 1000000000
theorem picN_list (id : Int) : (picN id).data.toList = picHead.data.toList ++ Lib.itoa id := rfl
theorem itoa_nat {id : Int} (h : 0 ≤ id) : Lib.itoa id = Lib.decDigits id.toNat := by unfold Lib.itoa; rw [if_neg (by omega)]

theorem decFrom_app : ∀ (l : List UInt8) (acc n : Nat) (r : List UInt8), Lib.decFrom acc l = some n → Lib.decFrom acc (l ++ r) = Lib.decFrom n r
  | [], acc, n, r, h => by simp only [Lib.decFrom, Option.some.injEq] at h; subst h; rfl
  | a :: t, acc, n, r, h => by
    simp only [Lib.decFrom, List.cons_append] at h ⊢
    cases ha : Lib.digitVal a with
    | none => simp [ha] at h
    | some e => simp only [ha] at h ⊢; exact decFrom_app t _ n r h
theorem digit_of {d : Nat} (h : d < 10) : Lib.digitVal (UInt8.ofNat (48 + d)) = some d := by
  have : ∀ d : Fin 10, Lib.digitVal (UInt8.ofNat (48 + d.1)) = some d.1 := by decide +kernel
  exact this ⟨d, h⟩
theorem decFrom_digits (u : Nat) : Lib.decFrom 0 (Lib.decDigits u) = some u := by
  induction u using Nat.strongRecOn with
  | _ u ih =>
    by_cases h : u < 10
    · rw [Lib.decDigits_one h]
      have := digit_of h
      simp only [Lib.decFrom, this, Nat.zero_mul, Nat.zero_add]
    · rw [Lib.decDigits, dif_neg h, decFrom_app _ _ _ _ (ih (u / 10) (by omega))]
      simp only [Lib.decFrom, digit_of (show u % 10 < 10 by omega), Option.some.injEq]
      omega
theorem digits_ne (u : Nat) : Lib.decDigits u ≠ [] := fun e => by
  have := Lib.decDigits_length u
  have h2 := Lib.nDigits_pos u
  rw [e] at this; simp at this; omega
theorem digit_bytes (u : Nat) : ∀ b ∈ Lib.decDigits u, 48 ≤ b.toNat ∧ b.toNat ≤ 57 := fun b hb => by
  obtain ⟨k, hk⟩ := List.getElem?_of_mem hb
  obtain ⟨d, hd⟩ := Lib.digit_of_decFrom _ _ _ (decFrom_digits u) k b hk
  have := Lib.digitVal_eq hd
  exact ⟨this.1, this.2.1⟩
theorem atoi_itoa {id : Int} (h : 0 ≤ id) : Lib.atoi (Lib.itoa id) = some id := by
  rw [itoa_nat h]
  have h1 := decFrom_digits id.toNat
  have h2 := digit_bytes id.toNat
  cases hl : Lib.decDigits id.toNat with
  | nil => exact absurd hl (digits_ne _)
  | cons b r =>
    rw [hl] at h1 h2
    have hb := h2 b (List.mem_cons_self)
    have e1 : (b == 45) = false := beq_eq_false_iff_ne.2 fun e => by rw [e] at hb; simp at hb
    have e2 : (b == 43) = false := beq_eq_false_iff_ne.2 fun e => by rw [e] at hb; simp at hb
    simp only [Lib.atoi, e1, e2, Bool.false_eq_true, ↓reduceIte, Lib.decNat, List.isEmpty_cons, h1, Option.map_some, Option.some.injEq]
    omega
theorem itoa_len {id : Int} (h : Good id) : (Lib.itoa id).length ≤ 10 := by
  obtain ⟨h1, h2⟩ := h
  rw [itoa_nat (by omega), Lib.decDigits_length]
  by_cases h3 : Lib.nDigits id.toNat ≤ 10
  · exact h3
  · exfalso
    have h4 : ∀ u, Lib.nDigits u ≤ 1 ∨ 10 ^ (Lib.nDigits u - 1) ≤ u := by
      intro u
      induction u using Nat.strongRecOn with
      | _ u ih =>
        by_cases h : u < 10
        · left; rw [Lib.nDigits_small h]; omega
        · right
          rw [Lib.nDigits_big h]
          rcases ih (u / 10) (by omega) with h5 | h5
          · have := Lib.nDigits_pos (u / 10)
            have e : Lib.nDigits (u / 10) + 1 - 1 = 1 := by omega
            rw [e]; omega
          · have := Lib.nDigits_pos (u / 10)
            have e : Lib.nDigits (u / 10) + 1 - 1 = (Lib.nDigits (u / 10) - 1) + 1 := by omega
            rw [e, Nat.pow_succ]; omega
    rcases h4 id.toNat with h5 | h5
    · omega
    · have h6 : 10 ^ 10 ≤ 10 ^ (Lib.nDigits id.toNat - 1) := Nat.pow_le_pow_right (by omega) (by omega)
      omega
theorem picN_size {id : Int} (h : Good id) : (picN id).size ≤ 14 := by
  have h1 := itoa_len h
  have h2 : (picN id).size = (picHead.data.toList ++ Lib.itoa id).length := by rw [← picN_list]; simp
  rw [h2, List.length_append]
  have : picHead.data.toList.length = 4 := rfl
  omega
theorem picN_le {id : Int} (h : Good id) : (picN id).size ≤ maxLen := by have := picN_size h; unfold maxLen; omega
theorem picN_pos (id : Int) : 4 ≤ (picN id).size := by
  have h2 : (picN id).size = (picHead.data.toList ++ Lib.itoa id).length := by rw [← picN_list]; simp
  rw [h2, List.length_append]
  have : picHead.data.toList.length = 4 := rfl
  omega
theorem trim_all {l cs : List UInt8} (h : ∀ b ∈ l, cs.contains b = true) : Lib.trimS l cs = [] := by
  have e : Lib.trimRightS l cs = [] := by
    unfold Lib.trimRightS
    have : ∀ m : List UInt8, (∀ b ∈ m, cs.contains b = true) → m.dropWhile (cs.contains ·) = [] := by
      intro m
      induction m with
      | nil => intro _; rfl
      | cons x r ih =>
        intro hm
        rw [List.dropWhile_cons, if_pos (hm x (List.mem_cons_self))]
        exact ih fun b hb => hm b (List.mem_cons_of_mem _ hb)
    rw [this _ (fun b hb => h b (List.mem_reverse.1 hb))]; rfl
  unfold Lib.trimS
  rw [e]; rfl
theorem digit_in : ∀ b : Fin 256, 48 ≤ b.1 ∧ b.1 ≤ 57 → nameSet.contains (UInt8.ofNat b.1) = true := by decide +kernel
theorem digit_in' {b : UInt8} (h : 48 ≤ b.toNat ∧ b.toNat ≤ 57) : nameSet.contains b = true := by
  have := digit_in ⟨b.toNat, b.toNat_lt⟩ h
  simpa using this
theorem named_pic {id : Int} (h : Good id) : namedB (picN id) = true := by
  have h1 := picN_size h
  have h2 := picN_pos id
  have h3 : Lib.trimS (picN id).data.toList nameSet = [] := trim_all fun b hb => by
    rw [picN_list] at hb
    rcases List.mem_append.1 hb with hb | hb
    · have : ∀ b ∈ picHead.data.toList, nameSet.contains b = true := by decide +kernel
      exact this b hb
    · rw [itoa_nat (by have := h.1; omega)] at hb
      exact digit_in' (digit_bytes _ b hb)
  unfold namedB
  rw [h3]
  simp; omega
theorem named_half : namedB halfN = true := by decide +kernel
theorem half_le : halfN.size ≤ maxLen := by decide
theorem has_head (id : Int) : Lib.hasPrefix (picN id).data.toList picHead.data.toList = true := by
  rw [picN_list]; unfold Lib.hasPrefix
  rw [List.isPrefixOf_iff_prefix]; exact List.prefix_append _ _
theorem cut_head (id : Int) : Lib.trimPrefix (picN id).data.toList picHead.data.toList = Lib.itoa id := by
  unfold Lib.trimPrefix
  rw [has_head, if_pos rfl, picN_list]
  simp
theorem picN_inj {a b : Int} (ha : 0 ≤ a) (hb : 0 ≤ b) (h : picN a = picN b) : a = b := by
  have h1 : Lib.itoa a = Lib.itoa b := by rw [← cut_head a, ← cut_head b, h]
  have h2 := atoi_itoa ha
  rw [h1, atoi_itoa hb] at h2
  exact (Option.some.inj h2).symm
theorem pic_half (id : Int) : picN id ≠ halfN := fun e => by
  have h := has_head id
  rw [e] at h
  exact absurd h (by decide)
end Go.Proofs.YthanjafbgcljgaaGreatDoor
