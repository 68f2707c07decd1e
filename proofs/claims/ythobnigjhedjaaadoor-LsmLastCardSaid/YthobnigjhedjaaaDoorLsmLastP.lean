/-
  Plain part of LsmLast: what was put last of a key. No condition: plain definitions and lemmas.
-/
import Derived.Test.YthobnigjhedjaaaDoorLsmP
namespace Go.Proofs.YthobnigjhedjaaaDoor
set_option linter.unusedVariables false

/-- What was put last of key k, of the first i. -/
def lastV (ks vs : List ByteArray) : Nat → ByteArray → Option Ent
  | 0, _ => none
  | i + 1, k => if ks[i]? = some k then (vs[i]?).map (fun v => ⟨k, v, false⟩) else lastV ks vs i k
theorem lastV_step {ks vs : List ByteArray} {i : Nat} (h1 : i < ks.length) (h2 : i < vs.length) (k : ByteArray) : lastV ks vs (i + 1) k = if k = ks[i] then some ⟨ks[i], vs[i], false⟩ else lastV ks vs i k := by
  simp only [lastV, List.getElem?_eq_getElem h1, List.getElem?_eq_getElem h2, Option.map_some, Option.some.injEq]
  by_cases e : k = ks[i]
  · subst e; simp
  · rw [if_neg e, if_neg (fun h => e h.symm)]
/-- The last place of a key. -/
def LastAt (ks : List ByteArray) (i m l : Nat) (hi : i < ks.length) : Prop := i ≤ l ∧ l < m ∧ ks[l]? = some ks[i] ∧ ∀ j, l < j → j < m → ks[j]? ≠ some ks[i]
theorem LastAt.start {ks : List ByteArray} {i : Nat} (hi : i < ks.length) : LastAt ks i (i + 1) i hi := ⟨Nat.le_refl _, by omega, List.getElem?_eq_getElem hi, fun j h1 h2 => by omega⟩
theorem LastAt.yes {ks : List ByteArray} {i m l : Nat} {hi : i < ks.length} (h : LastAt ks i m l hi) (hm : m < ks.length) (e : ks[m] = ks[i]) : LastAt ks i (m + 1) m hi := ⟨by have := h.1; have := h.2.1; omega, by omega, by rw [List.getElem?_eq_getElem hm, e], fun j h1 h2 => by omega⟩
theorem LastAt.no {ks : List ByteArray} {i m l : Nat} {hi : i < ks.length} (h : LastAt ks i m l hi) (hm : m < ks.length) (e : ks[m] ≠ ks[i]) : LastAt ks i (m + 1) l hi := by
  obtain ⟨h1, h2, h3, h4⟩ := h
  refine ⟨h1, by omega, h3, fun j h5 h6 => ?_⟩
  by_cases e2 : j = m
  · subst e2
    rw [List.getElem?_eq_getElem hm]
    exact fun h => e (Option.some.inj h)
  · exact h4 j h5 (by omega)
theorem LastAt.val {ks vs : List ByteArray} {i l : Nat} {hi : i < ks.length} : ∀ {m : Nat}, LastAt ks i m l hi → m ≤ vs.length → ∃ h : l < vs.length, lastV ks vs m ks[i] = some ⟨ks[i], vs[l], false⟩
  | 0, h, _ => absurd h.2.1 (by omega)
  | m + 1, h, hm => by
    obtain ⟨h1, h2, h3, h4⟩ := h
    by_cases e : l = m
    · subst e
      refine ⟨by omega, ?_⟩
      simp only [lastV]
      rw [if_pos h3, List.getElem?_eq_getElem (l := vs) (i := l) (by omega)]; rfl
    · have hne := h4 m (by omega) (by omega)
      obtain ⟨hl, hv⟩ := LastAt.val (vs := vs) (m := m) (hi := hi) ⟨h1, by omega, h3, fun j h5 h6 => h4 j h5 (by omega)⟩ (by omega)
      refine ⟨hl, ?_⟩
      simp only [lastV]
      rw [if_neg hne]; exact hv
end Go.Proofs.YthobnigjhedjaaaDoor
