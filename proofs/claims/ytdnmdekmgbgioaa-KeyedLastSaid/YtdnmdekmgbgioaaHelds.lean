/-
  States by their places, in plain Lean: what is put, found and taken away; and the order of places. No condition: definitions and lemmas.
-/
import Derived.Test.YtdnmdekmgbgioaaElts
import Derived.Test.YtdnmdekmgbgioaaSort
namespace Go.Proofs.Ytdnmdekmgbgioaa
open Go.RowKit
open Go.Sort hiding Below
set_option linter.unusedVariables false

instance : Inhabited Hld := ⟨⟨0, ByteArray.empty, 0, 0⟩⟩
def Hld.at_ (h : Hld) (n : Int) (k : ByteArray) : Prop := h.node = n ∧ h.key = k
/-- No two of one place. -/
def Apart2 (m : List Hld) : Prop := m.Pairwise fun p q => ¬ p.at_ q.node q.key
def hldOk (h : Hld) : Prop := 0 ≤ h.node ∧ h.node < 12 ∧ h.key.size ≤ 40
instance (h : Hld) : Decidable (hldOk h) := by unfold hldOk; infer_instance
theorem at_parts (m : List Hld) (n : Int) (k : ByteArray) : (∃ m1 p m2, m = m1 ++ p :: m2 ∧ p.at_ n k) ∨ ∀ p ∈ m, ¬ p.at_ n k := by
  by_cases hc : ∃ p ∈ m, p.at_ n k
  · obtain ⟨p, hp, h1⟩ := hc
    obtain ⟨m1, m2, rfl⟩ := List.append_of_mem hp
    exact .inl ⟨m1, p, m2, rfl, h1⟩
  · exact .inr fun p hp h1 => hc ⟨p, hp, h1⟩
theorem apart2_swap {m1 m2 : List Hld} {p q : Hld} (h : Apart2 (m1 ++ p :: m2)) (hk : q.at_ p.node p.key) : Apart2 (m1 ++ q :: m2) := by
  have h1 := List.pairwise_append.1 h
  have h2 := List.pairwise_cons.1 h1.2.1
  obtain ⟨k1, k2⟩ := hk
  refine List.pairwise_append.2 ⟨h1.1, List.pairwise_cons.2 ⟨fun r hr => ?_, h2.2⟩, fun a ha b hb => ?_⟩
  · unfold Hld.at_; rw [k1, k2]; exact h2.1 r hr
  · rcases List.mem_cons.1 hb with rfl | hb
    · rw [k1, k2]; exact h1.2.2 a ha p (List.mem_cons_self)
    · exact h1.2.2 a ha b (List.mem_cons_of_mem _ hb)
theorem apart2_snoc {m : List Hld} {h : Hld} (hm : Apart2 m) (hn : ∀ p ∈ m, ¬ p.at_ h.node h.key) : Apart2 (m ++ [h]) :=
  List.pairwise_append.2 ⟨hm, List.pairwise_singleton _ _, fun a ha b hb => by rw [List.mem_singleton.1 hb]; exact hn a ha⟩
theorem apart2_drop {m1 m2 : List Hld} {p : Hld} (h : Apart2 (m1 ++ p :: m2)) : Apart2 (m1 ++ m2) := by
  unfold Apart2 at *
  refine h.sublist ?_
  exact List.Sublist.append_left (List.sublist_cons_self p m2) m1
theorem apart2_perm {m m' : List Hld} (h : Apart2 m) (hp : m.Perm m') : Apart2 m' :=
  (hp.pairwise_iff (fun {x y} hxy hyx => hxy ⟨hyx.1.symm, hyx.2.symm⟩)).1 h

/-! ### The order of places -/
def hldCf (p q : Hld) : Int := orI (cmpI p.node q.node) (cmpS p.key q.key)
theorem cmpS_zero {a b : ByteArray} (h1 : ltStr a.data.toList b.data.toList = false) (h2 : ltStr b.data.toList a.data.toList = false) : a = b := by
  simp only [ltStr, decide_eq_false_iff_not, List.not_lt] at h1 h2
  have := List.le_antisymm h2 h1
  cases a; cases b
  congr 1
  exact Array.toList_inj.1 this
theorem hldLt (p q : Hld) : ltOf hldCf p q = (decide (p.node < q.node) || (decide (p.node = q.node) && ltStr p.key.data.toList q.key.data.toList)) := by
  unfold ltOf hldCf cmpS cmpI orI
  by_cases h1 : p.node < q.node
  · simp [h1]
  · by_cases h2 : q.node < p.node
    · have : p.node ≠ q.node := by omega
      simp [h1, h2, this]
    · have : p.node = q.node := by omega
      cases h3 : ltStr p.key.data.toList q.key.data.toList with
      | true => simp [this]
      | false => cases h4 : ltStr q.key.data.toList p.key.data.toList <;> simp [this]
theorem hldSwo : SWO (ltOf hldCf) := by
  refine ⟨fun x => ?_, fun x y z h1 h2 => ?_, fun x y z h1 h2 => ?_⟩
  · rw [hldLt, swo_ltStr.irrefl]; simp
  · rw [hldLt] at *
    simp only [Bool.or_eq_true, Bool.and_eq_true, decide_eq_true_eq] at *
    rcases h1 with h1 | ⟨h1, h1'⟩ <;> rcases h2 with h2 | ⟨h2, h2'⟩
    · exact .inl (by omega)
    · exact .inl (by omega)
    · exact .inl (by omega)
    · exact .inr ⟨by omega, swo_ltStr.trans _ _ _ h1' h2'⟩
  · rw [hldLt] at *
    simp only [Bool.or_eq_false_iff, decide_eq_false_iff_not, Bool.and_eq_false_iff] at *
    refine ⟨by omega, ?_⟩
    by_cases e : x.node = z.node
    · right
      have hxy : x.node = y.node := by omega
      have hyz : y.node = z.node := by omega
      exact swo_ltStr.ntrans _ _ _ (h1.2.resolve_left fun f => f hxy) (h2.2.resolve_left fun f => f hyz)
    · exact .inl e
/-- Ahead, outright. -/
def ahead (p q : Hld) : Prop := p.node < q.node ∨ (p.node = q.node ∧ ltStr p.key.data.toList q.key.data.toList = true)
theorem ahead_of {p q : Hld} (h : ltOf hldCf q p = false) (hn : ¬ p.at_ q.node q.key) : ahead p q := by
  rw [hldLt] at h
  simp only [Bool.or_eq_false_iff, decide_eq_false_iff_not, Bool.and_eq_false_iff] at h
  by_cases e : p.node = q.node
  · refine .inr ⟨e, ?_⟩
    cases h3 : ltStr p.key.data.toList q.key.data.toList with
    | true => rfl
    | false => exact absurd ⟨e, cmpS_zero h3 (h.2.resolve_left fun f => f e.symm)⟩ hn
  · exact .inl (by omega)
theorem aheads {q : List Hld} (hs : q.Pairwise (fun a b => ltOf hldCf b a = false)) (ha : Apart2 q) : q.Pairwise ahead := by
  unfold Apart2 at ha
  induction q with
  | nil => exact .nil
  | cons x q ih =>
    have h1 := List.pairwise_cons.1 hs
    have h2 := List.pairwise_cons.1 ha
    exact List.pairwise_cons.2 ⟨fun y hy => ahead_of (h1.1 y hy) (h2.1 y hy), ih h1.2 h2.2⟩
end Go.Proofs.Ytdnmdekmgbgioaa
