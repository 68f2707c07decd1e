/-
  Jobs, plain: what is wrong with one; who uses whom; which are of a kind. No condition: plain definitions and lemmas.
-/
import Derived.Test.YtmbhfadidpkkhaaDoorNod
import Derived.Test.YtmbhfadidpkkhaaDoorExprTree
namespace Go.Proofs.YtmbhfadidpkkhaaDoor
open Go.RowKit
set_option linter.unusedVariables false

def texted (k : Int) : Bool := k == 2 || k == 3 || k == 4 || k == 7
def counted (k : Int) : Bool := k == 1 || k == 5 || k == 8
def inLow (k : Int) : Int := if k = 1 then 0 else 1
def inHigh (k : Int) : Int := if k = 1 then 0 else if k = 6 then 4 else 1
def numLow (k : Int) : Int := if k = 1 then 1 else if k = 5 then 0 else if k = 8 then 1 else 0
def numHigh (k : Int) : Int := if k = 1 then 8 else if k = 5 then 3 else if k = 8 then 400 else 0
/-- What is wrong with a text. -/
def textErr (s : List UInt8) : Int := match parseT s with
  | .tree _ => 0
  | .fault _ e => e
/-- What is wrong with whom a node has ahead. -/
def fromErr (l : List Nod) (i : Nat) : List Int → Int
  | [] => 0
  | f :: r => if f < 0 ∨ (i : Int) ≤ f then 1 else if (l[f.toNat]?.map (·.kind)) = some 10 then 7 else fromErr l i r
def nodeErr (l : List Nod) (i : Nat) (n : Nod) : Int :=
  if n.kind < 1 ∨ 10 < n.kind then 1
  else if (n.from_.length : Int) < inLow n.kind ∨ inHigh n.kind < (n.from_.length : Int) then 3
  else if fromErr l i n.from_ ≠ 0 then fromErr l i n.from_
  else if (n.text.size ≠ 0 ∧ texted n.kind = false) ∨ (n.n ≠ 0 ∧ counted n.kind = false) then 3
  else if n.n < numLow n.kind ∨ numHigh n.kind < n.n then 1
  else if texted n.kind then textErr n.text.data.toList
  else 0
def nodesErr (l : List Nod) : Nat → List Nod → Int
  | _, [] => 0
  | i, n :: r => if nodeErr l i n ≠ 0 then nodeErr l i n else nodesErr l (i + 1) r
theorem nodes_cons (l : List Nod) (i : Nat) (n : Nod) (r : List Nod) : nodesErr l i (n :: r) = if nodeErr l i n ≠ 0 then nodeErr l i n else nodesErr l (i + 1) r := rfl
def hasKind (l : List Nod) (k : Int) : Bool := l.any fun n => n.kind == k
def endsErr (l : List Nod) : Int := if hasKind l 1 = true ∧ hasKind l 10 = true then 0 else 6
def jobErr (l : List Nod) : Int := if 12 < l.length then 4 else if nodesErr l 0 l ≠ 0 then nodesErr l 0 l else endsErr l
def ofKind (l : List Nod) (k : Int) : List Int := (l.zipIdx.filter fun p => p.1.kind == k).map fun p => (p.2 : Int)
/-- Who uses node f. -/
def usesOf (l : List Nod) (f : Int) : List Int := (l.zipIdx.filter fun p => p.1.from_.contains f).map fun p => (p.2 : Int)
def usesAll (l : List Nod) : List (List Int) := (List.range l.length).map fun (f : Nat) => usesOf l (f : Int)

/-! ### A Sink more -/
theorem fromErr_app {l r : List Nod} {i : Nat} (hi : i ≤ l.length) (fs : List Int) : fromErr (l ++ r) i fs = fromErr l i fs := by
  induction fs with
  | nil => rfl
  | cons f fs ih =>
    unfold fromErr
    by_cases h : f < 0 ∨ (i : Int) ≤ f
    · rw [if_pos h, if_pos h]
    · rw [if_neg h, if_neg h, List.getElem?_append_left (by omega), ih]
theorem nodeErr_app {l r : List Nod} {i : Nat} (hi : i ≤ l.length) (n : Nod) : nodeErr (l ++ r) i n = nodeErr l i n := by
  unfold nodeErr; rw [fromErr_app hi]
theorem nodesErr_app {l : List Nod} (r : List Nod) (s : List Nod) : ∀ i, i + s.length ≤ l.length → nodesErr (l ++ r) i s = nodesErr l i s := by
  induction s with
  | nil => intro i _; rfl
  | cons n s ih =>
    intro i hi
    simp only [List.length_cons] at hi
    rw [nodes_cons, nodes_cons, nodeErr_app (by omega), ih (i + 1) (by omega)]
theorem nodesErr_cat (l : List Nod) (s t : List Nod) : ∀ i, nodesErr l i (s ++ t) = if nodesErr l i s ≠ 0 then nodesErr l i s else nodesErr l (i + s.length) t := by
  induction s with
  | nil => intro i; simp [nodesErr]
  | cons n s ih =>
    intro i
    simp only [List.cons_append, List.length_cons]
    rw [nodes_cons, nodes_cons]
    by_cases h : nodeErr l i n ≠ 0
    · rw [if_pos h, if_pos h, if_pos h]
    · rw [if_neg h, if_neg h, ih (i + 1), show i + 1 + s.length = i + (s.length + 1) from by omega]
def sinkN (at_ : Int) : Nod := ⟨10, [at_], ⟨#[]⟩, 0⟩
theorem hasKind_app (l r : List Nod) (k : Int) : hasKind (l ++ r) k = (hasKind l k || hasKind r k) := by simp [hasKind]
theorem job_parts {l : List Nod} (h : jobErr l = 0) : l.length ≤ 12 ∧ nodesErr l 0 l = 0 ∧ hasKind l 1 = true ∧ hasKind l 10 = true := by
  unfold jobErr at h
  split at h
  · cases h
  · split at h
    · rename_i h1; exact absurd h h1
    · rename_i h0 h1
      unfold endsErr at h
      split at h
      · rename_i h2; exact ⟨by omega, by simpa using h1, h2.1, h2.2⟩
      · cases h
theorem grow_job {l : List Nod} {at_ : Nat} (h : jobErr l = 0) (hl : l.length ≤ 11) (hat : at_ < l.length) (hk : l[at_].kind ≠ 10) : jobErr (l ++ [sinkN at_]) = 0 := by
  obtain ⟨_, h1, h2, h3⟩ := job_parts h
  have hlast : nodeErr (l ++ [sinkN at_]) l.length (sinkN at_) = 0 := by
    have hf : fromErr (l ++ [sinkN at_]) l.length [(at_ : Int)] = 0 := by
      unfold fromErr
      rw [if_neg (by omega), Int.toNat_natCast, List.getElem?_append_left hat, List.getElem?_eq_getElem hat]
      rw [if_neg (by simpa using hk)]; rfl
    unfold nodeErr
    have e1 : ¬ ((sinkN at_).kind < 1 ∨ 10 < (sinkN at_).kind) := by simp [sinkN]
    have e2 : ¬ (((sinkN at_).from_.length : Int) < inLow (sinkN at_).kind ∨ inHigh (sinkN at_).kind < ((sinkN at_).from_.length : Int)) := by simp [sinkN, inLow, inHigh]
    have e3 : ¬ fromErr (l ++ [sinkN at_]) l.length (sinkN at_).from_ ≠ 0 := by simpa [sinkN] using hf
    have e4 : ¬ (((sinkN at_).text.size ≠ 0 ∧ texted (sinkN at_).kind = false) ∨ ((sinkN at_).n ≠ 0 ∧ counted (sinkN at_).kind = false)) := by simp [sinkN, ByteArray.size]
    have e5 : ¬ ((sinkN at_).n < numLow (sinkN at_).kind ∨ numHigh (sinkN at_).kind < (sinkN at_).n) := by simp [sinkN, numLow, numHigh]
    have e6 : ¬ texted (sinkN at_).kind = true := by simp [sinkN, texted]
    rw [if_neg e1, if_neg e2, if_neg e3, if_neg e4, if_neg e5, if_neg e6]
  unfold jobErr
  rw [if_neg (by simp; omega)]
  have hn : nodesErr (l ++ [sinkN at_]) 0 (l ++ [sinkN at_]) = 0 := by
    rw [nodesErr_cat, nodesErr_app _ _ 0 (by omega), if_neg (by simp [h1]), Nat.zero_add]
    unfold nodesErr
    rw [if_neg (by simp [hlast])]; rfl
  rw [if_neg (by simp [hn])]
  unfold endsErr
  rw [hasKind_app, hasKind_app, h2, h3]
  rfl
theorem grow_of (l : List Nod) (at_ : Int) : ofKind (l ++ [sinkN at_]) 10 = ofKind l 10 ++ [(l.length : Int)] := by
  unfold ofKind
  rw [List.zipIdx_append, List.filter_append, List.map_append]
  simp [sinkN]
theorem grow_uses (l : List Nod) (at_ f : Int) : usesOf (l ++ [sinkN at_]) f = usesOf l f ++ if f = at_ then [(l.length : Int)] else [] := by
  unfold usesOf
  rw [List.zipIdx_append, List.filter_append, List.map_append]
  congr 1
  by_cases h : f = at_
  · subst h; simp [sinkN]
  · simp [sinkN, h]
end Go.Proofs.YtmbhfadidpkkhaaDoor
