/-
  Several texts of this claim in one, in build order; each begins with its own remark, which says what it proves and under which conditions.
-/
import Derived.Test.YtcmhbhdiepkndaaGreatDoorPackA
import Derived.Lib.ItoaNum
import Derived.Shelf.SlGeneric
import Derived.Shelf.SlSortCmp.WholeK
import Derived.Ground.SlsfProg
import Derived.Shelf.Strconv.Itoa3
import Derived.Ground.NamesProg
import Derived.Shelf.Strconv.AtoiErr
import Derived.Shelf.Strconv.Atoi
import Derived.Shelf.Strings.SlTrimAscii
import Derived.Shelf.Strings.Prefix
import Derived.Shelf.Small.Strs
import Derived.Test.YtcmhbhdiepkndaaGreatDoorProg
import Derived.BigQuiet
import Derived.Defers
import Derived.Recover

/-
  What comes of a job, plain: what a node does with a record, how records flow, what Sinks hold. No condition: plain definitions and lemmas.
-/
namespace Go.Proofs.YtcmhbhdiepkndaaGreatDoor
open Go.RowKit
set_option linter.unusedVariables false

/-! ### Maps from keys, in the order in which keys came -/
def pget {α : Type} (m : List (ByteArray × α)) (k : ByteArray) : Option α := (m.find? fun p => decide (p.1 = k)).map (·.2)
def pset {α : Type} : List (ByteArray × α) → ByteArray → α → List (ByteArray × α)
  | [], k, v => [(k, v)]
  | p :: r, k, v => if p.1 = k then (k, v) :: r else p :: pset r k v
def pkeys {α : Type} (m : List (ByteArray × α)) : List ByteArray := m.map (·.1)
theorem split_pkey {α : Type} : ∀ {m : List (ByteArray × α)} {k : ByteArray}, k ∈ pkeys m → ∃ a v b, m = a ++ (k, v) :: b ∧ k ∉ pkeys a
  | [], k, h => by simp [pkeys] at h
  | p :: r, k, h => by
    by_cases e : p.1 = k
    · exact ⟨[], p.2, r, by rw [← e]; rfl, by simp [pkeys]⟩
    · have h2 : k ∈ pkeys r := by
        simp only [pkeys, List.map_cons, List.mem_cons] at h
        rcases h with h | h
        · exact absurd h.symm e
        · exact h
      obtain ⟨a, v, b, h3, h4⟩ := split_pkey h2
      refine ⟨p :: a, v, b, by rw [h3]; rfl, ?_⟩
      simp only [pkeys, List.map_cons, List.mem_cons, not_or]
      exact ⟨fun e' => e e'.symm, h4⟩
theorem pget_split {α : Type} {a : List (ByteArray × α)} {k : ByteArray} {v : α} {b : List (ByteArray × α)} (h : k ∉ pkeys a) : pget (a ++ (k, v) :: b) k = some v := by
  unfold pget
  rw [List.find?_append]
  have h1 : (a.find? fun p => decide (p.1 = k)) = none := List.find?_eq_none.2 fun p hp hk => h (List.mem_map.2 ⟨p, hp, of_decide_eq_true hk⟩)
  rw [h1]
  simp
theorem pget_none {α : Type} {m : List (ByteArray × α)} {k : ByteArray} (h : k ∉ pkeys m) : pget m k = none := by
  unfold pget
  rw [List.find?_eq_none.2 fun p hp hk => h (List.mem_map.2 ⟨p, hp, of_decide_eq_true hk⟩)]
  rfl
theorem pset_split {α : Type} : ∀ {a : List (ByteArray × α)} {k : ByteArray} {v u : α} {b : List (ByteArray × α)}, k ∉ pkeys a → pset (a ++ (k, v) :: b) k u = a ++ (k, u) :: b
  | [], k, v, u, b, _ => by simp [pset]
  | p :: a, k, v, u, b, h => by
    simp only [pkeys, List.map_cons, List.mem_cons, not_or] at h
    simp only [List.cons_append, pset]
    rw [if_neg (fun e => h.1 e.symm), pset_split h.2]
theorem pset_none {α : Type} : ∀ {a : List (ByteArray × α)} {k : ByteArray} {u : α}, k ∉ pkeys a → pset a k u = a ++ [(k, u)]
  | [], k, u, _ => rfl
  | p :: a, k, u, h => by
    simp only [pkeys, List.map_cons, List.mem_cons, not_or] at h
    simp only [List.cons_append, pset]
    rw [if_neg (fun e => h.1 e.symm), pset_none h.2]

/-! ### A node -/
def evalOf (s : ByteArray) (n st : Int) : Int := match parseT s.data.toList with
  | .tree t => t.val n st
  | .fault _ _ => 0
def zeroH : Hld := ⟨0, ⟨#[]⟩, 0, 0⟩
def passR (r : Rec) : List Rec := if 40 < r.key.size then [] else [r]
def subKey (k : ByteArray) (n : Int) : ByteArray := k ++ (⟨#[47]⟩ ++ ⟨(Lib.itoa n).toArray⟩)
def uniKey (n : Int) (k : ByteArray) : ByteArray := ⟨(Lib.itoa n).toArray⟩ ++ ⟨#[58]⟩ ++ k
structure Did where
  out : List Rec
  held : Hld
  has : Bool
/-- The state that a node begins with. -/
def begins (h : Hld) (has : Bool) (r : Rec) : Hld := if has then ⟨0, r.key, h.a, h.b⟩ else ⟨0, r.key, 0, 0⟩
def ends_ (out : List Rec) (h : Hld) (has : Bool) : Did := ⟨out, if has then h else zeroH, has⟩
def applyN (n : Nod) (h : Hld) (has : Bool) (r : Rec) (input : Int) : Did :=
  let s := begins h has r
  if n.kind = 2 then ends_ (passR { r with num := evalOf n.text r.num 0 }) s has
  else if n.kind = 3 then ends_ (if evalOf n.text r.num 0 = 0 then [] else passR r) s has
  else if n.kind = 4 then ends_ (passR { r with key := subKey r.key (evalOf n.text r.num 0) }) s has
  else if n.kind = 5 then ends_ ((List.replicate (min 3 n.n).toNat (passR r)).flatten) s has
  else if n.kind = 6 then ends_ (passR { r with key := uniKey input r.key }) s has
  else if n.kind = 7 then ends_ (passR { r with num := evalOf n.text r.num s.a }) { s with a := evalOf n.text r.num s.a } true
  else if n.kind = 8 then
    (if n.n ≤ wrap64 (s.a + 1) then ends_ (passR { r with num := wrap64 (s.b + r.num) }) { s with a := 0, b := 0 } true
     else ends_ [] { s with a := wrap64 (s.a + 1), b := wrap64 (s.b + r.num) } true)
  else if n.kind = 9 then ends_ (if has then [] else passR r) { s with a := 1 } true
  else ends_ (passR r) s has

/-! ### The flow -/
structure Flw where
  st : List (List (ByteArray × Hld))
  gv : List Int
  ln : List (List (ByteArray × List Int))
def targets (J : List Nod) (U : List (List Int)) (i : Nat) : List (Nat × Nat) :=
  (U[i]?.getD []).flatMap fun u => (((J[u.toNat]?.map (·.from_)).getD []).zipIdx.filter fun p => p.1 == (i : Int)).map fun p => (u.toNat, p.2)
def addLine (m : List (ByteArray × List Int)) (r : Rec) : List (ByteArray × List Int) := pset m r.key ((pget m r.key).getD [] ++ [r.num])
def getF (J : List Nod) (H : Nat → Rec → Flw → Option Flw) (u : Nat) (r : Rec) (input : Nat) (f : Flw) : Option Flw :=
  match J[u]? with
  | none => none
  | some n =>
    if n.kind = 10 then some { f with ln := f.ln.modify u fun m => addLine m r }
    else
      let old := pget (f.st[u]?.getD []) r.key
      let d := applyN n (old.getD zeroH) old.isSome r input
      d.out.foldlM (fun f x => H u x f) (if d.has then { f with st := f.st.modify u fun m => pset m r.key d.held } else f)
def handF (J : List Nod) (U : List (List Int)) : Nat → Nat → Rec → Flw → Option Flw
  | 0, _, _, _ => none
  | k + 1, i, r, f =>
    let f1 := { f with gv := f.gv.set i ((f.gv[i]?.getD 0) + 1) }
    if 2000 < (f.gv[i]?.getD 0) + 1 then none else (targets J U i).foldlM (fun f p => getF J (handF J U k) p.1 r p.2 f) f1
def flow0 (n : Nat) : Flw := ⟨List.replicate n [], List.replicate n 0, List.replicate n []⟩
/-- All data of a Source. -/
def feedF (J : List Nod) (s : Int) (d : List Rec) (f : Flw) : Option Flw := d.foldlM (fun f r => handF J (usesAll J) J.length s.toNat r f) f
def flowAll (J : List Nod) (data : List (List Rec)) : Option Flw := ((ofKind J 1).zip data).foldlM (fun f p => feedF J p.1 p.2 f) (flow0 J.length)
def recErr (r : Rec) : Bool := decide (40 < r.key.size) || decide (r.time < 0) || decide (1000000 < r.time)
def dataErr : List (List Rec) → Int
  | [] => 0
  | d :: r => if 300 < d.length then 4 else if d.any recErr = true then 1 else dataErr r
def denErr (J : List Nod) (data : List (List Rec)) : Int :=
  if jobErr J ≠ 0 then jobErr J else if data.length ≠ (ofKind J 1).length then 3 else dataErr data
/-- The lines of a map: its keys, risen. -/
def kLess (a b : ByteArray) : Prop := a.data.toList < b.data.toList
def LinesOf (m : List (ByteArray × List Int)) (out : List Lin) : Prop := out.Perm (m.map fun p => ⟨p.1, p.2⟩) ∧ out.Pairwise fun a b => kLess a.key b.key
/-- What All tells. -/
def AllOf (J : List Nod) (f : Flw) (out : List (List Lin)) : Prop := out.length = (ofKind J 10).length ∧ ∀ (i : Nat) (s : Int) (o : List Lin), (ofKind J 10)[i]? = some s → out[i]? = some o → LinesOf (f.ln[s.toNat]?.getD []) o
end Go.Proofs.YtcmhbhdiepkndaaGreatDoor

/-
  The flow of a job, plain: it fails only where a node hands on more than 2000 records; and what each node gets and hands on, from its beginning. No condition: plain definitions and lemmas.
-/
namespace Go.Proofs.YtcmhbhdiepkndaaGreatDoor
open Go.RowKit
set_option linter.unusedVariables false

/-! ### Without the bound -/
def getT (J : List Nod) (H : Nat → Rec → Flw → Flw) (u : Nat) (r : Rec) (input : Nat) (f : Flw) : Flw :=
  match J[u]? with
  | none => f
  | some n =>
    if n.kind = 10 then { f with ln := f.ln.modify u fun m => addLine m r }
    else
      let d := applyN n ((pget (f.st[u]?.getD []) r.key).getD zeroH) (pget (f.st[u]?.getD []) r.key).isSome r input
      d.out.foldl (fun f x => H u x f) (if d.has then { f with st := f.st.modify u fun m => pset m r.key d.held } else f)
def bump (i : Nat) (f : Flw) : Flw := { f with gv := f.gv.set i ((f.gv[i]?.getD 0) + 1) }
def handT (J : List Nod) (U : List (List Int)) : Nat → Nat → Rec → Flw → Flw
  | 0, _, _, f => f
  | k + 1, i, r, f => (targets J U i).foldl (fun f p => getT J (handT J U k) p.1 r p.2 f) (bump i f)
def Okf (n : Nat) (f : Flw) : Prop := f.gv.length = n ∧ ∀ c ∈ f.gv, c ≤ 2000
instance (n : Nat) (f : Flw) : Decidable (Okf n f) := inferInstanceAs (Decidable (f.gv.length = n ∧ ∀ c ∈ f.gv, c ≤ 2000))
def cutF (n : Nat) (f : Flw) : Option Flw := if Okf n f then some f else none
/-- Counts only grow. -/
def Upf (f f' : Flw) : Prop := f'.gv.length = f.gv.length ∧ ∀ (i : Nat) (c : Int), f.gv[i]? = some c → ∃ c', f'.gv[i]? = some c' ∧ c ≤ c'
theorem Upf.refl (f : Flw) : Upf f f := ⟨rfl, fun i c h => ⟨c, h, Int.le_refl _⟩⟩
theorem Upf.trans {a b c : Flw} (h : Upf a b) (h' : Upf b c) : Upf a c := ⟨h'.1.trans h.1, fun i x hx => by
  obtain ⟨y, hy, hl⟩ := h.2 i x hx
  obtain ⟨z, hz, hl'⟩ := h'.2 i y hy
  exact ⟨z, hz, Int.le_trans hl hl'⟩⟩
theorem Upf.same {a b : Flw} (h : b.gv = a.gv) : Upf a b := ⟨by rw [h], fun i c hc => ⟨c, by rw [h]; exact hc, Int.le_refl _⟩⟩
theorem Upf.bump (i : Nat) (f : Flw) : Upf f (bump i f) := by
  refine ⟨by simp [Go.Proofs.YtcmhbhdiepkndaaGreatDoor.bump], fun j c hc => ?_⟩
  show ∃ c', (f.gv.set i ((f.gv[i]?.getD 0) + 1))[j]? = some c' ∧ _
  rw [List.getElem?_set]
  by_cases h : i = j
  · subst h
    have hl : i < f.gv.length := by
      rcases Nat.lt_or_ge i f.gv.length with h | h
      · exact h
      · rw [List.getElem?_eq_none h] at hc; cases hc
    rw [if_pos rfl, if_pos hl, hc]
    exact ⟨c + 1, rfl, by omega⟩
  · rw [if_neg h]; exact ⟨c, hc, Int.le_refl _⟩
theorem Upf.fold {α : Type} {t : α → Flw → Flw} (h : ∀ a f, Upf f (t a f)) (l : List α) : ∀ f, Upf f (l.foldl (fun f a => t a f) f) := by
  induction l with
  | nil => exact fun f => Upf.refl f
  | cons a l ih => exact fun f => (h a f).trans (ih _)
theorem Upf.get {J : List Nod} {H : Nat → Rec → Flw → Flw} (hH : ∀ u x f, Upf f (H u x f)) (u : Nat) (r : Rec) (input : Nat) (f : Flw) : Upf f (getT J H u r input f) := by
  unfold getT
  split
  · exact Upf.refl f
  · split
    · exact Upf.same rfl
    · refine Upf.trans ?_ (Upf.fold (t := fun x f => H u x f) (fun x f => hH u x f) _ _)
      split
      · exact Upf.same rfl
      · exact Upf.refl f
theorem Upf.hand (J : List Nod) (U : List (List Int)) : ∀ k i r f, Upf f (handT J U k i r f) := by
  intro k
  induction k with
  | zero => exact fun i r f => Upf.refl f
  | succ k ih =>
    intro i r f
    exact (Upf.bump i f).trans (Upf.fold (t := fun (p : Nat × Nat) f => getT J (handT J U k) p.1 r p.2 f) (fun p f => Upf.get ih p.1 r p.2 f) _ _)
theorem Upf.ok {n : Nat} {f f' : Flw} (h : Upf f f') (ho : Okf n f') : Okf n f := by
  refine ⟨h.1 ▸ ho.1, fun c hc => ?_⟩
  obtain ⟨i, hi⟩ := List.getElem?_of_mem hc
  obtain ⟨c', h1, h2⟩ := h.2 i c hi
  exact Int.le_trans h2 (ho.2 c' (List.mem_of_getElem? h1))
theorem cutF_no {n : Nat} {f f' : Flw} (h : Upf f f') (ho : ¬ Okf n f) : cutF n f' = none := if_neg fun h' => ho (h.ok h')
theorem fold_cut {α : Type} {n : Nat} {g : α → Flw → Option Flw} {t : α → Flw → Flw} (hu : ∀ a f, Upf f (t a f)) (l : List α) (hg : ∀ a ∈ l, ∀ f, Okf n f → g a f = cutF n (t a f)) :
    ∀ f, Okf n f → l.foldlM (fun f a => g a f) f = cutF n (l.foldl (fun f a => t a f) f) := by
  induction l with
  | nil => intro f h; exact (if_pos h).symm
  | cons a l ih =>
    intro f h
    rw [List.foldlM_cons, hg a List.mem_cons_self f h, List.foldl_cons]
    by_cases h1 : Okf n (t a f)
    · rw [show cutF n (t a f) = some (t a f) from if_pos h1]
      exact ih (fun b hb => hg b (List.mem_cons_of_mem _ hb)) _ h1
    · rw [show cutF n (t a f) = none from if_neg h1]
      exact (cutF_no (Upf.fold hu l _) h1).symm

/-! ### Whom a node hands to -/
def InFrom (J : List Nod) (u x j : Nat) : Prop := ∃ n, J[u]? = some n ∧ n.from_[x]? = some (j : Int)
theorem InFrom.lt {J : List Nod} (hJ : jobErr J = 0) {u x j : Nat} (h : InFrom J u x j) : j < u ∧ u < J.length := by
  obtain ⟨n, hn, hx⟩ := h
  obtain ⟨hu, e⟩ := List.getElem?_eq_some_iff.1 hn
  have := (job_from hJ hu j (by rw [e]; exact List.mem_of_getElem? hx)).2
  omega
theorem uses_mem {J : List Nod} {f : Int} {y : Int} (h : y ∈ usesOf J f) : ∃ (u : Nat) (n : Nod), y = (u : Int) ∧ J[u]? = some n ∧ n.from_.contains f = true := by
  unfold usesOf at h
  obtain ⟨⟨n, u⟩, hp, rfl⟩ := List.mem_map.1 h
  obtain ⟨h1, h2⟩ := List.mem_filter.1 hp
  exact ⟨u, n, rfl, by have := List.mem_zipIdx_iff_getElem?.1 h1; simpa using this, h2⟩
theorem mem_uses {J : List Nod} {f : Int} {u : Nat} {n : Nod} (h : J[u]? = some n) (hc : n.from_.contains f = true) : (u : Int) ∈ usesOf J f := by
  unfold usesOf
  exact List.mem_map.2 ⟨(n, u), List.mem_filter.2 ⟨List.mem_zipIdx_iff_getElem?.2 (by simpa using h), hc⟩, rfl⟩
theorem uses_nodup (J : List Nod) (f : Int) : (usesOf J f).Nodup := by
  unfold usesOf
  have h : J.zipIdx.Pairwise fun a b => a.2 < b.2 := by
    have h1 : (J.zipIdx.map (·.2)).Pairwise (· < ·) := by
      rw [List.zipIdx_map_snd]
      exact List.pairwise_lt_range'
    exact List.pairwise_map.1 h1
  have h2 := h.sublist (List.filter_sublist (p := fun p => p.1.from_.contains f))
  exact List.pairwise_map.2 (h2.imp fun {a b} hab => by omega)
theorem targets_mem {J : List Nod} {i : Nat} (hi : i < J.length) {u x : Nat} : (u, x) ∈ targets J (usesAll J) i ↔ InFrom J u x i := by
  unfold targets usesAll
  rw [List.getElem?_map, List.getElem?_range hi]
  simp only [Option.map_some, Option.getD_some, List.mem_flatMap, List.mem_map, List.mem_filter]
  constructor
  · rintro ⟨y, hy, ⟨z, k⟩, ⟨h1, h2⟩, h3⟩
    obtain ⟨v, n, rfl, hv, hc⟩ := uses_mem hy
    injection h3 with h3 h4
    simp at h3 h4
    subst h3; subst h4
    rw [Int.toNat_natCast, hv] at h1
    refine ⟨n, hv, ?_⟩
    have := List.mem_zipIdx_iff_getElem?.1 h1
    simp at this h2
    rw [this, h2]
  · rintro ⟨n, hn, hx⟩
    refine ⟨(u : Int), mem_uses hn (by rw [List.contains_iff_mem]; exact List.mem_of_getElem? hx), ((i : Int), x), ⟨?_, by simp⟩, by simp⟩
    rw [Int.toNat_natCast, hn]
    exact List.mem_zipIdx_iff_getElem?.2 (by simpa using hx)
theorem targets_nodup (J : List Nod) {i : Nat} (hi : i < J.length) : (targets J (usesAll J) i).Nodup := by
  unfold targets usesAll
  rw [List.getElem?_map, List.getElem?_range hi]
  simp only [Option.map_some, Option.getD_some]
  unfold List.Nodup
  rw [List.pairwise_flatMap]
  constructor
  · intro y hy
    refine List.pairwise_map.2 ?_
    have h : ((((J[y.toNat]?.map (·.from_)).getD []).zipIdx)).Pairwise fun a b => a.2 < b.2 := by
      have h1 : (((((J[y.toNat]?.map (·.from_)).getD []).zipIdx)).map (·.2)).Pairwise (· < ·) := by
        rw [List.zipIdx_map_snd]
        exact List.pairwise_lt_range'
      exact List.pairwise_map.1 h1
    exact (h.sublist List.filter_sublist).imp fun {a b} hab e => by
      injection e with _ e; omega
  · refine (List.Pairwise.and_mem.1 (uses_nodup J i)).imp fun {a b} hab => ?_
    obtain ⟨ha, hb, hne⟩ := hab
    obtain ⟨u, n, rfl, _⟩ := uses_mem ha
    obtain ⟨v, m, rfl, _⟩ := uses_mem hb
    intro p hp q hq e
    obtain ⟨p', _, rfl⟩ := List.mem_map.1 hp
    obtain ⟨q', _, rfl⟩ := List.mem_map.1 hq
    injection e with e _
    simp at e
    exact hne (by rw [e])

theorem get_cut {J : List Nod} {n : Nat} {H : Nat → Rec → Flw → Option Flw} {HT : Nat → Rec → Flw → Flw} (u : Nat) (r : Rec) (input : Nat) (hu : u < J.length) (hH : ∀ x f, Okf n f → H u x f = cutF n (HT u x f)) (hU : ∀ i x f, Upf f (HT i x f)) (f : Flw) (hf : Okf n f) :
    getF J H u r input f = cutF n (getT J HT u r input f) := by
  unfold getF getT
  rw [List.getElem?_eq_getElem hu]
  simp only
  split
  · exact (if_pos (show Okf n _ from hf)).symm
  · refine fold_cut (t := fun x f => HT u x f) (g := fun x f => H u x f) (fun x f => hU u x f) _ (fun x _ f hf => hH x f hf) _ ?_
    split
    · exact hf
    · exact hf
theorem hand_cut {J : List Nod} (hJ : jobErr J = 0) : ∀ k i r f, J.length ≤ i + k → i < J.length → Okf J.length f → handF J (usesAll J) k i r f = cutF J.length (handT J (usesAll J) k i r f) := by
  intro k
  induction k with
  | zero => intro i r f h1 h2; omega
  | succ k ih =>
    intro i r f h1 h2 hf
    have hup : Upf (bump i f) (handT J (usesAll J) (k + 1) i r f) := Upf.fold (t := fun (p : Nat × Nat) f => getT J (handT J (usesAll J) k) p.1 r p.2 f) (fun p f => Upf.get (Upf.hand J _ k) p.1 r p.2 f) _ _
    have hil : i < f.gv.length := by rw [hf.1]; exact h2
    have hget : f.gv[i]? = some f.gv[i] := List.getElem?_eq_getElem hil
    unfold handF
    simp only
    by_cases hb : 2000 < (f.gv[i]?.getD 0) + 1
    · rw [if_pos hb]
      refine (cutF_no hup fun ho => ?_).symm
      have := ho.2 ((f.gv[i]?.getD 0) + 1) (List.mem_of_getElem? (i := i) (by show (f.gv.set i _)[i]? = _; rw [List.getElem?_set_self hil]))
      omega
    · rw [if_neg hb]
      have hbo : Okf J.length (bump i f) := by
        refine ⟨by show (f.gv.set i _).length = _; rw [List.length_set]; exact hf.1, fun c hc => ?_⟩
        rcases List.mem_or_eq_of_mem_set (show c ∈ f.gv.set i _ from hc) with h | h
        · exact hf.2 c h
        · omega
      refine fold_cut (t := fun (p : Nat × Nat) f => getT J (handT J (usesAll J) k) p.1 r p.2 f) (g := fun (p : Nat × Nat) f => getF J (handF J (usesAll J) k) p.1 r p.2 f) (fun p f => Upf.get (Upf.hand J _ k) p.1 r p.2 f) _ ?_ _ hbo
      rintro ⟨u, x⟩ hp g hg
      have hlt := ((targets_mem h2).1 hp).lt hJ
      exact get_cut u r x hlt.2 (fun x f hf => ih u x f (by omega) hlt.2 hf) (Upf.hand J _ k) g hg
def feedT (J : List Nod) (s : Int) (d : List Rec) (f : Flw) : Flw := d.foldl (fun f r => handT J (usesAll J) J.length s.toNat r f) f
def flowT (J : List Nod) (data : List (List Rec)) : Flw := ((ofKind J 1).zip data).foldl (fun f p => feedT J p.1 p.2 f) (flow0 J.length)
theorem kind_mem {J : List Nod} {k y : Int} (h : y ∈ ofKind J k) : ∃ (u : Nat) (n : Nod), y = (u : Int) ∧ J[u]? = some n ∧ n.kind = k := by
  unfold ofKind at h
  obtain ⟨⟨n, u⟩, hp, rfl⟩ := List.mem_map.1 h
  obtain ⟨h1, h2⟩ := List.mem_filter.1 hp
  exact ⟨u, n, rfl, by have := List.mem_zipIdx_iff_getElem?.1 h1; simpa using this, by simpa using h2⟩
theorem flow_cut {J : List Nod} (hJ : jobErr J = 0) (data : List (List Rec)) : flowAll J data = cutF J.length (flowT J data) := by
  unfold flowAll flowT
  refine fold_cut (t := fun (p : Int × List Rec) f => feedT J p.1 p.2 f) (g := fun (p : Int × List Rec) f => feedF J p.1 p.2 f) (fun p f => ?_) _ ?_ _ ?_
  · exact Upf.fold (t := fun r f => handT J (usesAll J) J.length p.1.toNat r f) (fun r f => Upf.hand J _ _ _ r f) _ _
  · rintro ⟨s, d⟩ hp f hf
    obtain ⟨u, n, rfl, hu, _⟩ := kind_mem (List.of_mem_zip hp).1
    have hlt : u < J.length := by
      rcases Nat.lt_or_ge u J.length with h | h
      · exact h
      · rw [List.getElem?_eq_none h] at hu; cases hu
    exact fold_cut (t := fun r f => handT J (usesAll J) J.length (u : Int).toNat r f) (g := fun r f => handF J (usesAll J) J.length (u : Int).toNat r f) (fun r f => Upf.hand J _ _ _ r f) _ (fun r _ f hf => hand_cut hJ _ _ r f (by omega) (by rw [Int.toNat_natCast]; exact hlt) hf) f hf
  · refine ⟨by simp [flow0], fun c hc => ?_⟩
    have := List.eq_of_mem_replicate (show c ∈ List.replicate _ _ from hc)
    omega
end Go.Proofs.YtcmhbhdiepkndaaGreatDoor

/-
  The flow of a job, plain: what each node got, input by input, and what it made of it. No condition: plain definitions and lemmas.
-/
namespace Go.Proofs.YtcmhbhdiepkndaaGreatDoor
open Go.RowKit
set_option linter.unusedVariables false

/-- What a node makes of a log of records, each with its input: its states, and what it hands on. -/
def stepLog (n : Nod) (s : List (ByteArray × Hld) × List Rec) (p : Nat × Rec) : List (ByteArray × Hld) × List Rec :=
  let d := applyN n ((pget s.1 p.2.key).getD zeroH) (pget s.1 p.2.key).isSome p.2 p.1
  (if d.has then pset s.1 p.2.key d.held else s.1, s.2 ++ d.out)
def runLog (n : Nod) (log : List (Nat × Rec)) : List (ByteArray × Hld) × List Rec := log.foldl (stepLog n) ([], [])
def byIn (x : Nat) (l : List (Nat × Rec)) : List Rec := (l.filter fun p => p.1 == x).map (·.2)
theorem byIn_app (x : Nat) (l : List (Nat × Rec)) (y : Nat) (r : Rec) : byIn x (l ++ [(y, r)]) = byIn x l ++ (if y = x then [r] else []) := by
  unfold byIn
  rw [List.filter_append, List.map_append]
  by_cases h : y = x
  · simp [h]
  · simp [h]
structure Sim where
  f : Flw
  M : Nat → List (Nat × Rec)
  H : Nat → List Rec
def Local (J : List Nod) (v : Nat) (S : Sim) : Prop := ∀ n, J[v]? = some n →
  (n.kind = 10 → S.f.ln[v]? = some (((S.M v).map (·.2)).foldl addLine []) ∧ S.H v = []) ∧
  (n.kind ≠ 10 → n.kind ≠ 1 → S.f.st[v]? = some (runLog n (S.M v)).1 ∧ S.H v = (runLog n (S.M v)).2) ∧ ∀ p ∈ S.M v, p.1 < n.from_.length
structure Sound (J : List Nod) (S : Sim) : Prop where
  st : S.f.st.length = J.length
  gv : S.f.gv.length = J.length
  ln : S.f.ln.length = J.length
  counts : ∀ v, v < J.length → S.f.gv[v]? = some ((S.H v).length : Int)
def LocFrom (J : List Nod) (i : Nat) (S : Sim) : Prop := ∀ v, i ≤ v → Local J v S
def SyncFrom (J : List Nod) (i : Nat) (S : Sim) : Prop := ∀ u x j, i ≤ j → InFrom J u x j → byIn x (S.M u) = S.H j
/-- Nothing ahead of i turned. -/
structure Kept (J : List Nod) (i : Nat) (S S' : Sim) : Prop where
  hist : ∀ v, v < i → S'.H v = S.H v ∧ S'.M v = S.M v ∧ S'.f.st[v]? = S.f.st[v]? ∧ S'.f.ln[v]? = S.f.ln[v]?
  edge : ∀ u x j, j < i → u ≠ i → InFrom J u x j → byIn x (S'.M u) = byIn x (S.M u)
  alone : ∀ v, v ≠ i → (∀ x j, ¬ InFrom J v x j) → S'.H v = S.H v
theorem Kept.refl (J : List Nod) (i : Nat) (S : Sim) : Kept J i S S := ⟨fun _ _ => ⟨rfl, rfl, rfl, rfl⟩, fun _ _ _ _ _ _ => rfl, fun _ _ _ => rfl⟩
theorem Kept.trans {J : List Nod} {i : Nat} {A B C : Sim} (h : Kept J i A B) (h' : Kept J i B C) : Kept J i A C :=
  ⟨fun v hv => ⟨(h'.hist v hv).1.trans (h.hist v hv).1, (h'.hist v hv).2.1.trans (h.hist v hv).2.1, (h'.hist v hv).2.2.1.trans (h.hist v hv).2.2.1, (h'.hist v hv).2.2.2.trans (h.hist v hv).2.2.2⟩,
   fun u x j hj hu hi => (h'.edge u x j hj hu hi).trans (h.edge u x j hj hu hi), fun v hv ha => (h'.alone v hv ha).trans (h.alone v hv ha)⟩
theorem Local.same {J : List Nod} {v : Nat} {S S' : Sim} (h : Local J v S) (h1 : S'.H v = S.H v) (h2 : S'.M v = S.M v) (h3 : S'.f.st[v]? = S.f.st[v]?) (h4 : S'.f.ln[v]? = S.f.ln[v]?) : Local J v S' := by
  intro n hn
  obtain ⟨a, b, c⟩ := h n hn
  rw [h1, h2, h3, h4]
  exact ⟨a, b, c⟩
def setAt {α : Type} (g : Nat → α) (i : Nat) (v : α) : Nat → α := fun j => if j = i then v else g j
theorem setAt_same {α : Type} (g : Nat → α) (i : Nat) (v : α) : setAt g i v i = v := if_pos rfl
theorem setAt_other {α : Type} (g : Nat → α) {i j : Nat} (v : α) (h : j ≠ i) : setAt g i v j = g j := if_neg h

def HandHist (J : List Nod) (k : Nat) : Prop := ∀ (i : Nat) (r : Rec) (S : Sim), J.length ≤ i + k → i < J.length → Sound J S → LocFrom J (i + 1) S → SyncFrom J i S →
  ∃ S' : Sim, S'.f = handT J (usesAll J) k i r S.f ∧ Sound J S' ∧ LocFrom J (i + 1) S' ∧ SyncFrom J i S' ∧ Kept J i S S' ∧ S'.H i = S.H i ++ [r] ∧ S'.M i = S.M i ∧ S'.f.st[i]? = S.f.st[i]? ∧ S'.f.ln[i]? = S.f.ln[i]?
def GetHist (J : List Nod) (k : Nat) : Prop := ∀ (u : Nat) (r : Rec) (x : Nat) (j : Nat) (S : Sim), J.length ≤ u + k → InFrom J u x j → Sound J S → LocFrom J u S → SyncFrom J u S →
  ∃ S' : Sim, S'.f = getT J (handT J (usesAll J) k) u r x S.f ∧ Sound J S' ∧ LocFrom J u S' ∧ SyncFrom J u S' ∧ Kept J u S S' ∧ S'.M u = S.M u ++ [(x, r)]

/-- A node hands some on. -/
theorem outs_hist {J : List Nod} {k : Nat} (hh : HandHist J k) {u : Nat} (hk : J.length ≤ u + k) (hu : u < J.length) : ∀ (xs : List Rec) (S : Sim), Sound J S → LocFrom J (u + 1) S → SyncFrom J u S →
    ∃ S' : Sim, S'.f = xs.foldl (fun f x => handT J (usesAll J) k u x f) S.f ∧ Sound J S' ∧ LocFrom J (u + 1) S' ∧ SyncFrom J u S' ∧ Kept J u S S' ∧ S'.H u = S.H u ++ xs ∧ S'.M u = S.M u ∧ S'.f.st[u]? = S.f.st[u]? ∧ S'.f.ln[u]? = S.f.ln[u]? := by
  intro xs
  induction xs with
  | nil => intro S h1 h2 h3; exact ⟨S, rfl, h1, h2, h3, Kept.refl _ _ _, (List.append_nil _).symm, rfl, rfl, rfl⟩
  | cons x xs ih =>
    intro S h1 h2 h3
    obtain ⟨A, a0, a1, a2, a3, a4, a5, a6, a7, a8⟩ := hh u x S hk hu h1 h2 h3
    obtain ⟨B, b0, b1, b2, b3, b4, b5, b6, b7, b8⟩ := ih A a1 a2 a3
    exact ⟨B, by rw [b0, a0]; rfl, b1, b2, b3, a4.trans b4, by rw [b5, a5, List.append_assoc]; rfl, b6.trans a6, b7.trans a7, b8.trans a8⟩
theorem getElem?_modify_same {α : Type} {l : List α} {i : Nat} {f : α → α} {a : α} (h : l[i]? = some a) : (l.modify i f)[i]? = some (f a) := by
  rw [List.getElem?_modify, h]; simp
theorem getElem?_modify_ne {α : Type} {l : List α} {i j : Nat} {f : α → α} (h : j ≠ i) : (l.modify i f)[j]? = l[j]? := by
  rw [List.getElem?_modify]
  cases l[j]? with
  | none => rfl
  | some a => show some (if i = j then f a else a) = _; rw [if_neg (fun e => h e.symm)]
theorem get_hist {J : List Nod} (hJ : jobErr J = 0) {k : Nat} (hh : HandHist J k) : GetHist J k := by
  intro u r x j S hk hin h1 h2 h3
  obtain ⟨hju, hu⟩ := hin.lt hJ
  obtain ⟨n, hn, hx⟩ := hin
  have hxl : x < n.from_.length := (List.getElem?_eq_some_iff.1 hx).1
  obtain ⟨hu', he⟩ := List.getElem?_eq_some_iff.1 hn
  have hk1 : n.kind ≠ 1 := fun e => by
    have h0 := nodes_zero J 0 (job_parts hJ).2.1 u hu
    rw [he] at h0
    unfold nodeErr at h0
    split at h0
    · cases h0
    · split at h0
      · cases h0
      · rename_i h5
        rw [e] at h5
        simp only [inHigh, if_true] at h5
        omega
  unfold getT
  rw [hn]
  simp only
  by_cases h10 : n.kind = 10
  · rw [if_pos h10]
    obtain ⟨hl, hHe⟩ := (h2 u (Nat.le_refl _) n hn).1 h10
    refine ⟨⟨{ S.f with ln := S.f.ln.modify u fun m => addLine m r }, setAt S.M u (S.M u ++ [(x, r)]), S.H⟩, rfl, ⟨h1.st, h1.gv, by simp [h1.ln], h1.counts⟩, ?_, ?_, ?_, setAt_same _ _ _⟩
    · intro v hv
      by_cases e : v = u
      · subst e
        intro m hm
        rw [hn] at hm; injection hm with hm; subst hm
        refine ⟨fun _ => ⟨?_, hHe⟩, fun h => absurd h10 h, ?_⟩
        · show (S.f.ln.modify v _)[v]? = some (((setAt S.M v (S.M v ++ [(x, r)]) v).map (·.2)).foldl addLine [])
          rw [setAt_same, getElem?_modify_same hl, List.map_append, List.foldl_append]
          rfl
        · show ∀ p ∈ setAt S.M v (S.M v ++ [(x, r)]) v, _
          rw [setAt_same]
          intro p hp
          rcases List.mem_append.1 hp with hp | hp
          · exact (h2 v (Nat.le_refl _) n hn).2.2 p hp
          · simp at hp; subst hp; exact hxl
      · exact (h2 v hv).same rfl (setAt_other _ _ e) rfl (getElem?_modify_ne e)
    · intro w y j' hj' hi'
      have := hi'.lt hJ
      show byIn y (setAt S.M u _ w) = _
      rw [setAt_other _ _ (by omega)]
      exact h3 w y j' hj' hi'
    · refine ⟨fun v hv => ⟨rfl, setAt_other _ _ (by omega), rfl, getElem?_modify_ne (by omega)⟩, fun w y j' hj' hw hi' => ?_, fun _ _ _ => rfl⟩
      show byIn y (setAt S.M u _ w) = _
      rw [setAt_other _ _ hw]
  · rw [if_neg h10]
    obtain ⟨hst, hH⟩ := (h2 u (Nat.le_refl _) n hn).2.1 h10 hk1
    have hstep : runLog n (S.M u ++ [(x, r)]) = stepLog n (runLog n (S.M u)) (x, r) := by unfold runLog; rw [List.foldl_append]; rfl
    rw [hst, Option.getD_some]
    obtain ⟨m0, hm0⟩ : ∃ m0, m0 = (runLog n (S.M u)).1 := ⟨_, rfl⟩
    rw [← hm0] at hst ⊢
    obtain ⟨d, hd⟩ : ∃ d, d = applyN n ((pget m0 r.key).getD zeroH) (pget m0 r.key).isSome r x := ⟨_, rfl⟩
    have hs1 : (runLog n (S.M u ++ [(x, r)])).1 = if d.has = true then pset m0 r.key d.held else m0 := by rw [hstep, hd, hm0]; rfl
    have hs2 : (runLog n (S.M u ++ [(x, r)])).2 = S.H u ++ d.out := by rw [hstep, hH, hd, hm0]; rfl
    rw [← hd]
    obtain ⟨f1, hf1⟩ : ∃ f1 : Flw, f1 = (if d.has = true then { S.f with st := S.f.st.modify u fun m => pset m r.key d.held } else S.f) := ⟨_, rfl⟩
    rw [← hf1]
    have g1 : f1.st[u]? = some (if d.has = true then pset m0 r.key d.held else m0) := by
      rw [hf1]; split
      · exact getElem?_modify_same hst
      · exact hst
    have g2 : ∀ v, v ≠ u → f1.st[v]? = S.f.st[v]? := fun v hv => by
      rw [hf1]; split
      · exact getElem?_modify_ne hv
      · rfl
    have g3 : f1.ln = S.f.ln ∧ f1.gv = S.f.gv ∧ f1.st.length = S.f.st.length := by
      rw [hf1]; split
      · exact ⟨rfl, rfl, by simp⟩
      · exact ⟨rfl, rfl, rfl⟩
    obtain ⟨A, a0, a1, a2, a3, a4, a5, a6, a7, a8⟩ := outs_hist hh hk hu d.out ⟨f1, S.M, S.H⟩ ⟨g3.2.2.trans h1.st, by rw [g3.2.1]; exact h1.gv, by rw [g3.1]; exact h1.ln, by rw [g3.2.1]; exact h1.counts⟩
      (fun v hv => (h2 v (by omega)).same rfl rfl (g2 v (by omega)) (by rw [g3.1])) h3
    refine ⟨⟨A.f, setAt A.M u (S.M u ++ [(x, r)]), A.H⟩, a0, ⟨a1.st, a1.gv, a1.ln, a1.counts⟩, ?_, ?_, ?_, setAt_same _ _ _⟩
    · intro v hv
      by_cases e : v = u
      · subst e
        intro m hm
        rw [hn] at hm; injection hm with hm; subst hm
        refine ⟨fun h => absurd h h10, fun _ _ => ?_, ?_⟩
        · show A.f.st[v]? = some (runLog n (setAt A.M v (S.M v ++ [(x, r)]) v)).1 ∧ A.H v = (runLog n (setAt A.M v (S.M v ++ [(x, r)]) v)).2
          rw [setAt_same, hs1, hs2]
          exact ⟨a7.trans g1, a5⟩
        · show ∀ p ∈ setAt A.M v (S.M v ++ [(x, r)]) v, _
          rw [setAt_same]
          intro p hp
          rcases List.mem_append.1 hp with hp | hp
          · exact (h2 v (Nat.le_refl _) n hn).2.2 p hp
          · simp at hp; subst hp; exact hxl
      · exact (a2 v (by omega)).same rfl (setAt_other _ _ e) rfl rfl
    · intro w y j' hj' hi'
      have := hi'.lt hJ
      show byIn y (setAt A.M u _ w) = _
      rw [setAt_other _ _ (by omega)]
      exact a3 w y j' hj' hi'
    · refine ⟨fun v hv => ⟨(a4.hist v hv).1, (setAt_other _ _ (by omega)).trans (a4.hist v hv).2.1, (a4.hist v hv).2.2.1.trans (g2 v (by omega)), (a4.hist v hv).2.2.2.trans (by rw [g3.1])⟩, fun w y j' hj' hw hi' => ?_, a4.alone⟩
      show byIn y (setAt A.M u _ w) = _
      rw [setAt_other _ _ hw]
      exact a4.edge w y j' hj' hw hi'
/-- All whom a node hands to. -/
theorem loop_hist {J : List Nod} (hJ : jobErr J = 0) {k : Nat} (hg : GetHist J k) {i : Nat} (hk : J.length ≤ i + 1 + k) (r : Rec) : ∀ (ts : List (Nat × Nat)) (S : Sim), ts.Nodup → (∀ p ∈ ts, InFrom J p.1 p.2 i) → Sound J S → LocFrom J (i + 1) S → SyncFrom J (i + 1) S →
    ∃ S' : Sim, S'.f = ts.foldl (fun f p => getT J (handT J (usesAll J) k) p.1 r p.2 f) S.f ∧ Sound J S' ∧ LocFrom J (i + 1) S' ∧ SyncFrom J (i + 1) S' ∧
      (∀ v, v ≤ i → S'.H v = S.H v ∧ S'.M v = S.M v ∧ S'.f.st[v]? = S.f.st[v]? ∧ S'.f.ln[v]? = S.f.ln[v]?) ∧ (∀ u x j, j < i → InFrom J u x j → byIn x (S'.M u) = byIn x (S.M u)) ∧ (∀ v, (∀ x j, ¬ InFrom J v x j) → S'.H v = S.H v) ∧
      ∀ u x, InFrom J u x i → byIn x (S'.M u) = byIn x (S.M u) ++ (if (u, x) ∈ ts then [r] else []) := by
  intro ts
  induction ts with
  | nil => intro S _ _ h1 h2 h3; exact ⟨S, rfl, h1, h2, h3, fun _ _ => ⟨rfl, rfl, rfl, rfl⟩, fun _ _ _ _ _ => rfl, fun _ _ => rfl, fun u x _ => by simp⟩
  | cons p ts ih =>
    obtain ⟨u, x⟩ := p
    intro S hnd hin h1 h2 h3
    have hux := hin (u, x) List.mem_cons_self
    obtain ⟨hiu, hu⟩ := hux.lt hJ
    obtain ⟨A, a0, a1, a2, a3, a4, a5⟩ := hg u r x i S (by omega) hux h1 (fun v hv => h2 v (by omega)) (fun w y j hj => h3 w y j (by omega))
    have A2 : LocFrom J (i + 1) A := fun v hv => by
      rcases Nat.lt_or_ge v u with h | h
      · exact (h2 v hv).same (a4.hist v h).1 (a4.hist v h).2.1 (a4.hist v h).2.2.1 (a4.hist v h).2.2.2
      · exact a2 v h
    have hne : ∀ {y j}, InFrom J u y j → j ≠ i → y ≠ x := fun {y j} h hj e => by
      subst e
      obtain ⟨n, hn, hy⟩ := h
      obtain ⟨m, hm, hz⟩ := hux
      rw [hn] at hm; injection hm with hm; subst hm
      rw [hy] at hz; injection hz with hz; exact hj (by omega)
    have hedge : ∀ w y j, j < u → j ≠ i → InFrom J w y j → byIn y (A.M w) = byIn y (S.M w) := fun w y j hj hji hi => by
      by_cases e : w = u
      · subst e
        rw [a5, byIn_app, if_neg (fun e => hne hi hji e.symm), List.append_nil]
      · exact a4.edge w y j hj e hi
    have A3 : SyncFrom J (i + 1) A := fun w y j hj hi => by
      rcases Nat.lt_or_ge j u with h | h
      · rw [hedge w y j h (by omega) hi, (a4.hist j h).1]; exact h3 w y j hj hi
      · exact a3 w y j h hi
    have hnd2 := List.nodup_cons.1 hnd
    obtain ⟨B, b0, b1, b2, b3, b4, b5, b6, b7⟩ := ih A hnd2.2 (fun q hq => hin q (List.mem_cons_of_mem _ hq)) a1 A2 A3
    refine ⟨B, by rw [b0, a0]; rfl, b1, b2, b3, fun v hv => ?_, fun w y j hj hi => ?_, fun v hv => ?_, fun w y hi => ?_⟩
    · obtain ⟨c1, c2, c3, c4⟩ := b4 v hv
      obtain ⟨d1, d2, d3, d4⟩ := a4.hist v (by omega)
      exact ⟨c1.trans d1, c2.trans d2, c3.trans d3, c4.trans d4⟩
    · exact (b5 w y j hj hi).trans (hedge w y j (by omega) (by omega) hi)
    · exact (b6 v hv).trans (a4.alone v (fun e => hv x i (e ▸ hux)) hv)
    · rw [b7 w y hi]
      by_cases e : (w, y) = (u, x)
      · injection e with e1 e2
        subst e1; subst e2
        rw [a5, byIn_app, if_pos rfl, if_neg hnd2.1, if_pos List.mem_cons_self, List.append_nil]
      · have h4 : byIn y (A.M w) = byIn y (S.M w) := by
          by_cases ew : w = u
          · subst ew
            rw [a5, byIn_app, if_neg (fun e2 => e (by rw [e2])), List.append_nil]
          · exact a4.edge w y i hiu ew hi
        rw [h4]
        congr 1
        by_cases hm : (w, y) ∈ ts
        · rw [if_pos hm, if_pos (List.mem_cons_of_mem _ hm)]
        · rw [if_neg hm, if_neg (fun h => by rcases List.mem_cons.1 h with h | h; exact e h; exact hm h)]
theorem hand_hist {J : List Nod} (hJ : jobErr J = 0) : ∀ k, HandHist J k := by
  intro k
  induction k with
  | zero => intro i r S h1 h2; omega
  | succ k ih =>
    intro i r S hk hi h1 h2 h3
    have hil : i < S.f.gv.length := by rw [h1.gv]; exact hi
    have hS1 : Sound J ⟨bump i S.f, S.M, setAt S.H i (S.H i ++ [r])⟩ := by
      refine ⟨h1.st, by show (S.f.gv.set i _).length = _; rw [List.length_set]; exact h1.gv, h1.ln, fun v hv => ?_⟩
      show (S.f.gv.set i ((S.f.gv[i]?.getD 0) + 1))[v]? = some ((setAt S.H i (S.H i ++ [r]) v).length : Int)
      by_cases e : v = i
      · subst e
        rw [List.getElem?_set_self hil, setAt_same, h1.counts v hv, List.length_append]
        simp
      · rw [List.getElem?_set_ne (fun e2 => e e2.symm), setAt_other _ _ e]; exact h1.counts v hv
    obtain ⟨B, b0, b1, b2, b3, b4, b5, b6, b7⟩ := loop_hist hJ (get_hist hJ ih) (i := i) (by omega) r (targets J (usesAll J) i) ⟨bump i S.f, S.M, setAt S.H i (S.H i ++ [r])⟩ (targets_nodup J hi) (fun p hp => (targets_mem hi).1 hp) hS1
      (fun v hv => (h2 v hv).same (setAt_other _ _ (by omega)) rfl rfl rfl)
      (fun u x j hj hin => by show byIn x (S.M u) = setAt S.H i _ j; rw [setAt_other _ _ (by omega)]; exact h3 u x j (by omega) hin)
    have hHi : B.H i = S.H i ++ [r] := (b4 i (Nat.le_refl _)).1.trans (setAt_same _ _ _)
    refine ⟨B, b0, b1, b2, fun u x j hj hin => ?_, ⟨fun v hv => ?_, fun u x j hj hu hin => b5 u x j hj hin, fun v hv ha => (b6 v ha).trans (setAt_other _ _ hv)⟩, hHi, (b4 i (Nat.le_refl _)).2.1, (b4 i (Nat.le_refl _)).2.2.1, (b4 i (Nat.le_refl _)).2.2.2⟩
    · by_cases e : j = i
      · subst e
        rw [b7 u x hin, if_pos ((targets_mem hi).2 hin), hHi]
        show byIn x (S.M u) ++ _ = _
        rw [h3 u x j (Nat.le_refl _) hin]
      · exact b3 u x j (by omega) hin
    · obtain ⟨c1, c2⟩ := b4 v (by omega)
      exact ⟨c1.trans (setAt_other _ _ (by omega)), c2⟩

/-! ### All data -/
def AllRight (J : List Nod) (S : Sim) : Prop := Sound J S ∧ (∀ v, Local J v S) ∧ ∀ u x j, InFrom J u x j → byIn x (S.M u) = S.H j
theorem source_alone {J : List Nod} (hJ : jobErr J = 0) {s : Nat} {n : Nod} (hs : J[s]? = some n) (hk : n.kind = 1) (x j : Nat) : ¬ InFrom J s x j := by
  rintro ⟨m, hm, hx⟩
  rw [hs] at hm; injection hm with hm; subst hm
  obtain ⟨hu, he⟩ := List.getElem?_eq_some_iff.1 hs
  have h0 := nodes_zero J 0 (job_parts hJ).2.1 s hu
  rw [he] at h0
  have hxl := (List.getElem?_eq_some_iff.1 hx).1
  unfold nodeErr at h0
  split at h0
  · cases h0
  · split at h0
    · cases h0
    · rename_i h5
      rw [hk] at h5
      simp only [inHigh, if_true] at h5
      omega
theorem one_hist {J : List Nod} (hJ : jobErr J = 0) {s : Nat} {n : Nod} (hs : J[s]? = some n) (hk : n.kind = 1) (r : Rec) (S : Sim) (h : AllRight J S) :
    ∃ S' : Sim, S'.f = handT J (usesAll J) J.length s r S.f ∧ AllRight J S' ∧ S'.H s = S.H s ++ [r] ∧ ∀ v, v ≠ s → (∀ x j, ¬ InFrom J v x j) → S'.H v = S.H v := by
  obtain ⟨h1, h2, h3⟩ := h
  have hlt : s < J.length := (List.getElem?_eq_some_iff.1 hs).1
  obtain ⟨A, a0, a1, a2, a3, a4, a5, a6, a7, a8⟩ := hand_hist hJ J.length s r S (by omega) hlt h1 (fun v _ => h2 v) (fun u x j _ hi => h3 u x j hi)
  refine ⟨A, a0, ⟨a1, fun v => ?_, fun u x j hin => ?_⟩, a5, a4.alone⟩
  · rcases Nat.lt_trichotomy v s with h | h | h
    · exact (h2 v).same (a4.hist v h).1 (a4.hist v h).2.1 (a4.hist v h).2.2.1 (a4.hist v h).2.2.2
    · subst h
      intro m hm
      rw [hs] at hm; injection hm with hm; subst hm
      exact ⟨fun e => absurd e (by omega), fun _ e => absurd hk e, by rw [a6]; exact (h2 v n hs).2.2⟩
    · exact a2 v h
  · rcases Nat.lt_or_ge j s with h | h
    · rw [a4.edge u x j h (fun e => source_alone hJ hs hk x j (e ▸ hin)) hin, (a4.hist j h).1]; exact h3 u x j hin
    · exact a3 u x j h hin
theorem feed_hist {J : List Nod} (hJ : jobErr J = 0) {s : Nat} {n : Nod} (hs : J[s]? = some n) (hk : n.kind = 1) : ∀ (d : List Rec) (S : Sim), AllRight J S →
    ∃ S' : Sim, S'.f = feedT J (s : Int) d S.f ∧ AllRight J S' ∧ S'.H s = S.H s ++ d ∧ ∀ v, v ≠ s → (∀ x j, ¬ InFrom J v x j) → S'.H v = S.H v := by
  intro d
  induction d with
  | nil => intro S h; exact ⟨S, rfl, h, (List.append_nil _).symm, fun _ _ _ => rfl⟩
  | cons r d ih =>
    intro S h
    obtain ⟨A, a0, a1, a2, a3⟩ := one_hist hJ hs hk r S h
    obtain ⟨B, b0, b1, b2, b3⟩ := ih A a1
    exact ⟨B, by rw [b0, a0]; rfl, b1, by rw [b2, a2, List.append_assoc]; rfl, fun v hv ha => (b3 v hv ha).trans (a3 v hv ha)⟩
theorem feeds_hist {J : List Nod} (hJ : jobErr J = 0) : ∀ (ps : List (Int × List Rec)) (S : Sim), (∀ p ∈ ps, p.1 ∈ ofKind J 1) → (ps.map (·.1)).Nodup → AllRight J S →
    ∃ S' : Sim, S'.f = ps.foldl (fun f p => feedT J p.1 p.2 f) S.f ∧ AllRight J S' ∧ (∀ p ∈ ps, S'.H p.1.toNat = S.H p.1.toNat ++ p.2) ∧ ∀ v : Nat, (v : Int) ∉ ps.map (·.1) → (∀ x j, ¬ InFrom J v x j) → S'.H v = S.H v := by
  intro ps
  induction ps with
  | nil => intro S _ _ h; exact ⟨S, rfl, h, nofun, fun _ _ _ => rfl⟩
  | cons p ps ih =>
    obtain ⟨y, d⟩ := p
    intro S hin hnd h
    obtain ⟨s, n, e, hs, hk⟩ := kind_mem (hin (y, d) List.mem_cons_self)
    simp only at e
    subst e
    obtain ⟨A, a0, a1, a2, a3⟩ := feed_hist hJ hs hk d S h
    obtain ⟨hn1, hn2⟩ := List.nodup_cons.1 (show ((s : Int) :: ps.map (·.1)).Nodup from hnd)
    obtain ⟨B, b0, b1, b2, b3⟩ := ih A (fun q hq => hin q (List.mem_cons_of_mem _ hq)) hn2 a1
    refine ⟨B, by rw [b0, a0]; rfl, b1, fun q hq => ?_, fun v hv ha => ?_⟩
    · rcases List.mem_cons.1 hq with rfl | hq2
      · show B.H (s : Int).toNat = S.H (s : Int).toNat ++ d
        rw [Int.toNat_natCast, b3 s hn1 (source_alone hJ hs hk), a2]
      · obtain ⟨t, m, e, ht, hkt⟩ := kind_mem (hin q hq)
        have hts : t ≠ s := fun e2 => hn1 (by rw [← e2, ← e]; exact List.mem_map.2 ⟨q, hq2, rfl⟩)
        rw [b2 q hq2, e, Int.toNat_natCast, a3 t hts (source_alone hJ ht hkt)]
    · have hv2 : ¬ ((v : Int) = (s : Int) ∨ (v : Int) ∈ ps.map (·.1)) := fun h => hv (by
        rcases h with h | h
        · rw [h]; exact List.mem_cons_self
        · exact List.mem_cons_of_mem _ h)
      rw [b3 v (fun h => hv2 (.inr h)) ha]
      exact a3 v (fun e => hv2 (.inl (by rw [e]))) ha
theorem kind_nodup (J : List Nod) (k : Int) : (ofKind J k).Nodup := by
  unfold ofKind
  have h : J.zipIdx.Pairwise fun a b => a.2 < b.2 := by
    have h1 : (J.zipIdx.map (·.2)).Pairwise (· < ·) := by
      rw [List.zipIdx_map_snd]
      exact List.pairwise_lt_range'
    exact List.pairwise_map.1 h1
  have h2 := h.sublist (List.filter_sublist (p := fun p => p.1.kind == k))
  exact List.pairwise_map.2 (h2.imp fun {a b} hab => by omega)
theorem mem_kind {J : List Nod} {s : Nat} {n : Nod} (hs : J[s]? = some n) : (s : Int) ∈ ofKind J n.kind := by
  unfold ofKind
  exact List.mem_map.2 ⟨(n, s), List.mem_filter.2 ⟨List.mem_zipIdx_iff_getElem?.2 (by simpa using hs), by simp⟩, rfl⟩
/-- What came of all data. -/
theorem flow_hist {J : List Nod} (hJ : jobErr J = 0) (data : List (List Rec)) (hd : data.length = (ofKind J 1).length) :
    ∃ S : Sim, S.f = flowT J data ∧ AllRight J S ∧ ∀ (k : Nat) (s : Int) (d : List Rec), (ofKind J 1)[k]? = some s → data[k]? = some d → S.H s.toNat = d := by
  have h0 : AllRight J ⟨flow0 J.length, fun _ => [], fun _ => []⟩ := by
    refine ⟨⟨by simp [flow0], by simp [flow0], by simp [flow0], fun v hv => by simp [flow0, hv]⟩, fun v n hn => ?_, fun u x j h => rfl⟩
    have hv := (List.getElem?_eq_some_iff.1 hn).1
    exact ⟨fun _ => ⟨by simp [flow0, hv], rfl⟩, fun _ _ => ⟨by simp [flow0, hv, runLog], rfl⟩, nofun⟩
  obtain ⟨A, a0, a1, a2, a3⟩ := feeds_hist hJ ((ofKind J 1).zip data) _ (fun p hp => (List.of_mem_zip hp).1) (by rw [List.map_fst_zip (by omega)]; exact kind_nodup J 1) h0
  refine ⟨A, a0, a1, fun k s d hs hdk => ?_⟩
  have := a2 (s, d) (List.mem_of_getElem? (i := k) (by rw [List.getElem?_zip_eq_some]; exact ⟨hs, hdk⟩))
  exact this
end Go.Proofs.YtcmhbhdiepkndaaGreatDoor

/-
  DERIVED: THE SHELF's CONTRACTS AT THIS DUMP, IN PLAIN WORDS (tools/lay-plain.mjs out of 'YtcmhbhdiepkndaaGreatDoorLays0.lean', which tools/lay-shelf.mjs wrote): THE SAME DECLARATIONS UNDER THE SAME NAMES: 'import', 'namespace', 'open', 'def', 'theorem' AND NOTHING ELSE: no command of the shelf's: FOR A HAND-IN. Each laying: the table of numbers ('.._ren') and one theorem, a field a fact of the dump's own or the kernel's comparison; each contract: ONE APPLICATION.
-/
namespace Go.Proofs
open Go.Shelf
def Tryz.sort_Line_ren : Go.Shelf.Ren := ⟨fun | 6 => 31 | 15 => 42 | 14 => 41 | 28 => 63 | 29 => 64 | 20 => 55 | 21 => 56 | 22 => 57 | 23 => 58 | 24 => 59 | 25 => 60 | 26 => 61 | 27 => 62 | 46 => 69 | 47 => 70 | 48 => 71 | 49 => 72 | 50 => 73 | 57 => 79 | n => n, fun | 22 => 23 | 24 => 32 | 25 => 80 | 3 => 3 | 39 => 98 | 0 => 0 | 53 => 86 | 55 => 81 | 4 => 4 | 46 => 110 | 45 => 109 | 50 => 114 | 5 => 5 | 9 => 9 | 66 => 125 | 70 => 129 | 76 => 141 | 77 => 99 | n => n, fun | n => n⟩
theorem Tryz.sort_Line : Go.Proofs.SlLaysF0.n6 Tryz.prog Tryz.sort_Line_ren := {
  mixed := by kernel_rfl
  f6 := ⟨Tryz.f31.name, by decide, Tryz.func31.trans (congrArg some (by kernel_rfl))⟩
  f14 := ⟨Tryz.f41.name, by decide, Tryz.func41.trans (congrArg some (by kernel_rfl))⟩
  f15 := Tryz.func42.trans (congrArg some (by kernel_rfl))
  f20 := ⟨Tryz.f55.name, by decide, Tryz.func55.trans (congrArg some (by kernel_rfl))⟩
  f21 := ⟨Tryz.f56.name, by decide, Tryz.func56.trans (congrArg some (by kernel_rfl))⟩
  f22 := ⟨Tryz.f57.name, by decide, Tryz.func57.trans (congrArg some (by kernel_rfl))⟩
  f23 := ⟨Tryz.f58.name, by decide, Tryz.func58.trans (congrArg some (by kernel_rfl))⟩
  f24 := ⟨Tryz.f59.name, by decide, Tryz.func59.trans (congrArg some (by kernel_rfl))⟩
  f25 := ⟨Tryz.f60.name, by decide, Tryz.func60.trans (congrArg some (by kernel_rfl))⟩
  f26 := ⟨Tryz.f61.name, by decide, Tryz.func61.trans (congrArg some (by kernel_rfl))⟩
  f27 := ⟨Tryz.f62.name, by decide, Tryz.func62.trans (congrArg some (by kernel_rfl))⟩
  f28 := Tryz.func63.trans (congrArg some (by kernel_rfl))
  f29 := Tryz.func64.trans (congrArg some (by kernel_rfl))
  f46 := ⟨Tryz.f69.name, by decide, Tryz.func69.trans (congrArg some (by kernel_rfl))⟩
  f47 := Tryz.func70.trans (congrArg some (by kernel_rfl))
  f48 := Tryz.func71.trans (congrArg some (by kernel_rfl))
  f49 := ⟨Tryz.f72.name, by decide, Tryz.func72.trans (congrArg some (by kernel_rfl))⟩
  f50 := ⟨Tryz.f73.name, by decide, Tryz.func73.trans (congrArg some (by kernel_rfl))⟩
  f57 := ⟨Tryz.f79.name, by decide, Tryz.func79.trans (congrArg some (by kernel_rfl))⟩
  t0 := Tryz.underlying0
  a0 := Tryz.isAgg0
  z0 := Tryz.sizeOf0
  v0 := Tryz.zeroValue0
  t3 := Tryz.underlying3
  a3 := Tryz.isAgg3
  z3 := Tryz.sizeOf3
  v3 := Tryz.zeroValue3
  t4 := Tryz.underlying4
  a4 := Tryz.isAgg4
  z4 := Tryz.sizeOf4
  v4 := Tryz.zeroValue4
  t5 := Tryz.underlying5
  a5 := Tryz.isAgg5
  z5 := Tryz.sizeOf5
  v5 := Tryz.zeroValue5
  t9 := Tryz.underlying9
  a9 := Tryz.isAgg9
  z9 := Tryz.sizeOf9
  v9 := Tryz.zeroValue9
  t22 := Tryz.underlying23
  a22 := Tryz.isAgg23
  z22 := Tryz.sizeOf23
  v22 := Tryz.zeroValue23
  t25 := Tryz.underlying80
  a25 := Tryz.isAgg80
  z25 := Tryz.sizeOf80
  v25 := Tryz.zeroValue80
  t39 := Tryz.underlying98
  a39 := Tryz.isAgg98
  z39 := Tryz.sizeOf98
  v39 := Tryz.zeroValue98
  t45 := Tryz.underlying109
  a45 := Tryz.isAgg109
  z45 := Tryz.sizeOf109
  v45 := Tryz.zeroValue109
  t46 := Tryz.underlying110
  a46 := Tryz.isAgg110
  z46 := Tryz.sizeOf110
  v46 := Tryz.zeroValue110
  t50 := Tryz.underlying114
  a50 := Tryz.isAgg114
  z50 := Tryz.sizeOf114
  v50 := Tryz.zeroValue114
  t53 := Tryz.underlying86
  a53 := Tryz.isAgg86
  z53 := Tryz.sizeOf86
  v53 := Tryz.zeroValue86
  t55 := Tryz.underlying81
  a55 := Tryz.isAgg81
  z55 := Tryz.sizeOf81
  v55 := Tryz.zeroValue81
  t66 := Tryz.underlying125
  a66 := Tryz.isAgg125
  z66 := Tryz.sizeOf125
  v66 := Tryz.zeroValue125
  t70 := Tryz.underlying129
  a70 := Tryz.isAgg129
  z70 := Tryz.sizeOf129
  v70 := Tryz.zeroValue129
  t76 := Tryz.underlying141
  a76 := Tryz.isAgg141
  z76 := Tryz.sizeOf141
  v76 := Tryz.zeroValue141
  t77 := Tryz.underlying99
  a77 := Tryz.isAgg99
  z77 := Tryz.sizeOf99
  v77 := Tryz.zeroValue99 }
def Tryz.itoa_ren : Go.Shelf.Ren := ⟨fun | 171 => 54 | 243 => 68 | 246 => 78 | 283 => 84 | 284 => 85 | 285 => 86 | 286 => 87 | 129 => 64 | 317 => 95 | 318 => 96 | 319 => 97 | 320 => 98 | 337 => 102 | 338 => 103 | n => n, fun | 3 => 3 | 9 => 9 | 2 => 2 | 4 => 4 | 171 => 146 | 0 => 0 | 53 => 81 | 37 => 84 | 5 => 5 | 173 => 148 | 212 => 154 | 51 => 86 | 20 => 20 | 213 => 155 | 46 => 98 | 232 => 159 | 233 => 160 | n => n, fun | 17 => 0 | 18 => 1 | 19 => 2 | n => n⟩
theorem Tryz.itoa : Go.Proofs.LaysM.n171 Tryz.prog Tryz.itoa_ren := {
  mixed := by kernel_rfl
  f129 := Tryz.func64.trans (congrArg some (by kernel_rfl))
  f171 := Tryz.func54.trans (congrArg some (by kernel_rfl))
  f243 := Tryz.func68.trans (congrArg some (by kernel_rfl))
  f246 := Tryz.func78.trans (congrArg some (by kernel_rfl))
  f283 := Tryz.func84.trans (congrArg some (by kernel_rfl))
  f284 := Tryz.func85.trans (congrArg some (by kernel_rfl))
  f285 := Tryz.func86.trans (congrArg some (by kernel_rfl))
  f286 := Tryz.func87.trans (congrArg some (by kernel_rfl))
  f317 := Tryz.func95.trans (congrArg some (by kernel_rfl))
  f318 := Tryz.func96.trans (congrArg some (by kernel_rfl))
  f319 := Tryz.func97.trans (congrArg some (by kernel_rfl))
  f320 := Tryz.func98.trans (congrArg some (by kernel_rfl))
  f337 := Tryz.func102.trans (congrArg some (by kernel_rfl))
  f338 := Tryz.func103.trans (congrArg some (by kernel_rfl))
  t0 := Tryz.underlying0
  a0 := Tryz.isAgg0
  z0 := Tryz.sizeOf0
  v0 := Tryz.zeroValue0
  t2 := Tryz.underlying2
  a2 := Tryz.isAgg2
  z2 := Tryz.sizeOf2
  v2 := Tryz.zeroValue2
  t3 := Tryz.underlying3
  a3 := Tryz.isAgg3
  z3 := Tryz.sizeOf3
  v3 := Tryz.zeroValue3
  t4 := Tryz.underlying4
  a4 := Tryz.isAgg4
  z4 := Tryz.sizeOf4
  v4 := Tryz.zeroValue4
  t5 := Tryz.underlying5
  a5 := Tryz.isAgg5
  z5 := Tryz.sizeOf5
  v5 := Tryz.zeroValue5
  t9 := Tryz.underlying9
  a9 := Tryz.isAgg9
  z9 := Tryz.sizeOf9
  v9 := Tryz.zeroValue9
  t20 := Tryz.underlying20
  a20 := Tryz.isAgg20
  z20 := Tryz.sizeOf20
  v20 := Tryz.zeroValue20
  t37 := Tryz.underlying84
  a37 := Tryz.isAgg84
  z37 := Tryz.sizeOf84
  v37 := Tryz.zeroValue84
  t46 := Tryz.underlying98
  a46 := Tryz.isAgg98
  z46 := Tryz.sizeOf98
  v46 := Tryz.zeroValue98
  t51 := Tryz.underlying86
  a51 := Tryz.isAgg86
  z51 := Tryz.sizeOf86
  v51 := Tryz.zeroValue86
  t53 := Tryz.underlying81
  a53 := Tryz.isAgg81
  z53 := Tryz.sizeOf81
  v53 := Tryz.zeroValue81
  t171 := Tryz.underlying146
  a171 := Tryz.isAgg146
  z171 := Tryz.sizeOf146
  v171 := Tryz.zeroValue146
  t173 := Tryz.underlying148
  a173 := Tryz.isAgg148
  z173 := Tryz.sizeOf148
  v173 := Tryz.zeroValue148
  t212 := Tryz.underlying154
  a212 := Tryz.isAgg154
  z212 := Tryz.sizeOf154
  v212 := Tryz.zeroValue154
  t213 := Tryz.underlying155
  a213 := Tryz.isAgg155
  z213 := Tryz.sizeOf155
  t232 := Tryz.underlying159
  a232 := Tryz.isAgg159
  z232 := Tryz.sizeOf159
  v232 := Tryz.zeroValue159
  t233 := Tryz.underlying160
  a233 := Tryz.isAgg160
  z233 := Tryz.sizeOf160
  v233 := Tryz.zeroValue160
  g17 := by kernel_rfl
  g18 := by kernel_rfl
  g19 := by kernel_rfl
  i0 := by kernel_rfl
  i2 := by kernel_rfl
  i3 := by kernel_rfl
  i4 := by kernel_rfl
  i5 := by kernel_rfl
  i9 := by kernel_rfl
  i20 := by kernel_rfl
  i37 := by kernel_rfl
  i46 := by kernel_rfl
  i51 := by kernel_rfl
  i53 := by kernel_rfl
  i171 := by kernel_rfl
  i173 := by kernel_rfl
  i212 := by kernel_rfl
  i232 := by kernel_rfl
  i233 := by kernel_rfl
  m17 := by kernel_rfl
  m18 := by kernel_rfl
  m19 := by kernel_rfl }
def Tryz.atoi_ren : Go.Shelf.Ren := ⟨fun | 172 => 108 | 244 => 114 | 245 => 115 | 247 => 119 | 279 => 120 | 280 => 121 | 281 => 122 | 282 => 123 | 287 => 126 | 316 => 127 | 171 => 54 | 205 => 128 | 321 => 132 | 322 => 133 | 243 => 68 | 246 => 78 | 283 => 84 | 284 => 85 | 285 => 86 | 286 => 87 | 129 => 64 | 317 => 95 | 318 => 96 | 319 => 97 | 320 => 98 | 337 => 102 | 338 => 103 | n => n, fun | 9 => 9 | 3 => 3 | 75 => 41 | 76 => 102 | 4 => 4 | 5 => 5 | 167 => 173 | 37 => 84 | 0 => 0 | 85 => 174 | 2 => 2 | 168 => 176 | 53 => 81 | 175 => 180 | 46 => 98 | 210 => 184 | 127 => 193 | 145 => 196 | 143 => 194 | 21 => 21 | 171 => 146 | 173 => 148 | 212 => 154 | 51 => 86 | 20 => 20 | 213 => 155 | 232 => 159 | 233 => 160 | 80 => 50 | n => n, fun | 15 => 4 | 16 => 5 | 17 => 0 | 18 => 1 | 19 => 2 | n => n⟩
theorem Tryz.atoi : Go.Proofs.LaysC.n172 Tryz.prog Tryz.atoi_ren := {
  mixed := by kernel_rfl
  f129 := Tryz.func64.trans (congrArg some (by kernel_rfl))
  f171 := Tryz.func54.trans (congrArg some (by kernel_rfl))
  f172 := Tryz.func108.trans (congrArg some (by kernel_rfl))
  f205 := Tryz.func128.trans (congrArg some (by kernel_rfl))
  f243 := Tryz.func68.trans (congrArg some (by kernel_rfl))
  f244 := Tryz.func114.trans (congrArg some (by kernel_rfl))
  f245 := Tryz.func115.trans (congrArg some (by kernel_rfl))
  f246 := Tryz.func78.trans (congrArg some (by kernel_rfl))
  f247 := Tryz.func119.trans (congrArg some (by kernel_rfl))
  f279 := Tryz.func120.trans (congrArg some (by kernel_rfl))
  f280 := Tryz.func121.trans (congrArg some (by kernel_rfl))
  f281 := Tryz.func122.trans (congrArg some (by kernel_rfl))
  f282 := Tryz.func123.trans (congrArg some (by kernel_rfl))
  f283 := Tryz.func84.trans (congrArg some (by kernel_rfl))
  f284 := Tryz.func85.trans (congrArg some (by kernel_rfl))
  f285 := Tryz.func86.trans (congrArg some (by kernel_rfl))
  f286 := Tryz.func87.trans (congrArg some (by kernel_rfl))
  f287 := Tryz.func126.trans (congrArg some (by kernel_rfl))
  f316 := Tryz.func127.trans (congrArg some (by kernel_rfl))
  f317 := Tryz.func95.trans (congrArg some (by kernel_rfl))
  f318 := Tryz.func96.trans (congrArg some (by kernel_rfl))
  f319 := Tryz.func97.trans (congrArg some (by kernel_rfl))
  f320 := Tryz.func98.trans (congrArg some (by kernel_rfl))
  f321 := Tryz.func132.trans (congrArg some (by kernel_rfl))
  f322 := Tryz.func133.trans (congrArg some (by kernel_rfl))
  f337 := Tryz.func102.trans (congrArg some (by kernel_rfl))
  f338 := Tryz.func103.trans (congrArg some (by kernel_rfl))
  t0 := Tryz.underlying0
  a0 := Tryz.isAgg0
  z0 := Tryz.sizeOf0
  v0 := Tryz.zeroValue0
  t2 := Tryz.underlying2
  a2 := Tryz.isAgg2
  z2 := Tryz.sizeOf2
  v2 := Tryz.zeroValue2
  t3 := Tryz.underlying3
  a3 := Tryz.isAgg3
  z3 := Tryz.sizeOf3
  v3 := Tryz.zeroValue3
  t4 := Tryz.underlying4
  a4 := Tryz.isAgg4
  z4 := Tryz.sizeOf4
  v4 := Tryz.zeroValue4
  t5 := Tryz.underlying5
  a5 := Tryz.isAgg5
  z5 := Tryz.sizeOf5
  v5 := Tryz.zeroValue5
  t9 := Tryz.underlying9
  a9 := Tryz.isAgg9
  z9 := Tryz.sizeOf9
  v9 := Tryz.zeroValue9
  t20 := Tryz.underlying20
  a20 := Tryz.isAgg20
  z20 := Tryz.sizeOf20
  v20 := Tryz.zeroValue20
  t21 := Tryz.underlying21
  a21 := Tryz.isAgg21
  z21 := Tryz.sizeOf21
  v21 := Tryz.zeroValue21
  t37 := Tryz.underlying84
  a37 := Tryz.isAgg84
  z37 := Tryz.sizeOf84
  v37 := Tryz.zeroValue84
  t46 := Tryz.underlying98
  a46 := Tryz.isAgg98
  z46 := Tryz.sizeOf98
  v46 := Tryz.zeroValue98
  t51 := Tryz.underlying86
  a51 := Tryz.isAgg86
  z51 := Tryz.sizeOf86
  v51 := Tryz.zeroValue86
  t53 := Tryz.underlying81
  a53 := Tryz.isAgg81
  z53 := Tryz.sizeOf81
  v53 := Tryz.zeroValue81
  t75 := Tryz.underlying41
  a75 := Tryz.isAgg41
  z75 := Tryz.sizeOf41
  v75 := Tryz.zeroValue41
  t76 := Tryz.underlying102
  a76 := Tryz.isAgg102
  z76 := Tryz.sizeOf102
  v76 := Tryz.zeroValue102
  t85 := Tryz.underlying174
  a85 := Tryz.isAgg174
  z85 := Tryz.sizeOf174
  v85 := Tryz.zeroValue174
  t127 := Tryz.underlying193
  a127 := Tryz.isAgg193
  z127 := Tryz.sizeOf193
  v127 := Tryz.zeroValue193
  t143 := Tryz.underlying194
  a143 := Tryz.isAgg194
  z143 := Tryz.sizeOf194
  v143 := Tryz.zeroValue194
  t145 := Tryz.underlying196
  a145 := Tryz.isAgg196
  z145 := Tryz.sizeOf196
  v145 := Tryz.zeroValue196
  t167 := Tryz.underlying173
  a167 := Tryz.isAgg173
  z167 := Tryz.sizeOf173
  v167 := Tryz.zeroValue173
  t168 := Tryz.underlying176
  a168 := Tryz.isAgg176
  z168 := Tryz.sizeOf176
  v168 := Tryz.zeroValue176
  t171 := Tryz.underlying146
  a171 := Tryz.isAgg146
  z171 := Tryz.sizeOf146
  v171 := Tryz.zeroValue146
  t173 := Tryz.underlying148
  a173 := Tryz.isAgg148
  z173 := Tryz.sizeOf148
  v173 := Tryz.zeroValue148
  t175 := Tryz.underlying180
  a175 := Tryz.isAgg180
  z175 := Tryz.sizeOf180
  v175 := Tryz.zeroValue180
  t210 := Tryz.underlying184
  a210 := Tryz.isAgg184
  z210 := Tryz.sizeOf184
  v210 := Tryz.zeroValue184
  t212 := Tryz.underlying154
  a212 := Tryz.isAgg154
  z212 := Tryz.sizeOf154
  v212 := Tryz.zeroValue154
  t213 := Tryz.underlying155
  a213 := Tryz.isAgg155
  z213 := Tryz.sizeOf155
  t232 := Tryz.underlying159
  a232 := Tryz.isAgg159
  z232 := Tryz.sizeOf159
  v232 := Tryz.zeroValue159
  t233 := Tryz.underlying160
  a233 := Tryz.isAgg160
  z233 := Tryz.sizeOf160
  v233 := Tryz.zeroValue160
  g15 := by kernel_rfl
  g16 := by kernel_rfl
  g17 := by kernel_rfl
  g18 := by kernel_rfl
  g19 := by kernel_rfl
  t80 := Tryz.underlying50
  a80 := Tryz.isAgg50
  z80 := Tryz.sizeOf50
  v80 := Tryz.zeroValue50
  i0 := by kernel_rfl
  i2 := by kernel_rfl
  i3 := by kernel_rfl
  i4 := by kernel_rfl
  i5 := by kernel_rfl
  i9 := by kernel_rfl
  i20 := by kernel_rfl
  i21 := by kernel_rfl
  i37 := by kernel_rfl
  i46 := by kernel_rfl
  i51 := by kernel_rfl
  i53 := by kernel_rfl
  i75 := by kernel_rfl
  i76 := by kernel_rfl
  i80 := by kernel_rfl
  i85 := by kernel_rfl
  i127 := by kernel_rfl
  i143 := by kernel_rfl
  i145 := by kernel_rfl
  i167 := by kernel_rfl
  i168 := by kernel_rfl
  i171 := by kernel_rfl
  i173 := by kernel_rfl
  i175 := by kernel_rfl
  i210 := by kernel_rfl
  i212 := by kernel_rfl
  i232 := by kernel_rfl
  i233 := by kernel_rfl
  m15 := by kernel_rfl
  m16 := by kernel_rfl
  m17 := by kernel_rfl
  m18 := by kernel_rfl
  m19 := by kernel_rfl
  c0 := by kernel_rfl
  c2 := by kernel_rfl
  c3 := by kernel_rfl
  c4 := by kernel_rfl
  c5 := by kernel_rfl
  c9 := by kernel_rfl
  c20 := by kernel_rfl
  c21 := by kernel_rfl
  c37 := by kernel_rfl
  c46 := by kernel_rfl
  c51 := by kernel_rfl
  c53 := by kernel_rfl
  c75 := by kernel_rfl
  c76 := by kernel_rfl
  c80 := by kernel_rfl
  c85 := by kernel_rfl
  c127 := by kernel_rfl
  c143 := by kernel_rfl
  c145 := by kernel_rfl
  c167 := by kernel_rfl
  c168 := by kernel_rfl
  c171 := by kernel_rfl
  c173 := by kernel_rfl
  c175 := by kernel_rfl
  c210 := by kernel_rfl
  c212 := by kernel_rfl
  c213 := by kernel_rfl
  c232 := by kernel_rfl
  c233 := by kernel_rfl }
def Tryz.triml_ren : Go.Shelf.Ren := ⟨fun | 161 => 107 | 231 => 110 | 227 => 111 | 233 => 112 | 235 => 113 | 228 => 116 | 197 => 117 | 151 => 118 | 260 => 124 | 152 => 125 | 137 => 99 | 119 => 129 | 224 => 130 | 225 => 131 | 217 => 104 | 266 => 109 | n => n, fun | 9 => 9 | 4 => 4 | 3 => 3 | 5 => 5 | 117 => 164 | 116 => 163 | 0 => 0 | 124 => 167 | 105 => 170 | 21 => 21 | 119 => 186 | 46 => 98 | 139 => 189 | 138 => 188 | n => n, fun | 3 => 6 | 4 => 7 | n => n⟩
theorem Tryz.triml : Go.Proofs.Lays.n161 Tryz.prog Tryz.triml_ren := {
  mixed := by kernel_rfl
  f119 := Tryz.func129.trans (congrArg some (by kernel_rfl))
  f137 := Tryz.func99.trans (congrArg some (by kernel_rfl))
  f151 := Tryz.func118.trans (congrArg some (by kernel_rfl))
  f152 := Tryz.func125.trans (congrArg some (by kernel_rfl))
  f161 := Tryz.func107.trans (congrArg some (by kernel_rfl))
  f197 := Tryz.func117.trans (congrArg some (by kernel_rfl))
  f217 := Tryz.func104.trans (congrArg some (by kernel_rfl))
  f224 := Tryz.func130.trans (congrArg some (by kernel_rfl))
  f225 := Tryz.func131.trans (congrArg some (by kernel_rfl))
  f227 := Tryz.func111.trans (congrArg some (by kernel_rfl))
  f228 := Tryz.func116.trans (congrArg some (by kernel_rfl))
  f231 := Tryz.func110.trans (congrArg some (by kernel_rfl))
  f233 := Tryz.func112.trans (congrArg some (by kernel_rfl))
  f235 := Tryz.func113.trans (congrArg some (by kernel_rfl))
  f260 := Tryz.func124.trans (congrArg some (by kernel_rfl))
  f266 := Tryz.func109.trans (congrArg some (by kernel_rfl))
  t0 := Tryz.underlying0
  a0 := Tryz.isAgg0
  z0 := Tryz.sizeOf0
  v0 := Tryz.zeroValue0
  t3 := Tryz.underlying3
  a3 := Tryz.isAgg3
  z3 := Tryz.sizeOf3
  v3 := Tryz.zeroValue3
  t4 := Tryz.underlying4
  a4 := Tryz.isAgg4
  z4 := Tryz.sizeOf4
  v4 := Tryz.zeroValue4
  t5 := Tryz.underlying5
  a5 := Tryz.isAgg5
  z5 := Tryz.sizeOf5
  v5 := Tryz.zeroValue5
  t9 := Tryz.underlying9
  a9 := Tryz.isAgg9
  z9 := Tryz.sizeOf9
  v9 := Tryz.zeroValue9
  t21 := Tryz.underlying21
  a21 := Tryz.isAgg21
  z21 := Tryz.sizeOf21
  v21 := Tryz.zeroValue21
  t46 := Tryz.underlying98
  a46 := Tryz.isAgg98
  z46 := Tryz.sizeOf98
  v46 := Tryz.zeroValue98
  t105 := Tryz.underlying170
  a105 := Tryz.isAgg170
  z105 := Tryz.sizeOf170
  v105 := Tryz.zeroValue170
  t116 := Tryz.underlying163
  a116 := Tryz.isAgg163
  z116 := Tryz.sizeOf163
  t117 := Tryz.underlying164
  a117 := Tryz.isAgg164
  z117 := Tryz.sizeOf164
  v117 := Tryz.zeroValue164
  t119 := Tryz.underlying186
  a119 := Tryz.isAgg186
  z119 := Tryz.sizeOf186
  t124 := Tryz.underlying167
  a124 := Tryz.isAgg167
  z124 := Tryz.sizeOf167
  v124 := Tryz.zeroValue167
  t138 := Tryz.underlying188
  a138 := Tryz.isAgg188
  z138 := Tryz.sizeOf188
  v138 := Tryz.zeroValue188
  t139 := Tryz.underlying189
  a139 := Tryz.isAgg189
  z139 := Tryz.sizeOf189
  v139 := Tryz.zeroValue189
  g3 := by kernel_rfl
  g4 := by kernel_rfl }
def Tryz.hasp_ren : Go.Shelf.Ren := ⟨fun | 99 => 93 | 206 => 101 | n => n, fun | 9 => 9 | 4 => 4 | 3 => 3 | n => n, fun | n => n⟩
theorem Tryz.hasp : Go.Proofs.Lays.n99 Tryz.prog Tryz.hasp_ren := {
  mixed := by kernel_rfl
  f99 := Tryz.func93.trans (congrArg some (by kernel_rfl))
  f206 := Tryz.func101.trans (congrArg some (by kernel_rfl))
  t3 := Tryz.underlying3
  a3 := Tryz.isAgg3
  z3 := Tryz.sizeOf3
  v3 := Tryz.zeroValue3
  t4 := Tryz.underlying4
  a4 := Tryz.isAgg4
  z4 := Tryz.sizeOf4
  v4 := Tryz.zeroValue4
  t9 := Tryz.underlying9
  a9 := Tryz.isAgg9
  z9 := Tryz.sizeOf9
  v9 := Tryz.zeroValue9 }
def Tryz.indexb_ren : Go.Shelf.Ren := ⟨fun | 137 => 99 | 217 => 104 | 266 => 109 | n => n, fun | 9 => 9 | 5 => 5 | 3 => 3 | n => n, fun | n => n⟩
theorem Tryz.indexb : Go.Proofs.Lays.n137 Tryz.prog Tryz.indexb_ren := {
  mixed := by kernel_rfl
  f137 := Tryz.func99.trans (congrArg some (by kernel_rfl))
  f217 := Tryz.func104.trans (congrArg some (by kernel_rfl))
  f266 := Tryz.func109.trans (congrArg some (by kernel_rfl))
  t3 := Tryz.underlying3
  a3 := Tryz.isAgg3
  z3 := Tryz.sizeOf3
  v3 := Tryz.zeroValue3
  t5 := Tryz.underlying5
  a5 := Tryz.isAgg5
  z5 := Tryz.sizeOf5
  v5 := Tryz.zeroValue5
  t9 := Tryz.underlying9
  a9 := Tryz.isAgg9
  z9 := Tryz.sizeOf9
  v9 := Tryz.zeroValue9 }
end Go.Proofs

/-
  Package expr: how a tree and a reader lie in memory; the contracts of the reader's small methods. No condition of ours.
-/
namespace Go.Proofs.YtcmhbhdiepkndaaGreatDoor
open Go.RowKit Go.Shelf
set_option linter.unusedVariables false

/-- A reader of s, at a place, so deep, in block R. -/
def RdAt (w : World) (R : Nat) (s : ByteArray) (p d : Nat) : Prop := w.heap[R]? = some (.cells #[.string s, .int .i64 p, .int .i64 d] 136 (0, 0))
theorem RdAt.lt {w : World} {R : Nat} {s : ByteArray} {p d : Nat} (h : RdAt w R s p d) : R < w.heap.size := block_lt h
theorem RdAt.cells {w : World} {R : Nat} {s : ByteArray} {p d : Nat} (h : RdAt w R s p d) : w.cell? ⟨R, 0, none⟩ = some (.string s) ∧ w.cell? ⟨R, 1, none⟩ = some (.int .i64 p) ∧ w.cell? ⟨R, 2, none⟩ = some (.int .i64 d) ∧ (∀ i, w.frozen? ⟨R, i, none⟩ = false) :=
  ⟨(cell_of_row w R 0 _ _ _ h).trans rfl, (cell_of_row w R 1 _ _ _ h).trans rfl, (cell_of_row w R 2 _ _ _ h).trans rfl, fun i => by simp [World.frozen?, RdAt] at h ⊢; simp [h]⟩
theorem RdAt.keep {w w' : World} {R : Nat} {s : ByteArray} {p d : Nat} (h : RdAt w R s p d) (hs : w'.heap[R]? = w.heap[R]?) : RdAt w' R s p d := hs.trans h
theorem RdAt.moved {w : World} {R : Nat} {s : ByteArray} {p d : Nat} (h : RdAt w R s p d) (q : Nat) : RdAt (w.setCell ⟨R, 1, none⟩ (.int .i64 q)) R s q d := by
  unfold RdAt at h ⊢
  simp [World.setCell, Array.getElem?_modify, h]
theorem RdAt.deeper {w : World} {R : Nat} {s : ByteArray} {p d : Nat} (h : RdAt w R s p d) (q : Nat) : RdAt (w.setCell ⟨R, 2, none⟩ (.int .i64 q)) R s p q := by
  unfold RdAt at h ⊢
  simp [World.setCell, Array.getElem?_modify, h]
def headB (l : List UInt8) : Int := match l with
  | [] => 0
  | c :: _ => (c.toNat : Int)
theorem drop_head {s : ByteArray} {p : Nat} (h : p < s.size) : s.data.toList.drop p = s.data[p]'h :: s.data.toList.drop (p + 1) := by
  rw [List.drop_eq_getElem_cons (by simpa using h)]; simp
set_option maxRecDepth 100000 in
theorem peek_ok (R : Nat) (s : ByteArray) (p d : Nat) (w : World) (h : RdAt w R s p d) (hp : p ≤ s.size) :
    Calls Tryz.prog 91 #[.pointer (some ⟨R, 0, none⟩)] w fun e w' => e = .returned (.int .u8 (headB (s.data.toList.drop p))) ∧ ∃ q, w' = w.drewN q := by
  obtain ⟨c0, c1, c2, cf⟩ := h.cells
  by_cases hlt : p < s.size
  · have d1 : decide ((p : Int) < (s.size : Int)) = true := decide_eq_true (by omega)
    rw [drop_head hlt]
    go_enter Tryz.func91, Tryz.ntmps91
    go_wp2
    go_quiet (fail)
    go_wp2
    go_quiet (fail)
    go_wp2
    go_ret
    exact ⟨rfl, _, World.drewN_drewN _ _ _⟩
  · have d1 : decide ((p : Int) < (s.size : Int)) = false := decide_eq_false (by omega)
    have e : s.data.toList.drop p = [] := List.drop_eq_nil_of_le (by simpa using hlt)
    rw [e]
    go_enter Tryz.func91, Tryz.ntmps91
    go_wp2
    go_quiet (fail)
    go_wp2
    go_ret
    exact ⟨rfl, _, rfl⟩
/-- A text is there. -/
def hasB (s : ByteArray) (p : Nat) (t : ByteArray) : Bool := Lib.hasPrefix (s.data.toList.drop p) t.data.toList
theorem slice_drop (s : ByteArray) (p : Nat) : (s.extract p s.size).data.toList = s.data.toList.drop p := by
  simp [ByteArray.data_extract]
  exact List.take_of_length_le (by simp)
theorem hasp_ok (s : ByteArray) (p : Nat) (t : ByteArray) (w : World) : Calls Tryz.prog 93 #[.string (s.extract p s.size), .string t] w fun e w' => e = .returned (.bool (hasB s p t)) ∧ w' = w := by
  have := Any.strings_HasPrefix Tryz.hasp (s.extract p s.size) t w
  rw [slice_drop] at this
  exact this
theorem hasp_b {s : ByteArray} {p : Nat} {t : ByteArray} {b : Bool} (h : hasB s p t = b) (w : World) : Calls Tryz.prog 93 #[.string (s.extract p s.size), .string t] w fun e w' => e = .returned (.bool b) ∧ w' = w := h ▸ hasp_ok s p t w
theorem has_le {s t : ByteArray} {p : Nat} (h : hasB s p t = true) (hp : p ≤ s.size) : p + t.size ≤ s.size := by
  have h1 := (List.isPrefixOf_iff_prefix.1 h).length_le
  rw [List.length_drop] at h1
  have e1 : s.data.toList.length = s.size := by simp
  have e2 : t.data.toList.length = t.size := by simp
  omega
set_option maxRecDepth 100000 in
theorem has_ok (R : Nat) (s t : ByteArray) (p d : Nat) (w : World) (h : RdAt w R s p d) (hp : p ≤ s.size) (hs : s.size ≤ 120) :
    Calls Tryz.prog 81 #[.pointer (some ⟨R, 0, none⟩), .string t] w fun e w' => e = .returned (.bool (hasB s p t)) ∧ RdAt w' R s (if hasB s p t then p + t.size else p) d ∧ Frm (· = R) w w' := by
  obtain ⟨c0, c1, c2, cf⟩ := h.cells
  have HH := Lib.hid h
  have hl := fun h => has_le (s := s) (t := t) (p := p) h hp
  have dp : ¬ s.size < p := by omega
  cases hb : hasB s p t with
  | true =>
    have hl2 := hl hb
    clear hl
    go_enter Tryz.func81, Tryz.ntmps81
    go_wp2_with fail
    go_quiet ((go_at_call 93; exact Calls.quiet_of_same (hasp_b hb _)))
    go_wp2_with fail
    go_ret
    rw [show ((p : Int) + (t.size : Int)) = ((p + t.size : Nat) : Int) from by omega]
    exact ⟨rfl, (HH.out.keep (w' := w.drewN nq) rfl).moved (p + t.size), ((Frm.refl (· = R) w).drewN nq).setCell (p := ⟨R, 1, none⟩) (.inl rfl) _⟩
  | false =>
    clear hl
    go_enter Tryz.func81, Tryz.ntmps81
    go_wp2_with fail
    go_quiet ((go_at_call 93; exact Calls.quiet_of_same (hasp_b hb _)))
    go_wp2_with fail
    go_ret
    exact ⟨rfl, HH.out.keep rfl, (Frm.refl _ _).drewN _⟩
/-- The panic of a fault. -/
def faultV (p : Nat) (k : Int) : Value := .iface 132 (.agg #[.int .i64 p, .iface 66 (.int .i64 k)])
def faultE (p : Nat) (k : Int) : Ending := .panicked [{ v := faultV p k, recovered := false }]
set_option maxRecDepth 100000 in
theorem fail_ok (R p : Nat) (k : Int) (w : World) : Calls Tryz.prog 76 #[.pointer (some ⟨R, 0, none⟩), .int .i64 p, .iface 66 (.int .i64 k)] w fun e w' => e = faultE p k ∧ w' = w := by
  have hpn : ∀ (t : TypeId) (v : Value) (w : World), (Instr.panic (.iface t v)).run Tryz.prog w = .halt (.panic (.iface t v)) w := fun _ _ _ => rfl
  go_enter Tryz.func76, Tryz.ntmps76
  go_wp2_with fail
  exact ⟨rfl, rfl, rfl⟩
set_option maxRecDepth 100000 in
theorem want_yes (R : Nat) (s t : ByteArray) (p d : Nat) (w : World) (h : RdAt w R s p d) (hp : p ≤ s.size) (hs : s.size ≤ 120) (hb : hasB s p t = true) :
    Calls Tryz.prog 83 #[.pointer (some ⟨R, 0, none⟩), .string t] w fun e w' => e = .returned (.tuple #[]) ∧ RdAt w' R s (p + t.size) d ∧ Frm (· = R) w w' := by
  have HAS := Lib.hid (has_ok R s t p d w h hp hs)
  rw [hb] at HAS
  go_enter Tryz.func83, Tryz.ntmps83
  go_wp2_with fail
  refine HAS.out.mono ?_
  rintro e w1 ⟨rfl, h1, f1⟩
  have H1 := Lib.hid h1
  have F1 := Lib.hid f1
  clear h1 f1
  go_wp2_with fail
  exact ⟨rfl, .tuple #[], by simp [results, Tryz.results83, go_sem], rfl, by simpa using H1.out, F1.out⟩
set_option maxRecDepth 100000 in
theorem want_no (R : Nat) (s t : ByteArray) (p d : Nat) (w : World) (h : RdAt w R s p d) (hp : p ≤ s.size) (hs : s.size ≤ 120) (hb : hasB s p t = false) :
    Calls Tryz.prog 83 #[.pointer (some ⟨R, 0, none⟩), .string t] w fun e w' => e = faultE p 2 ∧ RdAt w' R s p d ∧ Frm (· = R) w w' := by
  have HAS := Lib.hid (has_ok R s t p d w h hp hs)
  rw [hb] at HAS
  go_enter Tryz.func83, Tryz.ntmps83
  go_wp2_with fail
  refine HAS.out.mono ?_
  rintro e w1 ⟨rfl, h1, f1⟩
  obtain ⟨c0, c1, c2, cf⟩ := RdAt.cells h1
  have H1 := Lib.hid h1
  have F1 := Lib.hid f1
  clear h1 f1
  simp only [Bool.false_eq_true, if_false] at c1 H1
  go_wp2_with fail
  refine (fail_ok R p 2 w1).mono ?_
  rintro e w2 ⟨rfl, rfl⟩
  exact ⟨rfl, rfl, H1.out, F1.out⟩
end Go.Proofs.YtcmhbhdiepkndaaGreatDoor

/-
  Package expr: how a tree lies in memory; what a reader's method leaves; the contract of within, whatever is read one level deeper. No condition of ours.
-/
namespace Go.Proofs.YtcmhbhdiepkndaaGreatDoor
open Go.RowKit Go.Shelf
set_option linter.unusedVariables false

/-- A row of kids in block g. -/
def KidsAt (F : Nat → Prop) (w : World) (g : Nat) (cs : List Value) : Prop := F g ∧ w.heap[g]? = some (.cells cs.toArray 120 (0, 0))
/-- The cells of a tree. -/
def TrC (F : Nat → Prop) (w : World) : Tr → List Value → Prop
  | .num k, cs => cs = [.int .u8 48, .int .i64 k, .slice none 0 0]
  | .nam n, cs => cs = [.int .u8 (if n then 110 else 115), .int .i64 0, .slice none 0 0]
  | .neg a, cs => ∃ g ca, cs = [.int .u8 126, .int .i64 0, .slice (some ⟨g, 0, none⟩) 1 1] ∧ KidsAt F w g ca ∧ TrC F w a ca
  | .bin op a b, cs => ∃ g ca cb, cs = [.int .u8 (op.toNat : Int), .int .i64 0, .slice (some ⟨g, 0, none⟩) 2 2] ∧ KidsAt F w g (ca ++ cb) ∧ TrC F w a ca ∧ TrC F w b cb
  | .sel a b c, cs => ∃ g ca cb cc, cs = [.int .u8 63, .int .i64 0, .slice (some ⟨g, 0, none⟩) 3 3] ∧ KidsAt F w g (ca ++ cb ++ cc) ∧ TrC F w a ca ∧ TrC F w b cb ∧ TrC F w c cc
/-- The cells of a tree, as they look. -/
def trL (o n : Int) (A : Option Addr) (c : Nat) : List Value := [.int .u8 o, .int .i64 n, .slice A c c]
def trA (o n : Int) (A : Option Addr) (c : Nat) : Array Value := #[.int .u8 o, .int .i64 n, .slice A c c]
theorem TrC.three {F : Nat → Prop} {w : World} {t : Tr} {cs : List Value} (h : TrC F w t cs) : ∃ o n A c, cs = trL o n A c := by
  cases t with
  | num k => exact ⟨_, _, _, _, h⟩
  | nam n => exact ⟨_, _, _, _, h⟩
  | neg a => obtain ⟨g, ca, h, _⟩ := h; exact ⟨_, _, _, _, h⟩
  | bin op a b => obtain ⟨g, ca, cb, h, _⟩ := h; exact ⟨_, _, _, _, h⟩
  | sel a b c => obtain ⟨g, ca, cb, cc, h, _⟩ := h; exact ⟨_, _, _, _, h⟩
theorem KidsAt.keep {F : Nat → Prop} {w w' : World} {g : Nat} {cs : List Value} (h : KidsAt F w g cs) (hs : Same F w w') : KidsAt F w' g cs := ⟨h.1, (hs g h.1).trans h.2⟩
theorem KidsAt.in_ {F G : Nat → Prop} {w : World} {g : Nat} {cs : List Value} (h : KidsAt F w g cs) (hF : ∀ k, F k → k < w.heap.size → G k) : KidsAt G w g cs := ⟨hF g h.1 (block_lt h.2), h.2⟩
theorem TrC.keep {F : Nat → Prop} {w w' : World} {t : Tr} {cs : List Value} (h : TrC F w t cs) (hs : Same F w w') : TrC F w' t cs := by
  induction t generalizing cs with
  | num k => exact h
  | nam n => exact h
  | neg a iha => obtain ⟨g, ca, h1, h2, h3⟩ := h; exact ⟨g, ca, h1, h2.keep hs, iha h3⟩
  | bin op a b iha ihb => obtain ⟨g, ca, cb, h1, h2, h3, h4⟩ := h; exact ⟨g, ca, cb, h1, h2.keep hs, iha h3, ihb h4⟩
  | sel a b c iha ihb ihc => obtain ⟨g, ca, cb, cc, h1, h2, h3, h4, h5⟩ := h; exact ⟨g, ca, cb, cc, h1, h2.keep hs, iha h3, ihb h4, ihc h5⟩
theorem TrC.in_ {F G : Nat → Prop} {w : World} {t : Tr} {cs : List Value} (h : TrC F w t cs) (hF : ∀ k, F k → k < w.heap.size → G k) : TrC G w t cs := by
  induction t generalizing cs with
  | num k => exact h
  | nam n => exact h
  | neg a iha => obtain ⟨g, ca, h1, h2, h3⟩ := h; exact ⟨g, ca, h1, h2.in_ hF, iha h3⟩
  | bin op a b iha ihb => obtain ⟨g, ca, cb, h1, h2, h3, h4⟩ := h; exact ⟨g, ca, cb, h1, h2.in_ hF, iha h3, ihb h4⟩
  | sel a b c iha ihb ihc => obtain ⟨g, ca, cb, cc, h1, h2, h3, h4, h5⟩ := h; exact ⟨g, ca, cb, cc, h1, h2.in_ hF, iha h3, ihb h4, ihc h5⟩
/-- A reader's place, by what is left. -/
def RdL (w : World) (R : Nat) (s : ByteArray) (l : List UInt8) (d : Nat) : Prop := l.length ≤ s.size ∧ l = s.data.toList.drop (s.size - l.length) ∧ RdAt w R s (s.size - l.length) d
/-- The two variables that Atoi's errors hold; they are no reader's. -/
def NumVar (w : World) (R g : Nat) : Prop := g ≠ R ∧ ∃ ev, w.cell? ⟨g, 0, none⟩ = some ev ∧ (ev = .nilIface ∨ ∃ te pe, ev = .iface te pe)
def NumVars (w : World) (R : Nat) : Prop := NumVar w R (Tryz.atoi_ren.g 15) ∧ NumVar w R (Tryz.atoi_ren.g 16)
theorem NumVar.frm {w w' : World} {R g : Nat} (h : NumVar w R g) (hF : Frm (· = R) w w') : NumVar w' R g := by
  obtain ⟨h0, ev, h1, h2⟩ := h
  exact ⟨h0, ev, (World.cell?_of_block (a := ⟨g, 0, none⟩) (hF.block g (cell_lt h1) h0)).trans h1, h2⟩
theorem NumVars.frm {w w' : World} {R : Nat} (h : NumVars w R) (hF : Frm (· = R) w w') : NumVars w' R := ⟨h.1.frm hF, h.2.frm hF⟩
/-- What a reader's method leaves, entered in w. -/
def Reads_ (R : Nat) (s : ByteArray) (d : Nat) (w : World) (r : Rd) (e : Ending) (w' : World) : Prop := match r with
  | .ok t l => ∃ o n A c, e = .returned (.agg (trA o n A c)) ∧ TrC (w.heap.size ≤ ·) w' t (trL o n A c) ∧ RdL w' R s l d ∧ Frm (· = R) w w'
  | .bad k j => e = faultE (s.size - k) j ∧ (∃ p, RdAt w' R s p d) ∧ Frm (· = R) w w'

/-- within's deferred closure: one level less. -/
theorem up_any (B R p d : Nat) (s : ByteArray) (u : FrameMode) (w : World) (hB : w.cell? ⟨B, 0, none⟩ = some (.pointer (some ⟨R, 0, none⟩))) (h : RdAt w R s p (d + 1)) (hd : d ≤ 1000) :
    CallsD Tryz.prog 94 #[.pointer (some ⟨B, 0, none⟩)] u w fun e u' w' => u' = u ∧ (e = .returned (.tuple #[]) ∧ w' = w.setCell ⟨R, 2, none⟩ (.int .i64 d)) := by
  obtain ⟨c0, c1, c2, cf⟩ := h.cells
  have e1 : ((d + 1 : Nat) : Int) - 1 = (d : Int) := by omega
  go_enter_d Tryz.func94, Tryz.ntmps94
  go_wp2_with fail
  exact ⟨rfl, .tuple #[], by simp [results, Tryz.results94, go_sem], rfl, rfl⟩
set_option maxRecDepth 100000 in
theorem within_full (R p at_ : Nat) (s : ByteArray) (fv : Value) (w : World) (h : RdAt w R s p 20) :
    Calls Tryz.prog 82 #[.pointer (some ⟨R, 0, none⟩), .int .i64 at_, fv] w fun e w' => e = faultE at_ 4 ∧ RdAt w' R s p 20 ∧ Frm (· = R) w w' := by
  have hlt := h.lt
  obtain ⟨c0, c1, c2, cf⟩ := h.cells
  have HH := Lib.hid h
  go_enter_defers Tryz.func82, Tryz.ntmps82
  go_wp2_with fail
  refine (fail_ok R at_ 4 _).mono ?_
  rintro e w1 ⟨rfl, rfl⟩
  have hF : Frm (· = R) w ((w.alloc (.cells #[.pointer (some ⟨R, 0, none⟩)] 134)).alloc (.cells #[.int .u8 0, .int .i64 0, .slice none 0 0] 120)) := ((Frm.refl _ _).alloc _).alloc _
  exact ⟨rfl, HH.out.keep ((heap_alloc_old _ _ (by simp; omega)).trans (heap_alloc_old _ _ hlt)), hF⟩
/-- A variable of a tree's type, in block k. -/
def TVar (w : World) (k : Nat) (x y z : Value) : Prop := w.heap[k]? = some (.cells #[x, y, z] 120 (0, 0))
theorem TVar.cells {w : World} {k : Nat} {x y z : Value} (h : TVar w k x y z) : w.cell? ⟨k, 0, none⟩ = some x ∧ w.cell? ⟨k, 1, none⟩ = some y ∧ w.cell? ⟨k, 2, none⟩ = some z ∧ (∀ i, w.frozen? ⟨k, i, none⟩ = false) :=
  ⟨(cell_of_row w k 0 _ _ _ h).trans rfl, (cell_of_row w k 1 _ _ _ h).trans rfl, (cell_of_row w k 2 _ _ _ h).trans rfl, fun i => by simp [World.frozen?, TVar] at h ⊢; simp [h]⟩
/-- A variable of a tree's type is written. -/
def tset (w : World) (k : Nat) (x y z : Value) : World := ((w.setCell ⟨k, 0, none⟩ x).setCell ⟨k, 1, none⟩ y).setCell ⟨k, 2, none⟩ z
theorem TVar.put {w : World} {k : Nat} {x y z : Value} (h : TVar w k x y z) (x' y' z' : Value) : TVar (tset w k x' y' z') k x' y' z' := by
  unfold TVar at h ⊢
  simp [tset, World.setCell, Array.getElem?_modify, h]
theorem tset_far (w : World) {k j : Nat} (h : j ≠ k) (x y z : Value) : (tset w k x y z).heap[j]? = w.heap[j]? := by
  unfold tset
  iterate 3 rw [Below.heap_setCell _ _ _ _ (by simpa using h)]
theorem tset_size (w : World) (k : Nat) (x y z : Value) : (tset w k x y z).heap.size = w.heap.size := by simp [tset]
theorem Frm.tset {F : Nat → Prop} {a w : World} (h : Frm F a w) {k : Nat} (hk : F k ∨ a.heap.size ≤ k) (x y z : Value) : Frm F a (Go.Proofs.YtcmhbhdiepkndaaGreatDoor.tset w k x y z) := ((h.setCell (p := ⟨k, 0, none⟩) hk _).setCell (p := ⟨k, 1, none⟩) hk _).setCell (p := ⟨k, 2, none⟩) hk _
set_option maxRecDepth 100000 in
set_option maxHeartbeats 4000000 in
theorem within_ok (R p at_ d K : Nat) (s : ByteArray) (first cap : Array Value) (w : World) (r : Rd) (h : RdAt w R s p d) (hd : d ≠ 20) (hd2 : d ≤ 20)
    (hK : ∀ args w, (callFunc K args).run Tryz.prog w = .ok (.enter K args) w)
    (hC : ∀ W, RdAt W R s p (d + 1) → Frm (· = R) w W → Calls Tryz.prog K (first ++ cap) W (Reads_ R s (d + 1) W r)) :
    Calls Tryz.prog 82 #[.pointer (some ⟨R, 0, none⟩), .int .i64 at_, .func (.func K) first cap] w (Reads_ R s d w r) := by
  have hlt := h.lt
  obtain ⟨c0, c1, c2, cf⟩ := h.cells
  have HH := Lib.hid h
  have hne : ((d : Int) == 20) = false := beq_eq_false_iff_ne.2 (by omega)
  have hmf : ∀ (fn : Fn) (first cap : Array Value) (w : World), (Instr.makeFunc fn first cap).run Tryz.prog w = .ok (.func fn first cap) w := fun _ _ _ _ => rfl
  have HC := Lib.hid hC
  clear hC
  go_enter_defers Tryz.func82, Tryz.ntmps82
  go_wp2_with fail
  have ed : (d : Int) + 1 = ((d + 1 : Nat) : Int) := by omega
  obtain ⟨W, hW⟩ : ∃ W, W = ((w.setCell ⟨R, 2, none⟩ (.int .i64 ((d : Int) + 1))).alloc (.cells #[.pointer (some ⟨R, 0, none⟩)] 134)).alloc (.cells #[.int .u8 0, .int .i64 0, .slice none 0 0] 120) := ⟨_, rfl⟩
  have hWs : W.heap.size = w.heap.size + 2 := by rw [hW]; simp
  have hWR : RdAt W R s p (d + 1) := by
    rw [hW, ed]
    exact (HH.out.deeper (d + 1)).keep ((heap_alloc_old _ _ (by simp; omega)).trans (heap_alloc_old _ _ (by simpa using hlt)))
  have hWF : Frm (· = R) w W := by
    rw [hW]; exact ((((Frm.refl (· = R) w).setCell (p := ⟨R, 2, none⟩) (.inl rfl) _).alloc _).alloc _)
  have hWB : W.heap[w.heap.size]? = some (.cells #[.pointer (some ⟨R, 0, none⟩)] 134 (0, 0)) := by
    rw [hW]
    refine (heap_alloc_old _ _ (by simp)).trans ?_
    have := heap_alloc_new (w.setCell ⟨R, 2, none⟩ (.int .i64 ((d : Int) + 1))) (.cells #[.pointer (some ⟨R, 0, none⟩)] 134)
    simp only [World.size_setCell] at this
    exact this
  have hWT : TVar W (w.heap.size + 1) (.int .u8 0) (.int .i64 0) (.slice none 0 0) := by
    rw [hW]
    have := heap_alloc_new ((w.setCell ⟨R, 2, none⟩ (.int .i64 ((d : Int) + 1))).alloc (.cells #[.pointer (some ⟨R, 0, none⟩)] 134)) (.cells #[.int .u8 0, .int .i64 0, .slice none 0 0] 120)
    simpa [TVar] using this
  rw [← hW]
  have HWR := Lib.hid hWR
  have HWF := Lib.hid hWF
  have HWT := Lib.hid hWT
  have HWB := Lib.hid hWB
  have HWS := Lib.hid hWs
  have HRW := Lib.hid hlt
  clear hW hWR hWF hWT hWB hWs c0 c1 c2 cf h
  refine (HC.out W HWR.out HWF.out).mono ?_
  intro e w2 hr
  cases r with
  | ok t l =>
    obtain ⟨o, n, A, c, rfl, ht, hl, hf⟩ := hr
    have HT := Lib.hid ht
    have HL := Lib.hid hl
    have HF := Lib.hid hf
    have hv : TVar w2 (w.heap.size + 1) (.int .u8 0) (.int .i64 0) (.slice none 0 0) := (hf.block _ (by have := HWS.out; omega) (by have := HRW.out; omega)).trans HWT.out
    obtain ⟨v0, v1, v2, vf⟩ := hv.cells
    clear ht hl hf hv hlt
    simp only [trA]
    go_wp2_with fail
    obtain ⟨W3, hW3⟩ : ∃ W3, W3 = tset w2 (w.heap.size + 1) (.int .u8 o) (.int .i64 n) (.slice A c c) := ⟨_, rfl⟩
    have hsz : w.heap.size + 2 ≤ w2.heap.size := by have := HWS.out; have := HF.out.size; omega
    have h2F : Frm (· = R) w w2 := HWF.out.trans HF.out (fun _ h => h) (fun _ h => .inl h)
    have h3B : W3.heap[w.heap.size]? = some (.cells #[.pointer (some ⟨R, 0, none⟩)] 134 (0, 0)) := by
      rw [hW3, tset_far _ (by omega)]
      exact (HF.out.block _ (by have := HWS.out; omega) (by have := HRW.out; omega)).trans HWB.out
    have h3R : RdL W3 R s l (d + 1) := ⟨HL.out.1, HL.out.2.1, HL.out.2.2.keep (by rw [hW3, tset_far _ (by have := HRW.out; omega)])⟩
    have h3F : Frm (· = R) w W3 := by rw [hW3]; exact h2F.tset (.inr (by omega)) _ _ _
    have h3V : TVar W3 (w.heap.size + 1) (.int .u8 o) (.int .i64 n) (.slice A c c) := by
      rw [hW3]
      exact TVar.put (x := .int .u8 0) (y := .int .i64 0) (z := .slice none 0 0) ((HF.out.block _ (by have := HWS.out; omega) (by have := HRW.out; omega)).trans HWT.out) _ _ _
    have h3T : TrC (w.heap.size + 2 ≤ ·) W3 t (trL o n A c) := by
      refine TrC.keep (HT.out.in_ fun k hk _ => by have := HWS.out; omega) fun k hk => ?_
      rw [hW3, tset_far _ (by omega)]
    have hWd : (((w2.setCell ⟨w.heap.size + 1, 0, none⟩ (.int .u8 o)).setCell ⟨w.heap.size + 1, 1, none⟩ (.int .i64 n)).setCell ⟨w.heap.size + 1, 2, none⟩ (.slice A c c)) = W3 := hW3.symm
    rw [hWd]
    refine leaves_cons (f := 94) (args := #[.pointer (some ⟨w.heap.size, 0, none⟩)]) (by simp) (by simp [go_sem]) ?_
    refine (up_any w.heap.size R _ d s .returning W3 ((cell_of_row W3 w.heap.size 0 _ _ _ h3B).trans rfl) h3R.2.2 (by omega)).mono ?_
    rintro e u' w4 ⟨rfl, rfl, rfl⟩
    have h4V : TVar (W3.setCell ⟨R, 2, none⟩ (.int .i64 d)) (w.heap.size + 1) (.int .u8 o) (.int .i64 n) (.slice A c c) := (Below.heap_setCell _ _ _ _ (by have := HRW.out; simp; omega)).trans h3V
    obtain ⟨q0, q1, q2, qf⟩ := h4V.cells
    refine ⟨.agg (trA o n A c), ?_, o, n, A, c, rfl, ?_, ?_, ?_⟩
    · simp only [results, Tryz.results82]
      simp [go_sem, q0, q1, q2, trA]
    · exact (h3T.keep fun k hk => Below.heap_setCell _ _ _ _ (by have := HRW.out; simp; omega)).in_ fun k hk _ => by omega
    · exact ⟨h3R.1, h3R.2.1, h3R.2.2.deeper d⟩
    · exact h3F.setCell (p := ⟨R, 2, none⟩) (.inl rfl) _
  | bad k j =>
    obtain ⟨rfl, ⟨p2, hp2⟩, hf⟩ := hr
    simp only [faultE]
    refine leaves_cons (f := 94) (args := #[.pointer (some ⟨w.heap.size, 0, none⟩)]) (by simp) (by simp [go_sem]) ?_
    have h2B : w2.heap[w.heap.size]? = some (.cells #[.pointer (some ⟨R, 0, none⟩)] 134 (0, 0)) := (hf.block _ (by have := HWS.out; omega) (by have := HRW.out; omega)).trans HWB.out
    refine (up_any w.heap.size R _ d s _ w2 ((cell_of_row w2 w.heap.size 0 _ _ _ h2B).trans rfl) hp2 (by omega)).mono ?_
    rintro e u' w4 ⟨rfl, rfl, rfl⟩
    exact ⟨rfl, ⟨p2, hp2.deeper d⟩, (HWF.out.trans hf (fun _ h => h) (fun _ h => .inl h)).setCell (p := ⟨R, 2, none⟩) (.inl rfl) _⟩
end Go.Proofs.YtcmhbhdiepkndaaGreatDoor

/-
  Expressions, plain: what is read of a text is read of it with other bytes behind that do not go on, at the same or a greater depth, or it is too deep there. No condition: plain lemmas.
-/
namespace Go.Proofs.YtcmhbhdiepkndaaGreatDoor
open Go.RowKit
set_option linter.unusedVariables false

theorem Rd.bind_ok {r : Rd} {f : Tr → List UInt8 → Rd} {t : Tr} {l : List UInt8} (h : r.bind f = .ok t l) : ∃ a l1, r = .ok a l1 ∧ f a l1 = .ok t l := by
  cases r with
  | ok a l1 => exact ⟨a, l1, rfl, h⟩
  | bad k e => cases h
theorem want_ok {c : UInt8} {l : List UInt8} {f : List UInt8 → Rd} {t : Tr} {r : List UInt8} (h : wantRd c l f = .ok t r) : ∃ l1, l = c :: l1 ∧ f l1 = .ok t r := by
  cases l with
  | nil => cases h
  | cons x l1 =>
    by_cases e : x = c
    · subst e
      refine ⟨l1, rfl, ?_⟩
      simpa [wantRd] using h
    · simp [wantRd, e] at h
theorem deep_ok {d k : Nat} {f : Rd} {t : Tr} {r : List UInt8} (h : deepRd d k f = .ok t r) : d ≠ 20 ∧ f = .ok t r := by
  unfold deepRd at h
  split at h
  · cases h
  · exact ⟨by assumption, h⟩

/-! ### Nothing is read for nothing -/
def Short (X : List UInt8 → Rd) : Prop := ∀ l t r, X l = .ok t r → r.length < l.length
theorem two_short {W : Reads} (hW : ∀ d, Short (W d)) (op : UInt8) (d : Nat) : Short (twoRd W op d) := fun l t r h => by
  obtain ⟨a, l1, h1, h⟩ := Rd.bind_ok h
  obtain ⟨l2, rfl, h⟩ := want_ok h
  obtain ⟨b, l3, h3, h⟩ := Rd.bind_ok h
  obtain ⟨l4, rfl, h⟩ := want_ok h
  injection h with _ h; subst h
  have := hW d _ _ _ h1; have := hW d _ _ _ h3
  simp only [List.length_cons] at *; omega
theorem numOf_le (l : List UInt8) : (numOf l).length ≤ l.length := by
  have h : (digsOf l).length ≤ l.length := (List.takeWhile_prefix _).length_le
  unfold numOf
  split
  · rename_i c d r e
    rw [e] at h
    split
    · simp only [List.length_cons, List.length_nil] at *; omega
    · exact h
  · exact h
theorem num_ok {l : List UInt8} {t : Tr} {r : List UInt8} (h : numRd l = .ok t r) : numOf l ≠ [] ∧ digVal (numOf l) ≤ 9223372036854775807 ∧ t = .num (digVal (numOf l)) ∧ r = l.drop (numOf l).length := by
  unfold numRd at h
  split at h
  · cases h
  · rename_i hn
    injection h with h1 h2
    refine ⟨fun e => hn (.inl e), ?_, h1.symm, h2.symm⟩
    rcases Nat.lt_or_ge 9223372036854775807 (digVal (numOf l)) with h | h
    · exact absurd (.inr h) hn
    · exact h
theorem num_short : Short numRd := fun l t r h => by
  obtain ⟨h1, _, _, rfl⟩ := num_ok h
  have h2 := numOf_le l
  have h3 : 0 < (numOf l).length := List.length_pos_iff.2 h1
  rw [List.length_drop]; omega
theorem one_short {W : Reads} (hW : ∀ d, Short (W d)) (d : Nat) : Short (oneRd W d) := fun l t r h => by
  unfold oneRd at h
  split at h
  · have := two_short hW _ _ _ _ _ (deep_ok h).2; simp only [List.length_cons]; omega
  · have := two_short hW _ _ _ _ _ (deep_ok h).2; simp only [List.length_cons]; omega
  · injection h with _ h; subst h; simp
  · injection h with _ h; subst h; simp
  · obtain ⟨a, l1, h1, h⟩ := Rd.bind_ok (deep_ok h).2
    obtain ⟨l2, rfl, h⟩ := want_ok h
    injection h with _ h; subst h
    have := hW _ _ _ _ h1
    simp only [List.length_cons] at *; omega
  · exact num_short _ _ _ h
theorem less_other (W : Reads) (d : Nat) {c : UInt8} (r : List UInt8) (h : c ≠ 45) : lessRd W d (c :: r) = oneRd W d (c :: r) := by
  unfold lessRd
  split
  · rename_i e; injection e with e _; exact absurd e h
  · rfl
theorem less_nil (W : Reads) (d : Nat) : lessRd W d [] = .bad 0 2 := rfl
theorem less_minus (W : Reads) (d : Nat) (r : List UInt8) : lessRd W d (45 :: r) = deepRd d (r.length + 1) ((lessRd W (d + 1) r).bind fun a l1 => .ok (.neg a) l1) := rfl
theorem less_short {W : Reads} (hW : ∀ d, Short (W d)) (d : Nat) : Short (lessRd W d) := fun l => by
  induction l generalizing d with
  | nil => intro t r h; cases h
  | cons c l ih =>
    intro t r h
    by_cases e : c = 45
    · subst e
      rw [less_minus] at h
      obtain ⟨a, l1, h1, h⟩ := Rd.bind_ok (deep_ok h).2
      injection h with _ h; subst h
      have := ih _ _ _ h1
      simp only [List.length_cons]; omega
    · rw [less_other _ _ _ e] at h
      exact one_short hW d _ _ _ h
theorem loop_le {next : List UInt8 → Rd} (hn : Short next) (ops : List UInt8) : ∀ k a l t r, loopRd next ops k a l = .ok t r → r.length ≤ l.length := by
  intro k
  induction k with
  | zero => intro a l t r h; injection h with _ h; subst h; exact Nat.le_refl _
  | succ k ih =>
    intro a l t r h
    cases l with
    | nil => injection h with _ h; subst h; exact Nat.le_refl _
    | cons c l =>
      simp only [loopRd] at h
      split at h
      · obtain ⟨b, l1, h1, h⟩ := Rd.bind_ok h
        have := ih _ _ _ _ h
        have := hn _ _ _ h1
        simp only [List.length_cons]; omega
      · injection h with _ h; subst h; exact Nat.le_refl _
theorem row_short {next : List UInt8 → Rd} (hn : Short next) (ops : List UInt8) : Short (rowRd next ops) := fun l t r h => by
  obtain ⟨a, l1, h1, h⟩ := Rd.bind_ok h
  have := hn _ _ _ h1; have := loop_le hn ops _ _ _ _ _ h
  omega
theorem add_short {W : Reads} (hW : ∀ d, Short (W d)) (d : Nat) : Short (addRd W d) := row_short (row_short (less_short hW d) _) _
theorem cmp_short {W : Reads} (hW : ∀ d, Short (W d)) (d : Nat) : Short (cmpRd W d) := fun l t r h => by
  obtain ⟨a, l1, h1, h⟩ := Rd.bind_ok h
  have g1 := add_short hW d _ _ _ h1
  cases l1 with
  | nil => injection h with _ h; subst h; exact g1
  | cons c l1 =>
    simp only [cmpTl] at h
    split at h
    · obtain ⟨b, l2, h2, h⟩ := Rd.bind_ok h
      injection h with _ h; subst h
      have := add_short hW d _ _ _ h2
      simp only [List.length_cons] at *; omega
    · injection h with _ h; subst h; exact g1
theorem step_short {W : Reads} (hW : ∀ d, Short (W d)) (d : Nat) : Short (wholeStep W d) := fun l t r h => by
  obtain ⟨a, l1, h1, h⟩ := Rd.bind_ok h
  have g1 := cmp_short hW d _ _ _ h1
  cases l1 with
  | nil => injection h with _ h; subst h; exact g1
  | cons x l1 =>
    simp only [selRd] at h
    split at h
    · obtain ⟨b, l2, h2, h⟩ := Rd.bind_ok (deep_ok h).2
      obtain ⟨l3, rfl, h⟩ := want_ok h
      obtain ⟨c, l4, h4, h⟩ := Rd.bind_ok h
      injection h with _ h; subst h
      have := hW _ _ _ _ h2; have := hW _ _ _ _ h4
      simp only [List.length_cons] at *; omega
    · injection h with _ h; subst h; exact g1
theorem bad_short (e : Int) : ∀ d : Nat, Short ((fun (_ : Nat) (l : List UInt8) => Rd.bad l.length e) d) := fun d l t r h => by cases h
theorem whole_short (k : Nat) : ∀ d, Short (wholeRd k d) := by
  induction k with
  | zero => exact step_short (bad_short 2)
  | succ k ih => exact step_short ih

/-! ### Other bytes behind -/
def Stops (v : List UInt8) : Prop := v = [] ∨ ∃ c r, v = c :: r ∧ (c = 41 ∨ c = 44 ∨ c = 58)
def Ext (p : Prop) (v : List UInt8) (A B : Rd) : Prop := match A with
  | .ok t r => B = .ok t (r ++ v) ∨ (p ∧ ∃ k, B = .bad k 4)
  | .bad _ e => e = 4 → ∃ k, B = .bad k 4
theorem Ext.two {p : Prop} {v : List UInt8} {k : Nat} {B : Rd} : Ext p v (.bad k 2) B := fun h => absurd h (by decide)
theorem Ext.four {p : Prop} {v : List UInt8} (A : Rd) {k : Nat} (h : p) : Ext p v A (.bad k 4) := by
  cases A with
  | ok t r => exact .inr ⟨h, k, rfl⟩
  | bad k e => exact fun _ => ⟨_, rfl⟩
theorem Ext.bind {p : Prop} {v : List UInt8} {A B : Rd} {f g : Tr → List UInt8 → Rd} (h : Ext p v A B) (hf : ∀ t r, A = .ok t r → Ext p v (f t r) (g t (r ++ v))) : Ext p v (A.bind f) (B.bind g) := by
  cases A with
  | ok t r =>
    rcases h with rfl | ⟨h, k, rfl⟩
    · exact hf t r rfl
    · exact Ext.four _ h
  | bad k e =>
    intro he
    obtain ⟨k2, rfl⟩ := h he
    exact ⟨k2, rfl⟩
theorem Ext.want {p : Prop} {v : List UInt8} {c : UInt8} {l : List UInt8} {f g : List UInt8 → Rd} (h : ∀ r, l = c :: r → Ext p v (f r) (g (r ++ v))) : Ext p v (wantRd c l f) (wantRd c (l ++ v) g) := by
  cases l with
  | nil => exact Ext.two
  | cons x r =>
    by_cases e : x = c
    · subst e
      have := h r rfl
      simpa [wantRd] using this
    · simp only [wantRd, if_neg e]; exact Ext.two
theorem Ext.deep {p : Prop} {v : List UInt8} {d d' k k' : Nat} {A B : Rd} (h1 : d ≤ d') (h2 : d' ≤ 20) (h3 : d < d' → p) (h : d' + 1 ≤ 20 → Ext p v A B) : Ext p v (deepRd d k A) (deepRd d' k' B) := by
  unfold deepRd
  by_cases e : d' = 20
  · rw [if_pos e]
    by_cases e2 : d = 20
    · rw [if_pos e2]; exact fun _ => ⟨_, rfl⟩
    · exact Ext.four _ (h3 (by omega))
  · rw [if_neg e, if_neg (show ¬ d = 20 by omega)]
    exact h (by omega)
def ExtW (p : Prop) (v : List UInt8) (W W' : Reads) : Prop := ∀ d d' l, d ≤ d' → d' ≤ 20 → (d < d' → p) → Ext p v (W d l) (W' d' (l ++ v))
section
variable {p : Prop} {v : List UInt8} {W W' : Reads}
theorem two_ext (hW : ExtW p v W W') (op : UInt8) {d d' : Nat} (l : List UInt8) (h1 : d ≤ d') (h2 : d' ≤ 20) (h3 : d < d' → p) : Ext p v (twoRd W op d l) (twoRd W' op d' (l ++ v)) :=
  (hW d d' l h1 h2 h3).bind fun _ l1 _ => Ext.want fun l2 _ => (hW d d' l2 h1 h2 h3).bind fun _ l3 _ => Ext.want fun l4 _ => .inl rfl
theorem digs_app (hv : Stops v) (l : List UInt8) : digsOf (l ++ v) = digsOf l := by
  induction l with
  | nil =>
    rcases hv with rfl | ⟨c, r, rfl, h⟩
    · rfl
    · rcases h with rfl | rfl | rfl <;> rfl
  | cons c l ih =>
    unfold digsOf at ih ⊢
    rw [List.cons_append, List.takeWhile_cons, List.takeWhile_cons, ih]
theorem num_app (hv : Stops v) (l : List UInt8) : numOf (l ++ v) = numOf l := by
  unfold numOf; rw [digs_app hv]
theorem num_ext (hv : Stops v) (l : List UInt8) : Ext p v (numRd l) (numRd (l ++ v)) := by
  unfold numRd
  rw [num_app hv]
  split
  · exact Ext.two
  · left
    rw [List.drop_append_of_le_length (numOf_le l)]
theorem one_dig (W : Reads) (d : Nat) {c : UInt8} (r : List UInt8) (h : isDig c = true) : oneRd W d (c :: r) = numRd (c :: r) := by
  unfold oneRd
  split
  · rename_i e; injection e with e _; subst e; exact absurd h (by decide)
  · rename_i e; injection e with e _; subst e; exact absurd h (by decide)
  · rename_i e; injection e with e _; subst e; exact absurd h (by decide)
  · rename_i e; injection e with e _; subst e; exact absurd h (by decide)
  · rename_i e; injection e with e _; subst e; exact absurd h (by decide)
  · rfl
theorem num_head {l : List UInt8} (h : numOf l ≠ []) : ∃ c r, l = c :: r ∧ isDig c = true := by
  cases l with
  | nil => exact absurd rfl h
  | cons c r =>
    refine ⟨c, r, rfl, ?_⟩
    cases hc : isDig c with
    | true => rfl
    | false =>
      have : digsOf (c :: r) = [] := by unfold digsOf; rw [List.takeWhile_cons, hc]; rfl
      exact absurd (by unfold numOf; rw [this]) h
theorem one_ext (hv : Stops v) (hW : ExtW p v W W') {d d' : Nat} (l : List UInt8) (h1 : d ≤ d') (h2 : d' ≤ 20) (h3 : d < d' → p) : Ext p v (oneRd W d l) (oneRd W' d' (l ++ v)) := by
  have hn : oneRd W d l = numRd l → Ext p v (numRd l) (oneRd W' d' (l ++ v)) := fun _ => by
    cases hr : numRd l with
    | bad k e =>
      have : e = 2 := by
        unfold numRd at hr
        split at hr
        · injection hr with _ hr; exact hr.symm
        · cases hr
      subst this; exact Ext.two
    | ok t r =>
      obtain ⟨c, r2, rfl, hc⟩ := num_head (num_ok hr).1
      rw [List.cons_append, one_dig W' d' _ hc, ← hr]
      exact num_ext hv (c :: r2)
  unfold oneRd at hn ⊢
  split
  · exact Ext.deep h1 h2 h3 fun h => two_ext hW _ _ (by omega) h (fun h => h3 (by omega))
  · exact Ext.deep h1 h2 h3 fun h => two_ext hW _ _ (by omega) h (fun h => h3 (by omega))
  · exact .inl rfl
  · exact .inl rfl
  · exact Ext.deep h1 h2 h3 fun h => (hW _ _ _ (by omega) h (fun h => h3 (by omega))).bind fun _ _ _ => Ext.want fun _ _ => .inl rfl
  · rename_i g1 g2 g3 g4 g5
    refine hn ?_
    split
    · exact absurd rfl (g1 _)
    · exact absurd rfl (g2 _)
    · exact absurd rfl (g3 _)
    · exact absurd rfl (g4 _)
    · exact absurd rfl (g5 _)
    · rfl
theorem less_ext (hv : Stops v) (hW : ExtW p v W W') (l : List UInt8) : ∀ {d d' : Nat}, d ≤ d' → d' ≤ 20 → (d < d' → p) → Ext p v (lessRd W d l) (lessRd W' d' (l ++ v)) := by
  induction l with
  | nil => intro d d' h1 h2 h3; exact Ext.two
  | cons c l ih =>
    intro d d' h1 h2 h3
    by_cases e : c = 45
    · subst e
      rw [List.cons_append, less_minus, less_minus]
      exact Ext.deep h1 h2 h3 fun h => (ih (by omega) h (fun h => h3 (by omega))).bind fun _ _ _ => .inl rfl
    · rw [List.cons_append, less_other _ _ _ e, less_other _ _ _ e]
      exact one_ext hv hW (c :: l) h1 h2 h3
theorem loop_stop {next : List UInt8 → Rd} {ops : List UInt8} (h : ∀ c r, v = c :: r → c ∉ ops) (k : Nat) (a : Tr) : loopRd next ops k a v = .ok a v := by
  cases k with
  | zero => rfl
  | succ k =>
    cases v with
    | nil => rfl
    | cons c r => simp [loopRd, h c r rfl]
theorem loop_ext {next next' : List UInt8 → Rd} {ops : List UInt8} (hs : ∀ c r, v = c :: r → c ∉ ops) (hS : Short next) (hn : ∀ l, Ext p v (next l) (next' (l ++ v))) : ∀ k k' a l, l.length ≤ k → l.length ≤ k' → Ext p v (loopRd next ops k a l) (loopRd next' ops k' a (l ++ v)) := by
  intro k
  induction k with
  | zero =>
    intro k' a l h1 h2
    obtain rfl := List.eq_nil_of_length_eq_zero (Nat.le_zero.1 h1)
    exact .inl (loop_stop hs k' a)
  | succ k ih =>
    intro k' a l h1 h2
    cases l with
    | nil => exact .inl (loop_stop hs k' a)
    | cons c r =>
      obtain ⟨k2, rfl⟩ : ∃ k2, k' = k2 + 1 := ⟨k' - 1, by simp only [List.length_cons] at h2; omega⟩
      simp only [List.cons_append, loopRd, List.length_cons] at h1 h2 ⊢
      split
      · refine (hn r).bind fun b l1 e => ?_
        have := hS _ _ _ e
        exact ih k2 _ l1 (by omega) (by omega)
      · exact .inl rfl
theorem row_ext {next next' : List UInt8 → Rd} {ops : List UInt8} (hs : ∀ c r, v = c :: r → c ∉ ops) (hS : Short next) (hn : ∀ l, Ext p v (next l) (next' (l ++ v))) (l : List UInt8) : Ext p v (rowRd next ops l) (rowRd next' ops (l ++ v)) :=
  (hn l).bind fun a l1 _ => loop_ext hs hS hn _ _ _ _ (Nat.le_refl _) (by rw [List.length_append]; omega)
theorem Stops.head (hv : Stops v) {c : UInt8} {r : List UInt8} (e : v = c :: r) : c = 41 ∨ c = 44 ∨ c = 58 := by
  rcases hv with h | ⟨c', r', h, hc⟩
  · rw [h] at e; cases e
  · rw [h] at e; injection e with e _; subst e; exact hc
theorem add_ext (hv : Stops v) (hS : ∀ d, Short (W d)) (hW : ExtW p v W W') {d d' : Nat} (l : List UInt8) (h1 : d ≤ d') (h2 : d' ≤ 20) (h3 : d < d' → p) : Ext p v (addRd W d l) (addRd W' d' (l ++ v)) :=
  row_ext (fun c r e => by rcases hv.head e with rfl | rfl | rfl <;> decide) (row_short (less_short hS d) _) (fun l => row_ext (fun c r e => by rcases hv.head e with rfl | rfl | rfl <;> decide) (less_short hS d) (fun l => less_ext hv hW l h1 h2 h3) l) l
theorem cmp_ext (hv : Stops v) (hS : ∀ d, Short (W d)) (hW : ExtW p v W W') {d d' : Nat} (l : List UInt8) (h1 : d ≤ d') (h2 : d' ≤ 20) (h3 : d < d' → p) : Ext p v (cmpRd W d l) (cmpRd W' d' (l ++ v)) := by
  refine (add_ext hv hS hW l h1 h2 h3).bind fun a l1 _ => ?_
  cases l1 with
  | nil =>
    left
    cases hv2 : v with
    | nil => rfl
    | cons c r =>
      have : c ∉ ([61, 60, 62] : List UInt8) := by rcases hv.head hv2 with rfl | rfl | rfl <;> decide
      simp only [cmpTl, if_neg this, List.nil_append]
  | cons c r =>
    simp only [List.cons_append, cmpTl]
    split
    · exact (add_ext hv hS hW r h1 h2 h3).bind fun b l2 _ => .inl rfl
    · exact .inl rfl
theorem step_ext (hv : Stops v) (hS : ∀ d, Short (W d)) (hW : ExtW p v W W') : ExtW p v (wholeStep W) (wholeStep W') := by
  intro d d' l h1 h2 h3
  refine (cmp_ext hv hS hW l h1 h2 h3).bind fun a l1 _ => ?_
  cases l1 with
  | nil =>
    left
    cases hv2 : v with
    | nil => rfl
    | cons c r =>
      have : c ≠ 63 := by rcases hv.head hv2 with rfl | rfl | rfl <;> decide
      simp only [selRd, if_neg this, List.nil_append]
  | cons c r =>
    simp only [List.cons_append, selRd]
    split
    · exact Ext.deep h1 h2 h3 fun h => (hW _ _ _ (by omega) h (fun h => h3 (by omega))).bind fun b l2 _ => Ext.want fun l3 _ => (hW _ _ _ (by omega) h (fun h => h3 (by omega))).bind fun c l4 _ => .inl rfl
    · exact .inl rfl
end
theorem whole_ext {p : Prop} {v : List UInt8} (hv : Stops v) : ∀ k k', k ≤ k' → ExtW p v (wholeRd k) (wholeRd k') := by
  intro k
  induction k with
  | zero =>
    intro k' _
    have : ∀ W', ExtW p v (fun _ l => .bad l.length 2) W' := fun W' d d' l _ _ _ => Ext.two
    cases k' with
    | zero => exact step_ext hv (bad_short 2) (this _)
    | succ k' => exact step_ext hv (bad_short 2) (this _)
  | succ k ih =>
    intro k' h
    obtain ⟨k2, rfl⟩ : ∃ k2, k' = k2 + 1 := ⟨k' - 1, by omega⟩
    exact step_ext hv (whole_short k) (ih k2 (by omega))
end Go.Proofs.YtcmhbhdiepkndaaGreatDoor
