/-
  Several texts of this claim in one, in build order; each begins with its own remark, which says what it proves and under which conditions.
-/
import Derived.Test.YtfndhfekbbbliaaGreatDoorPackE
import Derived.Test.YtfndhfekbbbliaaGreatDoorPackA
import Derived.Lib.ItoaNum
import Derived.Test.YtfndhfekbbbliaaGreatDoorPackB
import Derived.Lib.ItoaLen
import Derived.Deep.CutBlock
import Derived.Deep.LoopGhost
import Derived.Shelf.SlGeneric
import Derived.Shelf.SlSortCmp.WholeK
import Derived.Ground.SlsfProg
import Derived.Shelf.Strconv.Itoa3
import Derived.Ground.NamesProg
import Derived.Shelf.Strconv.AtoiErr
import Derived.Shelf.Strconv.Atoi
import Derived.Shelf.Strings.SlTrimAscii
import Derived.Shelf.Strings.Prefix
import Derived.Shelf.Small.Strs
import Derived.Test.YtfndhfekbbbliaaGreatDoorProg
import Derived.BigQuiet

/-
  What comes of a job, plain: what a node does with a record, how records flow, what Sinks hold. No condition: plain definitions and lemmas.
-/
namespace Go.Proofs.YtfndhfekbbbliaaGreatDoor
open Go.RowKit
set_option linter.unusedVariables false

/-! ### Maps from keys, in the order in which keys came -/
def pget {α : Type} (m : List (ByteArray × α)) (k : ByteArray) : Option α := (m.find? fun p => decide (p.1 = k)).map (·.2)
def pset {α : Type} : List (ByteArray × α) → ByteArray → α → List (ByteArray × α)
  | [], k, v => [(k, v)]
  | p :: r, k, v => if p.1 = k then (k, v) :: r else p :: pset r k v
def pkeys {α : Type} (m : List (ByteArray × α)) : List ByteArray := m.map (·.1)
theorem split_pkey {α : Type} : ∀ {m : List (ByteArray × α)} {k : ByteArray}, k ∈ pkeys m → ∃ a v b, m = a ++ (k, v) :: b ∧ k ∉ pkeys a
  | [], k, h => by simp [pkeys] at h
  | p :: r, k, h => by
    by_cases e : p.1 = k
    · exact ⟨[], p.2, r, by rw [← e]; rfl, by simp [pkeys]⟩
    · have h2 : k ∈ pkeys r := by
        simp only [pkeys, List.map_cons, List.mem_cons] at h
        rcases h with h | h
        · exact absurd h.symm e
        · exact h
      obtain ⟨a, v, b, h3, h4⟩ := split_pkey h2
      refine ⟨p :: a, v, b, by rw [h3]; rfl, ?_⟩
      simp only [pkeys, List.map_cons, List.mem_cons, not_or]
      exact ⟨fun e' => e e'.symm, h4⟩
theorem pget_split {α : Type} {a : List (ByteArray × α)} {k : ByteArray} {v : α} {b : List (ByteArray × α)} (h : k ∉ pkeys a) : pget (a ++ (k, v) :: b) k = some v := by
  unfold pget
  rw [List.find?_append]
  have h1 : (a.find? fun p => decide (p.1 = k)) = none := List.find?_eq_none.2 fun p hp hk => h (List.mem_map.2 ⟨p, hp, of_decide_eq_true hk⟩)
  rw [h1]
  simp
theorem pget_none {α : Type} {m : List (ByteArray × α)} {k : ByteArray} (h : k ∉ pkeys m) : pget m k = none := by
  unfold pget
  rw [List.find?_eq_none.2 fun p hp hk => h (List.mem_map.2 ⟨p, hp, of_decide_eq_true hk⟩)]
  rfl
theorem pset_split {α : Type} : ∀ {a : List (ByteArray × α)} {k : ByteArray} {v u : α} {b : List (ByteArray × α)}, k ∉ pkeys a → pset (a ++ (k, v) :: b) k u = a ++ (k, u) :: b
  | [], k, v, u, b, _ => by simp [pset]
  | p :: a, k, v, u, b, h => by
    simp only [pkeys, List.map_cons, List.mem_cons, not_or] at h
    simp only [List.cons_append, pset]
    rw [if_neg (fun e => h.1 e.symm), pset_split h.2]
theorem pset_none {α : Type} : ∀ {a : List (ByteArray × α)} {k : ByteArray} {u : α}, k ∉ pkeys a → pset a k u = a ++ [(k, u)]
  | [], k, u, _ => rfl
  | p :: a, k, u, h => by
    simp only [pkeys, List.map_cons, List.mem_cons, not_or] at h
    simp only [List.cons_append, pset]
    rw [if_neg (fun e => h.1 e.symm), pset_none h.2]

/-! ### A node -/
def evalOf (s : ByteArray) (n st : Int) : Int := match parseT s.data.toList with
  | .tree t => t.val n st
  | .fault _ _ => 0
def zeroH : Hld := ⟨0, ⟨#[]⟩, 0, 0⟩
def passR (r : Rec) : List Rec := if 40 < r.key.size then [] else [r]
def subKey (k : ByteArray) (n : Int) : ByteArray := k ++ (⟨#[47]⟩ ++ ⟨(Lib.itoa n).toArray⟩)
def uniKey (n : Int) (k : ByteArray) : ByteArray := ⟨(Lib.itoa n).toArray⟩ ++ ⟨#[58]⟩ ++ k
structure Did where
  out : List Rec
  held : Hld
  has : Bool
/-- The state that a node begins with. -/
def begins (h : Hld) (has : Bool) (r : Rec) : Hld := if has then ⟨0, r.key, h.a, h.b⟩ else ⟨0, r.key, 0, 0⟩
def ends_ (out : List Rec) (h : Hld) (has : Bool) : Did := ⟨out, if has then h else zeroH, has⟩
def applyN (n : Nod) (h : Hld) (has : Bool) (r : Rec) (input : Int) : Did :=
  let s := begins h has r
  if n.kind = 2 then ends_ (passR { r with num := evalOf n.text r.num 0 }) s has
  else if n.kind = 3 then ends_ (if evalOf n.text r.num 0 = 0 then [] else passR r) s has
  else if n.kind = 4 then ends_ (passR { r with key := subKey r.key (evalOf n.text r.num 0) }) s has
  else if n.kind = 5 then ends_ ((List.replicate (min 3 n.n).toNat (passR r)).flatten) s has
  else if n.kind = 6 then ends_ (passR { r with key := uniKey input r.key }) s has
  else if n.kind = 7 then ends_ (passR { r with num := evalOf n.text r.num s.a }) { s with a := evalOf n.text r.num s.a } true
  else if n.kind = 8 then
    (if n.n ≤ wrap64 (s.a + 1) then ends_ (passR { r with num := wrap64 (s.b + r.num) }) { s with a := 0, b := 0 } true
     else ends_ [] { s with a := wrap64 (s.a + 1), b := wrap64 (s.b + r.num) } true)
  else if n.kind = 9 then ends_ (if has then [] else passR r) { s with a := 1 } true
  else ends_ (passR r) s has

/-! ### The flow -/
structure Flw where
  st : List (List (ByteArray × Hld))
  gv : List Int
  ln : List (List (ByteArray × List Int))
def targets (J : List Nod) (U : List (List Int)) (i : Nat) : List (Nat × Nat) :=
  (U[i]?.getD []).flatMap fun u => (((J[u.toNat]?.map (·.from_)).getD []).zipIdx.filter fun p => p.1 == (i : Int)).map fun p => (u.toNat, p.2)
def addLine (m : List (ByteArray × List Int)) (r : Rec) : List (ByteArray × List Int) := pset m r.key ((pget m r.key).getD [] ++ [r.num])
def getF (J : List Nod) (H : Nat → Rec → Flw → Option Flw) (u : Nat) (r : Rec) (input : Nat) (f : Flw) : Option Flw :=
  match J[u]? with
  | none => none
  | some n =>
    if n.kind = 10 then some { f with ln := f.ln.modify u fun m => addLine m r }
    else
      let old := pget (f.st[u]?.getD []) r.key
      let d := applyN n (old.getD zeroH) old.isSome r input
      d.out.foldlM (fun f x => H u x f) (if d.has then { f with st := f.st.modify u fun m => pset m r.key d.held } else f)
def handF (J : List Nod) (U : List (List Int)) : Nat → Nat → Rec → Flw → Option Flw
  | 0, _, _, _ => none
  | k + 1, i, r, f =>
    let f1 := { f with gv := f.gv.set i ((f.gv[i]?.getD 0) + 1) }
    if 2000 < (f.gv[i]?.getD 0) + 1 then none else (targets J U i).foldlM (fun f p => getF J (handF J U k) p.1 r p.2 f) f1
def flow0 (n : Nat) : Flw := ⟨List.replicate n [], List.replicate n 0, List.replicate n []⟩
/-- All data of a Source. -/
def feedF (J : List Nod) (s : Int) (d : List Rec) (f : Flw) : Option Flw := d.foldlM (fun f r => handF J (usesAll J) J.length s.toNat r f) f
def flowAll (J : List Nod) (data : List (List Rec)) : Option Flw := ((ofKind J 1).zip data).foldlM (fun f p => feedF J p.1 p.2 f) (flow0 J.length)
def recErr (r : Rec) : Bool := decide (40 < r.key.size) || decide (r.time < 0) || decide (1000000 < r.time)
def dataErr : List (List Rec) → Int
  | [] => 0
  | d :: r => if 300 < d.length then 4 else if d.any recErr = true then 1 else dataErr r
def denErr (J : List Nod) (data : List (List Rec)) : Int :=
  if jobErr J ≠ 0 then jobErr J else if data.length ≠ (ofKind J 1).length then 3 else dataErr data
/-- The lines of a map: its keys, risen. -/
def kLess (a b : ByteArray) : Prop := a.data.toList < b.data.toList
def LinesOf (m : List (ByteArray × List Int)) (out : List Lin) : Prop := out.Perm (m.map fun p => ⟨p.1, p.2⟩) ∧ out.Pairwise fun a b => kLess a.key b.key
/-- What All tells. -/
def AllOf (J : List Nod) (f : Flw) (out : List (List Lin)) : Prop := out.length = (ofKind J 10).length ∧ ∀ (i : Nat) (s : Int) (o : List Lin), (ofKind J 10)[i]? = some s → out[i]? = some o → LinesOf (f.ln[s.toNat]?.getD []) o
end Go.Proofs.YtfndhfekbbbliaaGreatDoor

/-
  The reference's Eval. Conditions: the numbers are ints.
-/
namespace Go.Proofs.YtfndhfekbbbliaaGreatDoor
open Go.RowKit Go.ChangeShapes Go.WideShapes
set_option linter.unusedVariables false

set_option maxRecDepth 100000 in
theorem reval_ok (s : ByteArray) (n k : Int) (w : World) (hn : I64s n) (hk : I64s k) :
    Calls Tryz.prog 51 #[.string s, .int .i64 n, .int .i64 k] w fun e w' => e = .returned (.int .i64 (evalOf s n k)) ∧ I64s (evalOf s n k) ∧ Below w.heap.size w w' := by
  have HN := Lib.hid hn
  have HK := Lib.hid hk
  clear hn hk
  go_enter Tryz.func51, Tryz.ntmps51
  go_wp2_with fail
  refine (pparse_ok s w).mono ?_
  rintro e w1 ⟨hb1, hpr⟩
  have HB1 := Lib.hid hb1
  clear hb1
  cases hp : parseT s.data.toList with
  | fault a j =>
    rw [hp] at hpr
    obtain ⟨rfl, hj⟩ := hpr
    have hj0 : (j != 0) = true := by simp [hj]
    have HE : Hid (evalOf s n k = 0) := by show _ = _; unfold evalOf; rw [hp]
    clear hp hj
    go_wp2_with fail
    go_ret
    exact ⟨by rw [HE.out]; rfl, by rw [HE.out]; exact ⟨by omega, by omega⟩, HB1.out.alloc HB1.out.size _⟩
  | tree t =>
    rw [hp] at hpr
    obtain ⟨o, m, A, c, rfl, ht⟩ := hpr
    have HE : Hid (evalOf s n k = t.val n k) := by show _ = _; unfold evalOf; rw [hp]
    have ht1 : TreeAt (· < w1.heap.size) w1 (.agg #[.int .i64 o, .int .i64 m, .slice A c c]) t := ht.more fun k hk => hk.2
    have hb12 : Below w1.heap.size w1 (w1.alloc (.cells #[.int .i64 o, .int .i64 m, .slice A c c] 24)) := (Below.refl _ _).alloc (Nat.le_refl _) _
    have HV := Lib.hid (value_ok t _ n k _ (ht1.under hb12) HN.out HK.out)
    have HB2 := Lib.hid (HB1.out.alloc HB1.out.size (.cells #[.int .i64 o, .int .i64 m, .slice A c c] 24))
    clear hp ht ht1 hb12 HB1
    go_wp2_with fail
    refine HV.out.mono ?_
    rintro e w2 ⟨rfl, hx, hb⟩
    have HB3 := Lib.hid (HB2.out.trans (hb.mono HB2.out.size))
    have HX := Lib.hid hx
    rw [← HE.out] at HX ⊢
    obtain ⟨ev, hev⟩ : ∃ ev, ev = evalOf s n k := ⟨_, rfl⟩
    have HEV := Lib.hid hev
    rw [← hev] at HX ⊢
    clear hb HB2 hx HV HE hev
    go_wp2_with fail
    go_ret
    exact ⟨by rw [← HEV.out]; rfl, by rw [← HEV.out]; exact HX.out, HB3.out⟩
end Go.Proofs.YtfndhfekbbbliaaGreatDoor

/-
  The statements' own whole numbers (weirgatebig), by words: division by one word, the digits of a number. No condition.
-/
namespace Go.Proofs.YtfndhfekbbbliaaGreatDoor
open Go.RowKit Go.ChangeShapes Go.WideShapes
set_option linter.unusedVariables false

/-! ### A number divided by one word -/
theorem small_step (V r a d : Nat) (hd : 0 < d) (hr : r = V % d) : (a + 4294967296 * V) / d = 4294967296 * (V / d) + (r * 4294967296 + a) / d ∧ (a + 4294967296 * V) % d = (r * 4294967296 + a) % d := by
  have h1 := Nat.div_add_mod V d
  have h2 : a + 4294967296 * V = d * (4294967296 * (V / d)) + (r * 4294967296 + a) := by
    rw [Nat.mul_left_comm]
    have : 4294967296 * V = 4294967296 * (d * (V / d)) + 4294967296 * (V % d) := by rw [← Nat.mul_add, h1]
    rw [hr]; omega
  rw [h2, Nat.mul_add_div hd, Nat.mul_add_mod]
  exact ⟨rfl, rfl⟩
theorem small_lt (r a d : Nat) (hd : 0 < d) (hr : r < d) (ha : a < 4294967296) : (r * 4294967296 + a) / d < 4294967296 := by
  rw [Nat.div_lt_iff_lt_mul hd]
  have : (r + 1) * 4294967296 ≤ d * 4294967296 := Nat.mul_le_mul_right _ hr
  rw [Nat.add_mul] at this
  omega
/-- The quotient's block: so many still noughts, then the words found. -/
def qCells (k : Nat) (qs : List Nat) : Array Value := ((List.replicate k 0 ++ qs).map u32v).toArray
theorem q_made (w : World) (n : Nat) : (w.alloc (.cells (madeCells #[.int .u32 0] n) 202)).heap[w.heap.size]? = some (.cells (qCells n []) 202 (0, 0)) := by
  rw [heap_alloc_new w _]
  congr 2
  apply Array.ext'
  rw [toList_madeCells_one]
  simp [qCells, u32v]
theorem q_at (k : Nat) (qs : List Nat) : (qCells (k + 1) qs)[k]? = some (u32v 0) := by
  unfold qCells
  rw [List.getElem?_toArray, List.getElem?_map, List.getElem?_append_left (by simp), List.getElem?_replicate, if_pos (by omega)]
  rfl
theorem q_set (k : Nat) (qs : List Nat) (x : Nat) : (qCells (k + 1) qs).setIfInBounds k (u32v x) = qCells k (x :: qs) := by
  unfold qCells
  apply Array.ext'
  rw [Array.toList_setIfInBounds]
  apply List.ext_getElem?
  intro j
  rw [List.getElem?_set]
  simp only [List.getElem?_map, List.length_map, List.length_append, List.length_replicate]
  by_cases e : k = j
  · subst e
    rw [if_pos rfl, if_pos (by omega), List.getElem?_append_right (by simp)]
    simp
  · rw [if_neg e]
    by_cases hj : j < k
    · rw [List.getElem?_append_left (by simp; omega), List.getElem?_append_left (by simp; omega)]
      simp [hj, show j < k + 1 by omega]
    · rw [List.getElem?_append_right (by simp; omega), List.getElem?_append_right (by simp; omega)]
      simp only [List.length_replicate]
      rw [show j - k = (j - (k + 1)) + 1 by omega, List.getElem?_cons_succ]
set_option maxRecDepth 100000 in
set_option maxHeartbeats 1000000 in
theorem small_ok (F : Nat → Prop) (A : Option Addr) (c : Nat) (l : List Nat) (d : Nat) (w : World) (h : SlA u32E F w A c l) (hF : ∀ k, F k → k < w.heap.size) (hd : 0 < d) (hd2 : d < 4294967296) (hl : l.length ≤ 1000) :
    Calls Tryz.prog 150 #[.slice A l.length c, .int .u32 (d : Int)] w fun e w' => ∃ n q, e = .returned (.tuple #[.slice (some ⟨w.heap.size, 0, none⟩) n l.length, .int .u32 ((wVal l % d : Nat) : Int)]) ∧ n ≤ List.length q ∧ TrimOf q n ∧
      SlA u32E (fun k => w.heap.size ≤ k ∧ k < w'.heap.size) w' (some ⟨w.heap.size, 0, none⟩) l.length q ∧ wVal q = wVal l / d ∧ q.length = l.length ∧ Below w.heap.size w w' := by
  have H := Lib.hid h
  have HF := Lib.hid hF
  have hmk : ∀ u : World, (Instr.makeSlice 96 (.int .i64 (l.length : Int)) (.int .i64 (l.length : Int))).run Tryz.prog u = .ok (.slice (some ⟨u.heap.size, 0, none⟩) l.length l.length) (u.alloc (.cells (madeCells #[.int .u32 0] l.length) 202)) := fun u =>
    run_make_row' (P := Tryz.prog) 96 202 (.int .u32 0) 4 Tryz.underlying96 u32_info rfl .i64 .i64 l.length (by omega) (by omega) u
  have hc := h.1
  clear h hF
  go_enter Tryz.func150, Tryz.ntmps150
  go_wp2_with fail
  go_loopw [7, 8] (fun rv iv wx => ∃ (k : Nat) (qs : List Nat), k ≤ l.length ∧ iv = .int .i64 ((k : Int) - 1) ∧ rv = .int .u64 ((wVal (l.drop k) % d : Nat) : Int) ∧ Hid (wx.heap[w.heap.size]? = some (.cells (qCells k qs) 202 (0, 0)) ∧ k + qs.length = l.length ∧ (∀ x ∈ qs, x < 4294967296) ∧ wVal qs = wVal (l.drop k) / d ∧ Below w.heap.size w wx)) (fun _ iv _ => (intOf iv + 1).toNat)
  case atStart => exact ⟨l.length, [], Nat.le_refl _, rfl, by simp [wVal], q_made w l.length, by simp, nofun, by simp [wVal], (Below.refl _ _).alloc (Nat.le_refl _) _⟩
  case round =>
    obtain ⟨k, qs, hk, rfl, rfl, HI⟩ := hrel
    by_cases h0 : k = 0
    · subst h0
      obtain ⟨hg, hq, hqs, hv, hb⟩ := HI.out
      rw [Nat.zero_add] at hq
      rw [List.drop_zero] at hv ⊢
      have hsl : SlA u32E (fun k => w.heap.size ≤ k ∧ k < wr.heap.size) wr (some ⟨w.heap.size, 0, none⟩) l.length qs := by
        rw [← hq]
        exact ws_sl qs hg (by simp [qCells]; intros; rfl) ⟨Nat.le_refl _, block_lt hg⟩ hqs (by unfold maxLen; omega)
      have HT := Lib.hid (trim_ok _ _ _ _ _ hsl)
      have HS := Lib.hid hsl
      have HR := Lib.hid (And.intro hv (And.intro hq hb))
      rw [hq] at HT
      have hrd := Nat.mod_lt (wVal l) hd
      obtain ⟨r, hr⟩ : ∃ r, r = wVal l % d := ⟨_, rfl⟩
      rw [← hr] at hrd ⊢
      have HRM := Lib.hid hr
      clear hr
      clear HI hg hq hqs hv hb hsl
      go_wp2_with fail
      refine HT.out.mono ?_
      rintro e w3 ⟨n, rfl, hn, ht, rfl⟩
      go_wp2_with fail
      go_ret2
      exact ⟨n, qs, by rw [← HRM.out]; rfl, by rw [HR.out.2.1]; exact hn, ht, HS.out, HR.out⟩
    · obtain ⟨m, rfl⟩ : ∃ m, k = m + 1 := ⟨k - 1, by omega⟩
      obtain ⟨b, off, rfl, hb, c0, hw⟩ := H.out.u32_ (k := m) (by omega)
      have e1 : ((m + 1 : Nat) : Int) - 1 = (m : Int) := by omega
      have hz : wr.cell? ⟨b, off + m, none⟩ = some (.int .u32 (l[m] : Int)) := (HI.out.2.2.2.2.cell (p := ⟨b, off + m, none⟩) (HF.out _ hb)).trans c0
      have HD := Lib.hid (List.drop_eq_getElem_cons (show m < l.length by omega))
      generalize l[m] = a at hz hw HD
      obtain ⟨V, hV⟩ : ∃ V, V = wVal (l.drop (m + 1)) := ⟨_, rfl⟩
      rw [← hV] at HI ⊢
      have HV := Lib.hid hV
      have hrd := Nat.mod_lt V hd
      obtain ⟨r, hr⟩ : ∃ r, r = V % d := ⟨_, rfl⟩
      rw [← hr] at hrd ⊢
      have HR := Lib.hid hr
      clear hV hr c0
      have hra : r * 4294967296 + a < 18446744073709551616 := by
        have : (r + 1) * 4294967296 ≤ d * 4294967296 := Nat.mul_le_mul_right _ hrd
        rw [Nat.add_mul] at this
        omega
      have hor := or_add r a hw hra
      have hq32 := small_lt r a d hd hrd hw
      obtain ⟨T, hT⟩ : ∃ T, T = r * 4294967296 + a := ⟨_, rfl⟩
      rw [← hT] at hra hor hq32
      have HT := Lib.hid hT
      clear hT
      obtain ⟨Q, hQ⟩ : ∃ Q, Q = T / d := ⟨_, rfl⟩
      rw [← hQ] at hq32
      have hq1 : ((T : Int) / (d : Int)) = (Q : Int) := by rw [hQ]; exact Int.natCast_ediv T d ▸ rfl
      have HQ := Lib.hid hQ
      clear hQ
      obtain ⟨R, hR⟩ : ∃ R, R = T % d := ⟨_, rfl⟩
      have hr1 : ((T : Int) % (d : Int)) = (R : Int) := by rw [hR]; rfl
      have HRR := Lib.hid hR
      clear hR
      have hcl : wr.cell? ⟨w.heap.size, m, none⟩ = some (u32v 0) := by
        have h1 := cell_of_row wr w.heap.size m _ _ _ HI.out.1
        rw [h1]
        exact q_at m qs
      have hfz : wr.frozen? ⟨w.heap.size, m, none⟩ = false := by simp [World.frozen?, HI.out.1]
      unfold u32v at hcl
      have HN : Hid ((wr.setCell ⟨w.heap.size, m, none⟩ (.int .u32 (Q : Int))).heap[w.heap.size]? = some (.cells (qCells m (Q :: qs)) 202 (0, 0)) ∧ m + (Q :: qs).length = l.length ∧ (∀ x ∈ Q :: qs, x < 4294967296) ∧ wVal (Q :: qs) = wVal (l.drop m) / d ∧ Below w.heap.size w (wr.setCell ⟨w.heap.size, m, none⟩ (.int .u32 (Q : Int)))) := by
        obtain ⟨i1, i2, i3, i4, i5⟩ := HI.out
        refine ⟨?_, by rw [List.length_cons]; omega, ?_, ?_, i5.setCell (Nat.le_refl _) _⟩
        · rw [show (wr.setCell ⟨w.heap.size, m, none⟩ (.int .u32 (Q : Int))).heap[w.heap.size]? = some (.cells ((qCells (m + 1) qs).setIfInBounds m (u32v Q)) 202 (0, 0)) by simp [World.setCell, Array.getElem?_modify, i1, u32v], q_set]
        · intro x hx
          rcases List.mem_cons.1 hx with rfl | hx
          · exact hq32
          · exact i3 x hx
        · rw [HD.out, wVal, wVal, i4, ← HV.out, (small_step V r a d hd HR.out).1, HQ.out, HT.out]; omega
      have HN2 : Hid (R = wVal (l.drop m) % d) := by
        show _ = _
        rw [HD.out, wVal, ← HV.out, (small_step V r a d hd HR.out).2, HRR.out, HT.out]
      clear HI HR HRR HQ HD HV HT
      go_wp2_with fail
      go_roundw
      case rel => exact ⟨m, Q :: qs, by omega, rfl, by rw [hr1, HN2.out], HN⟩
      case measure => simp [intOf]

/-! ### The digits -/
theorem own_stays {w w' : World} {B e size n : Nat} {v : Value} {xs : List Value} (h : w.ownsRow B e size v n xs) (hb : Below w.heap.size w w') : w'.ownsRow B e size v n xs :=
  h.kept (row := none) ⟨hb.os, hb.tape, hb.output, hb.size, fun k hk _ => hb.block k hk⟩ (by
    cases hv : v.ownBlock with
    | none => exact .inl rfl
    | some k => exact .inr (by simp))
def bytV (x : UInt8) : Value := .int .u8 (x.toNat : Int)
theorem u8_info : (Tryz.prog.info? 5).map (fun i => (i.zero, i.size, i.bytes)) = some (some (.int .u8 0), 1, 1) := by kernel_rfl
/-- The digits but for a nought alone. -/
def dds (V : Nat) : List UInt8 := if V = 0 then [] else Lib.decDigits V
theorem dds_step {V : Nat} (h : V ≠ 0) : dds V = dds (V / 10) ++ [UInt8.ofNat (48 + V % 10)] := by
  unfold dds
  rw [if_neg h]
  by_cases h1 : V < 10
  · rw [Lib.decDigits, dif_pos h1, if_pos (by omega), Nat.mod_eq_of_lt h1]; rfl
  · rw [Lib.decDigits, dif_neg h1, if_neg (by omega)]
/-- A row whose first and last i are turned round. -/
def revC (l : List UInt8) (i : Nat) : List UInt8 := (List.range l.length).map fun p => if p < i ∨ l.length ≤ p + i then l.getD (l.length - 1 - p) 0 else l.getD p 0
theorem revC_len (l : List UInt8) (i : Nat) : (revC l i).length = l.length := by unfold revC; simp
theorem revC_get (l : List UInt8) (i : Nat) {p : Nat} (hp : p < l.length) : (revC l i)[p]? = some (if p < i ∨ l.length ≤ p + i then l.getD (l.length - 1 - p) 0 else l.getD p 0) := by
  unfold revC
  rw [List.getElem?_map, List.getElem?_range hp]; rfl
theorem revC_zero (l : List UInt8) : revC l 0 = l := by
  apply List.ext_getElem?
  intro p
  by_cases hp : p < l.length
  · rw [revC_get l 0 hp, if_neg (by omega), List.getD_eq_getElem?_getD, List.getElem?_eq_getElem hp]; rfl
  · rw [List.getElem?_eq_none (by rw [revC_len]; omega), List.getElem?_eq_none (by omega)]
theorem revC_end (l : List UInt8) {i : Nat} (h : l.length ≤ 2 * i + 1) : revC l i = l.reverse := by
  apply List.ext_getElem?
  intro p
  by_cases hp : p < l.length
  · rw [revC_get l i hp, List.getElem?_reverse hp]
    by_cases hc : p < i ∨ l.length ≤ p + i
    · rw [if_pos hc, List.getD_eq_getElem?_getD, List.getElem?_eq_getElem (by omega)]; rfl
    · rw [if_neg hc, show l.length - 1 - p = p by omega, List.getD_eq_getElem?_getD, List.getElem?_eq_getElem hp]; rfl
  · rw [List.getElem?_eq_none (by rw [revC_len]; omega), List.getElem?_eq_none (by rw [List.length_reverse]; omega)]
theorem revC_step (l : List UInt8) {i : Nat} (h : 2 * i + 1 < l.length) : ((revC l i).set i (l.getD (l.length - 1 - i) 0)).set (l.length - 1 - i) (l.getD i 0) = revC l (i + 1) := by
  apply List.ext_getElem?
  intro p
  by_cases hp : p < l.length
  · rw [revC_get l (i + 1) hp, List.getElem?_set, List.getElem?_set, revC_get l i hp]
    simp only [List.length_set, revC_len]
    by_cases h1 : l.length - 1 - i = p
    · rw [if_pos h1, if_pos (by omega), if_pos (.inr (by omega)), ← h1, show l.length - 1 - (l.length - 1 - i) = i by omega]
    · rw [if_neg h1]
      by_cases h2 : i = p
      · rw [if_pos h2, if_pos (by omega), if_pos (.inl (by omega)), h2]
      · rw [if_neg h2]
        by_cases hc : p < i ∨ l.length ≤ p + i
        · rw [if_pos hc, if_pos (by omega)]
        · rw [if_neg hc, if_neg (by omega)]
  · rw [List.getElem?_eq_none (by rw [List.length_set, List.length_set, revC_len]; omega), List.getElem?_eq_none (by rw [revC_len]; omega)]
theorem OwnS.set1 {w : World} {e : TypeId} {cap n g off j : Nat} {xs : List Value} (h : OwnS w e 1 (some ⟨g, off, none⟩) cap n xs) (hj : j < n) (u : Value) : OwnS (w.setCell ⟨g, off + j, none⟩ u) e 1 (some ⟨g, off, none⟩) cap n (xs.set j u) := by
  obtain ⟨h1, h2, h3, h4⟩ := h
  refine ⟨by rw [List.length_set]; exact h1, h2, h3, ?_⟩
  rcases h4 with ⟨h4, _⟩ | ⟨g', off', cur, e1, hh, hc, hr⟩
  · cases h4
  · injection e1 with e1; injection e1 with e1 e2; subst e1; subst e2
    refine .inr ⟨g, off, cur.setIfInBounds (off + j) u, rfl, by simp [World.setCell, Array.getElem?_modify, hh], by simpa using hc, fun i v hi => ?_⟩
    rw [List.getElem?_set] at hi
    by_cases e : j = i
    · subst e
      rw [if_pos rfl] at hi
      split at hi
      · injection hi with hi; subst hi
        rw [Array.getElem?_setIfInBounds_self_of_lt (by omega)]
      · cases hi
    · rw [if_neg e] at hi
      rw [Array.getElem?_setIfInBounds_ne (by omega)]
      exact hr i v hi
def sliceLen : Value → Nat
  | .slice _ n _ => n
  | _ => 0
theorem dec20_len {V : Nat} (h : V < 18446744073709551616) : (Lib.decDigits V).length ≤ 20 := by
  rw [Lib.decDigits_length]
  have : ∀ (k u : Nat), u < 10 ^ (k + 1) → Lib.nDigits u ≤ k + 1 := fun k => by
    induction k with
    | zero => intro u hu; rw [Lib.nDigits_small (by simpa using hu)]; omega
    | succ k ih =>
      intro u hu
      by_cases h1 : u < 10
      · rw [Lib.nDigits_small h1]; omega
      · rw [Lib.nDigits_big h1]
        have := ih (u / 10) (by rw [Nat.pow_succ] at hu; omega)
        omega
  exact this 19 V (by omega)
def numeral (neg : Bool) (V : Nat) : List UInt8 := if V = 0 then [48] else if neg then 45 :: Lib.decDigits V else Lib.decDigits V
theorem flat_one {α β : Type} (f : α → β) : ∀ l : List α, (l.flatMap fun x => [f x]) = l.map f
  | [] => rfl
  | x :: l => by rw [List.flatMap_cons, flat_one f l]; rfl
theorem own_len {w : World} {B e size n : Nat} {v : Value} {xs : List Value} (h : w.ownsRow B e size v n xs) : sliceLen v = n := by
  rcases h.2 with ⟨rfl, h0⟩ | ⟨g, cap, cur, rfl, _⟩
  · exact h0.symm
  · rfl
set_option maxRecDepth 100000 in
set_option maxHeartbeats 1000000 in
theorem text_ok (g : Nat) (neg : Bool) (V : Nat) (w : World) (h : BigAt w g neg V) (hl : V < 18446744073709551616) :
    Calls Tryz.prog 124 #[.pointer (some ⟨g, 0, none⟩), .int .i64 10] w fun e w' => e = .returned (.string ⟨(numeral neg V).toArray⟩) ∧ Below w.heap.size w w' := by
  obtain ⟨A0, n, c, l, hg, hn, ht, hsl, hv, hlen, hfp⟩ := h.ex
  have c0 := cell_of_row w g 0 _ _ _ hg
  have c1 := cell_of_row w g 1 _ _ _ hg
  simp at c0 c1
  have hglt := block_lt hg
  clear hg h
  by_cases h0 : n = 0
  · subst h0
    have hV := (ht.zero (Nat.zero_le _)).2 rfl
    have HN : Hid (numeral neg V = [48]) := by unfold numeral; rw [← hv, hV]; rfl
    clear hsl hv ht hV
    go_enter Tryz.func124, Tryz.ntmps124
    go_wp2_with fail
    go_ret
    rw [HN.out]
    exact ⟨rfl, Below.refl _ _⟩
  · have hV : V ≠ 0 := fun e => h0 ((ht.zero hn).1 (hv.trans e))
    have hhd := hsl.head hn
    have hnl : (l.take n).length = n := by rw [List.length_take]; omega
    have HT1 := twin_ok _ _ _ _ w hhd (by omega)
    rw [hnl] at HT1
    have HT2 := Lib.hid HT1
    have hcap := hsl.1
    have hvt : wVal (l.take n) = V := ht.val.trans hv
    have HTR : Hid (n = 0 ↔ wVal (l.take n) = 0) := ⟨fun e => absurd e h0, fun e => absurd (hvt.symm.trans e) hV⟩
    have HVT := Lib.hid hvt
    have HNL := Lib.hid hnl
    clear HT1 hhd hsl ht hv hvt
    generalize l.take n = ws at HT2 HTR HVT HNL
    go_enter Tryz.func124, Tryz.ntmps124
    go_wp2_with fail
    refine HT2.out.mono ?_
    rintro e w2 ⟨A2, c2, rfl, hs2, hb2⟩
    have HS2 : Hid (SlA u32E (fun k => w.heap.size ≤ k ∧ k < w2.heap.size) w2 A2 c2 ws) := hs2
    have HB2 := Lib.hid hb2
    clear hs2 hb2 HT2
    go_wp2_with fail
    go_loopw [5, 6] (fun bv av wx => ∃ (bs : List UInt8) (A : Option Addr) (n c : Nat) (l : List Nat), av = .slice A n c ∧ n ≤ 1000 ∧ l.length = n ∧ Hid ((n = 0 ↔ wVal l = 0) ∧ SlA u32E (fun k => w.heap.size ≤ k ∧ k < wx.heap.size) wx A c l ∧ Lib.decDigits V = dds (wVal l) ++ bs.reverse) ∧ Hid (wx.ownsRow w.heap.size 5 1 bv bs.length (bs.map bytV)) ∧ Hid (Below w.heap.size w wx)) (fun bv _ _ => (Lib.decDigits V).length - sliceLen bv)
    case atStart => exact ⟨[], A2, n, c2, ws, rfl, by omega, HNL.out, ⟨HTR.out, HS2.out, by rw [HVT.out]; unfold dds; rw [if_neg hV]; simp⟩, World.ownsRow_nil _ _ _ _, HB2.out⟩
    case round =>
      clear HTR HVT HNL HS2 HB2
      obtain ⟨bs, A, m, cm, ls, rfl, hm, hlm, HI, HO, HB⟩ := hrel
      by_cases hm0 : m = 0
      · subst hm0
        have hrev : Lib.decDigits V = bs.reverse := by rw [HI.out.2.2, HI.out.1.1 rfl]; rfl
        have hbl : bs.length ≤ 20 := by have := dec20_len hl; rw [hrev, List.length_reverse] at this; exact this
        have hx0 : wr.cell? ⟨g, 0, none⟩ = some (.bool neg) := (HB.out.cell (p := ⟨g, 0, none⟩) hglt).trans c0
        have HREV := Lib.hid hrev
        have hszr := HB.out.size
        clear HI hrev hlm
        go_upto_if 52 with (fail)
        go_cut [5] from 53 to 55 (fun bv wx => ∃ bs2 : List UInt8, bs2.length ≤ 21 ∧ Hid (bs2.reverse = numeral neg V) ∧ Hid (wx.ownsRow w.heap.size 5 1 bv bs2.length (bs2.map bytV)) ∧ Hid (Below w.heap.size w wx))
        case first =>
          cases neg with
          | false =>
            go_wp2_with fail
            go_meet
            case rel => exact ⟨bs, by omega, (by show _ = _; rw [← HREV.out]; unfold numeral; rw [if_neg hV]; rfl), HO, HB⟩
          | true =>
            go_wp2_with (at_builtin; refine wpList_push (w0 := wr) rfl _ _ 94 rfl w.heap.size 5 (.int .u8 0) 1 1 Tryz.underlying94 u8_info rfl (by decide) u5 bs.length _ rfl HO.out [.int .u8 45] (by simp [Act.eval]) rfl ?_ ?_ ?_ HB.out.size HB.out (Nat.le_refl _) ?_)
            · first | rfl | (intro u hu; rw [List.mem_singleton.1 hu]; rfl)
            · unfold maxLen; omega
            · omega
            · intro v4 w4 hown4 hg4 hb4 hat4
              have HO4 : Hid (w4.ownsRow w.heap.size 5 1 v4 (bs ++ [45]).length ((bs ++ [45]).map bytV)) := by
                rw [List.length_append, List.length_singleton, List.map_append, List.map_singleton]; exact hown4
              have HB4 := Lib.hid hb4
              clear hown4 hg4 hb4 hat4 HO HB
              go_wp2_with fail
              go_meet
              case rel => exact ⟨bs ++ [45], by rw [List.length_append, List.length_singleton]; omega, (by show _ = _; rw [List.reverse_append, ← HREV.out]; unfold numeral; rw [if_neg hV]; rfl), HO4, HB4⟩
        case rest =>
          clear HO HB HREV hbl hx0
          obtain ⟨bs2, hbl, HREV, HO, HB⟩ := hcut
          obtain ⟨A5, c5, hv5, hown5, hbs5⟩ := OwnS.of_row HO.out
          obtain rfl := hv5
          have hnp : 0 < bs2.length := by
            rcases bs2 with _ | ⟨x, xs⟩
            · have := HREV.out
              unfold numeral at this
              rw [if_neg hV] at this
              have hd := Lib.decDigits_length V
              have hd2 := Lib.nDigits_pos V
              split at this
              · cases this
              · rw [← this] at hd; simp at hd; omega
            · simp
          obtain ⟨g5, o5, rfl, hg5, hc5⟩ := hown5.head hnp (by decide)
          have hb5 := hbs5 g5 rfl
          have hcap5 := hown5.2.1
          have HOW := Lib.hid hown5
          clear hown5 hbs5 HO hc5
          go_wp2_with fail
          go_loopw [8, 9] (fun iv jv wx => ∃ i j : Nat, 2 * i ≤ bs2.length ∧ i + j + 1 = bs2.length ∧ iv = .int .i64 i ∧ jv = .int .i64 j ∧ Hid (OwnS wx 5 1 (some ⟨g5, o5, none⟩) c5 bs2.length ((revC bs2 i).map bytV)) ∧ Hid (Below w.heap.size w wx)) (fun iv _ _ => bs2.length - (intOf iv).toNat)
          case atStart => exact ⟨0, bs2.length - 1, by omega, by omega, rfl, (by congr 1; omega), (by rw [revC_zero]; exact HOW.out), HB⟩
          case round =>
            clear HOW HB
            obtain ⟨i, j, hi, hij1, rfl, rfl, HOW, HB⟩ := hrel
            by_cases hij : 2 * i + 1 < bs2.length
            · have hcell : ∀ p, p < bs2.length → wr.cell? ⟨g5, o5 + p, none⟩ = some (bytV ((revC bs2 i).getD p 0)) := fun p hp => by
                obtain ⟨g', o', e, _, hc⟩ := HOW.out.head hnp (by decide)
                injection e with e; injection e with e1 e2; subst e1; subst e2
                refine hc p _ ?_
                rw [List.getElem?_map, List.getD_eq_getElem?_getD, List.getElem?_eq_getElem (by rw [revC_len]; exact hp)]
                rfl
              have hold : ∀ p, i ≤ p → p + i < bs2.length → (revC bs2 i).getD p 0 = bs2.getD p 0 := fun p h1 h2 => by
                rw [List.getD_eq_getElem?_getD, revC_get bs2 i (by omega), if_neg (by omega)]; rfl
              have y0 := hcell i (by omega)
              have y1 := hcell j (by omega)
              rw [hold i (Nat.le_refl _) (by omega)] at y0
              rw [hold j (by omega) (by omega)] at y1
              have hfz : ∀ (W : World) (cs : List Value) (p : Nat), OwnS W 5 1 (some ⟨g5, o5, none⟩) c5 bs2.length cs → W.frozen? ⟨g5, p, none⟩ = false := fun W cs p h => by
                rcases h.2.2.2 with ⟨h4, _⟩ | ⟨g', off', cur, e1, hh, _⟩
                · cases h4
                · injection e1 with e1; injection e1 with e1 e2; subst e1; simp [World.frozen?, hh]
              have f0 := hfz _ _ (o5 + i) HOW.out
              have hst := revC_step bs2 hij
              rw [show bs2.length - 1 - i = j by omega] at hst
              have HST := Lib.hid hst
              have hs1 := HOW.out.set1 (j := i) (by omega) (bytV (bs2.getD j 0))
              have f1 := hfz _ _ (o5 + j) hs1
              have y2 : (wr.setCell ⟨g5, o5 + i, none⟩ (bytV (bs2.getD j 0))).cell? ⟨g5, o5 + j, none⟩ = some (bytV (bs2.getD j 0)) := by
                obtain ⟨g', o', e, _, hc⟩ := hs1.head hnp (by decide)
                injection e with e; injection e with e1 e2; subst e1; subst e2
                refine hc j _ ?_
                rw [List.getElem?_set_ne (by omega), List.getElem?_map, List.getElem?_eq_getElem (by rw [revC_len]; omega), Option.map_some]
                have := hold j (by omega) (by omega)
                rw [List.getD_eq_getElem?_getD, List.getElem?_eq_getElem (by rw [revC_len]; omega)] at this
                rw [← this]; rfl
              have HS2 : Hid (OwnS ((wr.setCell ⟨g5, o5 + i, none⟩ (bytV (bs2.getD j 0))).setCell ⟨g5, o5 + j, none⟩ (bytV (bs2.getD i 0))) 5 1 (some ⟨g5, o5, none⟩) c5 bs2.length ((revC bs2 (i + 1)).map bytV)) := by
                have h2 := hs1.set1 (j := j) (by omega) (bytV (bs2.getD i 0))
                rw [← List.map_set, ← List.map_set, HST.out] at h2
                exact h2
              have HB2 : Hid (Below w.heap.size w ((wr.setCell ⟨g5, o5 + i, none⟩ (bytV (bs2.getD j 0))).setCell ⟨g5, o5 + j, none⟩ (bytV (bs2.getD i 0)))) := (HB.out.setCell hb5 _).setCell hb5 _
              have dij : decide (i < j) = true := decide_eq_true (by omega)
              clear hcell hold hfz hst HST hs1 HOW HB
              unfold bytV at y0 y1 y2 f1 HS2 HB2
              generalize bs2.getD i 0 = x at y0 HS2 HB2
              generalize bs2.getD j 0 = y at y1 y2 f1 HS2 HB2
              go_wp2_with fail
              go_roundw
              case rel => exact ⟨i + 1, j - 1, by omega, by omega, by go_num, by go_num, HS2, HB2⟩
              case measure => simp [intOf]; omega
            · have dij : decide (i < j) = false := decide_eq_false (by omega)
              have hrv := revC_end bs2 (i := i) (by omega)
              have hsl : SlA bytE (· < wr.heap.size) wr (some ⟨g5, o5, none⟩) c5 (numeral neg V) := by
                have h1 := HOW.out
                rw [hrv, HREV.out] at h1
                have h2 : OwnS wr 5 bytE.sz (some ⟨g5, o5, none⟩) c5 bs2.length ((numeral neg V).flatMap fun x => [bytV x]) := by
                  rw [show ((numeral neg V).flatMap fun x => [bytV x]) = (numeral neg V).map bytV from flat_one bytV _]
                  exact h1
                exact h2.sl (E := bytE) (fun x => [bytV x]) (fun _ => rfl) (by rw [← HREV.out, List.length_reverse]) (fun k e => HOW.out.lt k e) (fun x _ => rfl)
              have hcv := conv_string (P := Tryz.prog) (src := 94) (dst := 9) hsl Tryz.underlying94 Tryz.underlying5 Tryz.underlying9
              rw [← HREV.out, List.length_reverse, HREV.out] at hcv
              clear hsl hrv HOW
              go_wp2_with fail
              go_ret
              exact ⟨rfl, HB.out⟩
      · have hwv : wVal ls ≠ 0 := fun e => hm0 (HI.out.1.2 e)
        have HSM := small_ok _ A cm ls 10 wr HI.out.2.1 (fun k hk => hk.2) (by decide) (by decide) (by omega)
        rw [hlm] at HSM
        have HC := Lib.hid HSM
        clear HSM
        have hbl := HO.out.1
        have hdd := dds_step hwv
        have hdl : bs.length < (Lib.decDigits V).length := by
          rw [HI.out.2.2, hdd]
          simp only [List.length_append, List.length_reverse, List.length_singleton]
          omega
        have HDD := Lib.hid hdd
        have hdm : (Lib.decDigits V).length ≤ 20 := dec20_len hl
        have HWV := Lib.hid hwv
        clear hdd hwv hbl
        have hm63 : m ≤ 1000 := hm
        go_wp2_with fail
        refine HC.out.mono ?_
        rintro e w3 ⟨n3, q, rfl, hn3, ht3, hs3, hv3, hql, hb3⟩
        have hrr := Nat.mod_lt (wVal ls) (show 0 < 10 by decide)
        obtain ⟨r, hr⟩ : ∃ r, r = wVal ls % 10 := ⟨_, rfl⟩
        rw [← hr] at hrr ⊢
        have HRE := Lib.hid hr
        have dr : decide (r < 10) = true := decide_eq_true hrr
        have hu8 : ((UInt8.ofNat (48 + r)).toNat : Int) = 48 + (r : Int) := by rw [UInt8.toNat_ofNat']; omega
        have HN3 : Hid ((n3 = 0 ↔ wVal (q.take n3) = 0) ∧ SlA u32E (fun k => wr.heap.size ≤ k ∧ k < w3.heap.size) w3 (some ⟨wr.heap.size, 0, none⟩) m (q.take n3) ∧ wVal (q.take n3) = wVal ls / 10 ∧ (q.take n3).length = n3) :=
          ⟨by rw [ht3.val]; exact (ht3.zero hn3).symm, hs3.head hn3, by rw [ht3.val, hv3], by rw [List.length_take]; omega⟩
        have hn3m : n3 ≤ m := by omega
        have HB3 := Lib.hid hb3
        have HO3 : Hid (w3.ownsRow w.heap.size 5 1 u5 bs.length (bs.map bytV)) := own_stays HO.out hb3
        clear hn3 ht3 hs3 hv3 hql hb3 hr
        have hsz3 := HB3.out.size
        have hszr := HB.out.size
        go_wp2_with (at_builtin; refine wpList_push (w0 := w3) rfl _ _ 94 rfl w.heap.size 5 (.int .u8 0) 1 1 Tryz.underlying94 u8_info rfl (by decide) u5 bs.length _ rfl HO3.out [.int .u8 (48 + (r : Int))] (by simp [Act.eval]) rfl ?_ ?_ ?_ (by omega) (HB.out.trans (HB3.out.mono HB.out.size)) (Nat.le_refl _) ?_)
        · intro u hu; rw [List.mem_singleton.1 hu]; rfl
        · unfold maxLen; omega
        · omega
        · intro v4 w4 hown4 hg4 hb4 hat4
          have HO4 : Hid (w4.ownsRow w.heap.size 5 1 v4 (bs ++ [UInt8.ofNat (48 + r)]).length ((bs ++ [UInt8.ofNat (48 + r)]).map bytV)) := by
            rw [List.length_append, List.length_singleton, List.map_append, List.map_singleton, show bytV (UInt8.ofNat (48 + r)) = .int .u8 (48 + (r : Int)) by unfold bytV; rw [hu8]]
            exact hown4
          have hsz4 := hg4.size
          have HI4 : Hid ((n3 = 0 ↔ wVal (q.take n3) = 0) ∧ SlA u32E (fun k => w.heap.size ≤ k ∧ k < w4.heap.size) w4 (some ⟨wr.heap.size, 0, none⟩) m (q.take n3) ∧ Lib.decDigits V = dds (wVal (q.take n3)) ++ (bs ++ [UInt8.ofNat (48 + r)]).reverse) := by
            refine ⟨HN3.out.1, (HN3.out.2.1.keep fun k hk => hg4.block k hk.2 fun e => ?_).more fun k hk => ⟨by have := hk.1; omega, by have := hk.2; omega⟩, ?_⟩
            · have := (HO.out.lt k e.symm).2
              have := hk.1
              omega
            · rw [HI.out.2.2, HDD.out, HN3.out.2.2.1, HRE.out]; simp
          have HB4 := Lib.hid hb4
          have HNL4 : Hid ((q.take n3).length = n3) := HN3.out.2.2.2
          have hl4 := own_len HO4.out
          rw [List.length_append, List.length_singleton] at hl4
          have hl5 := own_len HO.out
          clear hown4 hg4 hb4 hat4 HI HO HB HB3 HO3 HN3 HDD HRE HWV
          go_wp2_with fail
          go_roundw
          case rel => exact ⟨bs ++ [UInt8.ofNat (48 + r)], some ⟨wr.heap.size, 0, none⟩, n3, m, q.take n3, rfl, by omega, HNL4.out, HI4, HO4, HB4⟩
          case measure => rw [hl4, hl5]; omega
theorem string_ok (g : Nat) (s : ByteArray) (w : World) (h : Calls Tryz.prog 124 #[.pointer (some ⟨g, 0, none⟩), .int .i64 10] w fun e w' => e = .returned (.string s) ∧ Below w.heap.size w w') :
    Calls Tryz.prog 87 #[.pointer (some ⟨g, 0, none⟩)] w fun e w' => e = .returned (.string s) ∧ Below w.heap.size w w' := by
  have H := Lib.hid h
  clear h
  go_enter Tryz.func87, Tryz.ntmps87
  go_wp2_with fail
  refine H.out.mono ?_
  rintro e w2 ⟨rfl, hb⟩
  have HB := Lib.hid hb
  clear hb H
  go_wp2_with fail
  go_ret
  exact ⟨rfl, HB.out⟩
theorem digits_ok (x : Int) (w : World) (hx : -9223372036854775808 ≤ x ∧ x ≤ 9223372036854775807) :
    Calls Tryz.prog 39 #[.int .i64 x] w fun e w' => e = .returned (.string ⟨(Lib.itoa x).toArray⟩) ∧ Below w.heap.size w w' := by
  have HN := Lib.hid (newInt_ok x w hx)
  have HT := Lib.hid (fun g W h => text_ok g (decide (x < 0)) x.natAbs W h (by omega))
  have hnum : numeral (decide (x < 0)) x.natAbs = Lib.itoa x := by
    unfold numeral Lib.itoa
    by_cases h0 : x < 0
    · rw [if_neg (by omega), decide_eq_true h0, if_pos rfl, if_pos h0]
    · rw [if_neg h0, decide_eq_false h0]
      by_cases h1 : x = 0
      · subst h1; rw [if_pos (by decide)]; exact (Lib.decDigits_one (i := 0) (by omega)).symm
      · rw [if_neg (by omega), if_neg (by decide), show x.natAbs = x.toNat by omega]
  rw [hnum] at HT
  clear hx hnum
  go_enter Tryz.func39, Tryz.ntmps39
  go_wp2_with fail
  refine HN.out.mono ?_
  rintro e w2 ⟨g, rfl, hg, hb⟩
  have HT2 := Lib.hid (HT.out g w2 hg)
  have HB := Lib.hid hb
  clear hg hb HN HT
  go_wp2_with fail
  refine (string_ok g _ w2 HT2.out).mono ?_
  rintro e w3 ⟨rfl, hb⟩
  have HB3 := Lib.hid (HB.out.trans (hb.mono HB.out.size))
  clear hb HB HT2
  go_wp2_with fail
  go_ret
  exact ⟨rfl, HB3.out⟩
end Go.Proofs.YtfndhfekbbbliaaGreatDoor

/-
  The reference's Apply. Conditions: the node is right; the key takes at most 40 bytes; the numbers are ints; the input is 0 to 3.
-/
namespace Go.Proofs.YtfndhfekbbbliaaGreatDoor
open Go.RowKit Go.ChangeShapes Go.WideShapes
set_option linter.unusedVariables false

theorem info_recR : (Tryz.prog.info? 44).map (fun i => (i.zero, i.size, i.bytes)) = some (some (.agg #[.string ByteArray.empty, .int .i64 0, .int .i64 0]), 3, 32) := by kernel_rfl
theorem passR_rep (r : Rec) : passR r = if 40 < r.key.size then [] else List.replicate 1 r := by unfold passR; split <;> rfl
/-- The reference's variables of Apply: five blocks, one behind the other. -/
structure AV (w : World) (n : Nod) (A0 : Option Addr) (c0 : Nat) (h : Hld) (r : Rec) (key' : ByteArray) (num' : Int) (wx : World) : Prop where
  bel : Below w.heap.size w wx
  nod : wx.heap[w.heap.size]? = some (.cells #[.int .i64 n.kind, .slice A0 n.from_.length c0, .string n.text, .int .i64 n.n] 40 (0, 0))
  hld : wx.heap[w.heap.size + 1]? = some (.cells #[.int .i64 h.node, .string h.key, .int .i64 h.a, .int .i64 h.b] 42 (0, 0))
  rec_ : wx.heap[w.heap.size + 2]? = some (.cells #[.string r.key, .int .i64 r.num, .int .i64 r.time] 44 (0, 0))
  res : wx.heap[w.heap.size + 3]? = some (.cells #[.int .i64 0, .string ⟨#[]⟩, .int .i64 0, .int .i64 0] 42 (0, 0))
  out : wx.heap[w.heap.size + 4]? = some (.cells #[.string key', .int .i64 num', .int .i64 r.time] 44 (0, 0))
theorem AV.lt {w : World} {n : Nod} {A0 : Option Addr} {c0 : Nat} {h : Hld} {r : Rec} {key' : ByteArray} {num' : Int} {wx : World} (v : AV w n A0 c0 h r key' num' wx) : w.heap.size + 4 < wx.heap.size := block_lt v.out
theorem AV.below {w : World} {n : Nod} {A0 : Option Addr} {c0 : Nat} {h : Hld} {r : Rec} {key' : ByteArray} {num' : Int} {wx wy : World} (v : AV w n A0 c0 h r key' num' wx) (hb : Below wx.heap.size wx wy) : AV w n A0 c0 h r key' num' wy := by
  have := v.lt
  exact ⟨v.bel.trans (hb.mono v.bel.size), (hb.block _ (by omega)).trans v.nod, (hb.block _ (by omega)).trans v.hld, (hb.block _ (by omega)).trans v.rec_, (hb.block _ (by omega)).trans v.res, (hb.block _ (by omega)).trans v.out⟩
theorem AV.setNum {w : World} {n : Nod} {A0 : Option Addr} {c0 : Nat} {h : Hld} {r : Rec} {key' : ByteArray} {num' : Int} {wx : World} (v : AV w n A0 c0 h r key' num' wx) (x : Int) : AV w n A0 c0 h r key' x (wx.setCell ⟨w.heap.size + 4, 1, none⟩ (.int .i64 x)) := by
  refine ⟨v.bel.setCell (by show w.heap.size ≤ w.heap.size + 4; omega) _, (Below.heap_setCell _ _ _ _ (by show _ ≠ _; simp)).trans v.nod, (Below.heap_setCell _ _ _ _ (by show _ ≠ _; simp)).trans v.hld, (Below.heap_setCell _ _ _ _ (by show _ ≠ _; simp)).trans v.rec_, (Below.heap_setCell _ _ _ _ (by show _ ≠ _; simp)).trans v.res, ?_⟩
  have := v.out
  simp [World.setCell, Array.getElem?_modify, this]
theorem AV.setKey {w : World} {n : Nod} {A0 : Option Addr} {c0 : Nat} {h : Hld} {r : Rec} {key' : ByteArray} {num' : Int} {wx : World} (v : AV w n A0 c0 h r key' num' wx) (x : ByteArray) : AV w n A0 c0 h r x num' (wx.setCell ⟨w.heap.size + 4, 0, none⟩ (.string x)) := by
  refine ⟨v.bel.setCell (by show w.heap.size ≤ w.heap.size + 4; omega) _, (Below.heap_setCell _ _ _ _ (by show _ ≠ _; simp)).trans v.nod, (Below.heap_setCell _ _ _ _ (by show _ ≠ _; simp)).trans v.hld, (Below.heap_setCell _ _ _ _ (by show _ ≠ _; simp)).trans v.rec_, (Below.heap_setCell _ _ _ _ (by show _ ≠ _; simp)).trans v.res, ?_⟩
  have := v.out
  simp [World.setCell, Array.getElem?_modify, this]
structure AVC (w : World) (n : Nod) (h : Hld) (r : Rec) (key' : ByteArray) (num' : Int) (wx : World) : Prop where
  n0 : wx.cell? ⟨w.heap.size, 0, none⟩ = some (.int .i64 n.kind)
  n2 : wx.cell? ⟨w.heap.size, 2, none⟩ = some (.string n.text)
  n3 : wx.cell? ⟨w.heap.size, 3, none⟩ = some (.int .i64 n.n)
  h2 : wx.cell? ⟨w.heap.size + 1, 2, none⟩ = some (.int .i64 h.a)
  h3 : wx.cell? ⟨w.heap.size + 1, 3, none⟩ = some (.int .i64 h.b)
  r0 : wx.cell? ⟨w.heap.size + 2, 0, none⟩ = some (.string r.key)
  r1 : wx.cell? ⟨w.heap.size + 2, 1, none⟩ = some (.int .i64 r.num)
  o0 : wx.cell? ⟨w.heap.size + 4, 0, none⟩ = some (.string key')
  o1 : wx.cell? ⟨w.heap.size + 4, 1, none⟩ = some (.int .i64 num')
  o2 : wx.cell? ⟨w.heap.size + 4, 2, none⟩ = some (.int .i64 r.time)
  of_ : ∀ i, wx.frozen? ⟨w.heap.size + 4, i, none⟩ = false
theorem AV.c {w : World} {n : Nod} {A0 : Option Addr} {c0 : Nat} {h : Hld} {r : Rec} {key' : ByteArray} {num' : Int} {wx : World} (v : AV w n A0 c0 h r key' num' wx) : AVC w n h r key' num' wx :=
  ⟨(cell_of_row wx _ 0 _ _ _ v.nod).trans rfl, (cell_of_row wx _ 2 _ _ _ v.nod).trans rfl, (cell_of_row wx _ 3 _ _ _ v.nod).trans rfl, (cell_of_row wx _ 2 _ _ _ v.hld).trans rfl, (cell_of_row wx _ 3 _ _ _ v.hld).trans rfl, (cell_of_row wx _ 0 _ _ _ v.rec_).trans rfl, (cell_of_row wx _ 1 _ _ _ v.rec_).trans rfl,
    (cell_of_row wx _ 0 _ _ _ v.out).trans rfl, (cell_of_row wx _ 1 _ _ _ v.out).trans rfl, (cell_of_row wx _ 2 _ _ _ v.out).trans rfl, fun i => by have := v.out; simp [World.frozen?] at this ⊢; simp [this]⟩
def hset (w : World) (k : Nat) (x y z u : Value) : World := (((w.setCell ⟨k, 0, none⟩ x).setCell ⟨k, 1, none⟩ y).setCell ⟨k, 2, none⟩ z).setCell ⟨k, 3, none⟩ u
theorem hset_put {w : World} {k : Nat} {a b c d : Value} {T : TypeId} (h : w.heap[k]? = some (.cells #[a, b, c, d] T (0, 0))) (x y z u : Value) : (hset w k x y z u).heap[k]? = some (.cells #[x, y, z, u] T (0, 0)) := by
  simp [hset, World.setCell, Array.getElem?_modify, h]
theorem hset_far (w : World) {k j : Nat} (h : j ≠ k) (x y z u : Value) : (hset w k x y z u).heap[j]? = w.heap[j]? := by
  unfold hset
  iterate 4 rw [Below.heap_setCell _ _ _ _ (by simpa using h)]
theorem hset_size (w : World) (k : Nat) (x y z u : Value) : (hset w k x y z u).heap.size = w.heap.size := by simp [hset]
def rrecCells (r : Rec) : List Value := [.string r.key, .int .i64 r.num, .int .i64 r.time]
theorem rown_recs {B : Nat} {w : World} {v : Value} {l : List Rec} (h : w.ownsRow B 44 3 v l.length (l.flatMap rrecCells)) (hx : ∀ r ∈ l, r.key.size ≤ maxLen ∧ I64 r.num ∧ I64 r.time) : ∃ A c, v = .slice A l.length c ∧ SlA recE (fun q => B ≤ q ∧ q < w.heap.size) w A c l := by
  obtain ⟨A, c, rfl, ho, hb⟩ := OwnS.of_row h
  exact ⟨A, c, rfl, ho.sl (E := recE) rrecCells (fun _ => rfl) rfl (fun k e => ⟨hb k e, OwnS.lt ho k e⟩) (fun r hr => ⟨rfl, hx r hr⟩)⟩
theorem rep_snoc {α : Type} (k : Nat) (x : α) (f : α → List Value) : (List.replicate (k + 1) x).flatMap f = (List.replicate k x).flatMap f ++ f x := by
  rw [List.replicate_succ', List.flatMap_append]; simp
/-- What the switch leaves. -/
structure Swt (w : World) (n : Nod) (A0 : Option Addr) (c0 : Nat) (h : Hld) (has : Bool) (r : Rec) (input : Int) (has' : Bool) (a' b' : Int) (M : Nat) (key' : ByteArray) (num' : Int) (wx : World) : Prop where
  av : AV w n A0 c0 h r key' num' wx
  eq : applyN n h has r input = ⟨if 40 < key'.size then [] else List.replicate M ⟨key', num', r.time⟩, if has' then ⟨0, r.key, a', b'⟩ else zeroH, has'⟩
  many : M ≤ 3
  size : key'.size ≤ 100
  num : I64s num'
set_option maxRecDepth 100000 in
set_option maxHeartbeats 16000000 in
theorem rapply_ok (n : Nod) (A0 : Option Addr) (c0 : Nat) (h : Hld) (has : Bool) (r : Rec) (input : Int) (w : World) (hk : r.key.size ≤ 40) (hrn : I64s r.num) (hrt : I64 r.time) (hha : I64s h.a) (hhb : I64s h.b) (hin : 0 ≤ input ∧ input ≤ 3) (h5 : n.kind = 5 → 0 ≤ n.n ∧ n.n ≤ 3) :
    Calls Tryz.prog 17 #[.agg #[.int .i64 n.kind, .slice A0 n.from_.length c0, .string n.text, .int .i64 n.n], .agg #[.int .i64 h.node, .string h.key, .int .i64 h.a, .int .i64 h.b], .bool has, .agg #[.string r.key, .int .i64 r.num, .int .i64 r.time], .int .i64 input] w fun e w' =>
      ∃ A c, e = .returned (.tuple #[.slice A (applyN n h has r input).out.length c, .agg #[.int .i64 (applyN n h has r input).held.node, .string (applyN n h has r input).held.key, .int .i64 (applyN n h has r input).held.a, .int .i64 (applyN n h has r input).held.b], .bool (applyN n h has r input).has]) ∧ SlA recE (fun q => w.heap.size ≤ q ∧ q < w'.heap.size) w' A c (applyN n h has r input).out ∧ Below w.heap.size w w' := by
  obtain ⟨W5, hW5⟩ : ∃ W5, W5 = ((((w.alloc (.cells #[.int .i64 n.kind, .slice A0 n.from_.length c0, .string n.text, .int .i64 n.n] 40)).alloc (.cells #[.int .i64 h.node, .string h.key, .int .i64 h.a, .int .i64 h.b] 42)).alloc (.cells #[.string r.key, .int .i64 r.num, .int .i64 r.time] 44)).alloc (.cells #[.int .i64 0, .string ⟨#[]⟩, .int .i64 0, .int .i64 0] 42)).alloc (.cells #[.string r.key, .int .i64 r.num, .int .i64 r.time] 44) := ⟨_, rfl⟩
  have hAV : AV w n A0 c0 h r r.key r.num W5 := by
    rw [hW5]
    have e : ∀ (W : World) (o : Obj) (k : Nat), W.heap.size = k → (W.alloc o).heap[k]? = some o := fun W o k hk => by rw [← hk]; exact heap_alloc_new W o
    refine ⟨(((((Below.refl _ _).alloc (Nat.le_refl _) _).alloc (by simp) _).alloc (by simp; omega) _).alloc (by simp; omega) _).alloc (by simp; omega) _, ?_, ?_, ?_, ?_, ?_⟩
    · exact (heap_alloc_old _ _ (by simp; omega)).trans ((heap_alloc_old _ _ (by simp; omega)).trans ((heap_alloc_old _ _ (by simp; omega)).trans ((heap_alloc_old _ _ (by simp)).trans (heap_alloc_new _ _))))
    · exact (heap_alloc_old _ _ (by simp)).trans ((heap_alloc_old _ _ (by simp)).trans ((heap_alloc_old _ _ (by simp)).trans (e _ _ _ (by simp))))
    · exact (heap_alloc_old _ _ (by simp)).trans ((heap_alloc_old _ _ (by simp)).trans (e _ _ _ (by simp)))
    · exact (heap_alloc_old _ _ (by simp)).trans (e _ _ _ (by simp))
    · exact e _ _ _ (by simp)
  have HAV := Lib.hid hAV
  have HW5 := Lib.hid hW5
  have HIN := Lib.hid hin
  have HRN := Lib.hid hrn
  have HRT := Lib.hid hrt
  have HH := Lib.hid (And.intro hha hhb)
  have H5 := Lib.hid h5
  obtain ⟨sa, hsa⟩ : ∃ sa, sa = if has then h.a else 0 := ⟨_, rfl⟩
  obtain ⟨sb, hsb⟩ : ∃ sb, sb = if has then h.b else 0 := ⟨_, rfl⟩
  have HSA : Hid (sa = (begins h has r).a ∧ sb = (begins h has r).b ∧ begins h has r = ⟨0, r.key, sa, sb⟩ ∧ I64s sa ∧ I64s sb) := by
    rw [hsa, hsb]; unfold begins
    cases has with
    | true => exact ⟨rfl, rfl, rfl, hha, hhb⟩
    | false => exact ⟨rfl, rfl, rfl, ⟨by simp, by simp⟩, ⟨by simp, by simp⟩⟩
  clear hAV hW5 hin hrn hrt hha hhb h5
  go_enter Tryz.func17, Tryz.ntmps17
  go_upto_if 23 with (fail)
  go_cut [13, 14] from 24 to 27 (fun av bv wx => av = .int .i64 sa ∧ bv = .int .i64 sb ∧ Hid (wx = (((w.alloc (.cells #[.int .i64 n.kind, .slice A0 n.from_.length c0, .string n.text, .int .i64 n.n] 40)).alloc (.cells #[.int .i64 h.node, .string h.key, .int .i64 h.a, .int .i64 h.b] 42)).alloc (.cells #[.string r.key, .int .i64 r.num, .int .i64 r.time] 44)).alloc (.cells #[.int .i64 0, .string ⟨#[]⟩, .int .i64 0, .int .i64 0] 42)))
  case first =>
    have HSB := Lib.hid (And.intro hsa hsb)
    clear hsa hsb
    cases has with
    | true =>
      go_wp2_with fail
      go_meet
      case rel => exact ⟨by rw [HSB.out.1]; rfl, by rw [HSB.out.2]; rfl, rfl⟩
    | false =>
      go_wp2_with fail
      go_meet
      case rel => exact ⟨by rw [HSB.out.1]; rfl, by rw [HSB.out.2]; rfl, rfl⟩
  case rest =>
    obtain ⟨rfl, rfl, hwc⟩ := hcut
    have hwc2 := hwc.out
    clear hwc hsa hsb
    subst hwc2
    go_upto_region 9 with (fail)
    rw [← HW5.out]
    clear HW5
    obtain ⟨n0, n2, n3, x2, x3, r0, r1, o0, o1, o2, of_⟩ := HAV.out.c
    go_upto_block 0 with (fail)
    obtain ⟨kind, hkind⟩ : ∃ kind, kind = n.kind := ⟨_, rfl⟩
    rw [← hkind] at n0 ⊢
    have HK := Lib.hid hkind
    have HKS := Lib.hid hk
    clear hkind
    go_cut [2, 13, 14, 16] from 18 to 102 (fun hv av bv mv wx => ∃ (has' : Bool) (a' b' : Int) (M : Nat) (key' : ByteArray) (num' : Int), hv = .bool has' ∧ av = .int .i64 a' ∧ bv = .int .i64 b' ∧ mv = .int .i64 (M : Int) ∧ Hid (Swt w n A0 c0 h has r input has' a' b' M key' num' wx))
    case first =>
      by_cases hk2 : kind = 2
      · have HAP : Hid (n.kind = 2) := by show _ = _; rw [← HK.out, hk2]
        have hs0 : ∀ k : Int, k = kind → k ≠ 2 → False := fun k h1 h2 => h2 (h1.trans hk2)
        clear hs0
        subst hk2
        have HE := Lib.hid (reval_ok n.text r.num 0 W5 HRN.out ⟨by omega, by omega⟩)
        go_wp2_with fail
        refine HE.out.mono ?_
        rintro e w1 ⟨rfl, hx, hb⟩
        have hav := HAV.out.below hb
        obtain ⟨n0, n2, n3, x2, x3, r0, r1, o0, o1, o2, of_⟩ := hav.c
        have HAV1 := Lib.hid hav
        have HX := Lib.hid hx
        obtain ⟨ev, hev⟩ : ∃ ev, ev = evalOf n.text r.num 0 := ⟨_, rfl⟩
        rw [← hev] at HX ⊢
        have HEV := Lib.hid hev
        clear hav hb hx HE hev
        go_wp2_with fail
        go_meet
        case rel =>
          refine ⟨has, sa, sb, 1, r.key, ev, rfl, rfl, rfl, rfl, HAV1.out.setNum ev, ?_, by omega, by have := HKS.out; omega, HX.out⟩
          unfold applyN; simp only [HAP.out]; rw [HSA.out.2.2.1, ← HEV.out]; simp [ends_, passR_rep]
      have e2 : (kind == 2) = false := by simp [hk2]
      by_cases hk3 : kind = 3
      · have HAP : Hid (n.kind = 3) := by show _ = _; rw [← HK.out, hk3]
        have hs0 : ∀ k : Int, k = kind → k ≠ 3 → False := fun k h1 h2 => h2 (h1.trans hk3)
        clear hs0 e2
        subst hk3
        have HE := Lib.hid (reval_ok n.text r.num 0 W5 HRN.out ⟨by omega, by omega⟩)
        go_wp2_with fail
        refine HE.out.mono ?_
        rintro e w1 ⟨rfl, hx, hb⟩
        have hav := HAV.out.below hb
        obtain ⟨n0, n2, n3, x2, x3, r0, r1, o0, o1, o2, of_⟩ := hav.c
        have HAV1 := Lib.hid hav
        obtain ⟨ev, hev⟩ : ∃ ev, ev = evalOf n.text r.num 0 := ⟨_, rfl⟩
        rw [← hev]
        have HEV := Lib.hid hev
        clear hav hb hx HE hev
        by_cases hev0 : ev = 0
        · subst hev0
          go_wp2_with fail
          go_meet
          case rel =>
            refine ⟨has, sa, sb, 0, r.key, r.num, rfl, rfl, rfl, rfl, HAV1.out, ?_, by omega, by have := HKS.out; omega, HRN.out⟩
            unfold applyN; simp only [HAP.out]; rw [HSA.out.2.2.1, ← HEV.out]; simp [ends_]
        · have hne : (ev == 0) = false := by simp [hev0]
          have HNE := Lib.hid hev0
          clear hev0
          go_wp2_with fail
          go_meet
          case rel =>
            refine ⟨has, sa, sb, 1, r.key, r.num, rfl, rfl, rfl, rfl, HAV1.out, ?_, by omega, by have := HKS.out; omega, HRN.out⟩
            unfold applyN; simp only [HAP.out]; rw [HSA.out.2.2.1, ← HEV.out]; have := HNE.out; simp [ends_, passR_rep, this]
      have e3 : (kind == 3) = false := by simp [hk3]
      by_cases hk4 : kind = 4
      · have HAP : Hid (n.kind = 4) := by show _ = _; rw [← HK.out, hk4]
        have hs0 : ∀ k : Int, k = kind → k ≠ 4 → False := fun k h1 h2 => h2 (h1.trans hk4)
        clear hs0 e2 e3
        subst hk4
        have HE := Lib.hid (reval_ok n.text r.num 0 W5 HRN.out ⟨by omega, by omega⟩)
        go_wp2_with fail
        refine HE.out.mono ?_
        rintro e w1 ⟨rfl, hx, hb⟩
        obtain ⟨ev, hev⟩ : ∃ ev, ev = evalOf n.text r.num 0 := ⟨_, rfl⟩
        rw [← hev] at hx ⊢
        have HEV := Lib.hid hev
        have hav := HAV.out.below hb
        have HD := Lib.hid (digits_ok ev w1 hx)
        obtain ⟨D, hD, hDs, hDl⟩ : ∃ D : ByteArray, D = ⟨(Lib.itoa ev).toArray⟩ ∧ D.size ≤ 21 ∧ D.data.toList = Lib.itoa ev := ⟨_, rfl, by show (Lib.itoa ev).toArray.size ≤ 21; simpa using Go.Lib.itoa_length_le ev hx.1 hx.2, by simp⟩
        rw [← hD] at HD
        have HDD := Lib.hid hD
        have HAV1 := Lib.hid hav
        clear hav hb hx HE hev hD hDl
        go_wp2_with fail
        refine HD.out.mono ?_
        rintro e w2 ⟨rfl, hb⟩
        have hav := HAV1.out.below hb
        obtain ⟨n0, n2, n3, x2, x3, r0, r1, o0, o1, o2, of_⟩ := hav.c
        have HAV2 := Lib.hid hav
        clear hav hb HD HAV1
        go_wp2_with fail
        go_meet
        case rel =>
          refine ⟨has, sa, sb, 1, r.key ++ ⟨#[47]⟩ ++ D, r.num, rfl, rfl, rfl, rfl, HAV2.out.setKey _, ?_, by omega, ?_, HRN.out⟩
          · unfold applyN; simp only [HAP.out]; rw [HSA.out.2.2.1, ← HEV.out]
            have e : subKey r.key ev = r.key ++ ⟨#[47]⟩ ++ D := by unfold subKey; rw [← HDD.out, ByteArray.append_assoc]
            simp [ends_, passR_rep, e]
          · have := HKS.out; rw [ByteArray.size_append, ByteArray.size_append]; have : (⟨#[47]⟩ : ByteArray).size = 1 := rfl; omega
      have e4 : (kind == 4) = false := by simp [hk4]
      by_cases hk5 : kind = 5
      · have HAP : Hid (n.kind = 5) := by show _ = _; rw [← HK.out, hk5]
        have hs0 : ∀ k : Int, k = kind → k ≠ 5 → False := fun k h1 h2 => h2 (h1.trans hk5)
        clear hs0 e2 e3 e4
        subst hk5
        have h5 := H5.out HAP.out
        obtain ⟨M, hM⟩ : ∃ M : Nat, n.n = (M : Int) := ⟨n.n.toNat, by omega⟩
        have HM := Lib.hid hM
        clear h5
        rw [hM] at n3
        clear hM
        go_wp2_with fail
        go_meet
        case rel =>
          have hM3 := (H5.out HAP.out).2
          have hM := HM.out
          refine ⟨has, sa, sb, M, r.key, r.num, rfl, rfl, rfl, rfl, HAV.out, ?_, by omega, by have := HKS.out; omega, HRN.out⟩
          have hm : (min 3 n.n).toNat = M := by omega
          unfold applyN; simp only [HAP.out]; rw [HSA.out.2.2.1, hm]
          have hkk : ¬ 40 < r.key.size := by have := HKS.out; omega
          simp [ends_, passR, hkk, List.flatten_replicate_singleton]
      have e5 : (kind == 5) = false := by simp [hk5]
      by_cases hk6 : kind = 6
      · have HAP : Hid (n.kind = 6) := by show _ = _; rw [← HK.out, hk6]
        have hs0 : ∀ k : Int, k = kind → k ≠ 6 → False := fun k h1 h2 => h2 (h1.trans hk6)
        clear hs0 e2 e3 e4 e5
        subst hk6
        have HD := Lib.hid (digits_ok input W5 ⟨by have := HIN.out; omega, by have := HIN.out; omega⟩)
        obtain ⟨D, hD, hDs⟩ : ∃ D : ByteArray, D = ⟨(Lib.itoa input).toArray⟩ ∧ D.size ≤ 21 := ⟨_, rfl, by show (Lib.itoa input).toArray.size ≤ 21; simpa using Go.Lib.itoa_length_le input (by have := HIN.out; omega) (by have := HIN.out; omega)⟩
        rw [← hD] at HD
        have HDD := Lib.hid hD
        clear hD
        go_wp2_with fail
        refine HD.out.mono ?_
        rintro e w2 ⟨rfl, hb⟩
        have hav := HAV.out.below hb
        obtain ⟨n0, n2, n3, x2, x3, r0, r1, o0, o1, o2, of_⟩ := hav.c
        have HAV2 := Lib.hid hav
        clear hav hb HD
        go_wp2_with fail
        go_meet
        case rel =>
          refine ⟨has, sa, sb, 1, D ++ ⟨#[58]⟩ ++ r.key, r.num, rfl, rfl, rfl, rfl, HAV2.out.setKey _, ?_, by omega, ?_, HRN.out⟩
          · unfold applyN; simp only [HAP.out]; rw [HSA.out.2.2.1]
            have e : uniKey input r.key = D ++ ⟨#[58]⟩ ++ r.key := by unfold uniKey; rw [← HDD.out]
            simp [ends_, passR_rep, e]
          · have := HKS.out; rw [ByteArray.size_append, ByteArray.size_append]; have : (⟨#[58]⟩ : ByteArray).size = 1 := rfl; omega
      have e6 : (kind == 6) = false := by simp [hk6]
      by_cases hk7 : kind = 7
      · have HAP : Hid (n.kind = 7) := by show _ = _; rw [← HK.out, hk7]
        have hs0 : ∀ k : Int, k = kind → k ≠ 7 → False := fun k h1 h2 => h2 (h1.trans hk7)
        clear hs0 e2 e3 e4 e5 e6
        subst hk7
        have HE := Lib.hid (reval_ok n.text r.num sa W5 HRN.out HSA.out.2.2.2.1)
        go_wp2_with fail
        refine HE.out.mono ?_
        rintro e w1 ⟨rfl, hx, hb⟩
        have hav := HAV.out.below hb
        obtain ⟨n0, n2, n3, x2, x3, r0, r1, o0, o1, o2, of_⟩ := hav.c
        have HAV1 := Lib.hid hav
        have HX := Lib.hid hx
        obtain ⟨ev, hev⟩ : ∃ ev, ev = evalOf n.text r.num sa := ⟨_, rfl⟩
        rw [← hev] at HX ⊢
        have HEV := Lib.hid hev
        clear hav hb hx HE hev
        go_wp2_with fail
        go_meet
        case rel =>
          refine ⟨true, ev, sb, 1, r.key, ev, rfl, rfl, rfl, rfl, HAV1.out.setNum ev, ?_, by omega, by have := HKS.out; omega, HX.out⟩
          unfold applyN; simp only [HAP.out]; rw [HSA.out.2.2.1]; simp only; rw [← HEV.out]; simp [ends_, passR_rep]
      have e7 : (kind == 7) = false := by simp [hk7]
      by_cases hk8 : kind = 8
      · have HAP : Hid (n.kind = 8) := by show _ = _; rw [← HK.out, hk8]
        have hs0 : ∀ k : Int, k = kind → k ≠ 8 → False := fun k h1 h2 => h2 (h1.trans hk8)
        clear hs0 e2 e3 e4 e5 e6 e7
        subst hk8
        obtain ⟨a1, ha1⟩ : ∃ a1, a1 = wrap64 (sa + 1) := ⟨_, rfl⟩
        obtain ⟨b1, hb1⟩ : ∃ b1, b1 = wrap64 (sb + r.num) := ⟨_, rfl⟩
        have HAB := Lib.hid (And.intro ha1 hb1)
        have ha2 := ha1.symm
        have hb2 := hb1.symm
        clear ha1 hb1
        by_cases hlt : a1 < n.n
        · have d1 : decide (a1 < n.n) = true := decide_eq_true hlt
          have HLT := Lib.hid hlt
          clear hlt
          go_wp2_with fail
          go_meet
          case rel =>
            refine ⟨true, a1, b1, 0, r.key, r.num, rfl, by first | rfl | rw [ha2], by first | rfl | rw [hb2], rfl, HAV.out, ?_, by omega, by have := HKS.out; omega, HRN.out⟩
            unfold applyN; simp only [HAP.out]; rw [HSA.out.2.2.1]; simp only; rw [← HAB.out.1, ← HAB.out.2]; have := HLT.out; have hle : ¬ n.n ≤ a1 := by omega
            simp [ends_, hle]
        · have d1 : decide (a1 < n.n) = false := decide_eq_false hlt
          have HLT := Lib.hid hlt
          clear hlt
          go_wp2_with fail
          go_meet
          case rel =>
            refine ⟨true, 0, 0, 1, r.key, b1, rfl, rfl, rfl, rfl, HAV.out.setNum b1, ?_, by omega, by have := HKS.out; omega, by rw [HAB.out.2]; exact wrap_i64s _⟩
            unfold applyN; simp only [HAP.out]; rw [HSA.out.2.2.1]; simp only; rw [← HAB.out.1, ← HAB.out.2]; have := HLT.out; have hle : n.n ≤ a1 := by omega
            simp [ends_, passR_rep, hle]
      have e8 : (kind == 8) = false := by simp [hk8]
      by_cases hk9 : kind = 9
      · have HAP : Hid (n.kind = 9) := by show _ = _; rw [← HK.out, hk9]
        have hs0 : ∀ k : Int, k = kind → k ≠ 9 → False := fun k h1 h2 => h2 (h1.trans hk9)
        clear hs0 e2 e3 e4 e5 e6 e7 e8
        subst hk9
        cases has with
        | true =>
          go_wp2_with fail
          go_meet
          case rel =>
            refine ⟨true, 1, sb, 0, r.key, r.num, rfl, rfl, rfl, rfl, HAV.out, ?_, by omega, by have := HKS.out; omega, HRN.out⟩
            unfold applyN; simp only [HAP.out]; rw [HSA.out.2.2.1]; simp [ends_]
        | false =>
          go_wp2_with fail
          go_meet
          case rel =>
            refine ⟨true, 1, sb, 1, r.key, r.num, rfl, rfl, rfl, rfl, HAV.out, ?_, by omega, by have := HKS.out; omega, HRN.out⟩
            unfold applyN; simp only [HAP.out]; rw [HSA.out.2.2.1]; simp [ends_, passR_rep]
      have e9 : (kind == 9) = false := by simp [hk9]
      have HNK : Hid (kind ≠ 2 ∧ kind ≠ 3 ∧ kind ≠ 4 ∧ kind ≠ 5 ∧ kind ≠ 6 ∧ kind ≠ 7 ∧ kind ≠ 8 ∧ kind ≠ 9) := ⟨hk2, hk3, hk4, hk5, hk6, hk7, hk8, hk9⟩
      clear hk2 hk3 hk4 hk5 hk6 hk7 hk8 hk9
      go_wp2_with fail
      go_meet
      case rel =>
        refine ⟨has, sa, sb, 1, r.key, r.num, rfl, rfl, rfl, rfl, HAV.out, ?_, by omega, by have := HKS.out; omega, HRN.out⟩
        obtain ⟨g2, g3, g4, g5, g6, g7, g8, g9⟩ := HNK.out
        rw [HK.out] at g2 g3 g4 g5 g6 g7 g8 g9
        unfold applyN; simp only [if_neg g2, if_neg g3, if_neg g4, if_neg g5, if_neg g6, if_neg g7, if_neg g8, if_neg g9]; rw [HSA.out.2.2.1]; simp [ends_, passR_rep]
    case rest =>
      obtain ⟨has', a', b', M, key', num', rfl, rfl, rfl, rfl, HSW⟩ := hcut
      clear n0 n2 n3 x2 x3 r0 r1 o0 o1 o2 of_ HAV HSA HH H5 HK HKS
      obtain ⟨wl, hwl⟩ : ∃ wl, wl = wc := ⟨_, rfl⟩
      rw [← hwl] at HSW ⊢
      clear hwl
      have hM3 := HSW.out.many
      have hks := HSW.out.size
      have HRI : Hid (∀ r', r' = Rec.mk key' num' r.time → r'.key.size ≤ maxLen ∧ I64 r'.num ∧ I64 r'.time) := fun r' e => by
        subst e
        exact ⟨by show key'.size ≤ maxLen; unfold maxLen; omega, WalkArith.wf_i64 (by have := HSW.out.num; exact ⟨this.1, this.2⟩), HRT.out⟩
      obtain ⟨N, hN⟩ : ∃ N, N = if 40 < key'.size then 0 else M := ⟨_, rfl⟩
      have hNM : N ≤ M := by rw [hN]; split <;> omega
      have hNz : N < M → 40 < key'.size := fun hlt => by
        refine Classical.byContradiction fun h => ?_
        rw [if_neg h] at hN; omega
      have hN4 : 0 < N → key'.size ≤ 40 := fun hpos => by
        refine Classical.byContradiction fun h => ?_
        rw [if_pos (by omega)] at hN; omega
      have HEQ : Hid (applyN n h has r input = ⟨List.replicate N ⟨key', num', r.time⟩, if has' then ⟨0, r.key, a', b'⟩ else zeroH, has'⟩) := by
        show _ = _
        rw [HSW.out.eq, hN]
        split <;> rfl
      have HNZ := Lib.hid (And.intro hNz hN4)
      clear hN hNz hN4
      go_wp2_with fail
      go_loopg [21, 22] N (fun gk lv iv wx => ∃ k : Nat, k ≤ N ∧ gk = N - k ∧ iv = .int .i64 (k : Int) ∧ Hid (wx.ownsRow wl.heap.size 44 3 lv k ((List.replicate k (Rec.mk key' num' r.time)).flatMap rrecCells)) ∧ Hid (Below wl.heap.size wl wx))
      case atStart => exact ⟨0, Nat.zero_le _, rfl, rfl, World.ownsRow_nil _ _ _ _, Below.refl _ _⟩
      case round =>
        obtain ⟨k, hk2, hgk, rfl, HO, HB⟩ := hrel
        have hav := HSW.out.av.below HB.out
        have HAV := Lib.hid hav
        obtain ⟨n0, n2, n3, x2, x3, r0, r1, o0, o1, o2, of_⟩ := hav.c
        have hszl := hav.lt
        clear hav n0 n2 n3 x2 x3 r0 r1
        by_cases hlt : k < N
        · have d1 : decide ((k : Int) < (M : Int)) = true := decide_eq_true (by omega)
          have hk40 := HNZ.out.2 (by omega)
          have d2 : decide ((key'.size : Int) ≤ 40) = true := decide_eq_true (by omega)
          have hlt2 : k < M := by omega
          go_wp2_with (at_builtin; refine wpList_push (w0 := wr) rfl _ _ 47 rfl wl.heap.size 44 _ 3 32 Tryz.underlying47 info_recR rfl (by decide) u21 k _ rfl HO.out [.string key', .int .i64 num', .int .i64 r.time] (by simp [Act.eval]) rfl ?_ ?_ ?_ HB.out.size HB.out (Nat.le_refl _) ?_)
          · rintro u hu; simp only [List.mem_cons, List.not_mem_nil, or_false] at hu; rcases hu with rfl | rfl | rfl <;> rfl
          · unfold maxLen; omega
          · omega
          · intro v1 w1 hown1 hg1 hb1 hat1
            have HO1 := Lib.hid hown1
            have HB1 := Lib.hid hb1
            clear hown1 hg1 hb1 hat1
            go_wp2_with fail
            go_roundg (N - (k + 1))
            case measure => omega
            case rel => exact ⟨k + 1, by omega, rfl, by first | rfl | (congr 1), by show World.ownsRow _ _ _ _ _ _ _; rw [rep_snoc]; exact HO1.out, HB1.out⟩
        · obtain rfl : k = N := by omega
          obtain ⟨A, c, rfl, hsl⟩ := rown_recs (l := List.replicate k (Rec.mk key' num' r.time)) (by rw [List.length_replicate]; exact HO.out) (fun r' hr' => HRI.out r' (List.eq_of_mem_replicate hr'))
          have HSL := Lib.hid hsl
          have hcond : (k < M ∧ 40 < key'.size) ∨ ¬ k < M := by
            by_cases h : k < M
            · exact .inl ⟨h, HNZ.out.1 h⟩
            · exact .inr h
          have hlen : (List.replicate k (Rec.mk key' num' r.time)).length = k := List.length_replicate
          rw [hlen]
          clear hsl hlt hlen HO hNM
          go_upto_region 44 with (fail)
          go_cut [111] from 103 to 117 (fun bv wx => bv = .bool false ∧ wr = wx)
          case first =>
            rcases hcond with ⟨h1, h2⟩ | h1
            · have d1 : decide ((k : Int) < (M : Int)) = true := decide_eq_true (by omega)
              have d2 : decide ((key'.size : Int) ≤ 40) = false := decide_eq_false (by omega)
              have d3 : ¬ key'.size ≤ 40 := by omega
              go_wp2_with fail
              go_meet
              case rel => exact ⟨by first | rfl | rw [d2], rfl⟩
            · have d1 : decide ((k : Int) < (M : Int)) = false := decide_eq_false (by omega)
              go_wp2_with fail
              go_meet
              case rel => exact ⟨by first | rfl | rw [d1], rfl⟩
          case rest =>
            obtain ⟨rfl, rfl⟩ := hcut
            have hres := HAV.out.res
            have z0 : wr.cell? ⟨w.heap.size + 3, 0, none⟩ = some (.int .i64 0) := (cell_of_row wr _ 0 _ _ _ hres).trans rfl
            have z1 : wr.cell? ⟨w.heap.size + 3, 1, none⟩ = some (.string ⟨#[]⟩) := (cell_of_row wr _ 1 _ _ _ hres).trans rfl
            have z2 : wr.cell? ⟨w.heap.size + 3, 2, none⟩ = some (.int .i64 0) := (cell_of_row wr _ 2 _ _ _ hres).trans rfl
            have z3 : wr.cell? ⟨w.heap.size + 3, 3, none⟩ = some (.int .i64 0) := (cell_of_row wr _ 3 _ _ _ hres).trans rfl
            have zf : ∀ i, wr.frozen? ⟨w.heap.size + 3, i, none⟩ = false := fun i => by simp [World.frozen?, hres]
            have HRES := Lib.hid hres
            have HLL := Lib.hid HSW.out.av.lt
            have HEND : Hid (∀ x y z u, SlA recE (fun q => w.heap.size ≤ q ∧ q < (hset wr (w.heap.size + 3) x y z u).heap.size) (hset wr (w.heap.size + 3) x y z u) A c (List.replicate k (Rec.mk key' num' r.time)) ∧ Below w.heap.size w (hset wr (w.heap.size + 3) x y z u) ∧
                (hset wr (w.heap.size + 3) x y z u).cell? ⟨w.heap.size + 3, 0, none⟩ = some x ∧ (hset wr (w.heap.size + 3) x y z u).cell? ⟨w.heap.size + 3, 1, none⟩ = some y ∧ (hset wr (w.heap.size + 3) x y z u).cell? ⟨w.heap.size + 3, 2, none⟩ = some z ∧ (hset wr (w.heap.size + 3) x y z u).cell? ⟨w.heap.size + 3, 3, none⟩ = some u) := fun x y z u => by
              have hp := hset_put HRES.out x y z u
              have hl4 := HLL.out
              refine ⟨(HSL.out.keep fun q hq => hset_far _ (by have := hq.1; omega) _ _ _ _).more fun q hq => ⟨by have := hq.1; omega, by rw [hset_size]; exact hq.2⟩, ?_, (cell_of_row _ _ 0 _ _ _ hp).trans rfl, (cell_of_row _ _ 1 _ _ _ hp).trans rfl, (cell_of_row _ _ 2 _ _ _ hp).trans rfl, (cell_of_row _ _ 3 _ _ _ hp).trans rfl⟩
              exact (((HAV.out.bel.setCell (by show w.heap.size ≤ w.heap.size + 3; omega) _).setCell (by show w.heap.size ≤ w.heap.size + 3; omega) _).setCell (by show w.heap.size ≤ w.heap.size + 3; omega) _).setCell (by show w.heap.size ≤ w.heap.size + 3; omega) _
            clear hcond hres o0 o1 o2 of_ hszl hk2 hgk
            cases has' with
            | true =>
              go_wp2_with fail
              obtain ⟨s1, s2, q0, q1, q2, q3⟩ := HEND.out (.int .i64 0) (.string r.key) (.int .i64 a') (.int .i64 b')
              simp only [hset] at q0 q1 q2 q3
              refine ⟨rfl, .tuple #[.slice A k c, .agg #[.int .i64 0, .string r.key, .int .i64 a', .int .i64 b'], .bool true], ?_, ?_⟩
              · simp only [results, Tryz.results17]
                simp [go_sem, q0, q1, q2, q3]
              · rw [HEQ.out]
                exact ⟨A, c, by simp, s1, s2⟩
            | false =>
              go_wp2_with fail
              obtain ⟨s1, s2, q0, q1, q2, q3⟩ := HEND.out (.int .i64 0) (.string ⟨#[]⟩) (.int .i64 0) (.int .i64 0)
              simp only [hset] at q0 q1 q2 q3
              refine ⟨rfl, .tuple #[.slice A k c, .agg #[.int .i64 0, .string ⟨#[]⟩, .int .i64 0, .int .i64 0], .bool false], ?_, ?_⟩
              · simp only [results, Tryz.results17]
                simp [go_sem, q0, q1, q2, q3]
              · rw [HEQ.out]
                exact ⟨A, c, by simp [zeroH], s1, s2⟩
end Go.Proofs.YtfndhfekbbbliaaGreatDoor

/-
  DERIVED: THE SHELF's CONTRACTS AT THIS DUMP, IN PLAIN WORDS (tools/lay-plain.mjs out of 'YtfndhfekbbbliaaGreatDoorLays0.lean', which tools/lay-shelf.mjs wrote): THE SAME DECLARATIONS UNDER THE SAME NAMES: 'import', 'namespace', 'open', 'def', 'theorem' AND NOTHING ELSE: no command of the shelf's: FOR A HAND-IN. Each laying: the table of numbers ('.._ren') and one theorem, a field a fact of the dump's own or the kernel's comparison; each contract: ONE APPLICATION.
-/
namespace Go.Proofs
open Go.Shelf
def Tryz.sort_Line_ren : Go.Shelf.Ren := ⟨fun | 6 => 112 | 15 => 137 | 14 => 136 | 28 => 174 | 29 => 175 | 20 => 166 | 21 => 167 | 22 => 168 | 23 => 169 | 24 => 170 | 25 => 171 | 26 => 172 | 27 => 173 | 46 => 192 | 47 => 193 | 48 => 194 | 49 => 195 | 50 => 196 | 57 => 210 | n => n, fun | 22 => 130 | 24 => 178 | 25 => 183 | 3 => 3 | 39 => 159 | 0 => 0 | 53 => 202 | 55 => 161 | 4 => 4 | 46 => 244 | 45 => 243 | 50 => 173 | 5 => 5 | 9 => 9 | 66 => 261 | 70 => 264 | 76 => 275 | 77 => 164 | n => n, fun | n => n⟩
theorem Tryz.sort_Line : Go.Proofs.SlLaysF0.n6 Tryz.prog Tryz.sort_Line_ren := {
  mixed := by kernel_rfl
  f6 := ⟨Tryz.f112.name, by decide, Tryz.func112.trans (congrArg some (by kernel_rfl))⟩
  f14 := ⟨Tryz.f136.name, by decide, Tryz.func136.trans (congrArg some (by kernel_rfl))⟩
  f15 := Tryz.func137.trans (congrArg some (by kernel_rfl))
  f20 := ⟨Tryz.f166.name, by decide, Tryz.func166.trans (congrArg some (by kernel_rfl))⟩
  f21 := ⟨Tryz.f167.name, by decide, Tryz.func167.trans (congrArg some (by kernel_rfl))⟩
  f22 := ⟨Tryz.f168.name, by decide, Tryz.func168.trans (congrArg some (by kernel_rfl))⟩
  f23 := ⟨Tryz.f169.name, by decide, Tryz.func169.trans (congrArg some (by kernel_rfl))⟩
  f24 := ⟨Tryz.f170.name, by decide, Tryz.func170.trans (congrArg some (by kernel_rfl))⟩
  f25 := ⟨Tryz.f171.name, by decide, Tryz.func171.trans (congrArg some (by kernel_rfl))⟩
  f26 := ⟨Tryz.f172.name, by decide, Tryz.func172.trans (congrArg some (by kernel_rfl))⟩
  f27 := ⟨Tryz.f173.name, by decide, Tryz.func173.trans (congrArg some (by kernel_rfl))⟩
  f28 := Tryz.func174.trans (congrArg some (by kernel_rfl))
  f29 := Tryz.func175.trans (congrArg some (by kernel_rfl))
  f46 := ⟨Tryz.f192.name, by decide, Tryz.func192.trans (congrArg some (by kernel_rfl))⟩
  f47 := Tryz.func193.trans (congrArg some (by kernel_rfl))
  f48 := Tryz.func194.trans (congrArg some (by kernel_rfl))
  f49 := ⟨Tryz.f195.name, by decide, Tryz.func195.trans (congrArg some (by kernel_rfl))⟩
  f50 := ⟨Tryz.f196.name, by decide, Tryz.func196.trans (congrArg some (by kernel_rfl))⟩
  f57 := ⟨Tryz.f210.name, by decide, Tryz.func210.trans (congrArg some (by kernel_rfl))⟩
  t0 := Tryz.underlying0
  a0 := Tryz.isAgg0
  z0 := Tryz.sizeOf0
  v0 := Tryz.zeroValue0
  t3 := Tryz.underlying3
  a3 := Tryz.isAgg3
  z3 := Tryz.sizeOf3
  v3 := Tryz.zeroValue3
  t4 := Tryz.underlying4
  a4 := Tryz.isAgg4
  z4 := Tryz.sizeOf4
  v4 := Tryz.zeroValue4
  t5 := Tryz.underlying5
  a5 := Tryz.isAgg5
  z5 := Tryz.sizeOf5
  v5 := Tryz.zeroValue5
  t9 := Tryz.underlying9
  a9 := Tryz.isAgg9
  z9 := Tryz.sizeOf9
  v9 := Tryz.zeroValue9
  t22 := Tryz.underlying130
  a22 := Tryz.isAgg130
  z22 := Tryz.sizeOf130
  v22 := Tryz.zeroValue130
  t25 := Tryz.underlying183
  a25 := Tryz.isAgg183
  z25 := Tryz.sizeOf183
  v25 := Tryz.zeroValue183
  t39 := Tryz.underlying159
  a39 := Tryz.isAgg159
  z39 := Tryz.sizeOf159
  v39 := Tryz.zeroValue159
  t45 := Tryz.underlying243
  a45 := Tryz.isAgg243
  z45 := Tryz.sizeOf243
  v45 := Tryz.zeroValue243
  t46 := Tryz.underlying244
  a46 := Tryz.isAgg244
  z46 := Tryz.sizeOf244
  v46 := Tryz.zeroValue244
  t50 := Tryz.underlying173
  a50 := Tryz.isAgg173
  z50 := Tryz.sizeOf173
  v50 := Tryz.zeroValue173
  t53 := Tryz.underlying202
  a53 := Tryz.isAgg202
  z53 := Tryz.sizeOf202
  v53 := Tryz.zeroValue202
  t55 := Tryz.underlying161
  a55 := Tryz.isAgg161
  z55 := Tryz.sizeOf161
  v55 := Tryz.zeroValue161
  t66 := Tryz.underlying261
  a66 := Tryz.isAgg261
  z66 := Tryz.sizeOf261
  v66 := Tryz.zeroValue261
  t70 := Tryz.underlying264
  a70 := Tryz.isAgg264
  z70 := Tryz.sizeOf264
  v70 := Tryz.zeroValue264
  t76 := Tryz.underlying275
  a76 := Tryz.isAgg275
  z76 := Tryz.sizeOf275
  v76 := Tryz.zeroValue275
  t77 := Tryz.underlying164
  a77 := Tryz.isAgg164
  z77 := Tryz.sizeOf164
  v77 := Tryz.zeroValue164 }
def Tryz.itoa_ren : Go.Shelf.Ren := ⟨fun | 171 => 53 | 243 => 96 | 246 => 129 | 283 => 156 | 284 => 157 | 285 => 158 | 286 => 159 | 129 => 175 | 317 => 179 | 318 => 180 | 319 => 181 | 320 => 182 | 337 => 201 | 338 => 202 | n => n, fun | 3 => 3 | 9 => 9 | 2 => 2 | 4 => 4 | 171 => 234 | 0 => 0 | 53 => 161 | 37 => 94 | 5 => 5 | 173 => 237 | 212 => 251 | 51 => 202 | 20 => 20 | 213 => 252 | 46 => 159 | 232 => 285 | 233 => 286 | n => n, fun | 17 => 1 | 18 => 5 | 19 => 6 | n => n⟩
theorem Tryz.itoa : Go.Proofs.LaysM.n171 Tryz.prog Tryz.itoa_ren := {
  mixed := by kernel_rfl
  f129 := Tryz.func175.trans (congrArg some (by kernel_rfl))
  f171 := Tryz.func53.trans (congrArg some (by kernel_rfl))
  f243 := Tryz.func96.trans (congrArg some (by kernel_rfl))
  f246 := Tryz.func129.trans (congrArg some (by kernel_rfl))
  f283 := Tryz.func156.trans (congrArg some (by kernel_rfl))
  f284 := Tryz.func157.trans (congrArg some (by kernel_rfl))
  f285 := Tryz.func158.trans (congrArg some (by kernel_rfl))
  f286 := Tryz.func159.trans (congrArg some (by kernel_rfl))
  f317 := Tryz.func179.trans (congrArg some (by kernel_rfl))
  f318 := Tryz.func180.trans (congrArg some (by kernel_rfl))
  f319 := Tryz.func181.trans (congrArg some (by kernel_rfl))
  f320 := Tryz.func182.trans (congrArg some (by kernel_rfl))
  f337 := Tryz.func201.trans (congrArg some (by kernel_rfl))
  f338 := Tryz.func202.trans (congrArg some (by kernel_rfl))
  t0 := Tryz.underlying0
  a0 := Tryz.isAgg0
  z0 := Tryz.sizeOf0
  v0 := Tryz.zeroValue0
  t2 := Tryz.underlying2
  a2 := Tryz.isAgg2
  z2 := Tryz.sizeOf2
  v2 := Tryz.zeroValue2
  t3 := Tryz.underlying3
  a3 := Tryz.isAgg3
  z3 := Tryz.sizeOf3
  v3 := Tryz.zeroValue3
  t4 := Tryz.underlying4
  a4 := Tryz.isAgg4
  z4 := Tryz.sizeOf4
  v4 := Tryz.zeroValue4
  t5 := Tryz.underlying5
  a5 := Tryz.isAgg5
  z5 := Tryz.sizeOf5
  v5 := Tryz.zeroValue5
  t9 := Tryz.underlying9
  a9 := Tryz.isAgg9
  z9 := Tryz.sizeOf9
  v9 := Tryz.zeroValue9
  t20 := Tryz.underlying20
  a20 := Tryz.isAgg20
  z20 := Tryz.sizeOf20
  v20 := Tryz.zeroValue20
  t37 := Tryz.underlying94
  a37 := Tryz.isAgg94
  z37 := Tryz.sizeOf94
  v37 := Tryz.zeroValue94
  t46 := Tryz.underlying159
  a46 := Tryz.isAgg159
  z46 := Tryz.sizeOf159
  v46 := Tryz.zeroValue159
  t51 := Tryz.underlying202
  a51 := Tryz.isAgg202
  z51 := Tryz.sizeOf202
  v51 := Tryz.zeroValue202
  t53 := Tryz.underlying161
  a53 := Tryz.isAgg161
  z53 := Tryz.sizeOf161
  v53 := Tryz.zeroValue161
  t171 := Tryz.underlying234
  a171 := Tryz.isAgg234
  z171 := Tryz.sizeOf234
  v171 := Tryz.zeroValue234
  t173 := Tryz.underlying237
  a173 := Tryz.isAgg237
  z173 := Tryz.sizeOf237
  v173 := Tryz.zeroValue237
  t212 := Tryz.underlying251
  a212 := Tryz.isAgg251
  z212 := Tryz.sizeOf251
  v212 := Tryz.zeroValue251
  t213 := Tryz.underlying252
  a213 := Tryz.isAgg252
  z213 := Tryz.sizeOf252
  t232 := Tryz.underlying285
  a232 := Tryz.isAgg285
  z232 := Tryz.sizeOf285
  v232 := Tryz.zeroValue285
  t233 := Tryz.underlying286
  a233 := Tryz.isAgg286
  z233 := Tryz.sizeOf286
  v233 := Tryz.zeroValue286
  g17 := by kernel_rfl
  g18 := by kernel_rfl
  g19 := by kernel_rfl
  i0 := by kernel_rfl
  i2 := by kernel_rfl
  i3 := by kernel_rfl
  i4 := by kernel_rfl
  i5 := by kernel_rfl
  i9 := by kernel_rfl
  i20 := by kernel_rfl
  i37 := by kernel_rfl
  i46 := by kernel_rfl
  i51 := by kernel_rfl
  i53 := by kernel_rfl
  i171 := by kernel_rfl
  i173 := by kernel_rfl
  i212 := by kernel_rfl
  i232 := by kernel_rfl
  i233 := by kernel_rfl
  m17 := by kernel_rfl
  m18 := by kernel_rfl
  m19 := by kernel_rfl }
def Tryz.atoi_ren : Go.Shelf.Ren := ⟨fun | 172 => 135 | 244 => 164 | 245 => 165 | 247 => 187 | 279 => 188 | 280 => 189 | 281 => 190 | 282 => 191 | 287 => 207 | 316 => 208 | 171 => 53 | 205 => 209 | 321 => 218 | 322 => 219 | 243 => 96 | 246 => 129 | 283 => 156 | 284 => 157 | 285 => 158 | 286 => 159 | 129 => 175 | 317 => 179 | 318 => 180 | 319 => 181 | 320 => 182 | 337 => 201 | 338 => 202 | n => n, fun | 9 => 9 | 3 => 3 | 75 => 28 | 76 => 29 | 4 => 4 | 5 => 5 | 167 => 255 | 37 => 94 | 0 => 0 | 85 => 256 | 2 => 2 | 168 => 258 | 53 => 161 | 175 => 269 | 46 => 159 | 210 => 273 | 127 => 168 | 145 => 296 | 143 => 294 | 21 => 21 | 171 => 234 | 173 => 237 | 212 => 251 | 51 => 202 | 20 => 20 | 213 => 252 | 232 => 285 | 233 => 286 | 80 => 103 | n => n, fun | 15 => 3 | 16 => 4 | 17 => 1 | 18 => 5 | 19 => 6 | n => n⟩
theorem Tryz.atoi : Go.Proofs.LaysC.n172 Tryz.prog Tryz.atoi_ren := {
  mixed := by kernel_rfl
  f129 := Tryz.func175.trans (congrArg some (by kernel_rfl))
  f171 := Tryz.func53.trans (congrArg some (by kernel_rfl))
  f172 := Tryz.func135.trans (congrArg some (by kernel_rfl))
  f205 := Tryz.func209.trans (congrArg some (by kernel_rfl))
  f243 := Tryz.func96.trans (congrArg some (by kernel_rfl))
  f244 := Tryz.func164.trans (congrArg some (by kernel_rfl))
  f245 := Tryz.func165.trans (congrArg some (by kernel_rfl))
  f246 := Tryz.func129.trans (congrArg some (by kernel_rfl))
  f247 := Tryz.func187.trans (congrArg some (by kernel_rfl))
  f279 := Tryz.func188.trans (congrArg some (by kernel_rfl))
  f280 := Tryz.func189.trans (congrArg some (by kernel_rfl))
  f281 := Tryz.func190.trans (congrArg some (by kernel_rfl))
  f282 := Tryz.func191.trans (congrArg some (by kernel_rfl))
  f283 := Tryz.func156.trans (congrArg some (by kernel_rfl))
  f284 := Tryz.func157.trans (congrArg some (by kernel_rfl))
  f285 := Tryz.func158.trans (congrArg some (by kernel_rfl))
  f286 := Tryz.func159.trans (congrArg some (by kernel_rfl))
  f287 := Tryz.func207.trans (congrArg some (by kernel_rfl))
  f316 := Tryz.func208.trans (congrArg some (by kernel_rfl))
  f317 := Tryz.func179.trans (congrArg some (by kernel_rfl))
  f318 := Tryz.func180.trans (congrArg some (by kernel_rfl))
  f319 := Tryz.func181.trans (congrArg some (by kernel_rfl))
  f320 := Tryz.func182.trans (congrArg some (by kernel_rfl))
  f321 := Tryz.func218.trans (congrArg some (by kernel_rfl))
  f322 := Tryz.func219.trans (congrArg some (by kernel_rfl))
  f337 := Tryz.func201.trans (congrArg some (by kernel_rfl))
  f338 := Tryz.func202.trans (congrArg some (by kernel_rfl))
  t0 := Tryz.underlying0
  a0 := Tryz.isAgg0
  z0 := Tryz.sizeOf0
  v0 := Tryz.zeroValue0
  t2 := Tryz.underlying2
  a2 := Tryz.isAgg2
  z2 := Tryz.sizeOf2
  v2 := Tryz.zeroValue2
  t3 := Tryz.underlying3
  a3 := Tryz.isAgg3
  z3 := Tryz.sizeOf3
  v3 := Tryz.zeroValue3
  t4 := Tryz.underlying4
  a4 := Tryz.isAgg4
  z4 := Tryz.sizeOf4
  v4 := Tryz.zeroValue4
  t5 := Tryz.underlying5
  a5 := Tryz.isAgg5
  z5 := Tryz.sizeOf5
  v5 := Tryz.zeroValue5
  t9 := Tryz.underlying9
  a9 := Tryz.isAgg9
  z9 := Tryz.sizeOf9
  v9 := Tryz.zeroValue9
  t20 := Tryz.underlying20
  a20 := Tryz.isAgg20
  z20 := Tryz.sizeOf20
  v20 := Tryz.zeroValue20
  t21 := Tryz.underlying21
  a21 := Tryz.isAgg21
  z21 := Tryz.sizeOf21
  v21 := Tryz.zeroValue21
  t37 := Tryz.underlying94
  a37 := Tryz.isAgg94
  z37 := Tryz.sizeOf94
  v37 := Tryz.zeroValue94
  t46 := Tryz.underlying159
  a46 := Tryz.isAgg159
  z46 := Tryz.sizeOf159
  v46 := Tryz.zeroValue159
  t51 := Tryz.underlying202
  a51 := Tryz.isAgg202
  z51 := Tryz.sizeOf202
  v51 := Tryz.zeroValue202
  t53 := Tryz.underlying161
  a53 := Tryz.isAgg161
  z53 := Tryz.sizeOf161
  v53 := Tryz.zeroValue161
  t75 := Tryz.underlying28
  a75 := Tryz.isAgg28
  z75 := Tryz.sizeOf28
  v75 := Tryz.zeroValue28
  t76 := Tryz.underlying29
  a76 := Tryz.isAgg29
  z76 := Tryz.sizeOf29
  v76 := Tryz.zeroValue29
  t85 := Tryz.underlying256
  a85 := Tryz.isAgg256
  z85 := Tryz.sizeOf256
  v85 := Tryz.zeroValue256
  t127 := Tryz.underlying168
  a127 := Tryz.isAgg168
  z127 := Tryz.sizeOf168
  v127 := Tryz.zeroValue168
  t143 := Tryz.underlying294
  a143 := Tryz.isAgg294
  z143 := Tryz.sizeOf294
  v143 := Tryz.zeroValue294
  t145 := Tryz.underlying296
  a145 := Tryz.isAgg296
  z145 := Tryz.sizeOf296
  v145 := Tryz.zeroValue296
  t167 := Tryz.underlying255
  a167 := Tryz.isAgg255
  z167 := Tryz.sizeOf255
  v167 := Tryz.zeroValue255
  t168 := Tryz.underlying258
  a168 := Tryz.isAgg258
  z168 := Tryz.sizeOf258
  v168 := Tryz.zeroValue258
  t171 := Tryz.underlying234
  a171 := Tryz.isAgg234
  z171 := Tryz.sizeOf234
  v171 := Tryz.zeroValue234
  t173 := Tryz.underlying237
  a173 := Tryz.isAgg237
  z173 := Tryz.sizeOf237
  v173 := Tryz.zeroValue237
  t175 := Tryz.underlying269
  a175 := Tryz.isAgg269
  z175 := Tryz.sizeOf269
  v175 := Tryz.zeroValue269
  t210 := Tryz.underlying273
  a210 := Tryz.isAgg273
  z210 := Tryz.sizeOf273
  v210 := Tryz.zeroValue273
  t212 := Tryz.underlying251
  a212 := Tryz.isAgg251
  z212 := Tryz.sizeOf251
  v212 := Tryz.zeroValue251
  t213 := Tryz.underlying252
  a213 := Tryz.isAgg252
  z213 := Tryz.sizeOf252
  t232 := Tryz.underlying285
  a232 := Tryz.isAgg285
  z232 := Tryz.sizeOf285
  v232 := Tryz.zeroValue285
  t233 := Tryz.underlying286
  a233 := Tryz.isAgg286
  z233 := Tryz.sizeOf286
  v233 := Tryz.zeroValue286
  g15 := by kernel_rfl
  g16 := by kernel_rfl
  g17 := by kernel_rfl
  g18 := by kernel_rfl
  g19 := by kernel_rfl
  t80 := Tryz.underlying103
  a80 := Tryz.isAgg103
  z80 := Tryz.sizeOf103
  v80 := Tryz.zeroValue103
  i0 := by kernel_rfl
  i2 := by kernel_rfl
  i3 := by kernel_rfl
  i4 := by kernel_rfl
  i5 := by kernel_rfl
  i9 := by kernel_rfl
  i20 := by kernel_rfl
  i21 := by kernel_rfl
  i37 := by kernel_rfl
  i46 := by kernel_rfl
  i51 := by kernel_rfl
  i53 := by kernel_rfl
  i75 := by kernel_rfl
  i76 := by kernel_rfl
  i80 := by kernel_rfl
  i85 := by kernel_rfl
  i127 := by kernel_rfl
  i143 := by kernel_rfl
  i145 := by kernel_rfl
  i167 := by kernel_rfl
  i168 := by kernel_rfl
  i171 := by kernel_rfl
  i173 := by kernel_rfl
  i175 := by kernel_rfl
  i210 := by kernel_rfl
  i212 := by kernel_rfl
  i232 := by kernel_rfl
  i233 := by kernel_rfl
  m15 := by kernel_rfl
  m16 := by kernel_rfl
  m17 := by kernel_rfl
  m18 := by kernel_rfl
  m19 := by kernel_rfl
  c0 := by kernel_rfl
  c2 := by kernel_rfl
  c3 := by kernel_rfl
  c4 := by kernel_rfl
  c5 := by kernel_rfl
  c9 := by kernel_rfl
  c20 := by kernel_rfl
  c21 := by kernel_rfl
  c37 := by kernel_rfl
  c46 := by kernel_rfl
  c51 := by kernel_rfl
  c53 := by kernel_rfl
  c75 := by kernel_rfl
  c76 := by kernel_rfl
  c80 := by kernel_rfl
  c85 := by kernel_rfl
  c127 := by kernel_rfl
  c143 := by kernel_rfl
  c145 := by kernel_rfl
  c167 := by kernel_rfl
  c168 := by kernel_rfl
  c171 := by kernel_rfl
  c173 := by kernel_rfl
  c175 := by kernel_rfl
  c210 := by kernel_rfl
  c212 := by kernel_rfl
  c213 := by kernel_rfl
  c232 := by kernel_rfl
  c233 := by kernel_rfl }
def Tryz.triml_ren : Go.Shelf.Ren := ⟨fun | 161 => 200 | 231 => 213 | 227 => 214 | 233 => 215 | 235 => 216 | 228 => 220 | 197 => 184 | 151 => 221 | 260 => 203 | 152 => 222 | 137 => 105 | 119 => 223 | 224 => 205 | 225 => 204 | 217 => 132 | 266 => 160 | n => n, fun | 9 => 9 | 4 => 4 | 3 => 3 | 5 => 5 | 117 => 281 | 116 => 280 | 0 => 0 | 124 => 284 | 105 => 253 | 21 => 21 | 119 => 287 | 46 => 159 | 139 => 290 | 138 => 289 | n => n, fun | 3 => 7 | 4 => 8 | n => n⟩
theorem Tryz.triml : Go.Proofs.Lays.n161 Tryz.prog Tryz.triml_ren := {
  mixed := by kernel_rfl
  f119 := Tryz.func223.trans (congrArg some (by kernel_rfl))
  f137 := Tryz.func105.trans (congrArg some (by kernel_rfl))
  f151 := Tryz.func221.trans (congrArg some (by kernel_rfl))
  f152 := Tryz.func222.trans (congrArg some (by kernel_rfl))
  f161 := Tryz.func200.trans (congrArg some (by kernel_rfl))
  f197 := Tryz.func184.trans (congrArg some (by kernel_rfl))
  f217 := Tryz.func132.trans (congrArg some (by kernel_rfl))
  f224 := Tryz.func205.trans (congrArg some (by kernel_rfl))
  f225 := Tryz.func204.trans (congrArg some (by kernel_rfl))
  f227 := Tryz.func214.trans (congrArg some (by kernel_rfl))
  f228 := Tryz.func220.trans (congrArg some (by kernel_rfl))
  f231 := Tryz.func213.trans (congrArg some (by kernel_rfl))
  f233 := Tryz.func215.trans (congrArg some (by kernel_rfl))
  f235 := Tryz.func216.trans (congrArg some (by kernel_rfl))
  f260 := Tryz.func203.trans (congrArg some (by kernel_rfl))
  f266 := Tryz.func160.trans (congrArg some (by kernel_rfl))
  t0 := Tryz.underlying0
  a0 := Tryz.isAgg0
  z0 := Tryz.sizeOf0
  v0 := Tryz.zeroValue0
  t3 := Tryz.underlying3
  a3 := Tryz.isAgg3
  z3 := Tryz.sizeOf3
  v3 := Tryz.zeroValue3
  t4 := Tryz.underlying4
  a4 := Tryz.isAgg4
  z4 := Tryz.sizeOf4
  v4 := Tryz.zeroValue4
  t5 := Tryz.underlying5
  a5 := Tryz.isAgg5
  z5 := Tryz.sizeOf5
  v5 := Tryz.zeroValue5
  t9 := Tryz.underlying9
  a9 := Tryz.isAgg9
  z9 := Tryz.sizeOf9
  v9 := Tryz.zeroValue9
  t21 := Tryz.underlying21
  a21 := Tryz.isAgg21
  z21 := Tryz.sizeOf21
  v21 := Tryz.zeroValue21
  t46 := Tryz.underlying159
  a46 := Tryz.isAgg159
  z46 := Tryz.sizeOf159
  v46 := Tryz.zeroValue159
  t105 := Tryz.underlying253
  a105 := Tryz.isAgg253
  z105 := Tryz.sizeOf253
  v105 := Tryz.zeroValue253
  t116 := Tryz.underlying280
  a116 := Tryz.isAgg280
  z116 := Tryz.sizeOf280
  t117 := Tryz.underlying281
  a117 := Tryz.isAgg281
  z117 := Tryz.sizeOf281
  v117 := Tryz.zeroValue281
  t119 := Tryz.underlying287
  a119 := Tryz.isAgg287
  z119 := Tryz.sizeOf287
  t124 := Tryz.underlying284
  a124 := Tryz.isAgg284
  z124 := Tryz.sizeOf284
  v124 := Tryz.zeroValue284
  t138 := Tryz.underlying289
  a138 := Tryz.isAgg289
  z138 := Tryz.sizeOf289
  v138 := Tryz.zeroValue289
  t139 := Tryz.underlying290
  a139 := Tryz.isAgg290
  z139 := Tryz.sizeOf290
  v139 := Tryz.zeroValue290
  g3 := by kernel_rfl
  g4 := by kernel_rfl }
def Tryz.hasp_ren : Go.Shelf.Ren := ⟨fun | 99 => 144 | 206 => 178 | n => n, fun | 9 => 9 | 4 => 4 | 3 => 3 | n => n, fun | n => n⟩
theorem Tryz.hasp : Go.Proofs.Lays.n99 Tryz.prog Tryz.hasp_ren := {
  mixed := by kernel_rfl
  f99 := Tryz.func144.trans (congrArg some (by kernel_rfl))
  f206 := Tryz.func178.trans (congrArg some (by kernel_rfl))
  t3 := Tryz.underlying3
  a3 := Tryz.isAgg3
  z3 := Tryz.sizeOf3
  v3 := Tryz.zeroValue3
  t4 := Tryz.underlying4
  a4 := Tryz.isAgg4
  z4 := Tryz.sizeOf4
  v4 := Tryz.zeroValue4
  t9 := Tryz.underlying9
  a9 := Tryz.isAgg9
  z9 := Tryz.sizeOf9
  v9 := Tryz.zeroValue9 }
def Tryz.indexb_ren : Go.Shelf.Ren := ⟨fun | 137 => 105 | 217 => 132 | 266 => 160 | n => n, fun | 9 => 9 | 5 => 5 | 3 => 3 | n => n, fun | n => n⟩
theorem Tryz.indexb : Go.Proofs.Lays.n137 Tryz.prog Tryz.indexb_ren := {
  mixed := by kernel_rfl
  f137 := Tryz.func105.trans (congrArg some (by kernel_rfl))
  f217 := Tryz.func132.trans (congrArg some (by kernel_rfl))
  f266 := Tryz.func160.trans (congrArg some (by kernel_rfl))
  t3 := Tryz.underlying3
  a3 := Tryz.isAgg3
  z3 := Tryz.sizeOf3
  v3 := Tryz.zeroValue3
  t5 := Tryz.underlying5
  a5 := Tryz.isAgg5
  z5 := Tryz.sizeOf5
  v5 := Tryz.zeroValue5
  t9 := Tryz.underlying9
  a9 := Tryz.isAgg9
  z9 := Tryz.sizeOf9
  v9 := Tryz.zeroValue9 }
end Go.Proofs

/-
  Package expr: how a tree and a reader lie in memory; the contracts of the reader's small methods. No condition of ours.
-/
namespace Go.Proofs.YtfndhfekbbbliaaGreatDoor
open Go.RowKit Go.Shelf
set_option linter.unusedVariables false

/-- A reader of s, at a place, so deep, in block R. -/
def RdAt (w : World) (R : Nat) (s : ByteArray) (p d : Nat) : Prop := w.heap[R]? = some (.cells #[.string s, .int .i64 p, .int .i64 d] 151 (0, 0))
theorem RdAt.lt {w : World} {R : Nat} {s : ByteArray} {p d : Nat} (h : RdAt w R s p d) : R < w.heap.size := block_lt h
theorem RdAt.cells {w : World} {R : Nat} {s : ByteArray} {p d : Nat} (h : RdAt w R s p d) : w.cell? ⟨R, 0, none⟩ = some (.string s) ∧ w.cell? ⟨R, 1, none⟩ = some (.int .i64 p) ∧ w.cell? ⟨R, 2, none⟩ = some (.int .i64 d) ∧ (∀ i, w.frozen? ⟨R, i, none⟩ = false) :=
  ⟨(cell_of_row w R 0 _ _ _ h).trans rfl, (cell_of_row w R 1 _ _ _ h).trans rfl, (cell_of_row w R 2 _ _ _ h).trans rfl, fun i => by simp [World.frozen?, RdAt] at h ⊢; simp [h]⟩
theorem RdAt.keep {w w' : World} {R : Nat} {s : ByteArray} {p d : Nat} (h : RdAt w R s p d) (hs : w'.heap[R]? = w.heap[R]?) : RdAt w' R s p d := hs.trans h
theorem RdAt.moved {w : World} {R : Nat} {s : ByteArray} {p d : Nat} (h : RdAt w R s p d) (q : Nat) : RdAt (w.setCell ⟨R, 1, none⟩ (.int .i64 q)) R s q d := by
  unfold RdAt at h ⊢
  simp [World.setCell, Array.getElem?_modify, h]
theorem RdAt.deeper {w : World} {R : Nat} {s : ByteArray} {p d : Nat} (h : RdAt w R s p d) (q : Nat) : RdAt (w.setCell ⟨R, 2, none⟩ (.int .i64 q)) R s p q := by
  unfold RdAt at h ⊢
  simp [World.setCell, Array.getElem?_modify, h]
def headB (l : List UInt8) : Int := match l with
  | [] => 0
  | c :: _ => (c.toNat : Int)
theorem drop_head {s : ByteArray} {p : Nat} (h : p < s.size) : s.data.toList.drop p = s.data[p]'h :: s.data.toList.drop (p + 1) := by
  rw [List.drop_eq_getElem_cons (by simpa using h)]; simp
set_option maxRecDepth 100000 in
theorem peek_ok (R : Nat) (s : ByteArray) (p d : Nat) (w : World) (h : RdAt w R s p d) (hp : p ≤ s.size) :
    Calls Tryz.prog 142 #[.pointer (some ⟨R, 0, none⟩)] w fun e w' => e = .returned (.int .u8 (headB (s.data.toList.drop p))) ∧ ∃ q, w' = w.drewN q := by
  obtain ⟨c0, c1, c2, cf⟩ := h.cells
  by_cases hlt : p < s.size
  · have d1 : decide ((p : Int) < (s.size : Int)) = true := decide_eq_true (by omega)
    rw [drop_head hlt]
    go_enter Tryz.func142, Tryz.ntmps142
    go_wp2
    go_quiet (fail)
    go_wp2
    go_quiet (fail)
    go_wp2
    go_ret
    exact ⟨rfl, _, World.drewN_drewN _ _ _⟩
  · have d1 : decide ((p : Int) < (s.size : Int)) = false := decide_eq_false (by omega)
    have e : s.data.toList.drop p = [] := List.drop_eq_nil_of_le (by simpa using hlt)
    rw [e]
    go_enter Tryz.func142, Tryz.ntmps142
    go_wp2
    go_quiet (fail)
    go_wp2
    go_ret
    exact ⟨rfl, _, rfl⟩
/-- A text is there. -/
def hasB (s : ByteArray) (p : Nat) (t : ByteArray) : Bool := Lib.hasPrefix (s.data.toList.drop p) t.data.toList
theorem slice_drop (s : ByteArray) (p : Nat) : (s.extract p s.size).data.toList = s.data.toList.drop p := by
  simp [ByteArray.data_extract]
  exact List.take_of_length_le (by simp)
theorem hasp_ok (s : ByteArray) (p : Nat) (t : ByteArray) (w : World) : Calls Tryz.prog 144 #[.string (s.extract p s.size), .string t] w fun e w' => e = .returned (.bool (hasB s p t)) ∧ w' = w := by
  have := Any.strings_HasPrefix Tryz.hasp (s.extract p s.size) t w
  rw [slice_drop] at this
  exact this
theorem hasp_b {s : ByteArray} {p : Nat} {t : ByteArray} {b : Bool} (h : hasB s p t = b) (w : World) : Calls Tryz.prog 144 #[.string (s.extract p s.size), .string t] w fun e w' => e = .returned (.bool b) ∧ w' = w := h ▸ hasp_ok s p t w
theorem has_le {s t : ByteArray} {p : Nat} (h : hasB s p t = true) (hp : p ≤ s.size) : p + t.size ≤ s.size := by
  have h1 := (List.isPrefixOf_iff_prefix.1 h).length_le
  rw [List.length_drop] at h1
  have e1 : s.data.toList.length = s.size := by simp
  have e2 : t.data.toList.length = t.size := by simp
  omega
set_option maxRecDepth 100000 in
theorem has_ok (R : Nat) (s t : ByteArray) (p d : Nat) (w : World) (h : RdAt w R s p d) (hp : p ≤ s.size) (hs : s.size ≤ 120) :
    Calls Tryz.prog 117 #[.pointer (some ⟨R, 0, none⟩), .string t] w fun e w' => e = .returned (.bool (hasB s p t)) ∧ RdAt w' R s (if hasB s p t then p + t.size else p) d ∧ Frm (· = R) w w' := by
  obtain ⟨c0, c1, c2, cf⟩ := h.cells
  have HH := Lib.hid h
  have hl := fun h => has_le (s := s) (t := t) (p := p) h hp
  have dp : ¬ s.size < p := by omega
  cases hb : hasB s p t with
  | true =>
    have hl2 := hl hb
    clear hl
    go_enter Tryz.func117, Tryz.ntmps117
    go_wp2_with fail
    go_quiet ((go_at_call 144; exact Calls.quiet_of_same (hasp_b hb _)))
    go_wp2_with fail
    go_ret
    rw [show ((p : Int) + (t.size : Int)) = ((p + t.size : Nat) : Int) from by omega]
    exact ⟨rfl, (HH.out.keep (w' := w.drewN nq) rfl).moved (p + t.size), ((Frm.refl (· = R) w).drewN nq).setCell (p := ⟨R, 1, none⟩) (.inl rfl) _⟩
  | false =>
    clear hl
    go_enter Tryz.func117, Tryz.ntmps117
    go_wp2_with fail
    go_quiet ((go_at_call 144; exact Calls.quiet_of_same (hasp_b hb _)))
    go_wp2_with fail
    go_ret
    exact ⟨rfl, HH.out.keep rfl, (Frm.refl _ _).drewN _⟩
/-- The panic of a fault. -/
def faultV (p : Nat) (k : Int) : Value := .iface 147 (.agg #[.int .i64 p, .iface 89 (.int .i64 k)])
def faultE (p : Nat) (k : Int) : Ending := .panicked [{ v := faultV p k, recovered := false }]
set_option maxRecDepth 100000 in
theorem fail_ok (R p : Nat) (k : Int) (w : World) : Calls Tryz.prog 85 #[.pointer (some ⟨R, 0, none⟩), .int .i64 p, .iface 89 (.int .i64 k)] w fun e w' => e = faultE p k ∧ w' = w := by
  have hpn : ∀ (t : TypeId) (v : Value) (w : World), (Instr.panic (.iface t v)).run Tryz.prog w = .halt (.panic (.iface t v)) w := fun _ _ _ => rfl
  go_enter Tryz.func85, Tryz.ntmps85
  go_wp2_with fail
  exact ⟨rfl, rfl, rfl⟩
set_option maxRecDepth 100000 in
theorem want_yes (R : Nat) (s t : ByteArray) (p d : Nat) (w : World) (h : RdAt w R s p d) (hp : p ≤ s.size) (hs : s.size ≤ 120) (hb : hasB s p t = true) :
    Calls Tryz.prog 119 #[.pointer (some ⟨R, 0, none⟩), .string t] w fun e w' => e = .returned (.tuple #[]) ∧ RdAt w' R s (p + t.size) d ∧ Frm (· = R) w w' := by
  have HAS := Lib.hid (has_ok R s t p d w h hp hs)
  rw [hb] at HAS
  go_enter Tryz.func119, Tryz.ntmps119
  go_wp2_with fail
  refine HAS.out.mono ?_
  rintro e w1 ⟨rfl, h1, f1⟩
  have H1 := Lib.hid h1
  have F1 := Lib.hid f1
  clear h1 f1
  go_wp2_with fail
  exact ⟨rfl, .tuple #[], by simp [results, Tryz.results119, go_sem], rfl, by simpa using H1.out, F1.out⟩
set_option maxRecDepth 100000 in
theorem want_no (R : Nat) (s t : ByteArray) (p d : Nat) (w : World) (h : RdAt w R s p d) (hp : p ≤ s.size) (hs : s.size ≤ 120) (hb : hasB s p t = false) :
    Calls Tryz.prog 119 #[.pointer (some ⟨R, 0, none⟩), .string t] w fun e w' => e = faultE p 2 ∧ RdAt w' R s p d ∧ Frm (· = R) w w' := by
  have HAS := Lib.hid (has_ok R s t p d w h hp hs)
  rw [hb] at HAS
  go_enter Tryz.func119, Tryz.ntmps119
  go_wp2_with fail
  refine HAS.out.mono ?_
  rintro e w1 ⟨rfl, h1, f1⟩
  obtain ⟨c0, c1, c2, cf⟩ := RdAt.cells h1
  have H1 := Lib.hid h1
  have F1 := Lib.hid f1
  clear h1 f1
  simp only [Bool.false_eq_true, if_false] at c1 H1
  go_wp2_with fail
  refine (fail_ok R p 2 w1).mono ?_
  rintro e w2 ⟨rfl, rfl⟩
  exact ⟨rfl, rfl, H1.out, F1.out⟩
end Go.Proofs.YtfndhfekbbbliaaGreatDoor
