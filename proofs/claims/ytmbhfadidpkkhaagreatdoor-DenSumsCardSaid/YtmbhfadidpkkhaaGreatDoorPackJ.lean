/-
  Several texts of this claim in one, in build order; each begins with its own remark, which says what it proves and under which conditions.
-/
import Derived.Test.YtmbhfadidpkkhaaGreatDoorPackI
import Derived.ProofKit
import Derived.Test.YtmbhfadidpkkhaaGreatDoorPackD
import Derived.Test.YtmbhfadidpkkhaaGreatDoorRows
import Derived.LaidLaws
import Derived.Lib.LaidU8
import Derived.Lib.LaidTab
import Derived.Test.YtmbhfadidpkkhaaGreatDoorPackF

/-
  Package den, plain: what single nodes make of records, key by key. No condition: plain definitions and lemmas.
-/
namespace Go.Proofs.YtmbhfadidpkkhaaGreatDoor
open Go.RowKit
set_option linter.unusedVariables false

def txtN : ByteArray := ⟨#[110]⟩
def txtSum : ByteArray := ⟨#[115, 43, 110]⟩
def txtMax : ByteArray := ⟨#[109, 97, 120, 40, 115, 44, 110, 41]⟩
theorem parse_n : parseT txtN.data.toList = .tree (.nam true) := by kernel_rfl
theorem parse_sum : parseT txtSum.data.toList = .tree (.bin 43 (.nam false) (.nam true)) := by kernel_rfl
theorem parse_max : parseT txtMax.data.toList = .tree (.bin 77 (.nam false) (.nam true)) := by kernel_rfl
theorem job_n : jobErr (lineJ ⟨2, [], txtN, 0⟩) = 0 := by decide +kernel
theorem job_sum : jobErr (lineJ ⟨7, [], txtSum, 0⟩) = 0 := by decide +kernel
theorem job_max : jobErr (lineJ ⟨7, [], txtMax, 0⟩) = 0 := by decide +kernel
theorem job_first : jobErr (lineJ ⟨9, [], ⟨#[]⟩, 0⟩) = 0 := by decide +kernel
theorem ev_n (n s : Int) : evalOf txtN n s = n := by unfold evalOf; rw [parse_n]; rfl
theorem ev_sum (n s : Int) : evalOf txtSum n s = wrap64 (s + n) := by unfold evalOf; rw [parse_sum]; rfl
theorem ev_max (n s : Int) : evalOf txtMax n s = if s < n then n else s := by unfold evalOf; rw [parse_max]; show max s n = _; omega

/-- What a step makes of numbers, so far. -/
def scanN (f : Int → Int → Int) (s : Int) : List Int → List Int
  | [] => []
  | x :: l => f s x :: scanN f (f s x) l
theorem scanN_len (f : Int → Int → Int) (l : List Int) : ∀ s, (scanN f s l).length = l.length := by
  induction l with
  | nil => intro s; rfl
  | cons x l ih => intro s; simp only [scanN, List.length_cons, ih]
theorem scanN_get (f : Int → Int → Int) (l : List Int) : ∀ (s : Int) (k : Nat), k < l.length → (scanN f s l)[k]? = some ((l.take (k + 1)).foldl f s) := by
  induction l with
  | nil => intro s k hk; simp at hk
  | cons x l ih =>
    intro s k hk
    cases k with
    | zero => rfl
    | succ k => simp only [scanN, List.getElem?_cons_succ, List.take_succ_cons, List.foldl_cons]; exact ih _ k (by simpa using hk)
theorem scanN_snoc (f : Int → Int → Int) (l : List Int) (x : Int) : ∀ s, scanN f s (l ++ [x]) = scanN f s l ++ [f (l.foldl f s) x] := by
  induction l with
  | nil => intro s; rfl
  | cons y l ih => intro s; simp only [List.cons_append, scanN, List.foldl_cons, ih]
theorem foldK_succ (f : Int → Int → Int) (s : Int) (l : List Int) {k : Nat} (hk : k < l.length) : (l.take (k + 1)).foldl f s = f ((l.take k).foldl f s) l[k] := by
  rw [List.take_succ_eq_append_getElem hk, List.foldl_append]; rfl
theorem logOf_snoc (l : List Rec) (r : Rec) : logOf (l ++ [r]) = logOf l ++ [(0, r)] := by unfold logOf; rw [List.map_append]; rfl
theorem runLog_snoc (n : Nod) (log : List (Nat × Rec)) (p : Nat × Rec) : runLog n (log ++ [p]) = stepLog n (runLog n log) p := by unfold runLog; rw [List.foldl_append]; rfl
theorem atKey_log (k : ByteArray) (d : List Rec) : atKey k (logOf d) = logOf (recsAt k d) := by
  unfold atKey logOf recsAt
  rw [List.filter_map]
  rfl
def KeysOk (d : List Rec) : Prop := ∀ r ∈ d, r.key.size ≤ 40
theorem KeysOk.at_ {d : List Rec} (h : KeysOk d) (k : ByteArray) : ∀ r ∈ recsAt k d, r.key = k ∧ r.key.size ≤ 40 := fun r hr => by
  obtain ⟨h1, h2⟩ := List.mem_filter.1 hr
  exact ⟨of_decide_eq_true h2, h r h1⟩
theorem KeysOk.snoc {d : List Rec} {r : Rec} (h : KeysOk (d ++ [r])) : KeysOk d ∧ r.key.size ≤ 40 := ⟨fun x hx => h x (List.mem_append.2 (.inl hx)), h r (List.mem_append.2 (.inr List.mem_cons_self))⟩
theorem passR_one {r : Rec} (h : r.key.size ≤ 40) : passR r = [r] := by unfold passR; rw [if_neg (by omega)]
/-- A Map of n hands on what it gets. -/
theorem run_map (d : List Rec) (h : KeysOk d) : (runLog ⟨2, [0], txtN, 0⟩ (logOf d)).2 = d := by
  revert h
  refine snoc_ind (P := fun d => KeysOk d → (runLog ⟨2, [0], txtN, 0⟩ (logOf d)).2 = d) (fun _ => rfl) ?_ d
  intro d r ih h
  obtain ⟨h1, h2⟩ := h.snoc
  rw [logOf_snoc, runLog_snoc]
  show (runLog _ (logOf d)).2 ++ passR { r with num := evalOf txtN r.num 0 } = _
  rw [ih h1, ev_n, passR_one (r := { r with num := r.num }) h2]
/-- A Fold: of each key. -/
theorem run_fold (text : ByteArray) (k : ByteArray) (d : List Rec) (h : ∀ r ∈ d, r.key = k ∧ r.key.size ≤ 40) :
    (runLog ⟨7, [0], text, 0⟩ (logOf d)).2.map (·.num) = scanN (fun s x => evalOf text x s) 0 (d.map (·.num)) ∧
    pget (runLog ⟨7, [0], text, 0⟩ (logOf d)).1 k = (if d = [] then none else some ⟨0, k, (d.map (·.num)).foldl (fun s x => evalOf text x s) 0, 0⟩) := by
  revert h
  refine snoc_ind (P := fun d => (∀ r ∈ d, r.key = k ∧ r.key.size ≤ 40) → (runLog ⟨7, [0], text, 0⟩ (logOf d)).2.map (·.num) = scanN (fun s x => evalOf text x s) 0 (d.map (·.num)) ∧
    pget (runLog ⟨7, [0], text, 0⟩ (logOf d)).1 k = (if d = [] then none else some ⟨0, k, (d.map (·.num)).foldl (fun s x => evalOf text x s) 0, 0⟩)) (fun _ => ⟨rfl, rfl⟩) ?_ d
  intro d r ih h
  obtain ⟨i1, i2⟩ := ih fun x hx => h x (List.mem_append.2 (.inl hx))
  obtain ⟨hrk, hrs⟩ := h r (List.mem_append.2 (.inr List.mem_cons_self))
  have ha : begins ((pget (runLog ⟨7, [0], text, 0⟩ (logOf d)).1 k).getD zeroH) (pget (runLog ⟨7, [0], text, 0⟩ (logOf d)).1 k).isSome r = ⟨0, k, (d.map (·.num)).foldl (fun s x => evalOf text x s) 0, 0⟩ := by
    rw [i2]
    split
    · rename_i hd; rw [hd]; unfold begins; rw [hrk]; rfl
    · unfold begins; rw [hrk]; rfl
  rw [logOf_snoc, runLog_snoc]
  unfold stepLog
  simp only
  rw [hrk]
  have happ : applyN ⟨7, [0], text, 0⟩ ((pget (runLog ⟨7, [0], text, 0⟩ (logOf d)).1 k).getD zeroH) (pget (runLog ⟨7, [0], text, 0⟩ (logOf d)).1 k).isSome r 0 =
      ⟨[{ r with num := evalOf text r.num ((d.map (·.num)).foldl (fun s x => evalOf text x s) 0) }], ⟨0, k, evalOf text r.num ((d.map (·.num)).foldl (fun s x => evalOf text x s) 0), 0⟩, true⟩ := by
    show ends_ (passR { r with num := evalOf text r.num (begins _ _ r).a }) { (begins _ _ r) with a := evalOf text r.num (begins _ _ r).a } true = _
    rw [ha, passR_one (by exact hrs)]
    rfl
  rw [show ((0 : Nat) : Int) = 0 from rfl, happ]
  simp only [if_true]
  refine ⟨?_, ?_⟩
  · rw [List.map_append, i1, List.map_append, List.map_cons, List.map_nil, List.map_cons, List.map_nil, scanN_snoc]
  · rw [pget_pset, if_pos rfl, if_neg (by simp), List.map_append, List.foldl_append]
    rfl
theorem fold_at (text : ByteArray) (d : List Rec) (h : KeysOk d) (k : ByteArray) : numsAt (runLog ⟨7, [0], text, 0⟩ (logOf d)).2 k = scanN (fun s x => evalOf text x s) 0 (numsAt d k) := by
  rw [numsAt_recs, (run_key (show (7 : Int) ≠ 4 by decide) (show (7 : Int) ≠ 6 by decide) k (logOf d)).1, atKey_log, (run_fold text k (recsAt k d) (h.at_ k)).1]
  rfl
theorem LinesGrp.len0 {l l' : List Rec} {a b : List Lin} (ha : LinesGrp l a) (hb : LinesGrp l' b) (h : ∀ k, numsAt l k = [] ↔ numsAt l' k = []) : a.length = b.length := by
  refine ha.len hb fun k => ?_
  have e : ∀ l : List Rec, (∃ r ∈ l, r.key = k) ↔ ¬ numsAt l k = [] := fun l => ⟨fun ⟨r, hr, e⟩ h0 => numsAt_nil.1 h0 r hr e, fun h0 => Classical.byContradiction fun hn => h0 (numsAt_nil.2 fun r hr e => hn ⟨r, hr, e⟩)⟩
  rw [e, e, h k]
theorem scanN_nil (f : Int → Int → Int) (s : Int) (l : List Int) : scanN f s l = [] ↔ l = [] := by
  rw [← List.length_eq_zero_iff, scanN_len, List.length_eq_zero_iff]
/-- One key alone: one line. -/
theorem LinesGrp.one {l : List Rec} {a : List Lin} (ha : LinesGrp l a) {k : ByteArray} (h : ∀ r ∈ l, r.key = k) (h0 : l ≠ []) : ∃ x, a = [x] ∧ x.key = k ∧ x.nums = l.map (·.num) := by
  have hk : ∀ j, j ∈ a.map (·.key) ↔ j = k := fun j => (ha.keys j).trans ⟨fun ⟨r, hr, e⟩ => by rw [← e]; exact h r hr, fun e => by
    obtain ⟨r, l', rfl⟩ := List.exists_cons_of_ne_nil h0
    exact ⟨r, List.mem_cons_self, (h r List.mem_cons_self).trans e.symm⟩⟩
  have hp : (a.map (·.key)).Perm [k] := (List.perm_ext_iff_of_nodup ha.nd (by simp)).2 fun j => (hk j).trans (by simp)
  have hlen := hp.length_eq
  rw [List.length_map] at hlen
  obtain ⟨x, rfl⟩ := List.length_eq_one_iff.1 hlen
  have hxk : x.key = k := (hk x.key).1 (by simp)
  refine ⟨x, rfl, hxk, ?_⟩
  rw [ha.nums x List.mem_cons_self]
  unfold numsAt
  rw [List.filter_eq_self.2 fun r hr => decide_eq_true ((h r hr).trans hxk.symm)]
end Go.Proofs.YtmbhfadidpkkhaaGreatDoor

/-
  From what the row lists to what the walks of package den ask: the two variables of Atoi's errors hold errors; the table of powers of ten. No condition.
-/
namespace Go.Proofs.YtmbhfadidpkkhaaGreatDoor
open Go.RowKit Go.Shelf
set_option linter.unusedVariables false

theorem err_of_reads {w : World} {n nm : String} {g : Nat} {d : DataW Unit} (hg : Tryz.prog.globalNamed n = some g) (ht : (Tryz.prog.globals[g]?).map (·.type) = some 29) (h : Lib.VarReads Tryz.prog w n (.iface nm d)) :
    ∃ ev, w.cell? ⟨g, 0, none⟩ = some ev ∧ (ev = .nilIface ∨ ∃ te pe, ev = .iface te pe) := by
  obtain ⟨g', t', cs, fuel, p, hg', ht', hvar, hd⟩ := h
  obtain rfl := Option.some.inj (hg.symm.trans hg')
  obtain rfl := Option.some.inj (ht.symm.trans ht')
  obtain ⟨_, u, v, hcs, _, _⟩ := iface_of_trod Tryz.underlying29 hd
  refine ⟨.iface u v, ?_, .inr ⟨u, v, rfl⟩⟩
  obtain ⟨l⟩ := cs
  have hl : l = [.iface u v] := hcs
  subst hl
  simpa using World.var?_cell hg hvar 0
theorem errVars_of_reads {w : World} (h1 : Lib.VarReads Tryz.prog w "strconv.ErrSyntax" Rows.laid_strconv_ErrSyntax) (h2 : Lib.VarReads Tryz.prog w "strconv.ErrRange" Rows.laid_strconv_ErrRange) : ErrVars w :=
  ⟨err_of_reads (g := 4) (by kernel_rfl) (by kernel_rfl) h1, err_of_reads (g := 5) (by kernel_rfl) (by kernel_rfl) h2⟩
theorem pow_of_reads {w : World} (h : Lib.VarReads Tryz.prog w "internal/strconv.uint64pow10" Rows.laid_internal_strconv_uint64pow10) : PowTab w := by
  obtain ⟨g', t', cs, fuel, p, hg', ht', hvar, hd⟩ := h
  obtain rfl := Option.some.inj ((show Tryz.prog.globalNamed "internal/strconv.uint64pow10" = some 0 by kernel_rfl).symm.trans hg')
  obtain rfl := Option.some.inj ((show (Tryz.prog.globals[0]?).map (·.type) = some 157 by kernel_rfl).symm.trans ht')
  have e : (Rows.laid_internal_strconv_uint64pow10 : DataW Unit) = Lib.tabData .u64 Lib.pow10Tab := by kernel_rfl
  rw [e] at hd
  unfold PowTab Lib.TabIs
  rw [hvar, ← Lib.cells_of_tab Tryz.underlying157 Tryz.underlying94 (by kernel_rfl) (by kernel_rfl) hd]
end Go.Proofs.YtmbhfadidpkkhaaGreatDoor
