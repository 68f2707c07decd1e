/-
  Several texts of this claim in one, in build order; each begins with its own remark, which says what it proves and under which conditions.
-/
import Derived.Test.YtmbhfadidpkkhaaGreatDoorPackI
import Derived.ProofKit
import Derived.Test.YtmbhfadidpkkhaaGreatDoorPackA
import Derived.BigQuiet
import Derived.Test.YtmbhfadidpkkhaaGreatDoorPackD
import Derived.Test.YtmbhfadidpkkhaaGreatDoorRows
import Derived.LaidLaws
import Derived.Lib.LaidU8
import Derived.Lib.LaidTab
import Derived.Test.YtmbhfadidpkkhaaGreatDoorPackF

/-
  Package den, plain: what single nodes make of records, key by key. No condition: plain definitions and lemmas.
-/
namespace Go.Proofs.YtmbhfadidpkkhaaGreatDoor
open Go.RowKit
set_option linter.unusedVariables false

def txtN : ByteArray := ⟨#[110]⟩
def txtSum : ByteArray := ⟨#[115, 43, 110]⟩
def txtMax : ByteArray := ⟨#[109, 97, 120, 40, 115, 44, 110, 41]⟩
theorem parse_n : parseT txtN.data.toList = .tree (.nam true) := by kernel_rfl
theorem parse_sum : parseT txtSum.data.toList = .tree (.bin 43 (.nam false) (.nam true)) := by kernel_rfl
theorem parse_max : parseT txtMax.data.toList = .tree (.bin 77 (.nam false) (.nam true)) := by kernel_rfl
theorem job_n : jobErr (lineJ ⟨2, [], txtN, 0⟩) = 0 := by decide +kernel
theorem job_sum : jobErr (lineJ ⟨7, [], txtSum, 0⟩) = 0 := by decide +kernel
theorem job_max : jobErr (lineJ ⟨7, [], txtMax, 0⟩) = 0 := by decide +kernel
theorem job_first : jobErr (lineJ ⟨9, [], ⟨#[]⟩, 0⟩) = 0 := by decide +kernel
theorem ev_n (n s : Int) : evalOf txtN n s = n := by unfold evalOf; rw [parse_n]; rfl
theorem ev_sum (n s : Int) : evalOf txtSum n s = wrap64 (s + n) := by unfold evalOf; rw [parse_sum]; rfl
theorem ev_max (n s : Int) : evalOf txtMax n s = if s < n then n else s := by unfold evalOf; rw [parse_max]; show max s n = _; omega

/-- What a step makes of numbers, so far. -/
def scanN (f : Int → Int → Int) (s : Int) : List Int → List Int
  | [] => []
  | x :: l => f s x :: scanN f (f s x) l
theorem scanN_len (f : Int → Int → Int) (l : List Int) : ∀ s, (scanN f s l).length = l.length := by
  induction l with
  | nil => intro s; rfl
  | cons x l ih => intro s; simp only [scanN, List.length_cons, ih]
theorem scanN_get (f : Int → Int → Int) (l : List Int) : ∀ (s : Int) (k : Nat), k < l.length → (scanN f s l)[k]? = some ((l.take (k + 1)).foldl f s) := by
  induction l with
  | nil => intro s k hk; simp at hk
  | cons x l ih =>
    intro s k hk
    cases k with
    | zero => rfl
    | succ k => simp only [scanN, List.getElem?_cons_succ, List.take_succ_cons, List.foldl_cons]; exact ih _ k (by simpa using hk)
theorem scanN_snoc (f : Int → Int → Int) (l : List Int) (x : Int) : ∀ s, scanN f s (l ++ [x]) = scanN f s l ++ [f (l.foldl f s) x] := by
  induction l with
  | nil => intro s; rfl
  | cons y l ih => intro s; simp only [List.cons_append, scanN, List.foldl_cons, ih]
theorem foldK_succ (f : Int → Int → Int) (s : Int) (l : List Int) {k : Nat} (hk : k < l.length) : (l.take (k + 1)).foldl f s = f ((l.take k).foldl f s) l[k] := by
  rw [List.take_succ_eq_append_getElem hk, List.foldl_append]; rfl
theorem logOf_snoc (l : List Rec) (r : Rec) : logOf (l ++ [r]) = logOf l ++ [(0, r)] := by unfold logOf; rw [List.map_append]; rfl
theorem runLog_snoc (n : Nod) (log : List (Nat × Rec)) (p : Nat × Rec) : runLog n (log ++ [p]) = stepLog n (runLog n log) p := by unfold runLog; rw [List.foldl_append]; rfl
theorem atKey_log (k : ByteArray) (d : List Rec) : atKey k (logOf d) = logOf (recsAt k d) := by
  unfold atKey logOf recsAt
  rw [List.filter_map]
  rfl
def KeysOk (d : List Rec) : Prop := ∀ r ∈ d, r.key.size ≤ 40
theorem KeysOk.at_ {d : List Rec} (h : KeysOk d) (k : ByteArray) : ∀ r ∈ recsAt k d, r.key = k ∧ r.key.size ≤ 40 := fun r hr => by
  obtain ⟨h1, h2⟩ := List.mem_filter.1 hr
  exact ⟨of_decide_eq_true h2, h r h1⟩
theorem KeysOk.snoc {d : List Rec} {r : Rec} (h : KeysOk (d ++ [r])) : KeysOk d ∧ r.key.size ≤ 40 := ⟨fun x hx => h x (List.mem_append.2 (.inl hx)), h r (List.mem_append.2 (.inr List.mem_cons_self))⟩
theorem passR_one {r : Rec} (h : r.key.size ≤ 40) : passR r = [r] := by unfold passR; rw [if_neg (by omega)]
/-- A Map of n hands on what it gets. -/
theorem run_map (d : List Rec) (h : KeysOk d) : (runLog ⟨2, [0], txtN, 0⟩ (logOf d)).2 = d := by
  revert h
  refine snoc_ind (P := fun d => KeysOk d → (runLog ⟨2, [0], txtN, 0⟩ (logOf d)).2 = d) (fun _ => rfl) ?_ d
  intro d r ih h
  obtain ⟨h1, h2⟩ := h.snoc
  rw [logOf_snoc, runLog_snoc]
  show (runLog _ (logOf d)).2 ++ passR { r with num := evalOf txtN r.num 0 } = _
  rw [ih h1, ev_n, passR_one (r := { r with num := r.num }) h2]
/-- A Fold: of each key. -/
theorem run_fold (text : ByteArray) (k : ByteArray) (d : List Rec) (h : ∀ r ∈ d, r.key = k ∧ r.key.size ≤ 40) :
    (runLog ⟨7, [0], text, 0⟩ (logOf d)).2.map (·.num) = scanN (fun s x => evalOf text x s) 0 (d.map (·.num)) ∧
    pget (runLog ⟨7, [0], text, 0⟩ (logOf d)).1 k = (if d = [] then none else some ⟨0, k, (d.map (·.num)).foldl (fun s x => evalOf text x s) 0, 0⟩) := by
  revert h
  refine snoc_ind (P := fun d => (∀ r ∈ d, r.key = k ∧ r.key.size ≤ 40) → (runLog ⟨7, [0], text, 0⟩ (logOf d)).2.map (·.num) = scanN (fun s x => evalOf text x s) 0 (d.map (·.num)) ∧
    pget (runLog ⟨7, [0], text, 0⟩ (logOf d)).1 k = (if d = [] then none else some ⟨0, k, (d.map (·.num)).foldl (fun s x => evalOf text x s) 0, 0⟩)) (fun _ => ⟨rfl, rfl⟩) ?_ d
  intro d r ih h
  obtain ⟨i1, i2⟩ := ih fun x hx => h x (List.mem_append.2 (.inl hx))
  obtain ⟨hrk, hrs⟩ := h r (List.mem_append.2 (.inr List.mem_cons_self))
  have ha : begins ((pget (runLog ⟨7, [0], text, 0⟩ (logOf d)).1 k).getD zeroH) (pget (runLog ⟨7, [0], text, 0⟩ (logOf d)).1 k).isSome r = ⟨0, k, (d.map (·.num)).foldl (fun s x => evalOf text x s) 0, 0⟩ := by
    rw [i2]
    split
    · rename_i hd; rw [hd]; unfold begins; rw [hrk]; rfl
    · unfold begins; rw [hrk]; rfl
  rw [logOf_snoc, runLog_snoc]
  unfold stepLog
  simp only
  rw [hrk]
  have happ : applyN ⟨7, [0], text, 0⟩ ((pget (runLog ⟨7, [0], text, 0⟩ (logOf d)).1 k).getD zeroH) (pget (runLog ⟨7, [0], text, 0⟩ (logOf d)).1 k).isSome r 0 =
      ⟨[{ r with num := evalOf text r.num ((d.map (·.num)).foldl (fun s x => evalOf text x s) 0) }], ⟨0, k, evalOf text r.num ((d.map (·.num)).foldl (fun s x => evalOf text x s) 0), 0⟩, true⟩ := by
    show ends_ (passR { r with num := evalOf text r.num (begins _ _ r).a }) { (begins _ _ r) with a := evalOf text r.num (begins _ _ r).a } true = _
    rw [ha, passR_one (by exact hrs)]
    rfl
  rw [show ((0 : Nat) : Int) = 0 from rfl, happ]
  simp only [if_true]
  refine ⟨?_, ?_⟩
  · rw [List.map_append, i1, List.map_append, List.map_cons, List.map_nil, List.map_cons, List.map_nil, scanN_snoc]
  · rw [pget_pset, if_pos rfl, if_neg (by simp), List.map_append, List.foldl_append]
    rfl
theorem fold_at (text : ByteArray) (d : List Rec) (h : KeysOk d) (k : ByteArray) : numsAt (runLog ⟨7, [0], text, 0⟩ (logOf d)).2 k = scanN (fun s x => evalOf text x s) 0 (numsAt d k) := by
  rw [numsAt_recs, (run_key (show (7 : Int) ≠ 4 by decide) (show (7 : Int) ≠ 6 by decide) k (logOf d)).1, atKey_log, (run_fold text k (recsAt k d) (h.at_ k)).1]
  rfl
theorem LinesGrp.len0 {l l' : List Rec} {a b : List Lin} (ha : LinesGrp l a) (hb : LinesGrp l' b) (h : ∀ k, numsAt l k = [] ↔ numsAt l' k = []) : a.length = b.length := by
  refine ha.len hb fun k => ?_
  have e : ∀ l : List Rec, (∃ r ∈ l, r.key = k) ↔ ¬ numsAt l k = [] := fun l => ⟨fun ⟨r, hr, e⟩ h0 => numsAt_nil.1 h0 r hr e, fun h0 => Classical.byContradiction fun hn => h0 (numsAt_nil.2 fun r hr e => hn ⟨r, hr, e⟩)⟩
  rw [e, e, h k]
theorem scanN_nil (f : Int → Int → Int) (s : Int) (l : List Int) : scanN f s l = [] ↔ l = [] := by
  rw [← List.length_eq_zero_iff, scanN_len, List.length_eq_zero_iff]
/-- One key alone: one line. -/
theorem LinesGrp.one {l : List Rec} {a : List Lin} (ha : LinesGrp l a) {k : ByteArray} (h : ∀ r ∈ l, r.key = k) (h0 : l ≠ []) : ∃ x, a = [x] ∧ x.key = k ∧ x.nums = l.map (·.num) := by
  have hk : ∀ j, j ∈ a.map (·.key) ↔ j = k := fun j => (ha.keys j).trans ⟨fun ⟨r, hr, e⟩ => by rw [← e]; exact h r hr, fun e => by
    obtain ⟨r, l', rfl⟩ := List.exists_cons_of_ne_nil h0
    exact ⟨r, List.mem_cons_self, (h r List.mem_cons_self).trans e.symm⟩⟩
  have hp : (a.map (·.key)).Perm [k] := (List.perm_ext_iff_of_nodup ha.nd (by simp)).2 fun j => (hk j).trans (by simp)
  have hlen := hp.length_eq
  rw [List.length_map] at hlen
  obtain ⟨x, rfl⟩ := List.length_eq_one_iff.1 hlen
  have hxk : x.key = k := (hk x.key).1 (by simp)
  refine ⟨x, rfl, hxk, ?_⟩
  rw [ha.nums x List.mem_cons_self]
  unfold numsAt
  rw [List.filter_eq_self.2 fun r hr => decide_eq_true ((h r hr).trans hxk.symm)]

/-! ### First, Copy, Every -/
theorem run_first (k : ByteArray) (d : List Rec) (h : ∀ r ∈ d, r.key = k ∧ r.key.size ≤ 40) :
    (runLog ⟨9, [0], ⟨#[]⟩, 0⟩ (logOf d)).2 = d.take 1 ∧ (pget (runLog ⟨9, [0], ⟨#[]⟩, 0⟩ (logOf d)).1 k).isSome = !d.isEmpty := by
  revert h
  refine snoc_ind (P := fun d => (∀ r ∈ d, r.key = k ∧ r.key.size ≤ 40) → (runLog ⟨9, [0], ⟨#[]⟩, 0⟩ (logOf d)).2 = d.take 1 ∧ (pget (runLog ⟨9, [0], ⟨#[]⟩, 0⟩ (logOf d)).1 k).isSome = !d.isEmpty) (fun _ => ⟨rfl, rfl⟩) ?_ d
  intro d r ih h
  obtain ⟨i1, i2⟩ := ih fun x hx => h x (List.mem_append.2 (.inl hx))
  obtain ⟨hrk, hrs⟩ := h r (List.mem_append.2 (.inr List.mem_cons_self))
  rw [logOf_snoc, runLog_snoc]
  unfold stepLog
  simp only
  rw [hrk]
  have happ : ∀ (h : Hld) (has : Bool), (applyN ⟨9, [0], ⟨#[]⟩, 0⟩ h has r 0).out = (if has = true then [] else [r]) ∧ (applyN ⟨9, [0], ⟨#[]⟩, 0⟩ h has r 0).has = true := fun h has => by
    show (if has = true then [] else passR r) = _ ∧ true = true
    rw [passR_one hrs]; exact ⟨rfl, rfl⟩
  obtain ⟨a1, a2⟩ := happ ((pget (runLog ⟨9, [0], ⟨#[]⟩, 0⟩ (logOf d)).1 k).getD zeroH) (pget (runLog ⟨9, [0], ⟨#[]⟩, 0⟩ (logOf d)).1 k).isSome
  rw [show ((0 : Nat) : Int) = 0 from rfl, a1, a2, i1, i2]
  refine ⟨?_, ?_⟩
  · cases d with
    | nil => rfl
    | cons x d => simp
  · simp only [if_true]
    rw [pget_pset, if_pos rfl]
    cases d <;> rfl
theorem first_at (d : List Rec) (h : KeysOk d) (k : ByteArray) : numsAt (runLog ⟨9, [0], ⟨#[]⟩, 0⟩ (logOf d)).2 k = (numsAt d k).take 1 := by
  rw [numsAt_recs, (run_key (show (9 : Int) ≠ 4 by decide) (show (9 : Int) ≠ 6 by decide) k (logOf d)).1, atKey_log, (run_first k (recsAt k d) (h.at_ k)).1, List.map_take]
  rfl
theorem run_copy (n : Nat) (hn : n ≤ 3) (d : List Rec) (h : ∀ r ∈ d, r.key.size ≤ 40) :
    (runLog ⟨5, [0], ⟨#[]⟩, (n : Int)⟩ (logOf d)).2 = d.flatMap (List.replicate n) ∧ (runLog ⟨5, [0], ⟨#[]⟩, (n : Int)⟩ (logOf d)).1 = [] := by
  revert h
  refine snoc_ind (P := fun d => (∀ r ∈ d, r.key.size ≤ 40) → (runLog ⟨5, [0], ⟨#[]⟩, (n : Int)⟩ (logOf d)).2 = d.flatMap (List.replicate n) ∧ (runLog ⟨5, [0], ⟨#[]⟩, (n : Int)⟩ (logOf d)).1 = []) (fun _ => ⟨rfl, rfl⟩) ?_ d
  intro d r ih h
  obtain ⟨i1, i2⟩ := ih fun x hx => h x (List.mem_append.2 (.inl hx))
  have hrs := h r (List.mem_append.2 (.inr List.mem_cons_self))
  rw [logOf_snoc, runLog_snoc]
  unfold stepLog
  simp only
  rw [i1, i2]
  have happ : applyN ⟨5, [0], ⟨#[]⟩, (n : Int)⟩ ((pget ([] : List (ByteArray × Hld)) r.key).getD zeroH) (pget ([] : List (ByteArray × Hld)) r.key).isSome r 0 = ⟨List.replicate n r, zeroH, false⟩ := by
    show ends_ ((List.replicate (min 3 (n : Int)).toNat (passR r)).flatten) _ false = _
    rw [passR_one hrs, show (min 3 (n : Int)).toNat = n by omega]
    have : ∀ m : Nat, (List.replicate m [r]).flatten = List.replicate m r := fun m => by
      induction m with
      | zero => rfl
      | succ m ih => rw [List.replicate_succ, List.flatten_cons, ih]; rfl
    rw [this]; rfl
  rw [show ((0 : Nat) : Int) = 0 from rfl, happ]
  refine ⟨?_, rfl⟩
  rw [List.flatMap_append]
  simp
theorem copy_at (n : Nat) (hn : n ≤ 3) (d : List Rec) (h : KeysOk d) (k : ByteArray) : numsAt (runLog ⟨5, [0], ⟨#[]⟩, (n : Int)⟩ (logOf d)).2 k = (numsAt d k).flatMap (List.replicate n) := by
  rw [(run_copy n hn d h).1]
  unfold numsAt
  induction d with
  | nil => rfl
  | cons r d ih =>
    have ih' := ih fun x hx => h x (List.mem_cons_of_mem _ hx)
    rw [List.flatMap_cons, List.filter_append, List.map_append, ih', List.filter_cons]
    by_cases e : r.key = k
    · rw [decide_eq_true e, if_pos rfl, List.map_cons, List.flatMap_cons]
      congr 1
      rw [List.filter_eq_self.2 fun x hx => by rw [List.eq_of_mem_replicate hx]; exact decide_eq_true e, List.map_replicate]
    · rw [decide_eq_false e, if_neg (by decide)]
      rw [List.filter_eq_nil_iff.2 fun x hx => by rw [List.eq_of_mem_replicate hx, decide_eq_false e]; decide]
      rfl
theorem copy_len (n : Nat) (l : List Int) : (l.flatMap (List.replicate n)).length = n * l.length := by
  induction l with
  | nil => simp
  | cons x l ih => rw [List.flatMap_cons, List.length_append, ih, List.length_replicate, List.length_cons, Nat.mul_succ]; omega
def addW (s x : Int) : Int := wrap64 (s + x)
/-- The sums of each n. -/
def chunkS (n : Nat) (l : List Int) : List Int := (List.range (l.length / n)).map fun j => ((l.drop (j * n)).take n).foldl addW 0
theorem chunk_len (n : Nat) (l : List Int) : (chunkS n l).length = l.length / n := by unfold chunkS; simp
theorem chunk_snoc {n : Nat} (hn : 0 < n) (l : List Int) (x : Int) : chunkS n (l ++ [x]) = chunkS n l ++ (if l.length % n + 1 = n then [addW ((l.drop (l.length / n * n)).foldl addW 0) x] else []) ∧
    (l ++ [x]).drop ((l ++ [x]).length / n * n) = (if l.length % n + 1 = n then [] else l.drop (l.length / n * n) ++ [x]) := by
  have hm := Nat.div_add_mod l.length n
  have hlt := Nat.mod_lt l.length hn
  have hcomm : n * (l.length / n) = l.length / n * n := Nat.mul_comm _ _
  have hlen : (l ++ [x]).length = l.length + 1 := by simp
  have hold : ∀ j, j < l.length / n → (((l ++ [x]).drop (j * n)).take n).foldl addW 0 = ((l.drop (j * n)).take n).foldl addW 0 := fun j hj => by
    have h1 : (j + 1) * n ≤ l.length / n * n := Nat.mul_le_mul_right n hj
    rw [Nat.succ_mul] at h1
    rw [List.drop_append_of_le_length (by omega), List.take_append_of_le_length (by rw [List.length_drop]; omega)]
  by_cases hc : l.length % n + 1 = n
  · have hdiv : (l.length + 1) / n = l.length / n + 1 := by
      rw [show l.length + 1 = n * (l.length / n + 1) by rw [Nat.mul_add]; omega, Nat.mul_div_cancel_left _ hn]
    rw [if_pos hc, if_pos hc]
    refine ⟨?_, ?_⟩
    · unfold chunkS
      rw [hlen, hdiv, List.range_succ, List.map_append, List.map_congr_left fun j hj => hold j (List.mem_range.1 hj)]
      congr 1
      simp only [List.map_cons, List.map_nil]
      have hle : l.length / n * n ≤ l.length := by rw [← hcomm]; omega
      have hsub : l.length - l.length / n * n + 1 ≤ n := by rw [← hcomm]; omega
      rw [List.drop_append_of_le_length hle, List.take_of_length_le (by rw [List.length_append, List.length_drop, List.length_singleton]; exact hsub), List.foldl_append]
      rfl
    · have hle : l.length + 1 ≤ l.length / n * n + n := by rw [← hcomm]; omega
      rw [hlen, hdiv]
      refine List.drop_eq_nil_of_le ?_
      rw [hlen, Nat.succ_mul]; exact hle
  · have hdiv : (l.length + 1) / n = l.length / n := by
      have h3 : l.length % n + 1 < n := Nat.lt_of_le_of_ne hlt hc
      have h2 : l.length + 1 = n * (l.length / n) + (l.length % n + 1) := by omega
      have h4 : (n * (l.length / n) + (l.length % n + 1)) / n = l.length / n := by rw [Nat.mul_add_div hn, Nat.div_eq_of_lt h3, Nat.add_zero]
      rw [← h4, ← h2]
    rw [if_neg hc, if_neg hc, List.append_nil]
    refine ⟨?_, ?_⟩
    · unfold chunkS
      rw [hlen, hdiv, List.map_congr_left fun j hj => hold j (List.mem_range.1 hj)]
    · rw [hlen, hdiv, List.drop_append_of_le_length (by omega)]
theorem run_every (n : Nat) (h1 : 1 ≤ n) (hn : n ≤ 3) (k : ByteArray) (d : List Rec) (h : ∀ r ∈ d, r.key = k ∧ r.key.size ≤ 40) :
    (runLog ⟨8, [0], ⟨#[]⟩, (n : Int)⟩ (logOf d)).2.map (·.num) = chunkS n (d.map (·.num)) ∧
    pget (runLog ⟨8, [0], ⟨#[]⟩, (n : Int)⟩ (logOf d)).1 k = (if d = [] then none else some ⟨0, k, ((d.length % n : Nat) : Int), ((d.map (·.num)).drop (d.length / n * n)).foldl addW 0⟩) := by
  revert h
  refine snoc_ind (P := fun d => (∀ r ∈ d, r.key = k ∧ r.key.size ≤ 40) → (runLog ⟨8, [0], ⟨#[]⟩, (n : Int)⟩ (logOf d)).2.map (·.num) = chunkS n (d.map (·.num)) ∧
    pget (runLog ⟨8, [0], ⟨#[]⟩, (n : Int)⟩ (logOf d)).1 k = (if d = [] then none else some ⟨0, k, ((d.length % n : Nat) : Int), ((d.map (·.num)).drop (d.length / n * n)).foldl addW 0⟩)) (fun _ => ⟨by simp [chunkS, logOf, runLog], rfl⟩) ?_ d
  intro d r ih h
  obtain ⟨i1, i2⟩ := ih fun x hx => h x (List.mem_append.2 (.inl hx))
  obtain ⟨hrk, hrs⟩ := h r (List.mem_append.2 (.inr List.mem_cons_self))
  obtain ⟨S, hS⟩ : ∃ S, S = ((d.map (·.num)).drop (d.length / n * n)).foldl addW 0 := ⟨_, rfl⟩
  have hlt := Nat.mod_lt d.length (show n > 0 by omega)
  have ha : begins ((pget (runLog ⟨8, [0], ⟨#[]⟩, (n : Int)⟩ (logOf d)).1 k).getD zeroH) (pget (runLog ⟨8, [0], ⟨#[]⟩, (n : Int)⟩ (logOf d)).1 k).isSome r = ⟨0, k, ((d.length % n : Nat) : Int), S⟩ := by
    rw [i2, hS]
    split
    · rename_i hd; rw [hd]; unfold begins; rw [hrk]; simp
    · unfold begins; rw [hrk]; rfl
  have hc := chunk_snoc (show 0 < n by omega) (d.map (·.num)) r.num
  rw [List.length_map, ← hS] at hc
  have hw : wrap64 (((d.length % n : Nat) : Int) + 1) = ((d.length % n : Nat) : Int) + 1 := by unfold wrap64; omega
  have happ : applyN ⟨8, [0], ⟨#[]⟩, (n : Int)⟩ ((pget (runLog ⟨8, [0], ⟨#[]⟩, (n : Int)⟩ (logOf d)).1 k).getD zeroH) (pget (runLog ⟨8, [0], ⟨#[]⟩, (n : Int)⟩ (logOf d)).1 k).isSome r 0 =
      (if d.length % n + 1 = n then ⟨[{ r with num := addW S r.num }], ⟨0, k, 0, 0⟩, true⟩ else ⟨[], ⟨0, k, ((d.length % n : Nat) : Int) + 1, addW S r.num⟩, true⟩) := by
    show (if (n : Int) ≤ wrap64 ((begins _ _ r).a + 1) then ends_ (passR { r with num := wrap64 ((begins _ _ r).b + r.num) }) { (begins _ _ r) with a := 0, b := 0 } true else ends_ [] { (begins _ _ r) with a := wrap64 ((begins _ _ r).a + 1), b := wrap64 ((begins _ _ r).b + r.num) } true) = _
    rw [ha]
    simp only
    rw [hw]
    by_cases hcc : d.length % n + 1 = n
    · rw [if_pos (by omega), if_pos hcc, passR_one (by exact hrs)]; rfl
    · rw [if_neg (by omega), if_neg hcc]; rfl
  have hdn : (d ++ [r]).length = d.length + 1 := by simp
  have hmap : (d ++ [r]).map (·.num) = d.map (·.num) ++ [r.num] := by simp
  rw [logOf_snoc, runLog_snoc]
  unfold stepLog
  simp only
  rw [hrk, show ((0 : Nat) : Int) = 0 from rfl, happ, hmap, hc.1, if_neg (show ¬ (d ++ [r] = []) by simp)]
  have hd2 : (d.map (·.num) ++ [r.num]).drop ((d ++ [r]).length / n * n) = (if d.length % n + 1 = n then [] else (d.map (·.num)).drop (d.length / n * n) ++ [r.num]) := by
    rw [← hc.2, hdn, List.length_append, List.length_map]; rfl
  have hmod : (d ++ [r]).length % n = if d.length % n + 1 = n then 0 else d.length % n + 1 := by
    rw [hdn]
    have hm := Nat.div_add_mod d.length n
    by_cases hcc : d.length % n + 1 = n
    · rw [if_pos hcc, show d.length + 1 = n * (d.length / n + 1) by rw [Nat.mul_add]; omega, Nat.mul_mod_right]
    · rw [if_neg hcc]
      have h2 : d.length + 1 = n * (d.length / n) + (d.length % n + 1) := by omega
      have h3 : d.length % n + 1 < n := Nat.lt_of_le_of_ne hlt hcc
      have h4 : (n * (d.length / n) + (d.length % n + 1)) % n = d.length % n + 1 := by rw [Nat.mul_add_mod, Nat.mod_eq_of_lt h3]
      rw [← h4, ← h2]
  rw [hd2, hmod]
  by_cases hcc : d.length % n + 1 = n
  · simp only [if_pos hcc, if_true]
    refine ⟨by rw [List.map_append, i1]; rfl, by rw [pget_pset, if_pos rfl]; rfl⟩
  · simp only [if_neg hcc, if_true]
    refine ⟨by rw [List.map_append, i1]; rfl, ?_⟩
    rw [pget_pset, if_pos rfl, List.foldl_append, ← hS]
    simp [addW]
theorem every_at (n : Nat) (h1 : 1 ≤ n) (hn : n ≤ 3) (d : List Rec) (h : KeysOk d) (k : ByteArray) : numsAt (runLog ⟨8, [0], ⟨#[]⟩, (n : Int)⟩ (logOf d)).2 k = chunkS n (numsAt d k) := by
  rw [numsAt_recs, (run_key (show (8 : Int) ≠ 4 by decide) (show (8 : Int) ≠ 6 by decide) k (logOf d)).1, atKey_log, (run_every n h1 hn k (recsAt k d) (h.at_ k)).1]
  rfl
theorem job_copy (n : Nat) (h1 : 1 ≤ n) (hn : n ≤ 3) : jobErr (lineJ ⟨5, [], ⟨#[]⟩, (n : Int)⟩) = 0 ∧ jobErr (lineJ ⟨8, [], ⟨#[]⟩, (n : Int)⟩) = 0 := by
  have hc : n = 1 ∨ n = 2 ∨ n = 3 := by omega
  rcases hc with rfl | rfl | rfl
  · exact ⟨by decide +kernel, by decide +kernel⟩
  · exact ⟨by decide +kernel, by decide +kernel⟩
  · exact ⟨by decide +kernel, by decide +kernel⟩
end Go.Proofs.YtmbhfadidpkkhaaGreatDoor

/-
  A literal of two records, in memory. No condition: definitions and lemmas.
-/
namespace Go.Proofs.YtmbhfadidpkkhaaGreatDoor
open Go.RowKit Go.ChangeShapes Go.WideShapes Go.Shelf
set_option linter.unusedVariables false

def keyA : ByteArray := ⟨#[97]⟩
def litA : List Rec := [⟨keyA, 2, 0⟩, ⟨keyA, 3, 0⟩]
theorem litA_ok : dataErr [litA] = 0 := by decide +kernel
theorem lit_recs {W : World} {g : Nat} (l : List Rec) {F : Nat → Prop} (hg : W.heap[g]? = some (.cells (l.flatMap recCells).toArray 39 (0, 0))) (hl : l.length ≤ 1000) (hF : F g) (hx : ∀ x ∈ l, RecOk x) : SlA recE F W (some ⟨g, 0, none⟩) l.length l := by
  have ho : OwnS W 39 3 (some ⟨g, 0, none⟩) l.length l.length (l.flatMap recCells) := by
    have e : ∀ l : List Rec, (l.flatMap recCells).length = l.length * 3 := fun l => by
      induction l with
      | nil => rfl
      | cons x l ih => rw [List.flatMap_cons, List.length_append, ih, List.length_cons, show (recCells x).length = 3 from rfl]; omega
    refine ⟨e l, Nat.le_refl _, by unfold maxLen; omega, .inr ⟨g, 0, _, rfl, hg, by rw [List.size_toArray, e]; omega, fun j u hj => by rw [Nat.zero_add]; simpa using hj⟩⟩
  exact own_recs ho rfl (fun k e => by injection e with e; subst e; exact hF) hx
theorem recOk_lit {n : Int} (h : I64 n) : RecOk ⟨keyA, n, 0⟩ := ⟨by unfold maxLen; show (1 : Nat) ≤ _; omega, h, rfl⟩
end Go.Proofs.YtmbhfadidpkkhaaGreatDoor

/-
  Package den, plain: what a Union makes of what comes by its inputs; a job of two Sources put together. No condition: plain definitions and lemmas.
-/
namespace Go.Proofs.YtmbhfadidpkkhaaGreatDoor
open Go.RowKit
set_option linter.unusedVariables false

/-! ### Keys of a Union -/
theorem ba_append_inj {a b c d : ByteArray} (hs : a.size = c.size) (h : a ++ b = c ++ d) : a = c ∧ b = d := by
  have h1 : (a ++ b).data.toList = (c ++ d).data.toList := by rw [h]
  rw [ByteArray.data_append, ByteArray.data_append, Array.toList_append, Array.toList_append] at h1
  obtain ⟨e1, e2⟩ := List.append_inj h1 (by rw [Array.length_toList, Array.length_toList]; exact hs)
  cases a; cases b; cases c; cases d
  exact ⟨by congr 1; exact Array.toList_inj.1 e1, by congr 1; exact Array.toList_inj.1 e2⟩
def uniPre (j : Nat) : ByteArray := ⟨#[UInt8.ofNat (48 + j), 58]⟩
theorem uniKey_pre {j : Nat} (hj : j < 4) (k : ByteArray) : uniKey (j : Int) k = uniPre j ++ k := by
  have h : (⟨(Lib.itoa (j : Int)).toArray⟩ : ByteArray) ++ ⟨#[58]⟩ = uniPre j := by
    have hc : j = 0 ∨ j = 1 ∨ j = 2 ∨ j = 3 := by omega
    rcases hc with rfl | rfl | rfl | rfl
    · decide +kernel
    · decide +kernel
    · decide +kernel
    · decide +kernel
  unfold uniKey
  rw [h]
theorem uniPre_size (j : Nat) : (uniPre j).size = 2 := rfl
theorem uniPre_inj {i j : Nat} (hi : i < 4) (hj : j < 4) (h : uniPre i = uniPre j) : i = j := by
  have hc : i = 0 ∨ i = 1 ∨ i = 2 ∨ i = 3 := by omega
  have hd : j = 0 ∨ j = 1 ∨ j = 2 ∨ j = 3 := by omega
  rcases hc with rfl | rfl | rfl | rfl <;> rcases hd with rfl | rfl | rfl | rfl <;> first | rfl | (exact absurd h (by decide))
theorem uniKey_inj {i j : Nat} (hi : i < 4) (hj : j < 4) {a b : ByteArray} (h : uniKey (i : Int) a = uniKey (j : Int) b) : i = j ∧ a = b := by
  rw [uniKey_pre hi, uniKey_pre hj] at h
  obtain ⟨h1, h2⟩ := ba_append_inj (by rw [uniPre_size, uniPre_size]) h
  exact ⟨uniPre_inj hi hj h1, h2⟩
theorem uniKey_size {j : Nat} (hj : j < 4) (k : ByteArray) : (uniKey (j : Int) k).size = k.size + 2 := by
  rw [uniKey_pre hj, ByteArray.size_append, uniPre_size]; omega

/-! ### A Union's log -/
def uniR (p : Nat × Rec) : List Rec := passR { p.2 with key := uniKey (p.1 : Int) p.2.key }
theorem run_union (fr : List Int) (text : ByteArray) (m : Int) (log : List (Nat × Rec)) : (runLog ⟨6, fr, text, m⟩ log).2 = log.flatMap uniR ∧ (runLog ⟨6, fr, text, m⟩ log).1 = [] := by
  refine snoc_ind (P := fun log => (runLog ⟨6, fr, text, m⟩ log).2 = log.flatMap uniR ∧ (runLog ⟨6, fr, text, m⟩ log).1 = []) ⟨rfl, rfl⟩ ?_ log
  intro log p ⟨i1, i2⟩
  rw [runLog_snoc]
  unfold stepLog
  simp only
  rw [i1, i2]
  refine ⟨?_, rfl⟩
  rw [List.flatMap_append]
  congr 1
  simp only [List.flatMap_cons, List.flatMap_nil, List.append_nil]
  rfl
def TagsUnder (n : Nat) (log : List (Nat × Rec)) : Prop := ∀ p ∈ log, p.1 < n
/-- Of one key of a Union's: what came by that input with that key. -/
theorem uni_at {log : List (Nat × Rec)} (ht : TagsUnder 4 log) {j : Nat} (hj : j < 4) (k : ByteArray) (hs : k.size + 2 ≤ 40) : recsAt (uniKey (j : Int) k) (log.flatMap uniR) = (recsAt k (byIn j log)).map fun r => { r with key := uniKey (j : Int) r.key } := by
  induction log with
  | nil => rfl
  | cons p log ih =>
    have ih' := ih fun q hq => ht q (List.mem_cons_of_mem _ hq)
    have hp := ht p List.mem_cons_self
    unfold recsAt byIn at ih' ⊢
    rw [List.flatMap_cons, List.filter_append, ih', List.filter_cons]
    by_cases e : p.1 = j
    · rw [if_pos (by simp [e]), List.map_cons, List.filter_cons]
      by_cases ek : p.2.key = k
      · rw [if_pos (by simp [ek]), List.map_cons]
        unfold uniR
        rw [passR_one (by show (uniKey (p.1 : Int) p.2.key).size ≤ 40; rw [uniKey_size hp, ek]; exact hs)]
        rw [List.filter_cons, if_pos (by simp [e, ek])]
        simp [e]
      · rw [if_neg (by simp [ek])]
        have : (uniR p).filter (fun r => decide (r.key = uniKey (j : Int) k)) = [] := List.filter_eq_nil_iff.2 fun x hx he => by
          rw [passR_key hx] at he
          exact ek (uniKey_inj hp hj (of_decide_eq_true he)).2
        rw [this]; rfl
    · rw [if_neg (by simp [e])]
      have : (uniR p).filter (fun r => decide (r.key = uniKey (j : Int) k)) = [] := List.filter_eq_nil_iff.2 fun x hx he => by
        rw [passR_key hx] at he
        exact e (uniKey_inj hp hj (of_decide_eq_true he)).1
      rw [this]; rfl
theorem uni_nums {log : List (Nat × Rec)} (ht : TagsUnder 4 log) {j : Nat} (hj : j < 4) (k : ByteArray) (hs : k.size + 2 ≤ 40) : numsAt (log.flatMap uniR) (uniKey (j : Int) k) = numsAt (byIn j log) k := by
  rw [numsAt_recs, uni_at ht hj k hs, List.map_map]
  rfl
theorem uni_keys {log : List (Nat × Rec)} (ht : TagsUnder 4 log) (k : ByteArray) : (∃ r ∈ log.flatMap uniR, r.key = k) ↔ ∃ p ∈ log, p.2.key.size + 2 ≤ 40 ∧ uniKey (p.1 : Int) p.2.key = k := by
  constructor
  · rintro ⟨r, hr, e⟩
    obtain ⟨p, hp, hr⟩ := List.mem_flatMap.1 hr
    have h1 := passR_key hr
    refine ⟨p, hp, ?_, by rw [← e, h1]⟩
    unfold uniR passR at hr
    split at hr
    · cases hr
    · rename_i h2
      have h3 : ¬ 40 < (uniKey (p.1 : Int) p.2.key).size := h2
      rw [uniKey_size (ht p hp)] at h3
      omega
  · rintro ⟨p, hp, hs, e⟩
    refine ⟨{ p.2 with key := uniKey (p.1 : Int) p.2.key }, List.mem_flatMap.2 ⟨p, hp, ?_⟩, e⟩
    unfold uniR
    rw [passR_one (by show (uniKey (p.1 : Int) p.2.key).size ≤ 40; rw [uniKey_size (ht p hp)]; exact hs)]
    exact List.mem_singleton.2 rfl
theorem mem_byIn {log : List (Nat × Rec)} {j : Nat} {r : Rec} : r ∈ byIn j log ↔ (j, r) ∈ log := by
  unfold byIn
  rw [List.mem_map]
  constructor
  · rintro ⟨⟨i, x⟩, hp, rfl⟩
    obtain ⟨h1, h2⟩ := List.mem_filter.1 hp
    have : i = j := by simpa using h2
    rw [← this]; exact h1
  · intro h
    exact ⟨(j, r), List.mem_filter.2 ⟨h, by simp⟩, rfl⟩
theorem byIn_len2 {log : List (Nat × Rec)} (ht : TagsUnder 2 log) : log.length = (byIn 0 log).length + (byIn 1 log).length := by
  induction log with
  | nil => rfl
  | cons p log ih =>
    have ih' := ih fun q hq => ht q (List.mem_cons_of_mem _ hq)
    have hp := ht p List.mem_cons_self
    unfold byIn at ih' ⊢
    rw [List.length_cons, ih', List.filter_cons, List.filter_cons]
    have hc : p.1 = 0 ∨ p.1 = 1 := by omega
    rcases hc with e | e
    · rw [e]; simp; omega
    · rw [e]; simp; omega
theorem uniR_len (log : List (Nat × Rec)) : (log.flatMap uniR).length ≤ log.length := by
  induction log with
  | nil => exact Nat.le_refl _
  | cons p log ih =>
    rw [List.flatMap_cons, List.length_append, List.length_cons]
    have : (uniR p).length ≤ 1 := by unfold uniR passR; split <;> simp
    omega

/-! ### Two Sources put together -/
def uniJ : List Nod := [⟨1, [], ⟨#[]⟩, 2⟩, ⟨1, [], ⟨#[]⟩, 1⟩, ⟨6, [0, 1], ⟨#[]⟩, 0⟩, ⟨10, [2], ⟨#[]⟩, 0⟩, ⟨10, [0], ⟨#[]⟩, 0⟩, ⟨10, [1], ⟨#[]⟩, 0⟩]
theorem job_uni : jobErr uniJ = 0 := by decide +kernel
theorem uni_of : ofKind uniJ 1 = [0, 1] ∧ ofKind uniJ 10 = [3, 4, 5] := by decide +kernel
theorem uni_flow (a b : List Rec) (ha : a.length ≤ 300) (hb : b.length ≤ 300) :
    ∃ f log, flowAll uniJ [a, b] = some f ∧ f.ln[3]? = some (grp (log.flatMap uniR)) ∧ f.ln[4]? = some (grp a) ∧ f.ln[5]? = some (grp b) ∧ TagsUnder 2 log ∧ byIn 0 log = a ∧ byIn 1 log = b := by
  obtain ⟨S, h0, hA, hD⟩ := flow_hist job_uni [a, b] (by rw [uni_of.1]; rfl)
  have hH0 : S.H 0 = a := hD 0 0 a (by rw [uni_of.1]; rfl) rfl
  have hH1 : S.H 1 = b := hD 1 1 b (by rw [uni_of.1]; rfl) rfl
  have hl2 := hA.2.1 2 ⟨6, [0, 1], ⟨#[]⟩, 0⟩ rfl
  have hH2 : S.H 2 = (S.M 2).flatMap uniR := (hl2.2.1 (by decide) (by decide)).2.trans (run_union _ _ _ _).1
  have ht : TagsUnder 2 (S.M 2) := hl2.2.2
  have hb0 : byIn 0 (S.M 2) = a := (hA.2.2 2 0 0 ⟨_, rfl, rfl⟩).trans hH0
  have hb1 : byIn 1 (S.M 2) = b := (hA.2.2 2 1 1 ⟨_, rfl, rfl⟩).trans hH1
  obtain ⟨l3, e3⟩ := sink_out hA (u := 3) (n := ⟨10, [2], ⟨#[]⟩, 0⟩) rfl rfl (p := 2) rfl
  obtain ⟨l4, e4⟩ := sink_out hA (u := 4) (n := ⟨10, [0], ⟨#[]⟩, 0⟩) rfl rfl (p := 0) rfl
  obtain ⟨l5, e5⟩ := sink_out hA (u := 5) (n := ⟨10, [1], ⟨#[]⟩, 0⟩) rfl rfl (p := 1) rfl
  rw [hH2] at l3
  rw [hH0] at l4
  rw [hH1] at l5
  refine ⟨S.f, S.M 2, ?_, l3, l4, l5, ht, hb0, hb1⟩
  rw [flow_cut job_uni, ← h0]
  refine if_pos (flow_ok hA fun v hv => ?_)
  have hv6 : v < 6 := hv
  have hml := byIn_len2 ht
  rw [hb0, hb1] at hml
  match v, hv6 with
  | 0, _ => rw [hH0]; omega
  | 1, _ => rw [hH1]; omega
  | 2, _ => rw [hH2]; have := uniR_len (S.M 2); omega
  | 3, _ => rw [e3]; simp
  | 4, _ => rw [e4]; simp
  | 5, _ => rw [e5]; simp
theorem nodup_len {α : Type} [DecidableEq α] : ∀ {a b : List α}, a.Nodup → (∀ x ∈ a, x ∈ b) → a.length ≤ b.length
  | [], _, _, _ => Nat.zero_le _
  | x :: a, b, hn, hs => by
    have hx := hs x List.mem_cons_self
    have h1 := nodup_len (b := b.erase x) (List.nodup_cons.1 hn).2 fun y hy => (List.mem_erase_of_ne fun e => (List.nodup_cons.1 hn).1 (by rw [← e]; exact hy)).2 (hs y (List.mem_cons_of_mem _ hy))
    rw [List.length_erase_of_mem hx] at h1
    have := List.length_pos_of_mem hx
    rw [List.length_cons]; omega
theorem LinesGrp.len_le {l : List Rec} {out : List Lin} (h : LinesGrp l out) : out.length ≤ l.length := by
  have := nodup_len h.nd (b := l.map (·.key)) fun k hk => by
    obtain ⟨r, hr, e⟩ := (h.keys k).1 hk
    exact List.mem_map.2 ⟨r, hr, e⟩
  rw [List.length_map, List.length_map] at this
  exact this
def cntShort (out : List Lin) : Nat := (out.filter fun x => decide (x.key.size + 2 ≤ 40)).length
theorem uni_count {log : List (Nat × Rec)} (ht : TagsUnder 2 log) {x0 x1 x2 : List Lin} (h0 : LinesGrp (log.flatMap uniR) x0) (h1 : LinesGrp (byIn 0 log) x1) (h2 : LinesGrp (byIn 1 log) x2) : x0.length = cntShort x1 + cntShort x2 := by
  have ht4 : TagsUnder 4 log := fun p hp => by have := ht p hp; omega
  have hk : ∀ (j : Nat) (x : List Lin), LinesGrp (byIn j log) x → ∀ k, k ∈ (x.filter fun y => decide (y.key.size + 2 ≤ 40)).map (fun y => uniKey (j : Int) y.key) ↔ ∃ r, (j, r) ∈ log ∧ r.key.size + 2 ≤ 40 ∧ uniKey (j : Int) r.key = k := fun j x hx k => by
    rw [List.mem_map]
    constructor
    · rintro ⟨y, hy, e⟩
      obtain ⟨hy1, hy2⟩ := List.mem_filter.1 hy
      obtain ⟨r, hr, er⟩ := (hx.keys y.key).1 (List.mem_map.2 ⟨y, hy1, rfl⟩)
      exact ⟨r, mem_byIn.1 hr, by rw [er]; exact of_decide_eq_true hy2, by rw [er]; exact e⟩
    · rintro ⟨r, hr, hs, e⟩
      obtain ⟨y, hy, ey⟩ := List.mem_map.1 ((hx.keys r.key).2 ⟨r, mem_byIn.2 hr, rfl⟩)
      exact ⟨y, List.mem_filter.2 ⟨hy, decide_eq_true (by rw [ey]; exact hs)⟩, by rw [ey]; exact e⟩
  have hnd : ∀ (j : Nat) (x : List Lin), j < 4 → LinesGrp (byIn j log) x → ((x.filter fun y => decide (y.key.size + 2 ≤ 40)).map (fun y => uniKey (j : Int) y.key)).Nodup := fun j x hj hx => by
    have h3 := (List.pairwise_map.1 hx.nd).sublist (List.filter_sublist (p := fun y => decide (y.key.size + 2 ≤ 40)))
    exact List.pairwise_map.2 (h3.imp fun {a b} hab e => hab (uniKey_inj hj hj e).2)
  have hp : (x0.map (·.key)).Perm (((x1.filter fun y => decide (y.key.size + 2 ≤ 40)).map (fun y => uniKey ((0 : Nat) : Int) y.key)) ++ ((x2.filter fun y => decide (y.key.size + 2 ≤ 40)).map (fun y => uniKey ((1 : Nat) : Int) y.key))) := by
    refine (List.perm_ext_iff_of_nodup h0.nd (List.nodup_append.2 ⟨hnd 0 x1 (by omega) h1, hnd 1 x2 (by omega) h2, fun a ha b hb e => ?_⟩)).2 fun k => ?_
    · obtain ⟨r, _, _, e1⟩ := (hk 0 x1 h1 a).1 ha
      obtain ⟨r', _, _, e2⟩ := (hk 1 x2 h2 b).1 hb
      have := (uniKey_inj (i := 0) (j := 1) (by omega) (by omega) (e1.trans (e.trans e2.symm))).1
      omega
    · rw [h0.keys, uni_keys ht4, List.mem_append, hk 0 x1 h1, hk 1 x2 h2]
      constructor
      · rintro ⟨p, hp, hs, e⟩
        have hc : p.1 = 0 ∨ p.1 = 1 := by have := ht p hp; omega
        obtain ⟨i, r⟩ := p
        rcases hc with rfl | rfl
        · exact .inl ⟨r, hp, hs, e⟩
        · exact .inr ⟨r, hp, hs, e⟩
      · rintro (⟨r, hr, hs, e⟩ | ⟨r, hr, hs, e⟩)
        · exact ⟨_, hr, hs, e⟩
        · exact ⟨_, hr, hs, e⟩
  have hl := hp.length_eq
  rw [List.length_map, List.length_append, List.length_map, List.length_map] at hl
  exact hl
end Go.Proofs.YtmbhfadidpkkhaaGreatDoor

/-
  Package den, plain: Filters of 1 and 0, Maps, a Copy of one: what lets all through changes nothing. No condition: plain definitions and lemmas.
-/
namespace Go.Proofs.YtmbhfadidpkkhaaGreatDoor
open Go.RowKit
set_option linter.unusedVariables false

def txt1 : ByteArray := ⟨#[49]⟩
def txt0 : ByteArray := ⟨#[48]⟩
theorem parse_1 : parseT txt1.data.toList = .tree (.num 1) := by kernel_rfl
theorem parse_0 : parseT txt0.data.toList = .tree (.num 0) := by kernel_rfl
theorem ev_1 (n s : Int) : evalOf txt1 n s = 1 := by unfold evalOf; rw [parse_1]; rfl
theorem ev_0 (n s : Int) : evalOf txt0 n s = 0 := by unfold evalOf; rw [parse_0]; rfl
def mapD (t : ByteArray) (d : List Rec) : List Rec := d.map fun r => { r with num := evalOf t r.num 0 }
theorem KeysOk.mapD {d : List Rec} (h : KeysOk d) (t : ByteArray) : KeysOk (mapD t d) := fun r hr => by
  obtain ⟨x, hx, rfl⟩ := List.mem_map.1 hr
  exact h x hx
theorem mapD_n (d : List Rec) : mapD txtN d = d := by
  unfold mapD
  conv => rhs; rw [← List.map_id d]
  exact List.map_congr_left fun r _ => by rw [ev_n]; rfl
/-- One step at a time. -/
theorem run_each (n : Nod) (g : Rec → List Rec) (hg : ∀ (h : Hld) (has : Bool) (r : Rec), r.key.size ≤ 40 → (applyN n h has r 0).out = g r) (d : List Rec) (h : KeysOk d) : (runLog n (logOf d)).2 = d.flatMap g := by
  revert h
  refine snoc_ind (P := fun d => KeysOk d → (runLog n (logOf d)).2 = d.flatMap g) (fun _ => rfl) ?_ d
  intro d r ih h
  obtain ⟨h1, h2⟩ := h.snoc
  rw [logOf_snoc, runLog_snoc, List.flatMap_append]
  show (runLog _ (logOf d)).2 ++ (applyN n _ _ r ((0 : Nat) : Int)).out = _
  rw [ih h1, show ((0 : Nat) : Int) = 0 from rfl, hg _ _ r h2]
  simp
theorem run_mapT (fr : List Int) (t : ByteArray) (d : List Rec) (h : KeysOk d) : (runLog ⟨2, fr, t, 0⟩ (logOf d)).2 = mapD t d := by
  rw [run_each _ (fun r => [{ r with num := evalOf t r.num 0 }]) (fun h has r hr => by
    show passR { r with num := evalOf t r.num 0 } = _
    exact passR_one hr) d h]
  unfold mapD
  exact (List.map_eq_flatMap).symm
theorem run_pass (fr : List Int) (d : List Rec) (h : KeysOk d) : (runLog ⟨3, fr, txt1, 0⟩ (logOf d)).2 = d := by
  rw [run_each _ (fun r => [r]) (fun h has r hr => by
    show (if evalOf txt1 r.num 0 = 0 then [] else passR r) = _
    rw [ev_1, if_neg (by decide), passR_one hr]) d h, ← List.map_eq_flatMap (f := fun r => r)]
  exact List.map_id d
theorem run_none (fr : List Int) (d : List Rec) (h : KeysOk d) : (runLog ⟨3, fr, txt0, 0⟩ (logOf d)).2 = [] := by
  rw [run_each _ (fun r => []) (fun h has r hr => by
    show (if evalOf txt0 r.num 0 = 0 then [] else passR r) = _
    rw [ev_0, if_pos rfl]) d h]
  simp
theorem run_one (fr : List Int) (d : List Rec) (h : KeysOk d) : (runLog ⟨5, fr, ⟨#[]⟩, 1⟩ (logOf d)).2 = d := by
  rw [run_each _ (fun r => [r]) (fun h has r hr => by
    show (List.replicate (min 3 (1 : Int)).toNat (passR r)).flatten = _
    rw [passR_one hr]; rfl) d h, ← List.map_eq_flatMap (f := fun r => r)]
  exact List.map_id d

/-! ### The two jobs -/
def filP (t : ByteArray) : List Nod := [⟨1, [], ⟨#[]⟩, 2⟩, ⟨2, [0], t, 0⟩, ⟨10, [1], ⟨#[]⟩, 0⟩]
def filL (t : ByteArray) : List Nod := [⟨1, [], ⟨#[]⟩, 2⟩, ⟨3, [0], txt1, 0⟩, ⟨2, [1], txtN, 0⟩, ⟨5, [2], ⟨#[]⟩, 1⟩, ⟨2, [3], t, 0⟩, ⟨10, [4], ⟨#[]⟩, 0⟩, ⟨3, [4], txt0, 0⟩, ⟨10, [6], ⟨#[]⟩, 0⟩]
theorem node_map {J : List Nod} {i : Nat} {p : Int} {t : ByteArray} (h : fromErr J i [p] = 0) : nodeErr J i ⟨2, [p], t, 0⟩ = textErr t.data.toList := by
  unfold nodeErr
  rw [if_neg (by show ¬((2 : Int) < 1 ∨ (10 : Int) < 2); decide), if_neg (by show ¬((1 : Int) < 1 ∨ (1 : Int) < 1); decide), if_neg (by rw [h]; decide),
    if_neg (fun h => h.elim (fun h => absurd h.2 (show ¬ (true = false) from by decide)) (fun h => h.1 rfl)), if_neg (by show ¬((0 : Int) < 0 ∨ (0 : Int) < 0); decide)]
  rfl
theorem job_of_three {J : List Nod} {e : Int} (hl : J.length ≤ 12) (hn : nodesErr J 0 J = e) (h0 : endsErr J = 0) : jobErr J = e := by
  unfold jobErr
  rw [if_neg (by omega), hn, h0]
  split
  · rfl
  · rename_i h; exact (Classical.byContradiction fun h' => h fun e => h' e.symm)
theorem job_filP (t : ByteArray) : jobErr (filP t) = textErr t.data.toList := by
  refine job_of_three (show 3 ≤ 12 by decide) ?_ rfl
  show nodesErr (filP t) 0 [_, _, _] = _
  rw [nodes_cons, nodes_cons, nodes_cons, node_map rfl, show nodeErr (filP t) 0 ⟨1, [], ⟨#[]⟩, 2⟩ = 0 from rfl, show nodeErr (filP t) (0 + 1 + 1) ⟨10, [1], ⟨#[]⟩, 0⟩ = 0 from rfl]
  by_cases he : textErr t.data.toList = 0
  · rw [he]; rfl
  · simp only [he, ne_eq, not_false_eq_true, if_true, not_true_eq_false, if_false]
theorem job_filL (t : ByteArray) : jobErr (filL t) = textErr t.data.toList := by
  refine job_of_three (show 8 ≤ 12 by decide) ?_ rfl
  show nodesErr (filL t) 0 [_, _, _, _, _, _, _, _] = _
  rw [nodes_cons, nodes_cons, nodes_cons, nodes_cons, nodes_cons, nodes_cons, nodes_cons, nodes_cons, node_map (p := 3) (t := t) rfl, node_map (t := txtN) rfl,
    show nodeErr (filL t) 0 ⟨1, [], ⟨#[]⟩, 2⟩ = 0 from rfl, show nodeErr (filL t) (0 + 1) ⟨3, [0], txt1, 0⟩ = 0 from (by show textErr txt1.data.toList = 0; unfold textErr; rw [parse_1]), show nodeErr (filL t) (0 + 1 + 1 + 1) ⟨5, [2], ⟨#[]⟩, 1⟩ = 0 from rfl,
    show nodeErr (filL t) (0 + 1 + 1 + 1 + 1 + 1) ⟨10, [4], ⟨#[]⟩, 0⟩ = 0 from rfl, show nodeErr (filL t) (0 + 1 + 1 + 1 + 1 + 1 + 1) ⟨3, [4], txt0, 0⟩ = 0 from (by show textErr txt0.data.toList = 0; unfold textErr; rw [parse_0]), show nodeErr (filL t) (0 + 1 + 1 + 1 + 1 + 1 + 1 + 1) ⟨10, [6], ⟨#[]⟩, 0⟩ = 0 from rfl,
    show textErr txtN.data.toList = 0 from (by unfold textErr; rw [parse_n])]
  by_cases he : textErr t.data.toList = 0
  · rw [he]; rfl
  · simp only [he, ne_eq, not_false_eq_true, if_true, not_true_eq_false, if_false]
theorem fil_of (t : ByteArray) : ofKind (filP t) 1 = [0] ∧ ofKind (filP t) 10 = [2] ∧ ofKind (filL t) 1 = [0] ∧ ofKind (filL t) 10 = [5, 7] := ⟨rfl, rfl, rfl, rfl⟩
theorem fil_err (t : ByteArray) (d : List Rec) : denErr (filP t) [d] = denErr (filL t) [d] := by
  unfold denErr
  rw [job_filP, job_filL, (fil_of t).1, (fil_of t).2.2.1]
def lonelyJ : List Nod := [⟨1, [], ⟨#[]⟩, 2⟩]
theorem lonely_err : denErr lonelyJ [] ≠ 0 := by decide +kernel
theorem filP_flow (t : ByteArray) (d : List Rec) (h : denErr (filP t) [d] = 0) : ∃ f, flowAll (filP t) [d] = some f ∧ f.ln[2]? = some (grp (mapD t d)) := by
  have hJ : jobErr (filP t) = 0 := Classical.byContradiction fun hn => by unfold denErr at h; rw [if_pos hn] at h; exact hn h
  have hda : dataErr [d] = 0 := by unfold denErr at h; rw [if_neg (fun h' => h' hJ), (fil_of t).1, if_neg (by simp)] at h; exact h
  obtain ⟨hd, hk⟩ := data_ok hda d (by simp)
  have hko : KeysOk d := fun r hr => recErr_no (hk r hr)
  obtain ⟨S, h0, hA, hD⟩ := flow_hist hJ [d] (by rw [(fil_of t).1]; rfl)
  have hH0 : S.H 0 = d := hD 0 0 d (by rw [(fil_of t).1]; rfl) rfl
  have hH1 : S.H 1 = mapD t d := by rw [single_out hA (u := 1) (n := ⟨2, [0], t, 0⟩) rfl (show (2 : Int) ≠ 10 by decide) (show (2 : Int) ≠ 1 by decide) (p := 0) rfl, hH0, run_mapT _ _ _ hko]
  obtain ⟨hln, hH2⟩ := sink_out hA (u := 2) (n := ⟨10, [1], ⟨#[]⟩, 0⟩) rfl rfl (p := 1) rfl
  rw [hH1] at hln
  refine ⟨S.f, ?_, hln⟩
  rw [flow_cut hJ, ← h0]
  refine if_pos (flow_ok hA fun v hv => ?_)
  have hm : (mapD t d).length = d.length := List.length_map _
  have hv3 : v < 3 := hv
  match v, hv3 with
  | 0, _ => rw [hH0]; omega
  | 1, _ => rw [hH1]; omega
  | 2, _ => rw [hH2]; simp
theorem filL_flow (t : ByteArray) (d : List Rec) (h : denErr (filL t) [d] = 0) : ∃ f, flowAll (filL t) [d] = some f ∧ f.ln[5]? = some (grp (mapD t d)) ∧ f.ln[7]? = some (grp []) := by
  have hJ : jobErr (filL t) = 0 := Classical.byContradiction fun hn => by unfold denErr at h; rw [if_pos hn] at h; exact hn h
  have hda : dataErr [d] = 0 := by unfold denErr at h; rw [if_neg (fun h' => h' hJ), (fil_of t).2.2.1, if_neg (by simp)] at h; exact h
  obtain ⟨hd, hk⟩ := data_ok hda d (by simp)
  have hko : KeysOk d := fun r hr => recErr_no (hk r hr)
  obtain ⟨S, h0, hA, hD⟩ := flow_hist hJ [d] (by rw [(fil_of t).2.2.1]; rfl)
  have hH0 : S.H 0 = d := hD 0 0 d (by rw [(fil_of t).2.2.1]; rfl) rfl
  have hH1 : S.H 1 = d := by rw [single_out hA (u := 1) (n := ⟨3, [0], txt1, 0⟩) rfl (by decide) (by decide) (p := 0) rfl, hH0, run_pass _ _ hko]
  have hH2 : S.H 2 = d := by rw [single_out hA (u := 2) (n := ⟨2, [1], txtN, 0⟩) rfl (by decide) (by decide) (p := 1) rfl, hH1, run_mapT _ _ _ hko, mapD_n]
  have hH3 : S.H 3 = d := by rw [single_out hA (u := 3) (n := ⟨5, [2], ⟨#[]⟩, 1⟩) rfl (by decide) (by decide) (p := 2) rfl, hH2, run_one _ _ hko]
  have hH4 : S.H 4 = mapD t d := by rw [single_out hA (u := 4) (n := ⟨2, [3], t, 0⟩) rfl (show (2 : Int) ≠ 10 by decide) (show (2 : Int) ≠ 1 by decide) (p := 3) rfl, hH3, run_mapT _ _ _ hko]
  obtain ⟨hln, hH5⟩ := sink_out hA (u := 5) (n := ⟨10, [4], ⟨#[]⟩, 0⟩) rfl rfl (p := 4) rfl
  have hH6 : S.H 6 = [] := by rw [single_out hA (u := 6) (n := ⟨3, [4], txt0, 0⟩) rfl (by decide) (by decide) (p := 4) rfl, hH4, run_none _ _ (hko.mapD t)]
  obtain ⟨hln7, hH7⟩ := sink_out hA (u := 7) (n := ⟨10, [6], ⟨#[]⟩, 0⟩) rfl rfl (p := 6) rfl
  rw [hH4] at hln
  rw [hH6] at hln7
  refine ⟨S.f, ?_, hln, hln7⟩
  rw [flow_cut hJ, ← h0]
  refine if_pos (flow_ok hA fun v hv => ?_)
  have hm : (mapD t d).length = d.length := List.length_map _
  have hv3 : v < 8 := hv
  match v, hv3 with
  | 0, _ => rw [hH0]; omega
  | 1, _ => rw [hH1]; omega
  | 2, _ => rw [hH2]; omega
  | 3, _ => rw [hH3]; omega
  | 4, _ => rw [hH4]; omega
  | 5, _ => rw [hH5]; simp
  | 6, _ => rw [hH6]; simp
  | 7, _ => rw [hH7]; simp
end Go.Proofs.YtmbhfadidpkkhaaGreatDoor

/-
  The two jobs of DenFilters, in memory. No condition: definitions and lemmas.
-/
namespace Go.Proofs.YtmbhfadidpkkhaaGreatDoor
open Go.RowKit Go.ChangeShapes Go.WideShapes Go.Shelf
set_option linter.unusedVariables false

def filPW (w : World) (t : ByteArray) : World := ((w.alloc (.cells #[.int .i64 0] 3)).alloc (.cells #[.int .i64 1] 3)).alloc (.cells #[.int .i64 1, .slice none 0 0, .string ⟨#[]⟩, .int .i64 2, .int .i64 2, .slice (some ⟨w.heap.size, 0, none⟩) 1 1, .string t, .int .i64 0, .int .i64 10, .slice (some ⟨w.heap.size + 1, 0, none⟩) 1 1, .string ⟨#[]⟩, .int .i64 0] 25)
theorem filP_mem (w : World) (t : ByteArray) (ht : t.size ≤ maxLen) : SlA nodE (· < (filPW w t).heap.size) (filPW w t) (some ⟨w.heap.size + 1 + 1, 0, none⟩) 3 (filP t) ∧ Below w.heap.size w (filPW w t) ∧ (filPW w t).heap.size = w.heap.size + 1 + 1 + 1 := by
  obtain ⟨W1, h1⟩ : ∃ W1, W1 = w.alloc (.cells #[.int .i64 0] 3) := ⟨_, rfl⟩
  have s1 : W1.heap.size = w.heap.size + 1 := by rw [h1]; simp
  obtain ⟨W2, h2⟩ : ∃ W2, W2 = W1.alloc (.cells #[.int .i64 1] 3) := ⟨_, rfl⟩
  have s2 : W2.heap.size = w.heap.size + 1 + 1 := by rw [h2]; simp [s1]
  obtain ⟨lv, hlv⟩ : ∃ lv : List NodV, lv = [((⟨1, [], ⟨#[]⟩, 2⟩, (none, 0)) : NodV), ((⟨2, [0], t, 0⟩, (some ⟨w.heap.size, 0, none⟩, 1)) : NodV), ((⟨10, [1], ⟨#[]⟩, 0⟩, (some ⟨w.heap.size + 1, 0, none⟩, 1)) : NodV)] := ⟨_, rfl⟩
  have e5 : filPW w t = W2.alloc (.cells (lv.flatMap nodCells).toArray 25) := by rw [h2, h1, hlv]; rfl
  have g1 : (filPW w t).heap[w.heap.size]? = some (.cells #[.int .i64 0] 3 (0, 0)) := by
    rw [e5, heap_alloc_old _ _ (by omega), h2, heap_alloc_old _ _ (by omega), h1]; exact heap_alloc_new _ _
  have g2 : (filPW w t).heap[w.heap.size + 1]? = some (.cells #[.int .i64 1] 3 (0, 0)) := by
    rw [e5, heap_alloc_old _ _ (by omega), h2, ← s1]; exact heap_alloc_new _ _
  have gj : (filPW w t).heap[w.heap.size + 1 + 1]? = some (.cells (lv.flatMap nodCells).toArray 25 (0, 0)) := by rw [e5, ← s2]; exact heap_alloc_new _ _
  have sj : (filPW w t).heap.size = w.heap.size + 1 + 1 + 1 := by rw [e5]; simp [s2]
  have hj := lit_job (F := fun k => k < (filPW w t).heap.size) lv gj (by rw [hlv]; simp) (by omega) (fun x hx => by
    rw [hlv] at hx
    simp only [List.mem_cons, List.not_mem_nil, or_false] at hx
    rcases hx with rfl | rfl | rfl
    · exact ⟨rfl, Nat.zero_le _, rfl, SlA.nil _ _ _ _ _ (Nat.zero_le _)⟩
    · exact ⟨rfl, ht, rfl, one_int g1 rfl (by omega)⟩
    · exact ⟨rfl, Nat.le_of_ble_eq_true rfl, rfl, one_int g2 rfl (by omega)⟩)
  refine ⟨?_, ?_, sj⟩
  · rw [hlv] at hj; exact hj
  · rw [e5, h2, h1]
    exact ((((Below.refl _ _).alloc (Nat.le_refl _) _).alloc (by simp) _).alloc (by simp; omega) _)
def filLW (w : World) (t : ByteArray) : World := (((((((w.alloc (.cells #[.int .i64 0] 3)).alloc (.cells #[.int .i64 1] 3)).alloc (.cells #[.int .i64 2] 3)).alloc (.cells #[.int .i64 3] 3)).alloc (.cells #[.int .i64 4] 3)).alloc (.cells #[.int .i64 4] 3)).alloc (.cells #[.int .i64 6] 3)).alloc (.cells #[.int .i64 1, .slice none 0 0, .string ⟨#[]⟩, .int .i64 2, .int .i64 3, .slice (some ⟨w.heap.size, 0, none⟩) 1 1, .string ⟨#[49]⟩, .int .i64 0, .int .i64 2, .slice (some ⟨w.heap.size + 1, 0, none⟩) 1 1, .string ⟨#[110]⟩, .int .i64 0, .int .i64 5, .slice (some ⟨w.heap.size + 1 + 1, 0, none⟩) 1 1, .string ⟨#[]⟩, .int .i64 1, .int .i64 2, .slice (some ⟨w.heap.size + 1 + 1 + 1, 0, none⟩) 1 1, .string t, .int .i64 0, .int .i64 10, .slice (some ⟨w.heap.size + 1 + 1 + 1 + 1, 0, none⟩) 1 1, .string ⟨#[]⟩, .int .i64 0, .int .i64 3, .slice (some ⟨w.heap.size + 1 + 1 + 1 + 1 + 1, 0, none⟩) 1 1, .string ⟨#[48]⟩, .int .i64 0, .int .i64 10, .slice (some ⟨w.heap.size + 1 + 1 + 1 + 1 + 1 + 1, 0, none⟩) 1 1, .string ⟨#[]⟩, .int .i64 0] 25)
theorem filL_mem (w : World) (t : ByteArray) (ht : t.size ≤ maxLen) : SlA nodE (· < (filLW w t).heap.size) (filLW w t) (some ⟨w.heap.size + 1 + 1 + 1 + 1 + 1 + 1 + 1, 0, none⟩) 8 (filL t) ∧ Below w.heap.size w (filLW w t) ∧ (filLW w t).heap.size = w.heap.size + 1 + 1 + 1 + 1 + 1 + 1 + 1 + 1 := by
  obtain ⟨W1, h1⟩ : ∃ W1, W1 = w.alloc (.cells #[.int .i64 0] 3) := ⟨_, rfl⟩
  have s1 : W1.heap.size = w.heap.size + 1 := by rw [h1]; simp
  obtain ⟨W2, h2⟩ : ∃ W2, W2 = W1.alloc (.cells #[.int .i64 1] 3) := ⟨_, rfl⟩
  have s2 : W2.heap.size = w.heap.size + 1 + 1 := by rw [h2]; simp [s1]
  obtain ⟨W3, h3⟩ : ∃ W3, W3 = W2.alloc (.cells #[.int .i64 2] 3) := ⟨_, rfl⟩
  have s3 : W3.heap.size = w.heap.size + 1 + 1 + 1 := by rw [h3]; simp [s2]
  obtain ⟨W4, h4⟩ : ∃ W4, W4 = W3.alloc (.cells #[.int .i64 3] 3) := ⟨_, rfl⟩
  have s4 : W4.heap.size = w.heap.size + 1 + 1 + 1 + 1 := by rw [h4]; simp [s3]
  obtain ⟨W5, h5⟩ : ∃ W5, W5 = W4.alloc (.cells #[.int .i64 4] 3) := ⟨_, rfl⟩
  have s5 : W5.heap.size = w.heap.size + 1 + 1 + 1 + 1 + 1 := by rw [h5]; simp [s4]
  obtain ⟨W6, h6⟩ : ∃ W6, W6 = W5.alloc (.cells #[.int .i64 4] 3) := ⟨_, rfl⟩
  have s6 : W6.heap.size = w.heap.size + 1 + 1 + 1 + 1 + 1 + 1 := by rw [h6]; simp [s5]
  obtain ⟨W7, h7⟩ : ∃ W7, W7 = W6.alloc (.cells #[.int .i64 6] 3) := ⟨_, rfl⟩
  have s7 : W7.heap.size = w.heap.size + 1 + 1 + 1 + 1 + 1 + 1 + 1 := by rw [h7]; simp [s6]
  obtain ⟨lv, hlv⟩ : ∃ lv : List NodV, lv = [((⟨1, [], ⟨#[]⟩, 2⟩, (none, 0)) : NodV), ((⟨3, [0], ⟨#[49]⟩, 0⟩, (some ⟨w.heap.size, 0, none⟩, 1)) : NodV), ((⟨2, [1], ⟨#[110]⟩, 0⟩, (some ⟨w.heap.size + 1, 0, none⟩, 1)) : NodV), ((⟨5, [2], ⟨#[]⟩, 1⟩, (some ⟨w.heap.size + 1 + 1, 0, none⟩, 1)) : NodV), ((⟨2, [3], t, 0⟩, (some ⟨w.heap.size + 1 + 1 + 1, 0, none⟩, 1)) : NodV), ((⟨10, [4], ⟨#[]⟩, 0⟩, (some ⟨w.heap.size + 1 + 1 + 1 + 1, 0, none⟩, 1)) : NodV), ((⟨3, [4], ⟨#[48]⟩, 0⟩, (some ⟨w.heap.size + 1 + 1 + 1 + 1 + 1, 0, none⟩, 1)) : NodV), ((⟨10, [6], ⟨#[]⟩, 0⟩, (some ⟨w.heap.size + 1 + 1 + 1 + 1 + 1 + 1, 0, none⟩, 1)) : NodV)] := ⟨_, rfl⟩
  have e5 : filLW w t = W7.alloc (.cells (lv.flatMap nodCells).toArray 25) := by rw [h7, h6, h5, h4, h3, h2, h1, hlv]; rfl
  have g1 : (filLW w t).heap[w.heap.size]? = some (.cells #[.int .i64 0] 3 (0, 0)) := by
    rw [e5, heap_alloc_old _ _ (by omega), h7, heap_alloc_old _ _ (by omega), h6, heap_alloc_old _ _ (by omega), h5, heap_alloc_old _ _ (by omega), h4, heap_alloc_old _ _ (by omega), h3, heap_alloc_old _ _ (by omega), h2, heap_alloc_old _ _ (by omega), h1]; exact heap_alloc_new _ _
  have g2 : (filLW w t).heap[w.heap.size + 1]? = some (.cells #[.int .i64 1] 3 (0, 0)) := by
    rw [e5, heap_alloc_old _ _ (by omega), h7, heap_alloc_old _ _ (by omega), h6, heap_alloc_old _ _ (by omega), h5, heap_alloc_old _ _ (by omega), h4, heap_alloc_old _ _ (by omega), h3, heap_alloc_old _ _ (by omega), h2, ← s1]; exact heap_alloc_new _ _
  have g3 : (filLW w t).heap[w.heap.size + 1 + 1]? = some (.cells #[.int .i64 2] 3 (0, 0)) := by
    rw [e5, heap_alloc_old _ _ (by omega), h7, heap_alloc_old _ _ (by omega), h6, heap_alloc_old _ _ (by omega), h5, heap_alloc_old _ _ (by omega), h4, heap_alloc_old _ _ (by omega), h3, ← s2]; exact heap_alloc_new _ _
  have g4 : (filLW w t).heap[w.heap.size + 1 + 1 + 1]? = some (.cells #[.int .i64 3] 3 (0, 0)) := by
    rw [e5, heap_alloc_old _ _ (by omega), h7, heap_alloc_old _ _ (by omega), h6, heap_alloc_old _ _ (by omega), h5, heap_alloc_old _ _ (by omega), h4, ← s3]; exact heap_alloc_new _ _
  have g5 : (filLW w t).heap[w.heap.size + 1 + 1 + 1 + 1]? = some (.cells #[.int .i64 4] 3 (0, 0)) := by
    rw [e5, heap_alloc_old _ _ (by omega), h7, heap_alloc_old _ _ (by omega), h6, heap_alloc_old _ _ (by omega), h5, ← s4]; exact heap_alloc_new _ _
  have g6 : (filLW w t).heap[w.heap.size + 1 + 1 + 1 + 1 + 1]? = some (.cells #[.int .i64 4] 3 (0, 0)) := by
    rw [e5, heap_alloc_old _ _ (by omega), h7, heap_alloc_old _ _ (by omega), h6, ← s5]; exact heap_alloc_new _ _
  have g7 : (filLW w t).heap[w.heap.size + 1 + 1 + 1 + 1 + 1 + 1]? = some (.cells #[.int .i64 6] 3 (0, 0)) := by
    rw [e5, heap_alloc_old _ _ (by omega), h7, ← s6]; exact heap_alloc_new _ _
  have gj : (filLW w t).heap[w.heap.size + 1 + 1 + 1 + 1 + 1 + 1 + 1]? = some (.cells (lv.flatMap nodCells).toArray 25 (0, 0)) := by rw [e5, ← s7]; exact heap_alloc_new _ _
  have sj : (filLW w t).heap.size = w.heap.size + 1 + 1 + 1 + 1 + 1 + 1 + 1 + 1 := by rw [e5]; simp [s7]
  have hj := lit_job (F := fun k => k < (filLW w t).heap.size) lv gj (by rw [hlv]; simp) (by omega) (fun x hx => by
    rw [hlv] at hx
    simp only [List.mem_cons, List.not_mem_nil, or_false] at hx
    rcases hx with rfl | rfl | rfl | rfl | rfl | rfl | rfl | rfl
    · exact ⟨rfl, Nat.zero_le _, rfl, SlA.nil _ _ _ _ _ (Nat.zero_le _)⟩
    · exact ⟨rfl, Nat.le_of_ble_eq_true rfl, rfl, one_int g1 rfl (by omega)⟩
    · exact ⟨rfl, Nat.le_of_ble_eq_true rfl, rfl, one_int g2 rfl (by omega)⟩
    · exact ⟨rfl, Nat.le_of_ble_eq_true rfl, rfl, one_int g3 rfl (by omega)⟩
    · exact ⟨rfl, ht, rfl, one_int g4 rfl (by omega)⟩
    · exact ⟨rfl, Nat.le_of_ble_eq_true rfl, rfl, one_int g5 rfl (by omega)⟩
    · exact ⟨rfl, Nat.le_of_ble_eq_true rfl, rfl, one_int g6 rfl (by omega)⟩
    · exact ⟨rfl, Nat.le_of_ble_eq_true rfl, rfl, one_int g7 rfl (by omega)⟩)
  refine ⟨?_, ?_, sj⟩
  · rw [hlv] at hj; exact hj
  · rw [e5, h7, h6, h5, h4, h3, h2, h1]
    exact (((((((((Below.refl _ _).alloc (Nat.le_refl _) _).alloc (by simp) _).alloc (by simp; omega) _).alloc (by simp; omega) _).alloc (by simp; omega) _).alloc (by simp; omega) _).alloc (by simp; omega) _).alloc (by simp; omega) _)
end Go.Proofs.YtmbhfadidpkkhaaGreatDoor

/-
  The contract of weirsame.Ints at equal lists. No condition.
-/
namespace Go.Proofs.YtmbhfadidpkkhaaGreatDoor
open Go.RowKit
set_option linter.unusedVariables false

set_option maxRecDepth 100000 in
theorem ints_same (A B : Option Addr) (c d : Nat) (l : List Int) (w : World) (F G : Nat → Prop) (ha : SlA (intE .i64) F w A c l) (hb : SlA (intE .i64) G w B d l) :
    Calls Tryz.prog 13 #[.slice A l.length c, .slice B l.length d] w fun e w' => e = .returned (.bool true) ∧ ∃ k, w' = w.drewN k := by
  have hn := ha.le
  have H := Lib.hid ha
  have H' := Lib.hid hb
  clear ha hb
  go_enter Tryz.func13, Tryz.ntmps13
  go_wp2
  go_loopw [5] (fun i wr => ∃ k q : Nat, k ≤ l.length ∧ i = .int .i64 k ∧ wr = w.drewN q) (fun i _ => l.length - (intOf i).toNat)
  case atStart => exact ⟨0, 0, Nat.zero_le _, rfl, rfl⟩
  case round =>
    obtain ⟨k, q, hk, rfl, rfl⟩ := hrel
    by_cases hlt : k < l.length
    · obtain ⟨b, off, rfl, _, c0, _⟩ := H.out.int_ hlt
      obtain ⟨b', off', rfl, _, d0, _⟩ := H'.out.int_ hlt
      obtain ⟨s, hs⟩ : ∃ s, s = l[k] := ⟨_, rfl⟩
      rw [← hs] at c0 d0
      clear hs
      go_wp2
      go_quiet (fail)
      go_wp2
      go_roundw
      case rel => exact ⟨k + 1, q + nq, by omega, by go_num, by simp⟩
      case measure => simp [intOf]; omega
    · go_wp2
      go_ret
      exact ⟨rfl, q, rfl⟩
end Go.Proofs.YtmbhfadidpkkhaaGreatDoor

/-
  The contract of weirsame.Lines at equal lists. No condition.
-/
namespace Go.Proofs.YtmbhfadidpkkhaaGreatDoor
open Go.RowKit
set_option linter.unusedVariables false

theorem ints_qq {P : Program} {f : FuncId} {args : Array Value} {w : World} {q n : Nat} {v : Value} (h : Calls P f args (w.drewN (q + n)) fun e w' => e = .returned v ∧ ∃ k, w' = (w.drewN (q + n)).drewN k) :
    Calls P f args (w.drewN (q + n)) fun e w'' => e = .returned v ∧ ∃ m, w'' = w.drewN (q + m) :=
  h.mono fun e w' ⟨he, m, hm⟩ => ⟨he, n + m, by rw [hm, World.drewN_drewN, Nat.add_assoc]⟩
set_option maxRecDepth 100000 in
theorem lines_same (A B : Option Addr) (c d : Nat) (l : List Lin) (w : World) (F G : Nat → Prop) (ha : SlA linE F w A c l) (hb : SlA linE G w B d l) :
    Calls Tryz.prog 10 #[.slice A l.length c, .slice B l.length d] w fun e w' => e = .returned (.bool true) ∧ ∃ k, w' = w.drewN k := by
  have hn := ha.le
  have hca := ha.1
  have hcb := hb.1
  have H := Lib.hid ha
  have H' := Lib.hid hb
  clear ha hb
  go_enter Tryz.func10, Tryz.ntmps10
  go_wp2
  go_loopw [5] (fun i wr => ∃ k q : Nat, k ≤ l.length ∧ i = .int .i64 k ∧ wr = w.drewN q) (fun i _ => l.length - (intOf i).toNat)
  case atStart => exact ⟨0, 0, Nat.zero_le _, rfl, rfl⟩
  case round =>
    obtain ⟨k, q, hk, rfl, rfl⟩ := hrel
    by_cases hlt : k < l.length
    · obtain ⟨b, off, A1, c1, rfl, _, x0, x1, _, hx⟩ := H.out.lin_ hlt
      obtain ⟨b', off', A2, c2, rfl, _, y0, y1, _, hy⟩ := H'.out.lin_ hlt
      obtain ⟨s, hs⟩ : ∃ s, s = l[k] := ⟨_, rfl⟩
      rw [← hs] at x0 x1 hx y0 y1 hy
      obtain ⟨sk, sn⟩ := s
      clear hs
      simp only at x0 x1 hx y0 y1 hy
      have hkk : (sk.toList == sk.toList) = true := beq_self_eq_true _
      have HIS := Lib.hid (fun n => ints_qq (q := q) (n := n) (ints_same A1 A2 c1 c2 sn (w.drewN (q + n)) _ _ (hx.drewN (q + n)) (hy.drewN (q + n))))
      clear hx hy
      go_wp2
      go_quiet ((with_reducible exact HIS.out _))
      go_wp2
      go_quiet (fail)
      go_wp2
      go_roundw
      case rel => exact ⟨k + 1, _, by omega, by go_num, by first | rfl | exact World.drewN_drewN _ _ _⟩
      case measure => simp [intOf]; omega
    · go_wp2
      go_ret
      exact ⟨rfl, q, rfl⟩
end Go.Proofs.YtmbhfadidpkkhaaGreatDoor

/-
  From what the row lists to what the walks of package den ask: the two variables of Atoi's errors hold errors; the table of powers of ten. No condition.
-/
namespace Go.Proofs.YtmbhfadidpkkhaaGreatDoor
open Go.RowKit Go.Shelf
set_option linter.unusedVariables false

theorem err_of_reads {w : World} {n nm : String} {g : Nat} {d : DataW Unit} (hg : Tryz.prog.globalNamed n = some g) (ht : (Tryz.prog.globals[g]?).map (·.type) = some 29) (h : Lib.VarReads Tryz.prog w n (.iface nm d)) :
    ∃ ev, w.cell? ⟨g, 0, none⟩ = some ev ∧ (ev = .nilIface ∨ ∃ te pe, ev = .iface te pe) := by
  obtain ⟨g', t', cs, fuel, p, hg', ht', hvar, hd⟩ := h
  obtain rfl := Option.some.inj (hg.symm.trans hg')
  obtain rfl := Option.some.inj (ht.symm.trans ht')
  obtain ⟨_, u, v, hcs, _, _⟩ := iface_of_trod Tryz.underlying29 hd
  refine ⟨.iface u v, ?_, .inr ⟨u, v, rfl⟩⟩
  obtain ⟨l⟩ := cs
  have hl : l = [.iface u v] := hcs
  subst hl
  simpa using World.var?_cell hg hvar 0
theorem errVars_of_reads {w : World} (h1 : Lib.VarReads Tryz.prog w "strconv.ErrSyntax" Rows.laid_strconv_ErrSyntax) (h2 : Lib.VarReads Tryz.prog w "strconv.ErrRange" Rows.laid_strconv_ErrRange) : ErrVars w :=
  ⟨err_of_reads (g := 4) (by kernel_rfl) (by kernel_rfl) h1, err_of_reads (g := 5) (by kernel_rfl) (by kernel_rfl) h2⟩
theorem pow_of_reads {w : World} (h : Lib.VarReads Tryz.prog w "internal/strconv.uint64pow10" Rows.laid_internal_strconv_uint64pow10) : PowTab w := by
  obtain ⟨g', t', cs, fuel, p, hg', ht', hvar, hd⟩ := h
  obtain rfl := Option.some.inj ((show Tryz.prog.globalNamed "internal/strconv.uint64pow10" = some 0 by kernel_rfl).symm.trans hg')
  obtain rfl := Option.some.inj ((show (Tryz.prog.globals[0]?).map (·.type) = some 157 by kernel_rfl).symm.trans ht')
  have e : (Rows.laid_internal_strconv_uint64pow10 : DataW Unit) = Lib.tabData .u64 Lib.pow10Tab := by kernel_rfl
  rw [e] at hd
  unfold PowTab Lib.TabIs
  rw [hvar, ← Lib.cells_of_tab Tryz.underlying157 Tryz.underlying94 (by kernel_rfl) (by kernel_rfl) hd]
end Go.Proofs.YtmbhfadidpkkhaaGreatDoor
