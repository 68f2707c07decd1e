/-
  Several texts of this claim in one, in build order; each begins with its own remark, which says what it proves and under which conditions.
-/
import Derived.Test.YtcmhbhdiepkndaaGreatDoorPackI
import Derived.ProofKit
import Derived.Test.YtcmhbhdiepkndaaGreatDoorPackA
import Derived.BigQuiet
import Derived.Test.YtcmhbhdiepkndaaGreatDoorPackD
import Derived.Test.YtcmhbhdiepkndaaGreatDoorRows
import Derived.LaidLaws
import Derived.Lib.LaidU8
import Derived.Lib.LaidTab
import Derived.Test.YtcmhbhdiepkndaaGreatDoorPackF
import Derived.WalkSpells
import Derived.WalkLawsBesides
import Derived.Deep.QuietTactic
import Derived.Laws.IdiomStrings
import Derived.IntWalk

/-
  Package den, plain: what single nodes make of records, key by key. No condition: plain definitions and lemmas.
-/
namespace Go.Proofs.YtcmhbhdiepkndaaGreatDoor
open Go.RowKit
set_option linter.unusedVariables false

def txtN : ByteArray := ⟨#[110]⟩
def txtSum : ByteArray := ⟨#[115, 43, 110]⟩
def txtMax : ByteArray := ⟨#[109, 97, 120, 40, 115, 44, 110, 41]⟩
theorem parse_n : parseT txtN.data.toList = .tree (.nam true) := by kernel_rfl
theorem parse_sum : parseT txtSum.data.toList = .tree (.bin 43 (.nam false) (.nam true)) := by kernel_rfl
theorem parse_max : parseT txtMax.data.toList = .tree (.bin 77 (.nam false) (.nam true)) := by kernel_rfl
theorem job_n : jobErr (lineJ ⟨2, [], txtN, 0⟩) = 0 := by decide +kernel
theorem job_sum : jobErr (lineJ ⟨7, [], txtSum, 0⟩) = 0 := by decide +kernel
theorem job_max : jobErr (lineJ ⟨7, [], txtMax, 0⟩) = 0 := by decide +kernel
theorem job_first : jobErr (lineJ ⟨9, [], ⟨#[]⟩, 0⟩) = 0 := by decide +kernel
theorem ev_n (n s : Int) : evalOf txtN n s = n := by unfold evalOf; rw [parse_n]; rfl
theorem ev_sum (n s : Int) : evalOf txtSum n s = wrap64 (s + n) := by unfold evalOf; rw [parse_sum]; rfl
theorem ev_max (n s : Int) : evalOf txtMax n s = if s < n then n else s := by unfold evalOf; rw [parse_max]; show max s n = _; omega

/-- What a step makes of numbers, so far. -/
def scanN (f : Int → Int → Int) (s : Int) : List Int → List Int
  | [] => []
  | x :: l => f s x :: scanN f (f s x) l
theorem scanN_len (f : Int → Int → Int) (l : List Int) : ∀ s, (scanN f s l).length = l.length := by
  induction l with
  | nil => intro s; rfl
  | cons x l ih => intro s; simp only [scanN, List.length_cons, ih]
theorem scanN_get (f : Int → Int → Int) (l : List Int) : ∀ (s : Int) (k : Nat), k < l.length → (scanN f s l)[k]? = some ((l.take (k + 1)).foldl f s) := by
  induction l with
  | nil => intro s k hk; simp at hk
  | cons x l ih =>
    intro s k hk
    cases k with
    | zero => rfl
    | succ k => simp only [scanN, List.getElem?_cons_succ, List.take_succ_cons, List.foldl_cons]; exact ih _ k (by simpa using hk)
theorem scanN_snoc (f : Int → Int → Int) (l : List Int) (x : Int) : ∀ s, scanN f s (l ++ [x]) = scanN f s l ++ [f (l.foldl f s) x] := by
  induction l with
  | nil => intro s; rfl
  | cons y l ih => intro s; simp only [List.cons_append, scanN, List.foldl_cons, ih]
theorem foldK_succ (f : Int → Int → Int) (s : Int) (l : List Int) {k : Nat} (hk : k < l.length) : (l.take (k + 1)).foldl f s = f ((l.take k).foldl f s) l[k] := by
  rw [List.take_succ_eq_append_getElem hk, List.foldl_append]; rfl
theorem logOf_snoc (l : List Rec) (r : Rec) : logOf (l ++ [r]) = logOf l ++ [(0, r)] := by unfold logOf; rw [List.map_append]; rfl
theorem runLog_snoc (n : Nod) (log : List (Nat × Rec)) (p : Nat × Rec) : runLog n (log ++ [p]) = stepLog n (runLog n log) p := by unfold runLog; rw [List.foldl_append]; rfl
theorem atKey_log (k : ByteArray) (d : List Rec) : atKey k (logOf d) = logOf (recsAt k d) := by
  unfold atKey logOf recsAt
  rw [List.filter_map]
  rfl
def KeysOk (d : List Rec) : Prop := ∀ r ∈ d, r.key.size ≤ 40
theorem KeysOk.at_ {d : List Rec} (h : KeysOk d) (k : ByteArray) : ∀ r ∈ recsAt k d, r.key = k ∧ r.key.size ≤ 40 := fun r hr => by
  obtain ⟨h1, h2⟩ := List.mem_filter.1 hr
  exact ⟨of_decide_eq_true h2, h r h1⟩
theorem KeysOk.snoc {d : List Rec} {r : Rec} (h : KeysOk (d ++ [r])) : KeysOk d ∧ r.key.size ≤ 40 := ⟨fun x hx => h x (List.mem_append.2 (.inl hx)), h r (List.mem_append.2 (.inr List.mem_cons_self))⟩
theorem passR_one {r : Rec} (h : r.key.size ≤ 40) : passR r = [r] := by unfold passR; rw [if_neg (by omega)]
/-- A Map of n hands on what it gets. -/
theorem run_map (d : List Rec) (h : KeysOk d) : (runLog ⟨2, [0], txtN, 0⟩ (logOf d)).2 = d := by
  revert h
  refine snoc_ind (P := fun d => KeysOk d → (runLog ⟨2, [0], txtN, 0⟩ (logOf d)).2 = d) (fun _ => rfl) ?_ d
  intro d r ih h
  obtain ⟨h1, h2⟩ := h.snoc
  rw [logOf_snoc, runLog_snoc]
  show (runLog _ (logOf d)).2 ++ passR { r with num := evalOf txtN r.num 0 } = _
  rw [ih h1, ev_n, passR_one (r := { r with num := r.num }) h2]
/-- A Fold: of each key. -/
theorem run_fold (text : ByteArray) (k : ByteArray) (d : List Rec) (h : ∀ r ∈ d, r.key = k ∧ r.key.size ≤ 40) :
    (runLog ⟨7, [0], text, 0⟩ (logOf d)).2.map (·.num) = scanN (fun s x => evalOf text x s) 0 (d.map (·.num)) ∧
    pget (runLog ⟨7, [0], text, 0⟩ (logOf d)).1 k = (if d = [] then none else some ⟨0, k, (d.map (·.num)).foldl (fun s x => evalOf text x s) 0, 0⟩) := by
  revert h
  refine snoc_ind (P := fun d => (∀ r ∈ d, r.key = k ∧ r.key.size ≤ 40) → (runLog ⟨7, [0], text, 0⟩ (logOf d)).2.map (·.num) = scanN (fun s x => evalOf text x s) 0 (d.map (·.num)) ∧
    pget (runLog ⟨7, [0], text, 0⟩ (logOf d)).1 k = (if d = [] then none else some ⟨0, k, (d.map (·.num)).foldl (fun s x => evalOf text x s) 0, 0⟩)) (fun _ => ⟨rfl, rfl⟩) ?_ d
  intro d r ih h
  obtain ⟨i1, i2⟩ := ih fun x hx => h x (List.mem_append.2 (.inl hx))
  obtain ⟨hrk, hrs⟩ := h r (List.mem_append.2 (.inr List.mem_cons_self))
  have ha : begins ((pget (runLog ⟨7, [0], text, 0⟩ (logOf d)).1 k).getD zeroH) (pget (runLog ⟨7, [0], text, 0⟩ (logOf d)).1 k).isSome r = ⟨0, k, (d.map (·.num)).foldl (fun s x => evalOf text x s) 0, 0⟩ := by
    rw [i2]
    split
    · rename_i hd; rw [hd]; unfold begins; rw [hrk]; rfl
    · unfold begins; rw [hrk]; rfl
  rw [logOf_snoc, runLog_snoc]
  unfold stepLog
  simp only
  rw [hrk]
  have happ : applyN ⟨7, [0], text, 0⟩ ((pget (runLog ⟨7, [0], text, 0⟩ (logOf d)).1 k).getD zeroH) (pget (runLog ⟨7, [0], text, 0⟩ (logOf d)).1 k).isSome r 0 =
      ⟨[{ r with num := evalOf text r.num ((d.map (·.num)).foldl (fun s x => evalOf text x s) 0) }], ⟨0, k, evalOf text r.num ((d.map (·.num)).foldl (fun s x => evalOf text x s) 0), 0⟩, true⟩ := by
    show ends_ (passR { r with num := evalOf text r.num (begins _ _ r).a }) { (begins _ _ r) with a := evalOf text r.num (begins _ _ r).a } true = _
    rw [ha, passR_one (by exact hrs)]
    rfl
  rw [show ((0 : Nat) : Int) = 0 from rfl, happ]
  simp only [if_true]
  refine ⟨?_, ?_⟩
  · rw [List.map_append, i1, List.map_append, List.map_cons, List.map_nil, List.map_cons, List.map_nil, scanN_snoc]
  · rw [pget_pset, if_pos rfl, if_neg (by simp), List.map_append, List.foldl_append]
    rfl
theorem fold_at (text : ByteArray) (d : List Rec) (h : KeysOk d) (k : ByteArray) : numsAt (runLog ⟨7, [0], text, 0⟩ (logOf d)).2 k = scanN (fun s x => evalOf text x s) 0 (numsAt d k) := by
  rw [numsAt_recs, (run_key (show (7 : Int) ≠ 4 by decide) (show (7 : Int) ≠ 6 by decide) k (logOf d)).1, atKey_log, (run_fold text k (recsAt k d) (h.at_ k)).1]
  rfl
theorem LinesGrp.len0 {l l' : List Rec} {a b : List Lin} (ha : LinesGrp l a) (hb : LinesGrp l' b) (h : ∀ k, numsAt l k = [] ↔ numsAt l' k = []) : a.length = b.length := by
  refine ha.len hb fun k => ?_
  have e : ∀ l : List Rec, (∃ r ∈ l, r.key = k) ↔ ¬ numsAt l k = [] := fun l => ⟨fun ⟨r, hr, e⟩ h0 => numsAt_nil.1 h0 r hr e, fun h0 => Classical.byContradiction fun hn => h0 (numsAt_nil.2 fun r hr e => hn ⟨r, hr, e⟩)⟩
  rw [e, e, h k]
theorem scanN_nil (f : Int → Int → Int) (s : Int) (l : List Int) : scanN f s l = [] ↔ l = [] := by
  rw [← List.length_eq_zero_iff, scanN_len, List.length_eq_zero_iff]
/-- One key alone: one line. -/
theorem LinesGrp.one {l : List Rec} {a : List Lin} (ha : LinesGrp l a) {k : ByteArray} (h : ∀ r ∈ l, r.key = k) (h0 : l ≠ []) : ∃ x, a = [x] ∧ x.key = k ∧ x.nums = l.map (·.num) := by
  have hk : ∀ j, j ∈ a.map (·.key) ↔ j = k := fun j => (ha.keys j).trans ⟨fun ⟨r, hr, e⟩ => by rw [← e]; exact h r hr, fun e => by
    obtain ⟨r, l', rfl⟩ := List.exists_cons_of_ne_nil h0
    exact ⟨r, List.mem_cons_self, (h r List.mem_cons_self).trans e.symm⟩⟩
  have hp : (a.map (·.key)).Perm [k] := (List.perm_ext_iff_of_nodup ha.nd (by simp)).2 fun j => (hk j).trans (by simp)
  have hlen := hp.length_eq
  rw [List.length_map] at hlen
  obtain ⟨x, rfl⟩ := List.length_eq_one_iff.1 hlen
  have hxk : x.key = k := (hk x.key).1 (by simp)
  refine ⟨x, rfl, hxk, ?_⟩
  rw [ha.nums x List.mem_cons_self]
  unfold numsAt
  rw [List.filter_eq_self.2 fun r hr => decide_eq_true ((h r hr).trans hxk.symm)]

/-! ### First, Copy, Every -/
theorem run_first (k : ByteArray) (d : List Rec) (h : ∀ r ∈ d, r.key = k ∧ r.key.size ≤ 40) :
    (runLog ⟨9, [0], ⟨#[]⟩, 0⟩ (logOf d)).2 = d.take 1 ∧ (pget (runLog ⟨9, [0], ⟨#[]⟩, 0⟩ (logOf d)).1 k).isSome = !d.isEmpty := by
  revert h
  refine snoc_ind (P := fun d => (∀ r ∈ d, r.key = k ∧ r.key.size ≤ 40) → (runLog ⟨9, [0], ⟨#[]⟩, 0⟩ (logOf d)).2 = d.take 1 ∧ (pget (runLog ⟨9, [0], ⟨#[]⟩, 0⟩ (logOf d)).1 k).isSome = !d.isEmpty) (fun _ => ⟨rfl, rfl⟩) ?_ d
  intro d r ih h
  obtain ⟨i1, i2⟩ := ih fun x hx => h x (List.mem_append.2 (.inl hx))
  obtain ⟨hrk, hrs⟩ := h r (List.mem_append.2 (.inr List.mem_cons_self))
  rw [logOf_snoc, runLog_snoc]
  unfold stepLog
  simp only
  rw [hrk]
  have happ : ∀ (h : Hld) (has : Bool), (applyN ⟨9, [0], ⟨#[]⟩, 0⟩ h has r 0).out = (if has = true then [] else [r]) ∧ (applyN ⟨9, [0], ⟨#[]⟩, 0⟩ h has r 0).has = true := fun h has => by
    show (if has = true then [] else passR r) = _ ∧ true = true
    rw [passR_one hrs]; exact ⟨rfl, rfl⟩
  obtain ⟨a1, a2⟩ := happ ((pget (runLog ⟨9, [0], ⟨#[]⟩, 0⟩ (logOf d)).1 k).getD zeroH) (pget (runLog ⟨9, [0], ⟨#[]⟩, 0⟩ (logOf d)).1 k).isSome
  rw [show ((0 : Nat) : Int) = 0 from rfl, a1, a2, i1, i2]
  refine ⟨?_, ?_⟩
  · cases d with
    | nil => rfl
    | cons x d => simp
  · simp only [if_true]
    rw [pget_pset, if_pos rfl]
    cases d <;> rfl
theorem first_at (d : List Rec) (h : KeysOk d) (k : ByteArray) : numsAt (runLog ⟨9, [0], ⟨#[]⟩, 0⟩ (logOf d)).2 k = (numsAt d k).take 1 := by
  rw [numsAt_recs, (run_key (show (9 : Int) ≠ 4 by decide) (show (9 : Int) ≠ 6 by decide) k (logOf d)).1, atKey_log, (run_first k (recsAt k d) (h.at_ k)).1, List.map_take]
  rfl
theorem run_copy (n : Nat) (hn : n ≤ 3) (d : List Rec) (h : ∀ r ∈ d, r.key.size ≤ 40) :
    (runLog ⟨5, [0], ⟨#[]⟩, (n : Int)⟩ (logOf d)).2 = d.flatMap (List.replicate n) ∧ (runLog ⟨5, [0], ⟨#[]⟩, (n : Int)⟩ (logOf d)).1 = [] := by
  revert h
  refine snoc_ind (P := fun d => (∀ r ∈ d, r.key.size ≤ 40) → (runLog ⟨5, [0], ⟨#[]⟩, (n : Int)⟩ (logOf d)).2 = d.flatMap (List.replicate n) ∧ (runLog ⟨5, [0], ⟨#[]⟩, (n : Int)⟩ (logOf d)).1 = []) (fun _ => ⟨rfl, rfl⟩) ?_ d
  intro d r ih h
  obtain ⟨i1, i2⟩ := ih fun x hx => h x (List.mem_append.2 (.inl hx))
  have hrs := h r (List.mem_append.2 (.inr List.mem_cons_self))
  rw [logOf_snoc, runLog_snoc]
  unfold stepLog
  simp only
  rw [i1, i2]
  have happ : applyN ⟨5, [0], ⟨#[]⟩, (n : Int)⟩ ((pget ([] : List (ByteArray × Hld)) r.key).getD zeroH) (pget ([] : List (ByteArray × Hld)) r.key).isSome r 0 = ⟨List.replicate n r, zeroH, false⟩ := by
    show ends_ ((List.replicate (min 3 (n : Int)).toNat (passR r)).flatten) _ false = _
    rw [passR_one hrs, show (min 3 (n : Int)).toNat = n by omega]
    have : ∀ m : Nat, (List.replicate m [r]).flatten = List.replicate m r := fun m => by
      induction m with
      | zero => rfl
      | succ m ih => rw [List.replicate_succ, List.flatten_cons, ih]; rfl
    rw [this]; rfl
  rw [show ((0 : Nat) : Int) = 0 from rfl, happ]
  refine ⟨?_, rfl⟩
  rw [List.flatMap_append]
  simp
theorem copy_at (n : Nat) (hn : n ≤ 3) (d : List Rec) (h : KeysOk d) (k : ByteArray) : numsAt (runLog ⟨5, [0], ⟨#[]⟩, (n : Int)⟩ (logOf d)).2 k = (numsAt d k).flatMap (List.replicate n) := by
  rw [(run_copy n hn d h).1]
  unfold numsAt
  induction d with
  | nil => rfl
  | cons r d ih =>
    have ih' := ih fun x hx => h x (List.mem_cons_of_mem _ hx)
    rw [List.flatMap_cons, List.filter_append, List.map_append, ih', List.filter_cons]
    by_cases e : r.key = k
    · rw [decide_eq_true e, if_pos rfl, List.map_cons, List.flatMap_cons]
      congr 1
      rw [List.filter_eq_self.2 fun x hx => by rw [List.eq_of_mem_replicate hx]; exact decide_eq_true e, List.map_replicate]
    · rw [decide_eq_false e, if_neg (by decide)]
      rw [List.filter_eq_nil_iff.2 fun x hx => by rw [List.eq_of_mem_replicate hx, decide_eq_false e]; decide]
      rfl
theorem copy_len (n : Nat) (l : List Int) : (l.flatMap (List.replicate n)).length = n * l.length := by
  induction l with
  | nil => simp
  | cons x l ih => rw [List.flatMap_cons, List.length_append, ih, List.length_replicate, List.length_cons, Nat.mul_succ]; omega
def addW (s x : Int) : Int := wrap64 (s + x)
/-- The sums of each n. -/
def chunkS (n : Nat) (l : List Int) : List Int := (List.range (l.length / n)).map fun j => ((l.drop (j * n)).take n).foldl addW 0
theorem chunk_len (n : Nat) (l : List Int) : (chunkS n l).length = l.length / n := by unfold chunkS; simp
theorem chunk_snoc {n : Nat} (hn : 0 < n) (l : List Int) (x : Int) : chunkS n (l ++ [x]) = chunkS n l ++ (if l.length % n + 1 = n then [addW ((l.drop (l.length / n * n)).foldl addW 0) x] else []) ∧
    (l ++ [x]).drop ((l ++ [x]).length / n * n) = (if l.length % n + 1 = n then [] else l.drop (l.length / n * n) ++ [x]) := by
  have hm := Nat.div_add_mod l.length n
  have hlt := Nat.mod_lt l.length hn
  have hcomm : n * (l.length / n) = l.length / n * n := Nat.mul_comm _ _
  have hlen : (l ++ [x]).length = l.length + 1 := by simp
  have hold : ∀ j, j < l.length / n → (((l ++ [x]).drop (j * n)).take n).foldl addW 0 = ((l.drop (j * n)).take n).foldl addW 0 := fun j hj => by
    have h1 : (j + 1) * n ≤ l.length / n * n := Nat.mul_le_mul_right n hj
    rw [Nat.succ_mul] at h1
    rw [List.drop_append_of_le_length (by omega), List.take_append_of_le_length (by rw [List.length_drop]; omega)]
  by_cases hc : l.length % n + 1 = n
  · have hdiv : (l.length + 1) / n = l.length / n + 1 := by
      rw [show l.length + 1 = n * (l.length / n + 1) by rw [Nat.mul_add]; omega, Nat.mul_div_cancel_left _ hn]
    rw [if_pos hc, if_pos hc]
    refine ⟨?_, ?_⟩
    · unfold chunkS
      rw [hlen, hdiv, List.range_succ, List.map_append, List.map_congr_left fun j hj => hold j (List.mem_range.1 hj)]
      congr 1
      simp only [List.map_cons, List.map_nil]
      have hle : l.length / n * n ≤ l.length := by rw [← hcomm]; omega
      have hsub : l.length - l.length / n * n + 1 ≤ n := by rw [← hcomm]; omega
      rw [List.drop_append_of_le_length hle, List.take_of_length_le (by rw [List.length_append, List.length_drop, List.length_singleton]; exact hsub), List.foldl_append]
      rfl
    · have hle : l.length + 1 ≤ l.length / n * n + n := by rw [← hcomm]; omega
      rw [hlen, hdiv]
      refine List.drop_eq_nil_of_le ?_
      rw [hlen, Nat.succ_mul]; exact hle
  · have hdiv : (l.length + 1) / n = l.length / n := by
      have h3 : l.length % n + 1 < n := Nat.lt_of_le_of_ne hlt hc
      have h2 : l.length + 1 = n * (l.length / n) + (l.length % n + 1) := by omega
      have h4 : (n * (l.length / n) + (l.length % n + 1)) / n = l.length / n := by rw [Nat.mul_add_div hn, Nat.div_eq_of_lt h3, Nat.add_zero]
      rw [← h4, ← h2]
    rw [if_neg hc, if_neg hc, List.append_nil]
    refine ⟨?_, ?_⟩
    · unfold chunkS
      rw [hlen, hdiv, List.map_congr_left fun j hj => hold j (List.mem_range.1 hj)]
    · rw [hlen, hdiv, List.drop_append_of_le_length (by omega)]
theorem run_every (n : Nat) (h1 : 1 ≤ n) (hn : n ≤ 3) (k : ByteArray) (d : List Rec) (h : ∀ r ∈ d, r.key = k ∧ r.key.size ≤ 40) :
    (runLog ⟨8, [0], ⟨#[]⟩, (n : Int)⟩ (logOf d)).2.map (·.num) = chunkS n (d.map (·.num)) ∧
    pget (runLog ⟨8, [0], ⟨#[]⟩, (n : Int)⟩ (logOf d)).1 k = (if d = [] then none else some ⟨0, k, ((d.length % n : Nat) : Int), ((d.map (·.num)).drop (d.length / n * n)).foldl addW 0⟩) := by
  revert h
  refine snoc_ind (P := fun d => (∀ r ∈ d, r.key = k ∧ r.key.size ≤ 40) → (runLog ⟨8, [0], ⟨#[]⟩, (n : Int)⟩ (logOf d)).2.map (·.num) = chunkS n (d.map (·.num)) ∧
    pget (runLog ⟨8, [0], ⟨#[]⟩, (n : Int)⟩ (logOf d)).1 k = (if d = [] then none else some ⟨0, k, ((d.length % n : Nat) : Int), ((d.map (·.num)).drop (d.length / n * n)).foldl addW 0⟩)) (fun _ => ⟨by simp [chunkS, logOf, runLog], rfl⟩) ?_ d
  intro d r ih h
  obtain ⟨i1, i2⟩ := ih fun x hx => h x (List.mem_append.2 (.inl hx))
  obtain ⟨hrk, hrs⟩ := h r (List.mem_append.2 (.inr List.mem_cons_self))
  obtain ⟨S, hS⟩ : ∃ S, S = ((d.map (·.num)).drop (d.length / n * n)).foldl addW 0 := ⟨_, rfl⟩
  have hlt := Nat.mod_lt d.length (show n > 0 by omega)
  have ha : begins ((pget (runLog ⟨8, [0], ⟨#[]⟩, (n : Int)⟩ (logOf d)).1 k).getD zeroH) (pget (runLog ⟨8, [0], ⟨#[]⟩, (n : Int)⟩ (logOf d)).1 k).isSome r = ⟨0, k, ((d.length % n : Nat) : Int), S⟩ := by
    rw [i2, hS]
    split
    · rename_i hd; rw [hd]; unfold begins; rw [hrk]; simp
    · unfold begins; rw [hrk]; rfl
  have hc := chunk_snoc (show 0 < n by omega) (d.map (·.num)) r.num
  rw [List.length_map, ← hS] at hc
  have hw : wrap64 (((d.length % n : Nat) : Int) + 1) = ((d.length % n : Nat) : Int) + 1 := by unfold wrap64; omega
  have happ : applyN ⟨8, [0], ⟨#[]⟩, (n : Int)⟩ ((pget (runLog ⟨8, [0], ⟨#[]⟩, (n : Int)⟩ (logOf d)).1 k).getD zeroH) (pget (runLog ⟨8, [0], ⟨#[]⟩, (n : Int)⟩ (logOf d)).1 k).isSome r 0 =
      (if d.length % n + 1 = n then ⟨[{ r with num := addW S r.num }], ⟨0, k, 0, 0⟩, true⟩ else ⟨[], ⟨0, k, ((d.length % n : Nat) : Int) + 1, addW S r.num⟩, true⟩) := by
    show (if (n : Int) ≤ wrap64 ((begins _ _ r).a + 1) then ends_ (passR { r with num := wrap64 ((begins _ _ r).b + r.num) }) { (begins _ _ r) with a := 0, b := 0 } true else ends_ [] { (begins _ _ r) with a := wrap64 ((begins _ _ r).a + 1), b := wrap64 ((begins _ _ r).b + r.num) } true) = _
    rw [ha]
    simp only
    rw [hw]
    by_cases hcc : d.length % n + 1 = n
    · rw [if_pos (by omega), if_pos hcc, passR_one (by exact hrs)]; rfl
    · rw [if_neg (by omega), if_neg hcc]; rfl
  have hdn : (d ++ [r]).length = d.length + 1 := by simp
  have hmap : (d ++ [r]).map (·.num) = d.map (·.num) ++ [r.num] := by simp
  rw [logOf_snoc, runLog_snoc]
  unfold stepLog
  simp only
  rw [hrk, show ((0 : Nat) : Int) = 0 from rfl, happ, hmap, hc.1, if_neg (show ¬ (d ++ [r] = []) by simp)]
  have hd2 : (d.map (·.num) ++ [r.num]).drop ((d ++ [r]).length / n * n) = (if d.length % n + 1 = n then [] else (d.map (·.num)).drop (d.length / n * n) ++ [r.num]) := by
    rw [← hc.2, hdn, List.length_append, List.length_map]; rfl
  have hmod : (d ++ [r]).length % n = if d.length % n + 1 = n then 0 else d.length % n + 1 := by
    rw [hdn]
    have hm := Nat.div_add_mod d.length n
    by_cases hcc : d.length % n + 1 = n
    · rw [if_pos hcc, show d.length + 1 = n * (d.length / n + 1) by rw [Nat.mul_add]; omega, Nat.mul_mod_right]
    · rw [if_neg hcc]
      have h2 : d.length + 1 = n * (d.length / n) + (d.length % n + 1) := by omega
      have h3 : d.length % n + 1 < n := Nat.lt_of_le_of_ne hlt hcc
      have h4 : (n * (d.length / n) + (d.length % n + 1)) % n = d.length % n + 1 := by rw [Nat.mul_add_mod, Nat.mod_eq_of_lt h3]
      rw [← h4, ← h2]
  rw [hd2, hmod]
  by_cases hcc : d.length % n + 1 = n
  · simp only [if_pos hcc, if_true]
    refine ⟨by rw [List.map_append, i1]; rfl, by rw [pget_pset, if_pos rfl]; rfl⟩
  · simp only [if_neg hcc, if_true]
    refine ⟨by rw [List.map_append, i1]; rfl, ?_⟩
    rw [pget_pset, if_pos rfl, List.foldl_append, ← hS]
    simp [addW]
theorem every_at (n : Nat) (h1 : 1 ≤ n) (hn : n ≤ 3) (d : List Rec) (h : KeysOk d) (k : ByteArray) : numsAt (runLog ⟨8, [0], ⟨#[]⟩, (n : Int)⟩ (logOf d)).2 k = chunkS n (numsAt d k) := by
  rw [numsAt_recs, (run_key (show (8 : Int) ≠ 4 by decide) (show (8 : Int) ≠ 6 by decide) k (logOf d)).1, atKey_log, (run_every n h1 hn k (recsAt k d) (h.at_ k)).1]
  rfl
theorem job_copy (n : Nat) (h1 : 1 ≤ n) (hn : n ≤ 3) : jobErr (lineJ ⟨5, [], ⟨#[]⟩, (n : Int)⟩) = 0 ∧ jobErr (lineJ ⟨8, [], ⟨#[]⟩, (n : Int)⟩) = 0 := by
  have hc : n = 1 ∨ n = 2 ∨ n = 3 := by omega
  rcases hc with rfl | rfl | rfl
  · exact ⟨by decide +kernel, by decide +kernel⟩
  · exact ⟨by decide +kernel, by decide +kernel⟩
  · exact ⟨by decide +kernel, by decide +kernel⟩
end Go.Proofs.YtcmhbhdiepkndaaGreatDoor

/-
  A literal of two records, in memory. No condition: definitions and lemmas.
-/
namespace Go.Proofs.YtcmhbhdiepkndaaGreatDoor
open Go.RowKit Go.ChangeShapes Go.WideShapes Go.Shelf
set_option linter.unusedVariables false

def keyA : ByteArray := ⟨#[97]⟩
def litA : List Rec := [⟨keyA, 2, 0⟩, ⟨keyA, 3, 0⟩]
theorem litA_ok : dataErr [litA] = 0 := by decide +kernel
theorem lit_recs {W : World} {g : Nat} (l : List Rec) {F : Nat → Prop} (hg : W.heap[g]? = some (.cells (l.flatMap recCells).toArray 30 (0, 0))) (hl : l.length ≤ 1000) (hF : F g) (hx : ∀ x ∈ l, RecOk x) : SlA recE F W (some ⟨g, 0, none⟩) l.length l := by
  have ho : OwnS W 30 3 (some ⟨g, 0, none⟩) l.length l.length (l.flatMap recCells) := by
    have e : ∀ l : List Rec, (l.flatMap recCells).length = l.length * 3 := fun l => by
      induction l with
      | nil => rfl
      | cons x l ih => rw [List.flatMap_cons, List.length_append, ih, List.length_cons, show (recCells x).length = 3 from rfl]; omega
    refine ⟨e l, Nat.le_refl _, by unfold maxLen; omega, .inr ⟨g, 0, _, rfl, hg, by rw [List.size_toArray, e]; omega, fun j u hj => by rw [Nat.zero_add]; simpa using hj⟩⟩
  exact own_recs ho rfl (fun k e => by injection e with e; subst e; exact hF) hx
theorem recOk_lit {n : Int} (h : I64 n) : RecOk ⟨keyA, n, 0⟩ := ⟨by unfold maxLen; show (1 : Nat) ≤ _; omega, h, rfl⟩
end Go.Proofs.YtcmhbhdiepkndaaGreatDoor

/-
  The contract of weirsame.Ints at equal lists. No condition.
-/
namespace Go.Proofs.YtcmhbhdiepkndaaGreatDoor
open Go.RowKit
set_option linter.unusedVariables false

set_option maxRecDepth 100000 in
theorem ints_same (A B : Option Addr) (c d : Nat) (l : List Int) (w : World) (F G : Nat → Prop) (ha : SlA (intE .i64) F w A c l) (hb : SlA (intE .i64) G w B d l) :
    Calls Tryz.prog 7 #[.slice A l.length c, .slice B l.length d] w fun e w' => e = .returned (.bool true) ∧ ∃ k, w' = w.drewN k := by
  have hn := ha.le
  have H := Lib.hid ha
  have H' := Lib.hid hb
  clear ha hb
  go_enter Tryz.func7, Tryz.ntmps7
  go_wp2
  go_loopw [5] (fun i wr => ∃ k q : Nat, k ≤ l.length ∧ i = .int .i64 k ∧ wr = w.drewN q) (fun i _ => l.length - (intOf i).toNat)
  case atStart => exact ⟨0, 0, Nat.zero_le _, rfl, rfl⟩
  case round =>
    obtain ⟨k, q, hk, rfl, rfl⟩ := hrel
    by_cases hlt : k < l.length
    · obtain ⟨b, off, rfl, _, c0, _⟩ := H.out.int_ hlt
      obtain ⟨b', off', rfl, _, d0, _⟩ := H'.out.int_ hlt
      obtain ⟨s, hs⟩ : ∃ s, s = l[k] := ⟨_, rfl⟩
      rw [← hs] at c0 d0
      clear hs
      go_wp2
      go_quiet (fail)
      go_wp2
      go_roundw
      case rel => exact ⟨k + 1, q + nq, by omega, by go_num, by simp⟩
      case measure => simp [intOf]; omega
    · go_wp2
      go_ret
      exact ⟨rfl, q, rfl⟩
end Go.Proofs.YtcmhbhdiepkndaaGreatDoor

/-
  From what the row lists to what the walks of package den ask: the two variables of Atoi's errors hold errors; the table of powers of ten. No condition.
-/
namespace Go.Proofs.YtcmhbhdiepkndaaGreatDoor
open Go.RowKit Go.Shelf
set_option linter.unusedVariables false

theorem err_of_reads {w : World} {n nm : String} {g : Nat} {d : DataW Unit} (hg : Tryz.prog.globalNamed n = some g) (ht : (Tryz.prog.globals[g]?).map (·.type) = some 41) (h : Lib.VarReads Tryz.prog w n (.iface nm d)) :
    ∃ ev, w.cell? ⟨g, 0, none⟩ = some ev ∧ (ev = .nilIface ∨ ∃ te pe, ev = .iface te pe) := by
  obtain ⟨g', t', cs, fuel, p, hg', ht', hvar, hd⟩ := h
  obtain rfl := Option.some.inj (hg.symm.trans hg')
  obtain rfl := Option.some.inj (ht.symm.trans ht')
  obtain ⟨_, u, v, hcs, _, _⟩ := iface_of_trod Tryz.underlying41 hd
  refine ⟨.iface u v, ?_, .inr ⟨u, v, rfl⟩⟩
  obtain ⟨l⟩ := cs
  have hl : l = [.iface u v] := hcs
  subst hl
  simpa using World.var?_cell hg hvar 0
theorem errVars_of_reads {w : World} (h1 : Lib.VarReads Tryz.prog w "strconv.ErrSyntax" Rows.laid_strconv_ErrSyntax) (h2 : Lib.VarReads Tryz.prog w "strconv.ErrRange" Rows.laid_strconv_ErrRange) : ErrVars w :=
  ⟨err_of_reads (g := 4) (by kernel_rfl) (by kernel_rfl) h1, err_of_reads (g := 5) (by kernel_rfl) (by kernel_rfl) h2⟩
theorem pow_of_reads {w : World} (h : Lib.VarReads Tryz.prog w "internal/strconv.uint64pow10" Rows.laid_internal_strconv_uint64pow10) : PowTab w := by
  obtain ⟨g', t', cs, fuel, p, hg', ht', hvar, hd⟩ := h
  obtain rfl := Option.some.inj ((show Tryz.prog.globalNamed "internal/strconv.uint64pow10" = some 0 by kernel_rfl).symm.trans hg')
  obtain rfl := Option.some.inj ((show (Tryz.prog.globals[0]?).map (·.type) = some 154 by kernel_rfl).symm.trans ht')
  have e : (Rows.laid_internal_strconv_uint64pow10 : DataW Unit) = Lib.tabData .u64 Lib.pow10Tab := by kernel_rfl
  rw [e] at hd
  unfold PowTab Lib.TabIs
  rw [hvar, ← Lib.cells_of_tab Tryz.underlying154 Tryz.underlying81 (by kernel_rfl) (by kernel_rfl) hd]
end Go.Proofs.YtcmhbhdiepkndaaGreatDoor

/-
  Package den, plain: what a Union makes of what comes by its inputs; a job of two Sources put together. No condition: plain definitions and lemmas.
-/
namespace Go.Proofs.YtcmhbhdiepkndaaGreatDoor
open Go.RowKit
set_option linter.unusedVariables false

/-! ### Keys of a Union -/
theorem ba_append_inj {a b c d : ByteArray} (hs : a.size = c.size) (h : a ++ b = c ++ d) : a = c ∧ b = d := by
  have h1 : (a ++ b).data.toList = (c ++ d).data.toList := by rw [h]
  rw [ByteArray.data_append, ByteArray.data_append, Array.toList_append, Array.toList_append] at h1
  obtain ⟨e1, e2⟩ := List.append_inj h1 (by rw [Array.length_toList, Array.length_toList]; exact hs)
  cases a; cases b; cases c; cases d
  exact ⟨by congr 1; exact Array.toList_inj.1 e1, by congr 1; exact Array.toList_inj.1 e2⟩
def uniPre (j : Nat) : ByteArray := ⟨#[UInt8.ofNat (48 + j), 58]⟩
theorem uniKey_pre {j : Nat} (hj : j < 4) (k : ByteArray) : uniKey (j : Int) k = uniPre j ++ k := by
  have h : (⟨(Lib.itoa (j : Int)).toArray⟩ : ByteArray) ++ ⟨#[58]⟩ = uniPre j := by
    have hc : j = 0 ∨ j = 1 ∨ j = 2 ∨ j = 3 := by omega
    rcases hc with rfl | rfl | rfl | rfl
    · decide +kernel
    · decide +kernel
    · decide +kernel
    · decide +kernel
  unfold uniKey
  rw [h]
theorem uniPre_size (j : Nat) : (uniPre j).size = 2 := rfl
theorem uniPre_inj {i j : Nat} (hi : i < 4) (hj : j < 4) (h : uniPre i = uniPre j) : i = j := by
  have hc : i = 0 ∨ i = 1 ∨ i = 2 ∨ i = 3 := by omega
  have hd : j = 0 ∨ j = 1 ∨ j = 2 ∨ j = 3 := by omega
  rcases hc with rfl | rfl | rfl | rfl <;> rcases hd with rfl | rfl | rfl | rfl <;> first | rfl | (exact absurd h (by decide))
theorem uniKey_inj {i j : Nat} (hi : i < 4) (hj : j < 4) {a b : ByteArray} (h : uniKey (i : Int) a = uniKey (j : Int) b) : i = j ∧ a = b := by
  rw [uniKey_pre hi, uniKey_pre hj] at h
  obtain ⟨h1, h2⟩ := ba_append_inj (by rw [uniPre_size, uniPre_size]) h
  exact ⟨uniPre_inj hi hj h1, h2⟩
theorem uniKey_size {j : Nat} (hj : j < 4) (k : ByteArray) : (uniKey (j : Int) k).size = k.size + 2 := by
  rw [uniKey_pre hj, ByteArray.size_append, uniPre_size]; omega

/-! ### A Union's log -/
def uniR (p : Nat × Rec) : List Rec := passR { p.2 with key := uniKey (p.1 : Int) p.2.key }
theorem run_union (fr : List Int) (text : ByteArray) (m : Int) (log : List (Nat × Rec)) : (runLog ⟨6, fr, text, m⟩ log).2 = log.flatMap uniR ∧ (runLog ⟨6, fr, text, m⟩ log).1 = [] := by
  refine snoc_ind (P := fun log => (runLog ⟨6, fr, text, m⟩ log).2 = log.flatMap uniR ∧ (runLog ⟨6, fr, text, m⟩ log).1 = []) ⟨rfl, rfl⟩ ?_ log
  intro log p ⟨i1, i2⟩
  rw [runLog_snoc]
  unfold stepLog
  simp only
  rw [i1, i2]
  refine ⟨?_, rfl⟩
  rw [List.flatMap_append]
  congr 1
  simp only [List.flatMap_cons, List.flatMap_nil, List.append_nil]
  rfl
def TagsUnder (n : Nat) (log : List (Nat × Rec)) : Prop := ∀ p ∈ log, p.1 < n
/-- Of one key of a Union's: what came by that input with that key. -/
theorem uni_at {log : List (Nat × Rec)} (ht : TagsUnder 4 log) {j : Nat} (hj : j < 4) (k : ByteArray) (hs : k.size + 2 ≤ 40) : recsAt (uniKey (j : Int) k) (log.flatMap uniR) = (recsAt k (byIn j log)).map fun r => { r with key := uniKey (j : Int) r.key } := by
  induction log with
  | nil => rfl
  | cons p log ih =>
    have ih' := ih fun q hq => ht q (List.mem_cons_of_mem _ hq)
    have hp := ht p List.mem_cons_self
    unfold recsAt byIn at ih' ⊢
    rw [List.flatMap_cons, List.filter_append, ih', List.filter_cons]
    by_cases e : p.1 = j
    · rw [if_pos (by simp [e]), List.map_cons, List.filter_cons]
      by_cases ek : p.2.key = k
      · rw [if_pos (by simp [ek]), List.map_cons]
        unfold uniR
        rw [passR_one (by show (uniKey (p.1 : Int) p.2.key).size ≤ 40; rw [uniKey_size hp, ek]; exact hs)]
        rw [List.filter_cons, if_pos (by simp [e, ek])]
        simp [e]
      · rw [if_neg (by simp [ek])]
        have : (uniR p).filter (fun r => decide (r.key = uniKey (j : Int) k)) = [] := List.filter_eq_nil_iff.2 fun x hx he => by
          rw [passR_key hx] at he
          exact ek (uniKey_inj hp hj (of_decide_eq_true he)).2
        rw [this]; rfl
    · rw [if_neg (by simp [e])]
      have : (uniR p).filter (fun r => decide (r.key = uniKey (j : Int) k)) = [] := List.filter_eq_nil_iff.2 fun x hx he => by
        rw [passR_key hx] at he
        exact e (uniKey_inj hp hj (of_decide_eq_true he)).1
      rw [this]; rfl
theorem uni_nums {log : List (Nat × Rec)} (ht : TagsUnder 4 log) {j : Nat} (hj : j < 4) (k : ByteArray) (hs : k.size + 2 ≤ 40) : numsAt (log.flatMap uniR) (uniKey (j : Int) k) = numsAt (byIn j log) k := by
  rw [numsAt_recs, uni_at ht hj k hs, List.map_map]
  rfl
theorem uni_keys {log : List (Nat × Rec)} (ht : TagsUnder 4 log) (k : ByteArray) : (∃ r ∈ log.flatMap uniR, r.key = k) ↔ ∃ p ∈ log, p.2.key.size + 2 ≤ 40 ∧ uniKey (p.1 : Int) p.2.key = k := by
  constructor
  · rintro ⟨r, hr, e⟩
    obtain ⟨p, hp, hr⟩ := List.mem_flatMap.1 hr
    have h1 := passR_key hr
    refine ⟨p, hp, ?_, by rw [← e, h1]⟩
    unfold uniR passR at hr
    split at hr
    · cases hr
    · rename_i h2
      have h3 : ¬ 40 < (uniKey (p.1 : Int) p.2.key).size := h2
      rw [uniKey_size (ht p hp)] at h3
      omega
  · rintro ⟨p, hp, hs, e⟩
    refine ⟨{ p.2 with key := uniKey (p.1 : Int) p.2.key }, List.mem_flatMap.2 ⟨p, hp, ?_⟩, e⟩
    unfold uniR
    rw [passR_one (by show (uniKey (p.1 : Int) p.2.key).size ≤ 40; rw [uniKey_size (ht p hp)]; exact hs)]
    exact List.mem_singleton.2 rfl
theorem mem_byIn {log : List (Nat × Rec)} {j : Nat} {r : Rec} : r ∈ byIn j log ↔ (j, r) ∈ log := by
  unfold byIn
  rw [List.mem_map]
  constructor
  · rintro ⟨⟨i, x⟩, hp, rfl⟩
    obtain ⟨h1, h2⟩ := List.mem_filter.1 hp
    have : i = j := by simpa using h2
    rw [← this]; exact h1
  · intro h
    exact ⟨(j, r), List.mem_filter.2 ⟨h, by simp⟩, rfl⟩
theorem byIn_len2 {log : List (Nat × Rec)} (ht : TagsUnder 2 log) : log.length = (byIn 0 log).length + (byIn 1 log).length := by
  induction log with
  | nil => rfl
  | cons p log ih =>
    have ih' := ih fun q hq => ht q (List.mem_cons_of_mem _ hq)
    have hp := ht p List.mem_cons_self
    unfold byIn at ih' ⊢
    rw [List.length_cons, ih', List.filter_cons, List.filter_cons]
    have hc : p.1 = 0 ∨ p.1 = 1 := by omega
    rcases hc with e | e
    · rw [e]; simp; omega
    · rw [e]; simp; omega
theorem uniR_len (log : List (Nat × Rec)) : (log.flatMap uniR).length ≤ log.length := by
  induction log with
  | nil => exact Nat.le_refl _
  | cons p log ih =>
    rw [List.flatMap_cons, List.length_append, List.length_cons]
    have : (uniR p).length ≤ 1 := by unfold uniR passR; split <;> simp
    omega

/-! ### Two Sources put together -/
def uniJ : List Nod := [⟨1, [], ⟨#[]⟩, 2⟩, ⟨1, [], ⟨#[]⟩, 1⟩, ⟨6, [0, 1], ⟨#[]⟩, 0⟩, ⟨10, [2], ⟨#[]⟩, 0⟩, ⟨10, [0], ⟨#[]⟩, 0⟩, ⟨10, [1], ⟨#[]⟩, 0⟩]
theorem job_uni : jobErr uniJ = 0 := by decide +kernel
theorem uni_of : ofKind uniJ 1 = [0, 1] ∧ ofKind uniJ 10 = [3, 4, 5] := by decide +kernel
theorem uni_flow (a b : List Rec) (ha : a.length ≤ 300) (hb : b.length ≤ 300) :
    ∃ f log, flowAll uniJ [a, b] = some f ∧ f.ln[3]? = some (grp (log.flatMap uniR)) ∧ f.ln[4]? = some (grp a) ∧ f.ln[5]? = some (grp b) ∧ TagsUnder 2 log ∧ byIn 0 log = a ∧ byIn 1 log = b := by
  obtain ⟨S, h0, hA, hD⟩ := flow_hist job_uni [a, b] (by rw [uni_of.1]; rfl)
  have hH0 : S.H 0 = a := hD 0 0 a (by rw [uni_of.1]; rfl) rfl
  have hH1 : S.H 1 = b := hD 1 1 b (by rw [uni_of.1]; rfl) rfl
  have hl2 := hA.2.1 2 ⟨6, [0, 1], ⟨#[]⟩, 0⟩ rfl
  have hH2 : S.H 2 = (S.M 2).flatMap uniR := (hl2.2.1 (by decide) (by decide)).2.trans (run_union _ _ _ _).1
  have ht : TagsUnder 2 (S.M 2) := hl2.2.2
  have hb0 : byIn 0 (S.M 2) = a := (hA.2.2 2 0 0 ⟨_, rfl, rfl⟩).trans hH0
  have hb1 : byIn 1 (S.M 2) = b := (hA.2.2 2 1 1 ⟨_, rfl, rfl⟩).trans hH1
  obtain ⟨l3, e3⟩ := sink_out hA (u := 3) (n := ⟨10, [2], ⟨#[]⟩, 0⟩) rfl rfl (p := 2) rfl
  obtain ⟨l4, e4⟩ := sink_out hA (u := 4) (n := ⟨10, [0], ⟨#[]⟩, 0⟩) rfl rfl (p := 0) rfl
  obtain ⟨l5, e5⟩ := sink_out hA (u := 5) (n := ⟨10, [1], ⟨#[]⟩, 0⟩) rfl rfl (p := 1) rfl
  rw [hH2] at l3
  rw [hH0] at l4
  rw [hH1] at l5
  refine ⟨S.f, S.M 2, ?_, l3, l4, l5, ht, hb0, hb1⟩
  rw [flow_cut job_uni, ← h0]
  refine if_pos (flow_ok hA fun v hv => ?_)
  have hv6 : v < 6 := hv
  have hml := byIn_len2 ht
  rw [hb0, hb1] at hml
  match v, hv6 with
  | 0, _ => rw [hH0]; omega
  | 1, _ => rw [hH1]; omega
  | 2, _ => rw [hH2]; have := uniR_len (S.M 2); omega
  | 3, _ => rw [e3]; simp
  | 4, _ => rw [e4]; simp
  | 5, _ => rw [e5]; simp
theorem nodup_len {α : Type} [DecidableEq α] : ∀ {a b : List α}, a.Nodup → (∀ x ∈ a, x ∈ b) → a.length ≤ b.length
  | [], _, _, _ => Nat.zero_le _
  | x :: a, b, hn, hs => by
    have hx := hs x List.mem_cons_self
    have h1 := nodup_len (b := b.erase x) (List.nodup_cons.1 hn).2 fun y hy => (List.mem_erase_of_ne fun e => (List.nodup_cons.1 hn).1 (by rw [← e]; exact hy)).2 (hs y (List.mem_cons_of_mem _ hy))
    rw [List.length_erase_of_mem hx] at h1
    have := List.length_pos_of_mem hx
    rw [List.length_cons]; omega
theorem LinesGrp.len_le {l : List Rec} {out : List Lin} (h : LinesGrp l out) : out.length ≤ l.length := by
  have := nodup_len h.nd (b := l.map (·.key)) fun k hk => by
    obtain ⟨r, hr, e⟩ := (h.keys k).1 hk
    exact List.mem_map.2 ⟨r, hr, e⟩
  rw [List.length_map, List.length_map] at this
  exact this
def cntShort (out : List Lin) : Nat := (out.filter fun x => decide (x.key.size + 2 ≤ 40)).length
theorem uni_count {log : List (Nat × Rec)} (ht : TagsUnder 2 log) {x0 x1 x2 : List Lin} (h0 : LinesGrp (log.flatMap uniR) x0) (h1 : LinesGrp (byIn 0 log) x1) (h2 : LinesGrp (byIn 1 log) x2) : x0.length = cntShort x1 + cntShort x2 := by
  have ht4 : TagsUnder 4 log := fun p hp => by have := ht p hp; omega
  have hk : ∀ (j : Nat) (x : List Lin), LinesGrp (byIn j log) x → ∀ k, k ∈ (x.filter fun y => decide (y.key.size + 2 ≤ 40)).map (fun y => uniKey (j : Int) y.key) ↔ ∃ r, (j, r) ∈ log ∧ r.key.size + 2 ≤ 40 ∧ uniKey (j : Int) r.key = k := fun j x hx k => by
    rw [List.mem_map]
    constructor
    · rintro ⟨y, hy, e⟩
      obtain ⟨hy1, hy2⟩ := List.mem_filter.1 hy
      obtain ⟨r, hr, er⟩ := (hx.keys y.key).1 (List.mem_map.2 ⟨y, hy1, rfl⟩)
      exact ⟨r, mem_byIn.1 hr, by rw [er]; exact of_decide_eq_true hy2, by rw [er]; exact e⟩
    · rintro ⟨r, hr, hs, e⟩
      obtain ⟨y, hy, ey⟩ := List.mem_map.1 ((hx.keys r.key).2 ⟨r, mem_byIn.2 hr, rfl⟩)
      exact ⟨y, List.mem_filter.2 ⟨hy, decide_eq_true (by rw [ey]; exact hs)⟩, by rw [ey]; exact e⟩
  have hnd : ∀ (j : Nat) (x : List Lin), j < 4 → LinesGrp (byIn j log) x → ((x.filter fun y => decide (y.key.size + 2 ≤ 40)).map (fun y => uniKey (j : Int) y.key)).Nodup := fun j x hj hx => by
    have h3 := (List.pairwise_map.1 hx.nd).sublist (List.filter_sublist (p := fun y => decide (y.key.size + 2 ≤ 40)))
    exact List.pairwise_map.2 (h3.imp fun {a b} hab e => hab (uniKey_inj hj hj e).2)
  have hp : (x0.map (·.key)).Perm (((x1.filter fun y => decide (y.key.size + 2 ≤ 40)).map (fun y => uniKey ((0 : Nat) : Int) y.key)) ++ ((x2.filter fun y => decide (y.key.size + 2 ≤ 40)).map (fun y => uniKey ((1 : Nat) : Int) y.key))) := by
    refine (List.perm_ext_iff_of_nodup h0.nd (List.nodup_append.2 ⟨hnd 0 x1 (by omega) h1, hnd 1 x2 (by omega) h2, fun a ha b hb e => ?_⟩)).2 fun k => ?_
    · obtain ⟨r, _, _, e1⟩ := (hk 0 x1 h1 a).1 ha
      obtain ⟨r', _, _, e2⟩ := (hk 1 x2 h2 b).1 hb
      have := (uniKey_inj (i := 0) (j := 1) (by omega) (by omega) (e1.trans (e.trans e2.symm))).1
      omega
    · rw [h0.keys, uni_keys ht4, List.mem_append, hk 0 x1 h1, hk 1 x2 h2]
      constructor
      · rintro ⟨p, hp, hs, e⟩
        have hc : p.1 = 0 ∨ p.1 = 1 := by have := ht p hp; omega
        obtain ⟨i, r⟩ := p
        rcases hc with rfl | rfl
        · exact .inl ⟨r, hp, hs, e⟩
        · exact .inr ⟨r, hp, hs, e⟩
      · rintro (⟨r, hr, hs, e⟩ | ⟨r, hr, hs, e⟩)
        · exact ⟨_, hr, hs, e⟩
        · exact ⟨_, hr, hs, e⟩
  have hl := hp.length_eq
  rw [List.length_map, List.length_append, List.length_map, List.length_map] at hl
  exact hl
end Go.Proofs.YtcmhbhdiepkndaaGreatDoor

/-
  The contract of den.Prefix: it tells whether any lines are the beginning of any others. No condition.
-/
namespace Go.Proofs.YtcmhbhdiepkndaaGreatDoor
open Go.RowKit
set_option linter.unusedVariables false


def keyIs (key : ByteArray) (y : Lin) : Bool := y.key.toList == key.toList
def findK (b : List Lin) (key : ByteArray) : Nat := b.findIdx (keyIs key)
def okL (b : List Lin) (x : Lin) : Bool := match b[findK b x.key]? with
  | none => false
  | some y => decide (x.nums.length ≤ y.nums.length ∧ x.nums = y.nums.take x.nums.length)
def pfx (a b : List Lin) : Bool := a.all (okL b)

theorem findK_le (b : List Lin) (key : ByteArray) : findK b key ≤ b.length := List.findIdx_le_length
theorem findK_hit (b : List Lin) (key : ByteArray) (k : Nat) (hk : k < b.length) (h : keyIs key b[k] = true) (hn : ∀ i (hi : i < k), keyIs key (b[i]'(by omega)) = false) : findK b key = k := by
  unfold findK
  rw [List.findIdx_eq hk]
  exact ⟨h, fun i hi => by simpa using hn i hi⟩
theorem findK_none (b : List Lin) (key : ByteArray) (hn : ∀ i (hi : i < b.length), keyIs key b[i] = false) : findK b key = b.length := by
  unfold findK
  rw [List.findIdx_eq_length]
  intro x hx
  obtain ⟨i, hi, rfl⟩ := List.mem_iff_getElem.1 hx
  exact hn i hi

set_option maxRecDepth 100000 in
theorem same_key (k key : ByteArray) (v : Value) (g : Nat) (w : World) (hc : w.cell? ⟨g, 0, none⟩ = some (.string key)) (hg : g < w.heap.size) :
    Calls Tryz.prog 23 #[.agg #[.string k, v], .pointer (some ⟨g, 0, none⟩)] w fun e w' => e = .returned (.bool (k.toList == key.toList)) ∧ Below w.heap.size w w' := by
  go_enter Tryz.func23, Tryz.ntmps23
  go_wp2
  go_ret
  exact ⟨rfl, (Below.refl _ _).alloc (Nat.le_refl _) _⟩

set_option maxRecDepth 100000 in
theorem index_any (A : Option Addr) (c g : Nat) (b : List Lin) (key : ByteArray) (w : World) (h : SlA linE (· < w.heap.size) w A c b) (hc : w.cell? ⟨g, 0, none⟩ = some (.string key)) (hg : g < w.heap.size) :
    Calls Tryz.prog 22 #[.slice A b.length c, .func (.func 23) #[] #[.pointer (some ⟨g, 0, none⟩)]] w fun e w' =>
      ((findK b key < b.length ∧ e = .returned (.int .i64 (findK b key))) ∨ (findK b key = b.length ∧ e = .returned (.int .i64 (-1)))) ∧ Below w.heap.size w w' := by
  have hn := h.le
  have H := Lib.hid h
  have HC := Lib.hid hc
  clear h hc
  go_enter Tryz.func22, Tryz.ntmps22
  go_wp2
  go_loopw [8] (fun i wr => ∃ k : Nat, k ≤ b.length ∧ i = .int .i64 k ∧ Hid (∀ i (hi : i < k), ∀ hb : i < b.length, keyIs key b[i] = false) ∧ Hid (Below w.heap.size w wr)) (fun i _ => b.length - (intOf i).toNat)
  case atStart => exact ⟨0, Nat.zero_le _, rfl, fun i hi => absurd hi (by omega), Below.refl _ _⟩
  case round =>
    obtain ⟨k, hk, rfl, HN, HB⟩ := hrel
    by_cases hlt : k < b.length
    · obtain ⟨b0, o0, A', c', rfl, _, x0, x1, _, _⟩ := (H.out.keep (Same.below HB.out)).lin_ hlt
      have hgw : wr.cell? ⟨g, 0, none⟩ = some (.string key) := (HB.out.cell (p := ⟨g, 0, none⟩) hg).trans HC.out
      have hgl : g < wr.heap.size := by have := HB.out.size; omega
      by_cases hkey : keyIs key b[k] = true
      · have hfin := findK_hit b key k hlt hkey (fun i hi => HN.out i hi _)
        have hk2 : ((b[k]).key.toList == key.toList) = true := hkey
        obtain ⟨y, hy⟩ : ∃ y, y = b[k].key := ⟨_, rfl⟩
        rw [← hy] at hk2 x0
        have HF := Lib.hid hfin
        clear hfin hkey hy
        go_wp2_with fail
        refine (same_key y key _ g _ hgw hgl).mono ?_
        rintro e w2 ⟨rfl, hb2⟩
        rw [hk2]
        go_wp2_with fail
        go_ret
        refine ⟨.inl ⟨by rw [HF.out]; exact hlt, by rw [HF.out]; rfl⟩, HB.out.trans (hb2.mono HB.out.size)⟩
      · have hkey' : keyIs key b[k] = false := by simpa using hkey
        have hk2 : ((b[k]).key.toList == key.toList) = false := hkey'
        obtain ⟨y, hy⟩ : ∃ y, y = b[k].key := ⟨_, rfl⟩
        rw [← hy] at hk2 x0
        have HK := Lib.hid hkey'
        clear hkey hkey' hy
        go_wp2_with fail
        refine (same_key y key _ g _ hgw hgl).mono ?_
        rintro e w2 ⟨rfl, hb2⟩
        rw [hk2]
        go_wp2_with fail
        go_roundw
        case rel =>
          refine ⟨k + 1, by omega, by go_num, fun i hi hb => ?_, HB.out.trans (hb2.mono HB.out.size)⟩
          by_cases e : i = k
          · subst e; exact HK.out
          · exact HN.out i (by omega) hb
        case measure => simp [intOf]; omega
    · go_wp2_with fail
      go_ret
      refine ⟨.inr ⟨findK_none b key (fun i hi => HN.out i (by omega) hi), rfl⟩, HB.out⟩

set_option maxRecDepth 100000 in
theorem equal_any (A B : Option Addr) (c d : Nat) (l m : List Int) (w : World) (F G : Nat → Prop) (ha : SlA (intE .i64) F w A c l) (hb : SlA (intE .i64) G w B d m) :
    Calls Tryz.prog 24 #[.slice A l.length c, .slice B m.length d] w fun e w' => e = .returned (.bool (decide (l = m))) ∧ ∃ k, w' = w.drewN k := by
  have hn := ha.le
  have hm := hb.le
  have H := Lib.hid ha
  have H' := Lib.hid hb
  clear ha hb
  by_cases hl : l.length = m.length
  · have hb1 : ((l.length : Int) == m.length) = true := by rw [beq_iff_eq]; omega
    have HL := Lib.hid hl
    clear hl
    go_enter Tryz.func24, Tryz.ntmps24
    go_wp2
    go_loopw [13] (fun i wr => ∃ k q : Nat, k ≤ l.length ∧ i = .int .i64 k ∧ wr = w.drewN q ∧ Hid (l.take k = m.take k)) (fun i _ => l.length - (intOf i).toNat)
    case atStart => exact ⟨0, 0, Nat.zero_le _, rfl, rfl, rfl⟩
    case round =>
      obtain ⟨k, q, hk, rfl, rfl, HT⟩ := hrel
      by_cases hlt : k < l.length
      · have hlt' : k < m.length := by have := HL.out; omega
        obtain ⟨b, off, rfl, _, c0, _⟩ := H.out.int_ hlt
        obtain ⟨b', off', rfl, _, d0, _⟩ := H'.out.int_ hlt'
        have t1 := List.take_succ_eq_append_getElem hlt
        have t2 := List.take_succ_eq_append_getElem hlt'
        obtain ⟨x, hx⟩ : ∃ x, x = l[k] := ⟨_, rfl⟩
        obtain ⟨y, hy⟩ : ∃ y, y = m[k] := ⟨_, rfl⟩
        rw [← hx] at c0 t1
        rw [← hy] at d0 t2
        have T1 := Lib.hid t1
        have T2 := Lib.hid t2
        by_cases hxy : x = y
        · subst hxy
          clear hx hy t1 t2
          go_wp2
          go_quiet (fail)
          go_wp2
          go_roundw
          case rel =>
            refine ⟨k + 1, q + nq, by omega, by go_num, by simp, ?_⟩
            show _ = _
            rw [T1.out, T2.out, HT.out]
          case measure => simp [intOf]; omega
        · have hne : (x == y) = false := beq_eq_false_iff_ne.2 hxy
          have hfin : decide (l = m) = false := by
            rw [decide_eq_false_iff_not]
            intro e
            subst e
            exact hxy (hx.trans hy.symm)
          have HF := Lib.hid hfin
          clear hx hy t1 t2 hxy hfin
          go_wp2
          go_quiet (fail)
          go_wp2
          go_ret
          rw [HF.out]
          exact ⟨rfl, q + nq, by simp⟩
      · have hfin : decide (l = m) = true := by
          rw [decide_eq_true_iff]
          have h1 := HT.out
          rw [List.take_of_length_le (by omega), List.take_of_length_le (by have := HL.out; omega)] at h1
          exact h1
        have HF := Lib.hid hfin
        clear hfin
        go_wp2
        go_ret
        rw [HF.out]
        exact ⟨rfl, q, rfl⟩
  · have hb1 : ((l.length : Int) == m.length) = false := by rw [beq_eq_false_iff_ne]; omega
    have hfin : decide (l = m) = false := by
      rw [decide_eq_false_iff_not]; intro e; subst e; exact hl rfl
    have HF := Lib.hid hfin
    clear hl hfin
    go_enter Tryz.func24, Tryz.ntmps24
    go_wp2
    go_ret
    rw [HF.out]
    exact ⟨rfl, 0, rfl⟩

theorem equal_n (A B : Option Addr) (c d n : Nat) (l m : List Int) (w : World) (F G : Nat → Prop) (hl : l.length = n) (hm : m.length = n) (ha : SlA (intE .i64) F w A c l) (hb : SlA (intE .i64) G w B d m) :
    Calls Tryz.prog 24 #[.slice A n c, .slice B n d] w fun e w' => e = .returned (.bool (decide (l = m))) ∧ ∃ k, w' = w.drewN k := by
  have h := equal_any A B c d l m w F G ha hb
  rw [hl, hm] at h
  exact h
theorem pfx_false {a b : List Lin} {k : Nat} (hk : k < a.length) (h : okL b a[k] = false) : pfx a b = false := by
  unfold pfx
  rw [List.all_eq_false]
  exact ⟨a[k], List.getElem_mem hk, by rw [h]; simp⟩
theorem pfx_true {a b : List Lin} (h : ∀ i (hi : i < a.length), okL b a[i] = true) : pfx a b = true := by
  unfold pfx
  rw [List.all_eq_true]
  intro x hx
  obtain ⟨i, hi, rfl⟩ := List.mem_iff_getElem.1 hx
  exact h i hi
theorem okL_none {b : List Lin} {x : Lin} (h : findK b x.key = b.length) : okL b x = false := by
  unfold okL; rw [h, List.getElem?_eq_none (Nat.le_refl _)]
theorem okL_some {b : List Lin} {x : Lin} (h : findK b x.key < b.length) : okL b x = decide (x.nums.length ≤ b[findK b x.key].nums.length ∧ x.nums = b[findK b x.key].nums.take x.nums.length) := by
  unfold okL; rw [List.getElem?_eq_getElem h]

set_option maxHeartbeats 1000000 in
set_option maxRecDepth 100000 in
theorem denPrefix_any (A B : Option Addr) (c d : Nat) (a b : List Lin) (w : World) (ha : SlA linE (· < w.heap.size) w A c a) (hb : SlA linE (· < w.heap.size) w B d b) :
    Calls Tryz.prog 11 #[.slice A a.length c, .slice B b.length d] w fun e w' => e = .returned (.bool (pfx a b)) ∧ Below w.heap.size w w' := by
  have hn := ha.le
  have hm := hb.le
  have H := Lib.hid ha
  have H' := Lib.hid hb
  clear ha hb
  go_enter Tryz.func11, Tryz.ntmps11
  go_wp2
  go_loopw [10] (fun i wr => ∃ k : Nat, k ≤ a.length ∧ i = .int .i64 k ∧ Hid (∀ i (hi : i < k), ∀ ha : i < a.length, okL b a[i] = true) ∧ Hid (Below w.heap.size w wr)) (fun i _ => a.length - (intOf i).toNat)
  case atStart => exact ⟨0, Nat.zero_le _, rfl, fun i hi => absurd hi (by omega), Below.refl _ _⟩
  case round =>
    obtain ⟨k, hk, rfl, HN, HB⟩ := hrel
    by_cases hlt : k < a.length
    · have hsz := HB.out.size
      have haw := (H.out.keep (Same.below HB.out))
      have hbw := (H'.out.keep (Same.below HB.out)).more (F' := (· < wr.heap.size)) (fun j (hj : j < w.heap.size) => by show j < wr.heap.size; omega)
      obtain ⟨b0, o0, A', c', rfl, _, x0, x1, _, hnum⟩ := haw.lin_ hlt
      obtain ⟨x, hx⟩ : ∃ x, x = a[k] := ⟨_, rfl⟩
      rw [← hx] at x0 x1 hnum
      have HX := Lib.hid hx
      have HNUM := Lib.hid hnum
      have HBW := Lib.hid hbw
      have hxl := hnum.le
      clear hx hnum hbw haw
      go_wp2_with fail
      have hbel1 : Below wr.heap.size wr (wr.alloc (.cells #[.string x.key, .slice A' x.nums.length c'] 32)) := (Below.refl _ _).alloc (Nat.le_refl _) _
      refine (index_any B d wr.heap.size b x.key _ (HBW.out.below hbel1) (by simp) (by simp)).mono ?_
      rintro e w2 ⟨hres, hb2⟩
      have hb3 : Below w.heap.size w w2 := HB.out.trans ((hbel1.mono hsz).trans (hb2.mono (by simp; omega)))
      have y0 : w2.cell? ⟨wr.heap.size, 0, none⟩ = some (.string x.key) := (hb2.cell (p := ⟨wr.heap.size, 0, none⟩) (by simp)).trans (by simp)
      have y1 : w2.cell? ⟨wr.heap.size, 1, none⟩ = some (.slice A' x.nums.length c') := (hb2.cell (p := ⟨wr.heap.size, 1, none⟩) (by simp)).trans (by simp)
      have HB3 := Lib.hid hb3
      have hnum2 : SlA (intE .i64) (· < w.heap.size) w2 A' c' x.nums :=
        HNUM.out.keep ((Same.below (hbel1.trans (hb2.mono (by simp)))).less (fun j (hj : j < w.heap.size) => by show j < wr.heap.size; omega))
      have hbw2 : SlA linE (· < w.heap.size) w2 B d b := H'.out.keep (Same.below hb3)
      have HNUM2 := Lib.hid hnum2
      clear hb2 hb3 hbel1 HNUM HBW hnum2 x0 x1
      rcases hres with ⟨hf, rfl⟩ | ⟨hf, rfl⟩
      · obtain ⟨b1, o1, A1, c1, rfl, _, z0, z1, _, hnum1⟩ := hbw2.lin_ hf
        have hok := okL_some (x := x) hf
        obtain ⟨j, hj⟩ : ∃ j, j = findK b x.key := ⟨_, rfl⟩
        obtain ⟨y, hy⟩ : ∃ y, y = b[findK b x.key] := ⟨_, rfl⟩
        rw [← hy] at z0 z1 hnum1 hok
        rw [← hj] at z0 z1 hf ⊢
        have hyl := hnum1.le
        have HOK := Lib.hid hok
        have HNUM1 := Lib.hid hnum1
        clear hj hy hok hnum1 hbw2
        by_cases hlen : x.nums.length ≤ y.nums.length
        · have hd1 : decide (y.nums.length < x.nums.length) = false := by simp; omega
          have hcap : y.nums.length ≤ c1 := HNUM1.out.1
          have hxc : x.nums.length ≤ c1 := Nat.le_trans hlen hcap
          have hj0 : decide ((j : Int) < 0) = false := by rw [decide_eq_false_iff_not]; omega
          have hxc2 : (x.nums.length : Int) ≤ (c1 : Int) := by omega
          by_cases heq : x.nums = y.nums.take x.nums.length
          · have hokt : okL b x = true := by rw [HOK.out, decide_eq_true_iff]; exact ⟨hlen, heq⟩
            have HE := Lib.hid heq
            have HT := Lib.hid hokt
            clear heq hokt
            have HY := Lib.hid (HNUM1.out.head hlen)
            have HYL := Lib.hid (show (y.nums.take x.nums.length).length = x.nums.length by rw [List.length_take]; omega)
            clear HNUM1
            go_wp2_with fail
            go_quiet ((go_at_call 24; exact Calls.quiet_of (equal_n _ _ _ _ _ x.nums (y.nums.take x.nums.length) _ _ _ rfl HYL.out (HNUM2.out.drewN _) (HY.out.drewN _))))
            rw [show decide (x.nums = y.nums.take x.nums.length) = true from decide_eq_true HE.out]
            go_wp2_with fail
            go_roundw
            case rel =>
              refine ⟨k + 1, by omega, by go_num, fun i hi hai => ?_, bdrewN HB3.out nq⟩
              by_cases e : i = k
              · subst e; rw [← HX.out]; exact HT.out
              · exact HN.out i (by omega) hai
            case measure => simp [intOf]; omega
          · have hokf : okL b x = false := by rw [HOK.out, decide_eq_false_iff_not]; exact fun h => heq h.2
            have hfin := pfx_false hlt (by rw [← HX.out]; exact hokf)
            have HF := Lib.hid hfin
            have HE := Lib.hid heq
            have HT := Lib.hid hokf
            clear heq hokf hfin
            have HY := Lib.hid (HNUM1.out.head hlen)
            have HYL := Lib.hid (show (y.nums.take x.nums.length).length = x.nums.length by rw [List.length_take]; omega)
            clear HNUM1
            go_wp2_with fail
            go_quiet ((go_at_call 24; exact Calls.quiet_of (equal_n _ _ _ _ _ x.nums (y.nums.take x.nums.length) _ _ _ rfl HYL.out (HNUM2.out.drewN _) (HY.out.drewN _))))
            rw [show decide (x.nums = y.nums.take x.nums.length) = false from decide_eq_false HE.out]
            go_wp2_with fail
            go_ret
            rw [HF.out]
            exact ⟨rfl, bdrewN HB3.out _⟩
        · have hd1 : decide (y.nums.length < x.nums.length) = true := by simp; omega
          have hj0 : decide ((j : Int) < 0) = false := by rw [decide_eq_false_iff_not]; omega
          have hokf : okL b x = false := by rw [HOK.out, decide_eq_false_iff_not]; exact fun h => hlen h.1
          have hfin := pfx_false hlt (by rw [← HX.out]; exact hokf)
          have HF := Lib.hid hfin
          clear hokf hfin hlen
          go_wp2_with fail
          go_quiet (fail)
          go_wp2
          go_ret
          rw [HF.out]
          exact ⟨rfl, bdrewN HB3.out _⟩
      · have hfin := pfx_false hlt (by rw [← HX.out]; exact okL_none hf)
        have HF := Lib.hid hfin
        clear hfin hf hbw2
        have hneg : decide ((-1 : Int) < 0) = true := by decide
        go_wp2_with fail
        go_quiet (fail)
        go_wp2
        go_ret
        rw [HF.out]
        exact ⟨rfl, bdrewN HB3.out _⟩
    · have hfin : pfx a b = true := pfx_true (fun i hi => HN.out i (by omega) hi)
      have HF := Lib.hid hfin
      clear hfin
      go_wp2
      go_ret
      rw [HF.out]
      exact ⟨rfl, HB.out⟩
end Go.Proofs.YtcmhbhdiepkndaaGreatDoor

/-
  Package den, plain: more data make more of the same: key by key, what each node hands on of the first is the beginning of what it hands on of all. No condition: plain definitions and lemmas.
-/
namespace Go.Proofs.YtcmhbhdiepkndaaGreatDoor
open Go.RowKit
set_option linter.unusedVariables false

/-- Key by key, a beginning. -/
def Pre (a b : List Rec) : Prop := ∀ k, recsAt k a <+: recsAt k b
theorem Pre.refl (a : List Rec) : Pre a a := fun _ => List.prefix_refl _
theorem Pre.of {a b : List Rec} (h : a <+: b) : Pre a b := fun k => h.filter _
theorem recsAt_app (k : ByteArray) (a b : List Rec) : recsAt k (a ++ b) = recsAt k a ++ recsAt k b := by unfold recsAt; rw [List.filter_append]
theorem run_more (n : Nod) (a b : List (Nat × Rec)) : (runLog n a).2 <+: (runLog n (a ++ b)).2 := by
  refine snoc_ind (P := fun b => (runLog n a).2 <+: (runLog n (a ++ b)).2) (by rw [List.append_nil]; exact List.prefix_refl _) ?_ b
  intro b p ih
  rw [← List.append_assoc, runLog_snoc]
  exact ih.trans (List.prefix_append _ _)
theorem log_more {a b : List Rec} (h : a <+: b) : ∃ c, logOf b = logOf a ++ c := by
  obtain ⟨c, rfl⟩ := h
  exact ⟨logOf c, by unfold logOf; rw [List.map_append]⟩
/-- A node that keeps the keys. -/
theorem pre_keep {n : Nod} (h4 : n.kind ≠ 4) (h6 : n.kind ≠ 6) {a b : List Rec} (h : Pre a b) : Pre (runLog n (logOf a)).2 (runLog n (logOf b)).2 := fun k => by
  rw [(run_key h4 h6 k (logOf a)).1, (run_key h4 h6 k (logOf b)).1, atKey_log, atKey_log]
  obtain ⟨c, hc⟩ := log_more (h k)
  rw [hc]
  exact run_more n _ _
theorem recsAt_nil {k : ByteArray} {l : List Rec} (h : recsAt k l ≠ []) : ∃ r ∈ l, r.key = k := by
  obtain ⟨r, hr⟩ := List.exists_mem_of_ne_nil _ h
  obtain ⟨h1, h2⟩ := List.mem_filter.1 hr
  exact ⟨r, h1, of_decide_eq_true h2⟩
/-- A node that turns the keys, no two into one. -/
theorem pre_turn {g : Rec → List Rec} (hg : ∀ r r' x x', x ∈ g r → x' ∈ g r' → x.key = x'.key → r.key = r'.key) {a b : List Rec} (h : Pre a b) : Pre (a.flatMap g) (b.flatMap g) := fun k => by
  by_cases he : recsAt k (a.flatMap g) = []
  · rw [he]; exact List.nil_prefix
  · obtain ⟨x, hx, hxk⟩ := recsAt_nil he
    obtain ⟨r, hr, hxr⟩ := List.mem_flatMap.1 hx
    have only : ∀ l : List Rec, recsAt k (l.flatMap g) = recsAt k ((recsAt r.key l).flatMap g) := fun l => by
      induction l with
      | nil => rfl
      | cons y l ih =>
        rw [List.flatMap_cons, recsAt_app, ih]
        by_cases hy : y.key = r.key
        · rw [show recsAt r.key (y :: l) = y :: recsAt r.key l from List.filter_cons_of_pos (by simp [hy]), List.flatMap_cons, recsAt_app]
        · rw [show recsAt r.key (y :: l) = recsAt r.key l from List.filter_cons_of_neg (by simp [hy])]
          rw [show recsAt k (g y) = [] from List.filter_eq_nil_iff.2 fun z hz e => hy (hg _ _ _ _ hz hxr ((of_decide_eq_true e).trans hxk.symm))]
          rfl
    rw [only a, only b]
    obtain ⟨c, hc⟩ := h r.key
    rw [← hc, List.flatMap_append, recsAt_app]
    exact List.prefix_append _ _
theorem last_cut {a b s t : List UInt8} (h : a ++ 47 :: s = b ++ 47 :: t) (hs : (47 : UInt8) ∉ s) (ht : (47 : UInt8) ∉ t) : a = b := by
  induction a generalizing b with
  | nil =>
    cases b with
    | nil => rfl
    | cons y b =>
      injection h with h1 h2
      exact absurd (by rw [h2]; simp) hs
  | cons x a ih =>
    cases b with
    | nil =>
      injection h with h1 h2
      exact absurd (by rw [← h2]; simp) ht
    | cons y b =>
      injection h with h1 h2
      rw [h1, ih h2]
theorem itoa_slash (n : Int) : (47 : UInt8) ∉ Lib.itoa n := fun h => by
  have hd : ∀ u, (47 : UInt8) ∉ Lib.decDigits u := fun u hu => absurd (dec_digs u 47 hu) (by decide)
  unfold Lib.itoa at h
  split at h
  · rcases List.mem_cons.1 h with h | h
    · exact absurd h (by decide)
    · exact hd _ h
  · exact hd _ h
theorem subKey_list (k : ByteArray) (n : Int) : (subKey k n).data.toList = k.data.toList ++ 47 :: Lib.itoa n := by
  unfold subKey
  rw [ByteArray.data_append, ByteArray.data_append, Array.toList_append, Array.toList_append]
  rfl
theorem subKey_inj {a b : ByteArray} {m n : Int} (h : subKey a m = subKey b n) : a = b := by
  have h1 : (subKey a m).data.toList = (subKey b n).data.toList := by rw [h]
  rw [subKey_list, subKey_list] at h1
  have h2 := last_cut h1 (itoa_slash m) (itoa_slash n)
  cases a; cases b
  congr 1
  exact Array.toList_inj.1 h2
def subR (t : ByteArray) (r : Rec) : List Rec := passR { r with key := subKey r.key (evalOf t r.num 0) }
theorem run_sub (fr : List Int) (t : ByteArray) (m : Int) (d : List Rec) : (runLog ⟨4, fr, t, m⟩ (logOf d)).2 = d.flatMap (subR t) := by
  refine snoc_ind (P := fun d => (runLog ⟨4, fr, t, m⟩ (logOf d)).2 = d.flatMap (subR t)) rfl ?_ d
  intro d r ih
  rw [logOf_snoc, runLog_snoc, List.flatMap_append]
  show (runLog _ (logOf d)).2 ++ subR t r = _
  rw [ih]; simp
theorem pre_sub {n : Nod} (h4 : n.kind = 4) {a b : List Rec} (h : Pre a b) : Pre (runLog n (logOf a)).2 (runLog n (logOf b)).2 := by
  obtain ⟨kd, fr, t, m⟩ := n
  simp only at h4
  subst h4
  rw [run_sub, run_sub]
  refine pre_turn (fun r r' x x' hx hx' e => ?_) h
  rw [passR_key hx, passR_key hx'] at e
  exact subKey_inj e
theorem pre_union {la lb : List (Nat × Rec)} (ha : TagsUnder 4 la) (hb : TagsUnder 4 lb) (h : ∀ j, j < 4 → Pre (byIn j la) (byIn j lb)) : Pre (la.flatMap uniR) (lb.flatMap uniR) := fun k => by
  by_cases he : recsAt k (la.flatMap uniR) = []
  · rw [he]; exact List.nil_prefix
  · obtain ⟨x, hx, hxk⟩ := recsAt_nil he
    obtain ⟨p, hp, hs, e⟩ := (uni_keys ha k).1 ⟨x, hx, hxk⟩
    have hpj := ha p hp
    rw [← e, uni_at ha hpj _ hs, uni_at hb hpj _ hs]
    exact (h p.1 hpj p.2.key).map _

/-! ### How much -/
theorem pre_len : ∀ (m : Nat) (a b : List Rec), a.length ≤ m → (∀ k, (recsAt k a).length ≤ (recsAt k b).length) → a.length ≤ b.length := by
  intro m
  induction m with
  | zero => intro a b hm _; omega
  | succ m ih =>
    intro a b hm h
    cases a with
    | nil => exact Nat.zero_le _
    | cons r a =>
      have part : ∀ l : List Rec, l.length = (recsAt r.key l).length + (l.filter fun x => !decide (x.key = r.key)).length := fun l => by
        induction l with
        | nil => rfl
        | cons y l ih =>
          unfold recsAt at ih ⊢
          rw [List.length_cons, ih]
          by_cases hy : y.key = r.key
          · rw [List.filter_cons_of_pos (by simp [hy]), List.filter_cons_of_neg (by simp [hy]), List.length_cons]; omega
          · rw [List.filter_cons_of_neg (by simp [hy]), List.filter_cons_of_pos (by simp [hy]), List.length_cons]; omega
      have rest : ∀ (k : ByteArray) (l : List Rec), recsAt k (l.filter fun x => !decide (x.key = r.key)) = if k = r.key then [] else recsAt k l := fun k l => by
        unfold recsAt
        rw [List.filter_filter]
        by_cases hk : k = r.key
        · rw [if_pos hk]
          exact List.filter_eq_nil_iff.2 fun x _ e => by
            simp only [Bool.and_eq_true, decide_eq_true_eq, Bool.not_eq_true', decide_eq_false_iff_not] at e
            exact e.2 (e.1.trans hk)
        · rw [if_neg hk]
          refine List.filter_congr fun x _ => ?_
          by_cases hx : x.key = k
          · simp [hx, hk]
          · simp [hx]
      have h1 := part (r :: a)
      have h2 := part b
      have h3 := h r.key
      have h4 := ih ((r :: a).filter fun x => !decide (x.key = r.key)) (b.filter fun x => !decide (x.key = r.key)) (by
        have : 1 ≤ (recsAt r.key (r :: a)).length := by
          rw [show recsAt r.key (r :: a) = r :: recsAt r.key a from List.filter_cons_of_pos (by simp)]; simp
        omega) (fun k => by
        rw [rest, rest]
        split
        · exact Nat.le_refl _
        · exact h k)
      omega
theorem Pre.len {a b : List Rec} (h : Pre a b) : a.length ≤ b.length := pre_len a.length a b (Nat.le_refl _) fun k => (h k).length_le

/-! ### Node by node -/
theorem node_ins {J : List Nod} (hJ : jobErr J = 0) {v : Nat} {n : Nod} (hn : J[v]? = some n) : 1 ≤ n.kind ∧ n.kind ≤ 10 ∧ inLow n.kind ≤ n.from_.length ∧ n.from_.length ≤ inHigh n.kind := by
  obtain ⟨hv, he⟩ := List.getElem?_eq_some_iff.1 hn
  have h0 := nodes_zero J 0 (job_parts hJ).2.1 v hv
  rw [he] at h0
  unfold nodeErr at h0
  split at h0
  · cases h0
  · split at h0
    · cases h0
    · rename_i h1 h2
      omega
theorem node_one {J : List Nod} (hJ : jobErr J = 0) {v : Nat} {n : Nod} (hn : J[v]? = some n) (h1 : n.kind ≠ 1) (h6 : n.kind ≠ 6) : ∃ p : Nat, p < v ∧ n.from_ = [(p : Int)] := by
  obtain ⟨_, _, h2, h3⟩ := node_ins hJ hn
  unfold inLow at h2
  unfold inHigh at h3
  rw [if_neg h1] at h2 h3
  rw [if_neg h6] at h3
  obtain ⟨f, hf⟩ := List.length_eq_one_iff.1 (show n.from_.length = 1 by omega)
  obtain ⟨hv, he⟩ := List.getElem?_eq_some_iff.1 hn
  have := job_from hJ hv f (by rw [he, hf]; exact List.mem_singleton.2 rfl)
  exact ⟨f.toNat, by omega, by rw [hf]; congr 1; omega⟩
theorem grow_all {J : List Nod} (hJ : jobErr J = 0) {S S' : Sim} (h : AllRight J S) (h' : AllRight J S') (hs : ∀ v n, J[v]? = some n → n.kind = 1 → Pre (S.H v) (S'.H v)) : ∀ v, v < J.length → Pre (S.H v) (S'.H v) := by
  intro v
  induction v using Nat.strongRecOn with
  | ind v ih =>
    intro hv
    have hn := List.getElem?_eq_getElem hv
    generalize J[v] = n at hn
    by_cases h1 : n.kind = 1
    · exact hs v n hn h1
    by_cases h10 : n.kind = 10
    · rw [((h.2.1 v n hn).1 h10).2]; exact fun k => List.nil_prefix
    by_cases h6 : n.kind = 6
    · have ht : ∀ {T : Sim}, AllRight J T → TagsUnder 4 (T.M v) ∧ T.H v = (T.M v).flatMap uniR := fun {T} hT => by
        refine ⟨fun p hp => ?_, ?_⟩
        · have h5 := (hT.2.1 v n hn).2.2 p hp
          have h7 := (node_ins hJ hn).2.2.2
          rw [h6] at h7
          have : inHigh 6 = 4 := rfl
          omega
        · rw [((hT.2.1 v n hn).2.1 h10 h1).2]
          obtain ⟨kd, fr, t, m⟩ := n
          simp only at h6
          subst h6
          exact (run_union fr t m _).1
      obtain ⟨t1, e1⟩ := ht h
      obtain ⟨t2, e2⟩ := ht h'
      rw [e1, e2]
      refine pre_union t1 t2 fun j hj => ?_
      by_cases hjl : j < n.from_.length
      · have hfj := job_from hJ hv n.from_[j] (by
          rw [show J[v] = n from Option.some.inj ((List.getElem?_eq_getElem hv).symm.trans hn)]; exact List.getElem_mem hjl)
        have hin : InFrom J v j n.from_[j].toNat := ⟨n, hn, by rw [List.getElem?_eq_getElem hjl]; congr 1; omega⟩
        rw [h.2.2 v j _ hin, h'.2.2 v j _ hin]
        exact ih _ (by omega) (by omega)
      · have : byIn j (S.M v) = [] := by
          unfold byIn
          rw [List.filter_eq_nil_iff.2 fun p hp e => hjl (by
            have h5 := (h.2.1 v n hn).2.2 p hp
            have : p.1 = j := by simpa using e
            omega)]
          rfl
        rw [this]; exact fun k => List.nil_prefix
    · obtain ⟨p, hpv, hf⟩ := node_one hJ hn h1 h6
      rw [single_out h hn h10 h1 hf, single_out h' hn h10 h1 hf]
      have hp := ih p hpv (by omega)
      by_cases h4 : n.kind = 4
      · exact pre_sub h4 hp
      · exact pre_keep h4 h6 hp

/-! ### What All tells of less data, and of sorted -/
def PreD (a b : List (List Rec)) : Prop := a.length = b.length ∧ ∀ (i : Nat) (x y : List Rec), a[i]? = some x → b[i]? = some y → Pre x y
theorem data_pre : ∀ {a b : List (List Rec)}, PreD a b → (∀ (i : Nat) (x y : List Rec), a[i]? = some x → b[i]? = some y → ∀ r ∈ x, r ∈ y) → dataErr b = 0 → dataErr a = 0
  | [], _, _, _, _ => rfl
  | x :: a, [], h, _, _ => absurd h.1 (by simp)
  | x :: a, y :: b, h, hm, h0 => by
    unfold dataErr at h0 ⊢
    have hxy := h.2 0 x y rfl rfl
    have hxm := hm 0 x y rfl rfl
    have hl := hxy.len
    split at h0
    · cases h0
    · split at h0
      · cases h0
      · rename_i h1 h2
        rw [if_neg (by omega), if_neg (fun e => h2 (by
          obtain ⟨r, hr, e⟩ := List.any_eq_true.1 e
          exact List.any_eq_true.2 ⟨r, hxm r hr, e⟩))]
        exact data_pre ⟨by simpa using h.1, fun i x y hx hy => h.2 (i + 1) x y hx hy⟩ (fun i x y hx hy => hm (i + 1) x y hx hy) h0
theorem den_split {J : List Nod} {data : List (List Rec)} (h : denErr J data = 0) : jobErr J = 0 ∧ data.length = (ofKind J 1).length ∧ dataErr data = 0 := by
  unfold denErr at h
  split at h
  · rename_i h1; exact absurd h h1
  · split at h
    · cases h
    · rename_i h1 h2
      exact ⟨Classical.byContradiction h1, Classical.byContradiction h2, h⟩
theorem den_join {J : List Nod} {data : List (List Rec)} (h1 : jobErr J = 0) (h2 : data.length = (ofKind J 1).length) (h3 : dataErr data = 0) : denErr J data = 0 := by
  unfold denErr
  rw [if_neg (fun h => h h1), if_neg (fun h => h h2)]; exact h3
/-- Lines of a beginning are the beginning of the lines. -/
theorem pfx_of {la lb : List Rec} {a b : List Lin} (ha : LinesGrp la a) (hb : LinesGrp lb b) (h : Pre la lb) : pfx a b = true := by
  refine List.all_eq_true.2 fun x hx => ?_
  have hn : x.nums <+: numsAt lb x.key := by rw [ha.nums x hx, numsAt_recs, numsAt_recs]; exact (h x.key).map _
  have hk : ∃ r ∈ lb, r.key = x.key := by
    obtain ⟨r, hr, e⟩ := (ha.keys x.key).1 (List.mem_map.2 ⟨x, hx, rfl⟩)
    have h1 : recsAt x.key la ≠ [] := fun e0 => by
      have : r ∈ recsAt x.key la := List.mem_filter.2 ⟨hr, decide_eq_true e⟩
      rw [e0] at this; cases this
    exact recsAt_nil fun e0 => h1 (by have := h x.key; rw [e0] at this; exact List.prefix_nil.1 this)
  obtain ⟨y, hy, hyk⟩ := List.mem_map.1 ((hb.keys x.key).2 hk)
  obtain ⟨j, hj, rfl⟩ := List.mem_iff_getElem.1 hy
  have hnd : ∀ i (hi : i < j), b[i].key ≠ b[j].key := fun i hi e => by
    have h5 := (List.pairwise_iff_getElem.1 hb.nd) i j (by rw [List.length_map]; omega) (by rw [List.length_map]; exact hj) hi
    rw [List.getElem_map, List.getElem_map] at h5
    exact h5 e
  have hf : findK b x.key = j := findK_hit b x.key j hj (by unfold keyIs; rw [hyk]; exact beq_self_eq_true _) fun i hi => str_ne fun e => hnd i hi (e.trans hyk.symm)
  have hnj := hb.nums _ hy
  have h6 : b[findK b x.key]? = some b[j] := by rw [hf]; exact List.getElem?_eq_getElem hj
  unfold okL
  rw [h6]
  rw [← hyk, ← hnj] at hn
  exact decide_eq_true ⟨hn.length_le, (List.prefix_iff_eq_take.1 hn)⟩
/-- What All tells of less data: the beginning of what it tells of more. -/
theorem grow_flow {J : List Nod} (hJ : jobErr J = 0) {data data' : List (List Rec)} (hl : data.length = (ofKind J 1).length) (hp : PreD data data') {f' : Flw} (hf' : flowAll J data' = some f') :
    ∃ f, flowAll J data = some f ∧ ∀ out out' : List (List Lin), AllOf J f out → AllOf J f' out' → out.length = out'.length ∧ ∀ (i : Nat) (a b : List Lin), out[i]? = some a → out'[i]? = some b →
      ∃ la lb, LinesGrp la a ∧ LinesGrp lb b ∧ Pre la lb ∧ (PreD data' data → Pre lb la) := by
  obtain ⟨S, h0, hA, hD⟩ := flow_hist hJ data hl
  obtain ⟨S', h0', hA', hD'⟩ := flow_hist hJ data' (hp.1.symm.trans hl)
  rw [flow_cut hJ, ← h0'] at hf'
  have hok : Okf J.length S'.f := Classical.byContradiction fun hn => by unfold cutF at hf'; rw [if_neg hn] at hf'; cases hf'
  have hSf : S'.f = f' := by unfold cutF at hf'; rw [if_pos hok] at hf'; exact Option.some.inj hf'
  have src : ∀ {T T' : Sim} {dd dd' : List (List Rec)}, dd.length = (ofKind J 1).length → (∀ (k : Nat) (s : Int) (d : List Rec), (ofKind J 1)[k]? = some s → dd[k]? = some d → T.H s.toNat = d) → (∀ (k : Nat) (s : Int) (d : List Rec), (ofKind J 1)[k]? = some s → dd'[k]? = some d → T'.H s.toNat = d) → PreD dd dd' →
      ∀ v n, J[v]? = some n → n.kind = 1 → Pre (T.H v) (T'.H v) := fun {T T' dd dd'} hlen h1 h2 hpd v n hn hk => by
    have hm := mem_kind hn
    rw [hk] at hm
    obtain ⟨k, hk2⟩ := List.getElem?_of_mem hm
    have hkl := (List.getElem?_eq_some_iff.1 hk2).1
    have e1 := List.getElem?_eq_getElem (l := dd) (i := k) (by omega)
    have e2 := List.getElem?_eq_getElem (l := dd') (i := k) (by have := hpd.1; omega)
    have r1 := h1 k v _ hk2 e1
    have r2 := h2 k v _ hk2 e2
    rw [show ((v : Int)).toNat = v from by simp] at r1 r2
    rw [r1, r2]
    exact hpd.2 k _ _ e1 e2
  have hg := grow_all hJ hA hA' (src hl hD hD' hp)
  refine ⟨S.f, ?_, fun out out' ho ho' => ⟨ho.1.trans ho'.1.symm, fun i a b hia hib => ?_⟩⟩
  · rw [flow_cut hJ, ← h0]
    refine if_pos (flow_ok hA fun v hv => ?_)
    have h5 := (hg v hv).len
    have h6 := hok.2 _ (List.mem_of_getElem? (hA'.1.counts v hv))
    omega
  · have hi := (List.getElem?_eq_some_iff.1 hia).1
    have hs := List.getElem?_eq_getElem (l := ofKind J 10) (i := i) (by rw [← ho.1]; exact hi)
    obtain ⟨u, n, hu, hn, hk⟩ := kind_mem (List.mem_of_getElem? hs)
    obtain ⟨p, hpu, hf⟩ := node_one hJ hn (by rw [hk]; decide) (by rw [hk]; decide)
    have hul := (List.getElem?_eq_some_iff.1 hn).1
    have k1 := ho.2 i _ a hs hia
    have k2 := ho'.2 i _ b hs hib
    rw [← hSf] at k2
    rw [hu, show ((u : Int)).toNat = u from by simp] at k1 k2
    rw [(sink_out hA hn hk hf).1] at k1
    rw [(sink_out hA' hn hk hf).1] at k2
    exact ⟨S.H p, S'.H p, lines_grp k1, lines_grp k2, hg p (by omega), fun hq => grow_all hJ hA' hA (src (hp.1.symm.trans hl) hD' hD hq) p (by omega)⟩

/-- What All tells of less data, whole. -/
theorem grow_post {J : List Nod} {data data' : List (List Rec)} (hp : PreD data data') (hm : ∀ (i : Nat) (x y : List Rec), data[i]? = some x → data'[i]? = some y → ∀ r ∈ x, r ∈ y) (h0 : denErr J data' = 0) {f' : Flw} (hf' : flowAll J data' = some f') {out' : List (List Lin)} (ho' : AllOf J f' out') {w : World} {e : Ending} {w' : World} (h : AllPost J data w e w') :
    ∃ A' c' out, e = .returned (.tuple #[.slice A' (List.length out) c', .nilIface]) ∧ SlA (slE linE) (· < w'.heap.size) w' A' c' out ∧ out.length = out'.length ∧ (∀ (i : Nat) (a b : List Lin), out[i]? = some a → out'[i]? = some b → pfx a b = true) ∧ (PreD data' data → out = out') ∧ Below w.heap.size w w' := by
  obtain ⟨hJ, hl', hd'⟩ := den_split h0
  have hl : data.length = (ofKind J 1).length := hp.1.trans hl'
  obtain ⟨f, hf, hall⟩ := grow_flow hJ hl hp hf'
  obtain ⟨_, _, h3, hb⟩ := h
  obtain ⟨A', c', out, rfl, hao, hs⟩ := h3 (den_join hJ hl (data_pre hp hm hd')) f hf
  obtain ⟨hlen, hi⟩ := hall out out' hao ho'
  refine ⟨A', c', out, rfl, hs.more fun k hk => hk.2, hlen, fun i a b ha hb => ?_, fun hq => ?_, hb⟩
  · obtain ⟨la, lb, g1, g2, g3, _⟩ := hi i a b ha hb
    exact pfx_of g1 g2 g3
  · refine List.ext_getElem? fun i => ?_
    rcases Nat.lt_or_ge i out.length with h | h
    · have e1 := List.getElem?_eq_getElem h
      have e2 := List.getElem?_eq_getElem (l := out') (i := i) (by omega)
      obtain ⟨la, lb, g1, g2, g3, g4⟩ := hi i _ _ e1 e2
      rw [e1, e2]
      congr 1
      refine g1.same g2 fun k => ?_
      rw [numsAt_recs, numsAt_recs, (g3 k).eq_of_length_le ((g4 hq) k).length_le]
    · rw [List.getElem?_eq_none h, List.getElem?_eq_none (by omega)]

/-! ### Records put where they belong -/
def SortedOf (s d : List Rec) : Prop := ∀ k, recsAt k s = recsAt k d
theorem SortedOf.len {s d : List Rec} (h : SortedOf s d) : s.length = d.length :=
  Nat.le_antisymm (pre_len _ _ _ (Nat.le_refl _) fun k => by rw [h k]; exact Nat.le_refl _) (pre_len _ _ _ (Nat.le_refl _) fun k => by rw [h k]; exact Nat.le_refl _)
theorem SortedOf.mem {s d : List Rec} (h : SortedOf s d) {r : Rec} (hr : r ∈ s) : r ∈ d := by
  have h1 : r ∈ recsAt r.key s := List.mem_filter.2 ⟨hr, by simp⟩
  rw [h r.key] at h1
  exact (List.mem_filter.1 h1).1
theorem SortedOf.put {s d : List Rec} (h : SortedOf s d) {r : Rec} {m : Nat} (hm : ∀ x ∈ s.drop m, x.key ≠ r.key) : SortedOf (s.take m ++ [r] ++ s.drop m) (d ++ [r]) := fun k => by
  rw [recsAt_app, recsAt_app, recsAt_app, ← h k]
  conv => rhs; rw [← List.take_append_drop m s, recsAt_app]
  by_cases hk : r.key = k
  · have : recsAt k (s.drop m) = [] := List.filter_eq_nil_iff.2 fun x hx e => hm x hx ((of_decide_eq_true e).trans hk.symm)
    rw [this]; simp
  · have : recsAt k [r] = [] := List.filter_eq_nil_iff.2 fun x hx e => hk (by rw [List.mem_singleton.1 hx] at e; exact of_decide_eq_true e)
    rw [this]; simp
end Go.Proofs.YtcmhbhdiepkndaaGreatDoor

/-
  The contract of weirsame.Lines at equal lists. No condition.
-/
namespace Go.Proofs.YtcmhbhdiepkndaaGreatDoor
open Go.RowKit
set_option linter.unusedVariables false

theorem ints_qq {P : Program} {f : FuncId} {args : Array Value} {w : World} {q n : Nat} {v : Value} (h : Calls P f args (w.drewN (q + n)) fun e w' => e = .returned v ∧ ∃ k, w' = (w.drewN (q + n)).drewN k) :
    Calls P f args (w.drewN (q + n)) fun e w'' => e = .returned v ∧ ∃ m, w'' = w.drewN (q + m) :=
  h.mono fun e w' ⟨he, m, hm⟩ => ⟨he, n + m, by rw [hm, World.drewN_drewN, Nat.add_assoc]⟩
set_option maxRecDepth 100000 in
theorem lines_same (A B : Option Addr) (c d : Nat) (l : List Lin) (w : World) (F G : Nat → Prop) (ha : SlA linE F w A c l) (hb : SlA linE G w B d l) :
    Calls Tryz.prog 21 #[.slice A l.length c, .slice B l.length d] w fun e w' => e = .returned (.bool true) ∧ ∃ k, w' = w.drewN k := by
  have hn := ha.le
  have hca := ha.1
  have hcb := hb.1
  have H := Lib.hid ha
  have H' := Lib.hid hb
  clear ha hb
  go_enter Tryz.func21, Tryz.ntmps21
  go_wp2
  go_loopw [5] (fun i wr => ∃ k q : Nat, k ≤ l.length ∧ i = .int .i64 k ∧ wr = w.drewN q) (fun i _ => l.length - (intOf i).toNat)
  case atStart => exact ⟨0, 0, Nat.zero_le _, rfl, rfl⟩
  case round =>
    obtain ⟨k, q, hk, rfl, rfl⟩ := hrel
    by_cases hlt : k < l.length
    · obtain ⟨b, off, A1, c1, rfl, _, x0, x1, _, hx⟩ := H.out.lin_ hlt
      obtain ⟨b', off', A2, c2, rfl, _, y0, y1, _, hy⟩ := H'.out.lin_ hlt
      obtain ⟨s, hs⟩ : ∃ s, s = l[k] := ⟨_, rfl⟩
      rw [← hs] at x0 x1 hx y0 y1 hy
      obtain ⟨sk, sn⟩ := s
      clear hs
      simp only at x0 x1 hx y0 y1 hy
      have hkk : (sk.toList == sk.toList) = true := beq_self_eq_true _
      have HIS := Lib.hid (fun n => ints_qq (q := q) (n := n) (ints_same A1 A2 c1 c2 sn (w.drewN (q + n)) _ _ (hx.drewN (q + n)) (hy.drewN (q + n))))
      clear hx hy
      go_wp2
      go_quiet ((with_reducible exact HIS.out _))
      go_wp2
      go_quiet (fail)
      go_wp2
      go_roundw
      case rel => exact ⟨k + 1, _, by omega, by go_num, by first | rfl | exact World.drewN_drewN _ _ _⟩
      case measure => simp [intOf]; omega
    · go_wp2
      go_ret
      exact ⟨rfl, q, rfl⟩
end Go.Proofs.YtcmhbhdiepkndaaGreatDoor

/-
  The contract of weirsame.Sinks at equal lists. No condition.
-/
namespace Go.Proofs.YtcmhbhdiepkndaaGreatDoor
open Go.RowKit
set_option linter.unusedVariables false

set_option maxRecDepth 100000 in
theorem sinks_same (A B : Option Addr) (c d : Nat) (l : List (List Lin)) (w : World) (F G : Nat → Prop) (ha : SlA (slE linE) F w A c l) (hb : SlA (slE linE) G w B d l) :
    Calls Tryz.prog 10 #[.slice A l.length c, .slice B l.length d] w fun e w' => e = .returned (.bool true) ∧ ∃ k, w' = w.drewN k := by
  have hn := ha.le
  have hca := ha.1
  have hcb := hb.1
  have H := Lib.hid ha
  have H' := Lib.hid hb
  clear ha hb
  go_enter Tryz.func10, Tryz.ntmps10
  go_wp2
  go_loopw [5] (fun i wr => ∃ k q : Nat, k ≤ l.length ∧ i = .int .i64 k ∧ wr = w.drewN q) (fun i _ => l.length - (intOf i).toNat)
  case atStart => exact ⟨0, 0, Nat.zero_le _, rfl, rfl⟩
  case round =>
    obtain ⟨k, q, hk, rfl, rfl⟩ := hrel
    by_cases hlt : k < l.length
    · obtain ⟨b, off, A1, c1, rfl, _, x0, hx⟩ := H.out.sl_ hlt
      obtain ⟨b', off', A2, c2, rfl, _, y0, hy⟩ := H'.out.sl_ hlt
      obtain ⟨s, hs⟩ : ∃ s, s = l[k] := ⟨_, rfl⟩
      rw [← hs] at x0 hx y0 hy
      clear hs
      have HIS := Lib.hid (fun n => ints_qq (q := q) (n := n) (lines_same A1 A2 c1 c2 s (w.drewN (q + n)) _ _ (hx.drewN (q + n)) (hy.drewN (q + n))))
      clear hx hy
      go_wp2
      go_quiet ((with_reducible exact HIS.out _))
      go_wp2
      go_roundw
      case rel => exact ⟨k + 1, _, by omega, by go_num, by first | rfl | exact World.drewN_drewN _ _ _⟩
      case measure => simp [intOf]; omega
    · go_wp2
      go_ret
      exact ⟨rfl, q, rfl⟩
end Go.Proofs.YtcmhbhdiepkndaaGreatDoor

/-
  Lists of lists of records that grow, in memory: an outer row of one's own, and rows that nobody writes. No condition: definitions and lemmas.
-/
namespace Go.Proofs.YtcmhbhdiepkndaaGreatDoor
open Go.RowKit Go.ChangeShapes Go.WideShapes Go.Shelf
set_option linter.unusedVariables false

theorem info_rows : (Tryz.prog.info? 22).map (fun i => (i.zero, i.size, i.bytes)) = some (some (.slice none 0 0), 1, 24) := by kernel_rfl
abbrev RowR := List Rec × (Option Addr × Nat)
def rowRC (o : RowR) : List Value := [.slice o.2.1 o.1.length o.2.2]
structure RowsAt (B : Nat) (w : World) (v : Value) (no : Option Nat) (rows : List RowR) : Prop where
  own : w.ownsRow B 22 1 v rows.length (rows.flatMap rowRC)
  mem : ∀ o ∈ rows, SlA recE (fun q => q < w.heap.size ∧ v.ownBlock ≠ some q ∧ no ≠ some q) w o.2.1 o.2.2 o.1
theorem RowsAt.nil (B : Nat) (w : World) (no : Option Nat) : RowsAt B w (.slice none 0 0) no [] := ⟨World.ownsRow_nil _ _ _ _, nofun⟩
/-- The outer row has grown. -/
theorem RowsAt.push {B : Nat} {w w' : World} {v v' : Value} {no : Option Nat} {rows : List RowR} {o : RowR} (h : RowsAt B w v no rows) (hg : w.grownBy w' v.ownBlock) (hown : w'.ownsRow B 22 1 v' (rows.length + 1) (rows.flatMap rowRC ++ rowRC o))
    (hv : v'.ownBlock = v.ownBlock ∨ ∃ g, v'.ownBlock = some g ∧ w.heap.size ≤ g) (ho : SlA recE (fun q => q < w.heap.size ∧ v.ownBlock ≠ some q ∧ no ≠ some q) w o.2.1 o.2.2 o.1) : RowsAt B w' v' no (rows ++ [o]) := by
  refine ⟨by rw [List.length_append, List.flatMap_append]; simpa using hown, fun x hx => ?_⟩
  have hx2 : SlA recE (fun q => q < w.heap.size ∧ v.ownBlock ≠ some q ∧ no ≠ some q) w x.2.1 x.2.2 x.1 := by
    rcases List.mem_append.1 hx with hx | hx
    · exact h.mem x hx
    · rw [List.mem_singleton.1 hx]; exact ho
  refine (hx2.keep fun q hq => hg.block q hq.1 fun e => hq.2.1 e.symm).more fun q hq => ⟨Nat.lt_of_lt_of_le hq.1 hg.size, ?_, hq.2.2⟩
  intro e
  rcases hv with e2 | ⟨k, e2, hk⟩
  · exact hq.2.1 (e2 ▸ e)
  · rw [e2] at e; injection e with e; have := hq.1; omega
/-- Another's outer row has grown. -/
theorem RowsAt.other {B : Nat} {w w' : World} {v : Value} {r r' : Option Nat} {rows : List RowR} (h : RowsAt B w v r rows) (hg : w.grownBy w' r) (hne : ∀ k, v.ownBlock = some k → r ≠ some k)
    (hr : r' = r ∨ ∃ g, r' = some g ∧ w.heap.size ≤ g) : RowsAt B w' v r' rows := by
  refine ⟨ownsRow_keep h.own fun k hk => hg.block k (h.own.lt k hk).2 fun e => hne k hk e.symm, fun x hx => ?_⟩
  refine ((h.mem x hx).keep fun q hq => hg.block q hq.1 fun e => hq.2.2 e.symm).more fun q hq => ⟨Nat.lt_of_lt_of_le hq.1 hg.size, hq.2.1, fun e => ?_⟩
  rcases hr with e2 | ⟨k, e2, hk⟩
  · exact hq.2.2 (e2 ▸ e)
  · rw [e2] at e; injection e with e; have := hq.1; omega
theorem RowsAt.below {B : Nat} {w w' : World} {v : Value} {r : Option Nat} {rows : List RowR} (h : RowsAt B w v r rows) (hb : Below w.heap.size w w') : RowsAt B w' v r rows :=
  ⟨ownsRow_keep h.own fun k hk => hb.block k (h.own.lt k hk).2, fun x hx => ((h.mem x hx).keep fun q hq => hb.block q hq.1).more fun q hq => ⟨Nat.lt_of_lt_of_le hq.1 hb.size, hq.2⟩⟩
/-- As a list. -/
theorem RowsAt.sl {B : Nat} {w : World} {v : Value} {r : Option Nat} {rows : List RowR} (h : RowsAt B w v r rows) : ∃ A c, v = .slice A rows.length c ∧ SlA (slE recE) (· < w.heap.size) w A c (rows.map (·.1)) := by
  obtain ⟨A, c, rfl, ho, _⟩ := OwnS.of_row h.own
  obtain ⟨h1, h2, h3, h4⟩ := ho
  refine ⟨A, c, rfl, by rw [List.length_map]; exact h2, h3, fun i x hx => ?_⟩
  rw [List.getElem?_map] at hx
  cases hi : rows[i]? with
  | none => rw [hi] at hx; cases hx
  | some o =>
    rw [hi] at hx
    injection hx with hx
    subst hx
    rcases h4 with ⟨rfl, h0⟩ | ⟨g, off, cur, rfl, hh, hc, hr⟩
    · have := (List.getElem?_eq_some_iff.1 hi).1; omega
    · refine ⟨g, off, rowRC o, rfl, block_lt hh, fun j u hj => ?_, _, rfl, o.2.1, o.2.2, rfl, (h.mem o (List.mem_of_getElem? hi)).more fun q hq => hq.1⟩
      have hj0 : j = 0 := by
        have := (List.getElem?_eq_some_iff.1 hj).1
        simp [rowRC] at this; exact this
      subst hj0
      rw [cell_of_row w g _ cur _ (0, 0) hh]
      have h5 := hr i u (by
        have h6 := flat_get rowRC 1 (fun _ => rfl) rows hi (j := 0) (by decide)
        rw [Nat.mul_one, Nat.add_zero] at h6
        rw [h6]; exact hj)
      simpa [slE] using h5
/-- A row of records of one's own. -/
theorem recs_fine {F : Nat → Prop} {w : World} {A : Option Addr} {c : Nat} {l : List Rec} (h : SlA recE F w A c l) : ∀ r ∈ l, RecOk r := fun r hr => by
  obtain ⟨i, hi⟩ := List.getElem?_of_mem hr
  obtain ⟨_, _, _, _, _, _, _, h⟩ := h.2.2 i r hi
  exact h
theorem own_recs_ {B : Nat} {w : World} {v : Value} {l : List Rec} (h : w.ownsRow B 30 3 v l.length (l.flatMap recCells)) (hx : ∀ r ∈ l, RecOk r) : ∃ A c, v = .slice A l.length c ∧ SlA recE (fun q => B ≤ q ∧ q < w.heap.size) w A c l := by
  obtain ⟨A, c, rfl, ho, hb⟩ := OwnS.of_row h
  exact ⟨A, c, rfl, ho.sl (E := recE) recCells (fun _ => rfl) rfl (fun k e => ⟨hb k e, OwnS.lt ho k e⟩) (fun r hr => ⟨rfl, hx r hr⟩)⟩
theorem RowsAt1 {W : World} {g : Nat} {A : Option Addr} {c : Nat} {d : List Rec} {F : Nat → Prop} (hg : W.heap[g]? = some (.cells #[.slice A d.length c] 22 (0, 0))) (hF : F g) (hx : SlA recE F W A c d) : SlA (slE recE) F W (some ⟨g, 0, none⟩) 1 [d] := by
  refine ⟨Nat.le_refl _, by unfold maxLen; omega, fun i x hx' => ?_⟩
  have hi : i = 0 := by
    have := (List.getElem?_eq_some_iff.1 hx').1
    simpa using this
  subst hi
  injection hx' with hx'
  subst hx'
  refine ⟨g, 0, [.slice A d.length c], rfl, hF, fun j u hj => ?_, _, rfl, A, c, rfl, hx⟩
  have hj0 : j = 0 := by
    have := (List.getElem?_eq_some_iff.1 hj).1
    simpa using this
  subst hj0
  have h5 := cell_of_row W g (0 + (0 * 1 + 0)) _ _ _ hg
  show W.cell? ⟨g, 0 + (0 * 1 + 0), none⟩ = _
  rw [h5]
  exact hj

/-! ### The fact -/
def growJ : List Nod := [⟨1, [], ⟨#[]⟩, 1⟩, ⟨10, [0], ⟨#[]⟩, 0⟩]
def litG : List Rec := [⟨keyA, 5, 0⟩]
theorem litG_ok : denErr growJ [litG] = 0 := by decide +kernel
theorem growJ_of : ofKind growJ 1 = [0] ∧ ofKind growJ 10 = [1] := by decide +kernel
theorem fact_flow : ∃ f, flowAll growJ [litG] = some f ∧ f.ln[1]? = some (grp litG) := by
  obtain ⟨hJ, hl, _⟩ := den_split litG_ok
  obtain ⟨S, h0, hA, hD⟩ := flow_hist hJ [litG] hl
  have hH0 : S.H 0 = litG := hD 0 0 litG (by rw [growJ_of.1]; rfl) rfl
  obtain ⟨hln, hH1⟩ := sink_out hA (u := 1) (n := ⟨10, [0], ⟨#[]⟩, 0⟩) rfl rfl (p := 0) rfl
  rw [hH0] at hln
  refine ⟨S.f, ?_, hln⟩
  rw [flow_cut hJ, ← h0]
  refine if_pos (flow_ok hA fun v hv => ?_)
  have hv2 : v < 2 := hv
  match v, hv2 with
  | 0, _ => rw [hH0]; decide
  | 1, _ => rw [hH1]; simp
theorem fact_grow {w : World} {e : Ending} {w' : World} (h : AllPost growJ [litG] w e w') : ∃ A c y, e = .returned (.tuple #[.slice A 1 c, .nilIface]) ∧ SlA (slE linE) (· < w'.heap.size) w' A c [[y]] ∧ y.nums = [5] ∧ Below w.heap.size w w' := by
  obtain ⟨_, _, h3, hb⟩ := h
  obtain ⟨f, hf, hl⟩ := fact_flow
  obtain ⟨A, c, out, rfl, hall, hs⟩ := h3 litG_ok f hf
  have hol : out.length = 1 := by rw [hall.1, growJ_of.2]; rfl
  obtain ⟨x, rfl⟩ := List.length_eq_one_iff.1 hol
  have k0 := hall.2 0 1 x (by rw [growJ_of.2]; rfl) rfl
  rw [show (1 : Int).toNat = 1 from rfl, hl] at k0
  obtain ⟨y, rfl, _, hy⟩ := (lines_grp k0).one (k := keyA) (fun r hr => by rw [List.mem_singleton.1 hr]) (by simp [litG])
  exact ⟨A, c, y, rfl, hs.more fun k hk => hk.2, hy, hb⟩
def growW (w : World) : World := (((((w.alloc (.cells #[.int .i64 0] 3)).alloc (.cells #[.int .i64 1, .slice none 0 0, .string ⟨#[]⟩, .int .i64 1, .int .i64 10, .slice (some ⟨w.heap.size, 0, none⟩) 1 1, .string ⟨#[]⟩, .int .i64 0] 28)))))
def growW2 (w : World) : World := ((growW w).alloc (.cells #[.string ⟨#[97]⟩, .int .i64 5, .int .i64 0] 30)).alloc (.cells #[.slice (some ⟨w.heap.size + 1 + 1, 0, none⟩) 1 1] 22)
theorem grow_mem (w : World) : SlA nodE (· < (growW2 w).heap.size) (growW2 w) (some ⟨w.heap.size + 1, 0, none⟩) 2 growJ ∧ SlA (slE recE) (· < (growW2 w).heap.size) (growW2 w) (some ⟨w.heap.size + 1 + 1 + 1, 0, none⟩) 1 [litG] ∧ Below w.heap.size w (growW2 w) := by
  obtain ⟨W1, h1⟩ : ∃ W1, W1 = w.alloc (.cells #[.int .i64 0] 3) := ⟨_, rfl⟩
  have s1 : W1.heap.size = w.heap.size + 1 := by rw [h1]; simp
  obtain ⟨lv, hlv⟩ : ∃ lv : List NodV, lv = [((⟨1, [], ⟨#[]⟩, 1⟩, (none, 0)) : NodV), (⟨10, [0], ⟨#[]⟩, 0⟩, (some ⟨w.heap.size, 0, none⟩, 1))] := ⟨_, rfl⟩
  obtain ⟨W2, h2⟩ : ∃ W2, W2 = W1.alloc (.cells (lv.flatMap nodCells).toArray 28) := ⟨_, rfl⟩
  have s2 : W2.heap.size = w.heap.size + 1 + 1 := by rw [h2]; simp [s1]
  obtain ⟨W3, h3⟩ : ∃ W3, W3 = W2.alloc (.cells (litG.flatMap recCells).toArray 30) := ⟨_, rfl⟩
  have s3 : W3.heap.size = w.heap.size + 1 + 1 + 1 := by rw [h3]; simp [s2]
  have e5 : growW2 w = W3.alloc (.cells #[.slice (some ⟨w.heap.size + 1 + 1, 0, none⟩) litG.length 1] 22) := by rw [h3, h2, h1, hlv]; rfl
  have s5 : (growW2 w).heap.size = w.heap.size + 1 + 1 + 1 + 1 := by rw [e5]; simp [s3]
  have g1 : (growW2 w).heap[w.heap.size]? = some (.cells #[.int .i64 0] 3 (0, 0)) := by
    rw [e5, heap_alloc_old _ _ (by omega), h3, heap_alloc_old _ _ (by omega), h2, heap_alloc_old _ _ (by omega), h1]; exact heap_alloc_new _ _
  have g2 : (growW2 w).heap[w.heap.size + 1]? = some (.cells (lv.flatMap nodCells).toArray 28 (0, 0)) := by
    rw [e5, heap_alloc_old _ _ (by omega), h3, heap_alloc_old _ _ (by omega), h2, ← s1]; exact heap_alloc_new _ _
  have g3 : (growW2 w).heap[w.heap.size + 1 + 1]? = some (.cells (litG.flatMap recCells).toArray 30 (0, 0)) := by
    rw [e5, heap_alloc_old _ _ (by omega), h3, ← s2]; exact heap_alloc_new _ _
  have g4 : (growW2 w).heap[w.heap.size + 1 + 1 + 1]? = some (.cells #[.slice (some ⟨w.heap.size + 1 + 1, 0, none⟩) litG.length 1] 22 (0, 0)) := by
    rw [e5, ← s3]; exact heap_alloc_new _ _
  refine ⟨?_, ?_, ?_⟩
  · have hj := lit_job (F := fun k => k < (growW2 w).heap.size) lv g2 (by rw [hlv]; simp) (by omega) (fun x hx => by
      rw [hlv] at hx
      simp only [List.mem_cons, List.not_mem_nil, or_false] at hx
      rcases hx with rfl | rfl
      · exact ⟨rfl, Nat.zero_le _, rfl, SlA.nil _ _ _ _ _ (Nat.zero_le _)⟩
      · exact ⟨rfl, Nat.zero_le _, rfl, one_int g1 rfl (by omega)⟩)
    rw [hlv] at hj; exact hj
  · refine RowsAt1 g4 (by omega) (lit_recs litG g3 (by decide) (by omega) (fun r hr => by rw [List.mem_singleton.1 hr]; exact recOk_lit rfl))
  · rw [e5, h3, h2, h1]
    exact ((((Below.refl _ _).alloc (Nat.le_refl _) _).alloc (by simp) _).alloc (by simp; omega) _).alloc (by simp; omega) _
end Go.Proofs.YtcmhbhdiepkndaaGreatDoor
