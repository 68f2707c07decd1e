/-
  Several texts of this claim in one, in build order; each begins with its own remark, which says what it proves and under which conditions.
-/
import Derived.Test.YtcmhbhdiepkndaaGreatDoorPackI
import Derived.ProofKit
import Derived.Test.YtcmhbhdiepkndaaGreatDoorPackA
import Derived.BigQuiet
import Derived.Lib.ItoaLen
import Derived.Deep.OwnRows
import Derived.Deep.RegionLaw
import Derived.Deep.CutRange
import Derived.Test.YtcmhbhdiepkndaaGreatDoorPackD
import Derived.Test.YtcmhbhdiepkndaaGreatDoorRows
import Derived.LaidLaws
import Derived.Lib.LaidU8
import Derived.Lib.LaidTab
import Derived.Test.YtcmhbhdiepkndaaGreatDoorPackF

/-
  Package den, plain: what single nodes make of records, key by key. No condition: plain definitions and lemmas.
-/
namespace Go.Proofs.YtcmhbhdiepkndaaGreatDoor
open Go.RowKit
set_option linter.unusedVariables false

def txtN : ByteArray := ⟨#[110]⟩
def txtSum : ByteArray := ⟨#[115, 43, 110]⟩
def txtMax : ByteArray := ⟨#[109, 97, 120, 40, 115, 44, 110, 41]⟩
theorem parse_n : parseT txtN.data.toList = .tree (.nam true) := by kernel_rfl
theorem parse_sum : parseT txtSum.data.toList = .tree (.bin 43 (.nam false) (.nam true)) := by kernel_rfl
theorem parse_max : parseT txtMax.data.toList = .tree (.bin 77 (.nam false) (.nam true)) := by kernel_rfl
theorem job_n : jobErr (lineJ ⟨2, [], txtN, 0⟩) = 0 := by decide +kernel
theorem job_sum : jobErr (lineJ ⟨7, [], txtSum, 0⟩) = 0 := by decide +kernel
theorem job_max : jobErr (lineJ ⟨7, [], txtMax, 0⟩) = 0 := by decide +kernel
theorem job_first : jobErr (lineJ ⟨9, [], ⟨#[]⟩, 0⟩) = 0 := by decide +kernel
theorem ev_n (n s : Int) : evalOf txtN n s = n := by unfold evalOf; rw [parse_n]; rfl
theorem ev_sum (n s : Int) : evalOf txtSum n s = wrap64 (s + n) := by unfold evalOf; rw [parse_sum]; rfl
theorem ev_max (n s : Int) : evalOf txtMax n s = if s < n then n else s := by unfold evalOf; rw [parse_max]; show max s n = _; omega

/-- What a step makes of numbers, so far. -/
def scanN (f : Int → Int → Int) (s : Int) : List Int → List Int
  | [] => []
  | x :: l => f s x :: scanN f (f s x) l
theorem scanN_len (f : Int → Int → Int) (l : List Int) : ∀ s, (scanN f s l).length = l.length := by
  induction l with
  | nil => intro s; rfl
  | cons x l ih => intro s; simp only [scanN, List.length_cons, ih]
theorem scanN_get (f : Int → Int → Int) (l : List Int) : ∀ (s : Int) (k : Nat), k < l.length → (scanN f s l)[k]? = some ((l.take (k + 1)).foldl f s) := by
  induction l with
  | nil => intro s k hk; simp at hk
  | cons x l ih =>
    intro s k hk
    cases k with
    | zero => rfl
    | succ k => simp only [scanN, List.getElem?_cons_succ, List.take_succ_cons, List.foldl_cons]; exact ih _ k (by simpa using hk)
theorem scanN_snoc (f : Int → Int → Int) (l : List Int) (x : Int) : ∀ s, scanN f s (l ++ [x]) = scanN f s l ++ [f (l.foldl f s) x] := by
  induction l with
  | nil => intro s; rfl
  | cons y l ih => intro s; simp only [List.cons_append, scanN, List.foldl_cons, ih]
theorem foldK_succ (f : Int → Int → Int) (s : Int) (l : List Int) {k : Nat} (hk : k < l.length) : (l.take (k + 1)).foldl f s = f ((l.take k).foldl f s) l[k] := by
  rw [List.take_succ_eq_append_getElem hk, List.foldl_append]; rfl
theorem logOf_snoc (l : List Rec) (r : Rec) : logOf (l ++ [r]) = logOf l ++ [(0, r)] := by unfold logOf; rw [List.map_append]; rfl
theorem runLog_snoc (n : Nod) (log : List (Nat × Rec)) (p : Nat × Rec) : runLog n (log ++ [p]) = stepLog n (runLog n log) p := by unfold runLog; rw [List.foldl_append]; rfl
theorem atKey_log (k : ByteArray) (d : List Rec) : atKey k (logOf d) = logOf (recsAt k d) := by
  unfold atKey logOf recsAt
  rw [List.filter_map]
  rfl
def KeysOk (d : List Rec) : Prop := ∀ r ∈ d, r.key.size ≤ 40
theorem KeysOk.at_ {d : List Rec} (h : KeysOk d) (k : ByteArray) : ∀ r ∈ recsAt k d, r.key = k ∧ r.key.size ≤ 40 := fun r hr => by
  obtain ⟨h1, h2⟩ := List.mem_filter.1 hr
  exact ⟨of_decide_eq_true h2, h r h1⟩
theorem KeysOk.snoc {d : List Rec} {r : Rec} (h : KeysOk (d ++ [r])) : KeysOk d ∧ r.key.size ≤ 40 := ⟨fun x hx => h x (List.mem_append.2 (.inl hx)), h r (List.mem_append.2 (.inr List.mem_cons_self))⟩
theorem passR_one {r : Rec} (h : r.key.size ≤ 40) : passR r = [r] := by unfold passR; rw [if_neg (by omega)]
/-- A Map of n hands on what it gets. -/
theorem run_map (d : List Rec) (h : KeysOk d) : (runLog ⟨2, [0], txtN, 0⟩ (logOf d)).2 = d := by
  revert h
  refine snoc_ind (P := fun d => KeysOk d → (runLog ⟨2, [0], txtN, 0⟩ (logOf d)).2 = d) (fun _ => rfl) ?_ d
  intro d r ih h
  obtain ⟨h1, h2⟩ := h.snoc
  rw [logOf_snoc, runLog_snoc]
  show (runLog _ (logOf d)).2 ++ passR { r with num := evalOf txtN r.num 0 } = _
  rw [ih h1, ev_n, passR_one (r := { r with num := r.num }) h2]
/-- A Fold: of each key. -/
theorem run_fold (text : ByteArray) (k : ByteArray) (d : List Rec) (h : ∀ r ∈ d, r.key = k ∧ r.key.size ≤ 40) :
    (runLog ⟨7, [0], text, 0⟩ (logOf d)).2.map (·.num) = scanN (fun s x => evalOf text x s) 0 (d.map (·.num)) ∧
    pget (runLog ⟨7, [0], text, 0⟩ (logOf d)).1 k = (if d = [] then none else some ⟨0, k, (d.map (·.num)).foldl (fun s x => evalOf text x s) 0, 0⟩) := by
  revert h
  refine snoc_ind (P := fun d => (∀ r ∈ d, r.key = k ∧ r.key.size ≤ 40) → (runLog ⟨7, [0], text, 0⟩ (logOf d)).2.map (·.num) = scanN (fun s x => evalOf text x s) 0 (d.map (·.num)) ∧
    pget (runLog ⟨7, [0], text, 0⟩ (logOf d)).1 k = (if d = [] then none else some ⟨0, k, (d.map (·.num)).foldl (fun s x => evalOf text x s) 0, 0⟩)) (fun _ => ⟨rfl, rfl⟩) ?_ d
  intro d r ih h
  obtain ⟨i1, i2⟩ := ih fun x hx => h x (List.mem_append.2 (.inl hx))
  obtain ⟨hrk, hrs⟩ := h r (List.mem_append.2 (.inr List.mem_cons_self))
  have ha : begins ((pget (runLog ⟨7, [0], text, 0⟩ (logOf d)).1 k).getD zeroH) (pget (runLog ⟨7, [0], text, 0⟩ (logOf d)).1 k).isSome r = ⟨0, k, (d.map (·.num)).foldl (fun s x => evalOf text x s) 0, 0⟩ := by
    rw [i2]
    split
    · rename_i hd; rw [hd]; unfold begins; rw [hrk]; rfl
    · unfold begins; rw [hrk]; rfl
  rw [logOf_snoc, runLog_snoc]
  unfold stepLog
  simp only
  rw [hrk]
  have happ : applyN ⟨7, [0], text, 0⟩ ((pget (runLog ⟨7, [0], text, 0⟩ (logOf d)).1 k).getD zeroH) (pget (runLog ⟨7, [0], text, 0⟩ (logOf d)).1 k).isSome r 0 =
      ⟨[{ r with num := evalOf text r.num ((d.map (·.num)).foldl (fun s x => evalOf text x s) 0) }], ⟨0, k, evalOf text r.num ((d.map (·.num)).foldl (fun s x => evalOf text x s) 0), 0⟩, true⟩ := by
    show ends_ (passR { r with num := evalOf text r.num (begins _ _ r).a }) { (begins _ _ r) with a := evalOf text r.num (begins _ _ r).a } true = _
    rw [ha, passR_one (by exact hrs)]
    rfl
  rw [show ((0 : Nat) : Int) = 0 from rfl, happ]
  simp only [if_true]
  refine ⟨?_, ?_⟩
  · rw [List.map_append, i1, List.map_append, List.map_cons, List.map_nil, List.map_cons, List.map_nil, scanN_snoc]
  · rw [pget_pset, if_pos rfl, if_neg (by simp), List.map_append, List.foldl_append]
    rfl
theorem fold_at (text : ByteArray) (d : List Rec) (h : KeysOk d) (k : ByteArray) : numsAt (runLog ⟨7, [0], text, 0⟩ (logOf d)).2 k = scanN (fun s x => evalOf text x s) 0 (numsAt d k) := by
  rw [numsAt_recs, (run_key (show (7 : Int) ≠ 4 by decide) (show (7 : Int) ≠ 6 by decide) k (logOf d)).1, atKey_log, (run_fold text k (recsAt k d) (h.at_ k)).1]
  rfl
theorem LinesGrp.len0 {l l' : List Rec} {a b : List Lin} (ha : LinesGrp l a) (hb : LinesGrp l' b) (h : ∀ k, numsAt l k = [] ↔ numsAt l' k = []) : a.length = b.length := by
  refine ha.len hb fun k => ?_
  have e : ∀ l : List Rec, (∃ r ∈ l, r.key = k) ↔ ¬ numsAt l k = [] := fun l => ⟨fun ⟨r, hr, e⟩ h0 => numsAt_nil.1 h0 r hr e, fun h0 => Classical.byContradiction fun hn => h0 (numsAt_nil.2 fun r hr e => hn ⟨r, hr, e⟩)⟩
  rw [e, e, h k]
theorem scanN_nil (f : Int → Int → Int) (s : Int) (l : List Int) : scanN f s l = [] ↔ l = [] := by
  rw [← List.length_eq_zero_iff, scanN_len, List.length_eq_zero_iff]
/-- One key alone: one line. -/
theorem LinesGrp.one {l : List Rec} {a : List Lin} (ha : LinesGrp l a) {k : ByteArray} (h : ∀ r ∈ l, r.key = k) (h0 : l ≠ []) : ∃ x, a = [x] ∧ x.key = k ∧ x.nums = l.map (·.num) := by
  have hk : ∀ j, j ∈ a.map (·.key) ↔ j = k := fun j => (ha.keys j).trans ⟨fun ⟨r, hr, e⟩ => by rw [← e]; exact h r hr, fun e => by
    obtain ⟨r, l', rfl⟩ := List.exists_cons_of_ne_nil h0
    exact ⟨r, List.mem_cons_self, (h r List.mem_cons_self).trans e.symm⟩⟩
  have hp : (a.map (·.key)).Perm [k] := (List.perm_ext_iff_of_nodup ha.nd (by simp)).2 fun j => (hk j).trans (by simp)
  have hlen := hp.length_eq
  rw [List.length_map] at hlen
  obtain ⟨x, rfl⟩ := List.length_eq_one_iff.1 hlen
  have hxk : x.key = k := (hk x.key).1 (by simp)
  refine ⟨x, rfl, hxk, ?_⟩
  rw [ha.nums x List.mem_cons_self]
  unfold numsAt
  rw [List.filter_eq_self.2 fun r hr => decide_eq_true ((h r hr).trans hxk.symm)]

/-! ### First, Copy, Every -/
theorem run_first (k : ByteArray) (d : List Rec) (h : ∀ r ∈ d, r.key = k ∧ r.key.size ≤ 40) :
    (runLog ⟨9, [0], ⟨#[]⟩, 0⟩ (logOf d)).2 = d.take 1 ∧ (pget (runLog ⟨9, [0], ⟨#[]⟩, 0⟩ (logOf d)).1 k).isSome = !d.isEmpty := by
  revert h
  refine snoc_ind (P := fun d => (∀ r ∈ d, r.key = k ∧ r.key.size ≤ 40) → (runLog ⟨9, [0], ⟨#[]⟩, 0⟩ (logOf d)).2 = d.take 1 ∧ (pget (runLog ⟨9, [0], ⟨#[]⟩, 0⟩ (logOf d)).1 k).isSome = !d.isEmpty) (fun _ => ⟨rfl, rfl⟩) ?_ d
  intro d r ih h
  obtain ⟨i1, i2⟩ := ih fun x hx => h x (List.mem_append.2 (.inl hx))
  obtain ⟨hrk, hrs⟩ := h r (List.mem_append.2 (.inr List.mem_cons_self))
  rw [logOf_snoc, runLog_snoc]
  unfold stepLog
  simp only
  rw [hrk]
  have happ : ∀ (h : Hld) (has : Bool), (applyN ⟨9, [0], ⟨#[]⟩, 0⟩ h has r 0).out = (if has = true then [] else [r]) ∧ (applyN ⟨9, [0], ⟨#[]⟩, 0⟩ h has r 0).has = true := fun h has => by
    show (if has = true then [] else passR r) = _ ∧ true = true
    rw [passR_one hrs]; exact ⟨rfl, rfl⟩
  obtain ⟨a1, a2⟩ := happ ((pget (runLog ⟨9, [0], ⟨#[]⟩, 0⟩ (logOf d)).1 k).getD zeroH) (pget (runLog ⟨9, [0], ⟨#[]⟩, 0⟩ (logOf d)).1 k).isSome
  rw [show ((0 : Nat) : Int) = 0 from rfl, a1, a2, i1, i2]
  refine ⟨?_, ?_⟩
  · cases d with
    | nil => rfl
    | cons x d => simp
  · simp only [if_true]
    rw [pget_pset, if_pos rfl]
    cases d <;> rfl
theorem first_at (d : List Rec) (h : KeysOk d) (k : ByteArray) : numsAt (runLog ⟨9, [0], ⟨#[]⟩, 0⟩ (logOf d)).2 k = (numsAt d k).take 1 := by
  rw [numsAt_recs, (run_key (show (9 : Int) ≠ 4 by decide) (show (9 : Int) ≠ 6 by decide) k (logOf d)).1, atKey_log, (run_first k (recsAt k d) (h.at_ k)).1, List.map_take]
  rfl
theorem run_copy (n : Nat) (hn : n ≤ 3) (d : List Rec) (h : ∀ r ∈ d, r.key.size ≤ 40) :
    (runLog ⟨5, [0], ⟨#[]⟩, (n : Int)⟩ (logOf d)).2 = d.flatMap (List.replicate n) ∧ (runLog ⟨5, [0], ⟨#[]⟩, (n : Int)⟩ (logOf d)).1 = [] := by
  revert h
  refine snoc_ind (P := fun d => (∀ r ∈ d, r.key.size ≤ 40) → (runLog ⟨5, [0], ⟨#[]⟩, (n : Int)⟩ (logOf d)).2 = d.flatMap (List.replicate n) ∧ (runLog ⟨5, [0], ⟨#[]⟩, (n : Int)⟩ (logOf d)).1 = []) (fun _ => ⟨rfl, rfl⟩) ?_ d
  intro d r ih h
  obtain ⟨i1, i2⟩ := ih fun x hx => h x (List.mem_append.2 (.inl hx))
  have hrs := h r (List.mem_append.2 (.inr List.mem_cons_self))
  rw [logOf_snoc, runLog_snoc]
  unfold stepLog
  simp only
  rw [i1, i2]
  have happ : applyN ⟨5, [0], ⟨#[]⟩, (n : Int)⟩ ((pget ([] : List (ByteArray × Hld)) r.key).getD zeroH) (pget ([] : List (ByteArray × Hld)) r.key).isSome r 0 = ⟨List.replicate n r, zeroH, false⟩ := by
    show ends_ ((List.replicate (min 3 (n : Int)).toNat (passR r)).flatten) _ false = _
    rw [passR_one hrs, show (min 3 (n : Int)).toNat = n by omega]
    have : ∀ m : Nat, (List.replicate m [r]).flatten = List.replicate m r := fun m => by
      induction m with
      | zero => rfl
      | succ m ih => rw [List.replicate_succ, List.flatten_cons, ih]; rfl
    rw [this]; rfl
  rw [show ((0 : Nat) : Int) = 0 from rfl, happ]
  refine ⟨?_, rfl⟩
  rw [List.flatMap_append]
  simp
theorem copy_at (n : Nat) (hn : n ≤ 3) (d : List Rec) (h : KeysOk d) (k : ByteArray) : numsAt (runLog ⟨5, [0], ⟨#[]⟩, (n : Int)⟩ (logOf d)).2 k = (numsAt d k).flatMap (List.replicate n) := by
  rw [(run_copy n hn d h).1]
  unfold numsAt
  induction d with
  | nil => rfl
  | cons r d ih =>
    have ih' := ih fun x hx => h x (List.mem_cons_of_mem _ hx)
    rw [List.flatMap_cons, List.filter_append, List.map_append, ih', List.filter_cons]
    by_cases e : r.key = k
    · rw [decide_eq_true e, if_pos rfl, List.map_cons, List.flatMap_cons]
      congr 1
      rw [List.filter_eq_self.2 fun x hx => by rw [List.eq_of_mem_replicate hx]; exact decide_eq_true e, List.map_replicate]
    · rw [decide_eq_false e, if_neg (by decide)]
      rw [List.filter_eq_nil_iff.2 fun x hx => by rw [List.eq_of_mem_replicate hx, decide_eq_false e]; decide]
      rfl
theorem copy_len (n : Nat) (l : List Int) : (l.flatMap (List.replicate n)).length = n * l.length := by
  induction l with
  | nil => simp
  | cons x l ih => rw [List.flatMap_cons, List.length_append, ih, List.length_replicate, List.length_cons, Nat.mul_succ]; omega
def addW (s x : Int) : Int := wrap64 (s + x)
/-- The sums of each n. -/
def chunkS (n : Nat) (l : List Int) : List Int := (List.range (l.length / n)).map fun j => ((l.drop (j * n)).take n).foldl addW 0
theorem chunk_len (n : Nat) (l : List Int) : (chunkS n l).length = l.length / n := by unfold chunkS; simp
theorem chunk_snoc {n : Nat} (hn : 0 < n) (l : List Int) (x : Int) : chunkS n (l ++ [x]) = chunkS n l ++ (if l.length % n + 1 = n then [addW ((l.drop (l.length / n * n)).foldl addW 0) x] else []) ∧
    (l ++ [x]).drop ((l ++ [x]).length / n * n) = (if l.length % n + 1 = n then [] else l.drop (l.length / n * n) ++ [x]) := by
  have hm := Nat.div_add_mod l.length n
  have hlt := Nat.mod_lt l.length hn
  have hcomm : n * (l.length / n) = l.length / n * n := Nat.mul_comm _ _
  have hlen : (l ++ [x]).length = l.length + 1 := by simp
  have hold : ∀ j, j < l.length / n → (((l ++ [x]).drop (j * n)).take n).foldl addW 0 = ((l.drop (j * n)).take n).foldl addW 0 := fun j hj => by
    have h1 : (j + 1) * n ≤ l.length / n * n := Nat.mul_le_mul_right n hj
    rw [Nat.succ_mul] at h1
    rw [List.drop_append_of_le_length (by omega), List.take_append_of_le_length (by rw [List.length_drop]; omega)]
  by_cases hc : l.length % n + 1 = n
  · have hdiv : (l.length + 1) / n = l.length / n + 1 := by
      rw [show l.length + 1 = n * (l.length / n + 1) by rw [Nat.mul_add]; omega, Nat.mul_div_cancel_left _ hn]
    rw [if_pos hc, if_pos hc]
    refine ⟨?_, ?_⟩
    · unfold chunkS
      rw [hlen, hdiv, List.range_succ, List.map_append, List.map_congr_left fun j hj => hold j (List.mem_range.1 hj)]
      congr 1
      simp only [List.map_cons, List.map_nil]
      have hle : l.length / n * n ≤ l.length := by rw [← hcomm]; omega
      have hsub : l.length - l.length / n * n + 1 ≤ n := by rw [← hcomm]; omega
      rw [List.drop_append_of_le_length hle, List.take_of_length_le (by rw [List.length_append, List.length_drop, List.length_singleton]; exact hsub), List.foldl_append]
      rfl
    · have hle : l.length + 1 ≤ l.length / n * n + n := by rw [← hcomm]; omega
      rw [hlen, hdiv]
      refine List.drop_eq_nil_of_le ?_
      rw [hlen, Nat.succ_mul]; exact hle
  · have hdiv : (l.length + 1) / n = l.length / n := by
      have h3 : l.length % n + 1 < n := Nat.lt_of_le_of_ne hlt hc
      have h2 : l.length + 1 = n * (l.length / n) + (l.length % n + 1) := by omega
      have h4 : (n * (l.length / n) + (l.length % n + 1)) / n = l.length / n := by rw [Nat.mul_add_div hn, Nat.div_eq_of_lt h3, Nat.add_zero]
      rw [← h4, ← h2]
    rw [if_neg hc, if_neg hc, List.append_nil]
    refine ⟨?_, ?_⟩
    · unfold chunkS
      rw [hlen, hdiv, List.map_congr_left fun j hj => hold j (List.mem_range.1 hj)]
    · rw [hlen, hdiv, List.drop_append_of_le_length (by omega)]
theorem run_every (n : Nat) (h1 : 1 ≤ n) (hn : n ≤ 3) (k : ByteArray) (d : List Rec) (h : ∀ r ∈ d, r.key = k ∧ r.key.size ≤ 40) :
    (runLog ⟨8, [0], ⟨#[]⟩, (n : Int)⟩ (logOf d)).2.map (·.num) = chunkS n (d.map (·.num)) ∧
    pget (runLog ⟨8, [0], ⟨#[]⟩, (n : Int)⟩ (logOf d)).1 k = (if d = [] then none else some ⟨0, k, ((d.length % n : Nat) : Int), ((d.map (·.num)).drop (d.length / n * n)).foldl addW 0⟩) := by
  revert h
  refine snoc_ind (P := fun d => (∀ r ∈ d, r.key = k ∧ r.key.size ≤ 40) → (runLog ⟨8, [0], ⟨#[]⟩, (n : Int)⟩ (logOf d)).2.map (·.num) = chunkS n (d.map (·.num)) ∧
    pget (runLog ⟨8, [0], ⟨#[]⟩, (n : Int)⟩ (logOf d)).1 k = (if d = [] then none else some ⟨0, k, ((d.length % n : Nat) : Int), ((d.map (·.num)).drop (d.length / n * n)).foldl addW 0⟩)) (fun _ => ⟨by simp [chunkS, logOf, runLog], rfl⟩) ?_ d
  intro d r ih h
  obtain ⟨i1, i2⟩ := ih fun x hx => h x (List.mem_append.2 (.inl hx))
  obtain ⟨hrk, hrs⟩ := h r (List.mem_append.2 (.inr List.mem_cons_self))
  obtain ⟨S, hS⟩ : ∃ S, S = ((d.map (·.num)).drop (d.length / n * n)).foldl addW 0 := ⟨_, rfl⟩
  have hlt := Nat.mod_lt d.length (show n > 0 by omega)
  have ha : begins ((pget (runLog ⟨8, [0], ⟨#[]⟩, (n : Int)⟩ (logOf d)).1 k).getD zeroH) (pget (runLog ⟨8, [0], ⟨#[]⟩, (n : Int)⟩ (logOf d)).1 k).isSome r = ⟨0, k, ((d.length % n : Nat) : Int), S⟩ := by
    rw [i2, hS]
    split
    · rename_i hd; rw [hd]; unfold begins; rw [hrk]; simp
    · unfold begins; rw [hrk]; rfl
  have hc := chunk_snoc (show 0 < n by omega) (d.map (·.num)) r.num
  rw [List.length_map, ← hS] at hc
  have hw : wrap64 (((d.length % n : Nat) : Int) + 1) = ((d.length % n : Nat) : Int) + 1 := by unfold wrap64; omega
  have happ : applyN ⟨8, [0], ⟨#[]⟩, (n : Int)⟩ ((pget (runLog ⟨8, [0], ⟨#[]⟩, (n : Int)⟩ (logOf d)).1 k).getD zeroH) (pget (runLog ⟨8, [0], ⟨#[]⟩, (n : Int)⟩ (logOf d)).1 k).isSome r 0 =
      (if d.length % n + 1 = n then ⟨[{ r with num := addW S r.num }], ⟨0, k, 0, 0⟩, true⟩ else ⟨[], ⟨0, k, ((d.length % n : Nat) : Int) + 1, addW S r.num⟩, true⟩) := by
    show (if (n : Int) ≤ wrap64 ((begins _ _ r).a + 1) then ends_ (passR { r with num := wrap64 ((begins _ _ r).b + r.num) }) { (begins _ _ r) with a := 0, b := 0 } true else ends_ [] { (begins _ _ r) with a := wrap64 ((begins _ _ r).a + 1), b := wrap64 ((begins _ _ r).b + r.num) } true) = _
    rw [ha]
    simp only
    rw [hw]
    by_cases hcc : d.length % n + 1 = n
    · rw [if_pos (by omega), if_pos hcc, passR_one (by exact hrs)]; rfl
    · rw [if_neg (by omega), if_neg hcc]; rfl
  have hdn : (d ++ [r]).length = d.length + 1 := by simp
  have hmap : (d ++ [r]).map (·.num) = d.map (·.num) ++ [r.num] := by simp
  rw [logOf_snoc, runLog_snoc]
  unfold stepLog
  simp only
  rw [hrk, show ((0 : Nat) : Int) = 0 from rfl, happ, hmap, hc.1, if_neg (show ¬ (d ++ [r] = []) by simp)]
  have hd2 : (d.map (·.num) ++ [r.num]).drop ((d ++ [r]).length / n * n) = (if d.length % n + 1 = n then [] else (d.map (·.num)).drop (d.length / n * n) ++ [r.num]) := by
    rw [← hc.2, hdn, List.length_append, List.length_map]; rfl
  have hmod : (d ++ [r]).length % n = if d.length % n + 1 = n then 0 else d.length % n + 1 := by
    rw [hdn]
    have hm := Nat.div_add_mod d.length n
    by_cases hcc : d.length % n + 1 = n
    · rw [if_pos hcc, show d.length + 1 = n * (d.length / n + 1) by rw [Nat.mul_add]; omega, Nat.mul_mod_right]
    · rw [if_neg hcc]
      have h2 : d.length + 1 = n * (d.length / n) + (d.length % n + 1) := by omega
      have h3 : d.length % n + 1 < n := Nat.lt_of_le_of_ne hlt hcc
      have h4 : (n * (d.length / n) + (d.length % n + 1)) % n = d.length % n + 1 := by rw [Nat.mul_add_mod, Nat.mod_eq_of_lt h3]
      rw [← h4, ← h2]
  rw [hd2, hmod]
  by_cases hcc : d.length % n + 1 = n
  · simp only [if_pos hcc, if_true]
    refine ⟨by rw [List.map_append, i1]; rfl, by rw [pget_pset, if_pos rfl]; rfl⟩
  · simp only [if_neg hcc, if_true]
    refine ⟨by rw [List.map_append, i1]; rfl, ?_⟩
    rw [pget_pset, if_pos rfl, List.foldl_append, ← hS]
    simp [addW]
theorem every_at (n : Nat) (h1 : 1 ≤ n) (hn : n ≤ 3) (d : List Rec) (h : KeysOk d) (k : ByteArray) : numsAt (runLog ⟨8, [0], ⟨#[]⟩, (n : Int)⟩ (logOf d)).2 k = chunkS n (numsAt d k) := by
  rw [numsAt_recs, (run_key (show (8 : Int) ≠ 4 by decide) (show (8 : Int) ≠ 6 by decide) k (logOf d)).1, atKey_log, (run_every n h1 hn k (recsAt k d) (h.at_ k)).1]
  rfl
theorem job_copy (n : Nat) (h1 : 1 ≤ n) (hn : n ≤ 3) : jobErr (lineJ ⟨5, [], ⟨#[]⟩, (n : Int)⟩) = 0 ∧ jobErr (lineJ ⟨8, [], ⟨#[]⟩, (n : Int)⟩) = 0 := by
  have hc : n = 1 ∨ n = 2 ∨ n = 3 := by omega
  rcases hc with rfl | rfl | rfl
  · exact ⟨by decide +kernel, by decide +kernel⟩
  · exact ⟨by decide +kernel, by decide +kernel⟩
  · exact ⟨by decide +kernel, by decide +kernel⟩
end Go.Proofs.YtcmhbhdiepkndaaGreatDoor

/-
  A literal of two records, in memory. No condition: definitions and lemmas.
-/
namespace Go.Proofs.YtcmhbhdiepkndaaGreatDoor
open Go.RowKit Go.ChangeShapes Go.WideShapes Go.Shelf
set_option linter.unusedVariables false

def keyA : ByteArray := ⟨#[97]⟩
def litA : List Rec := [⟨keyA, 2, 0⟩, ⟨keyA, 3, 0⟩]
theorem litA_ok : dataErr [litA] = 0 := by decide +kernel
theorem lit_recs {W : World} {g : Nat} (l : List Rec) {F : Nat → Prop} (hg : W.heap[g]? = some (.cells (l.flatMap recCells).toArray 30 (0, 0))) (hl : l.length ≤ 1000) (hF : F g) (hx : ∀ x ∈ l, RecOk x) : SlA recE F W (some ⟨g, 0, none⟩) l.length l := by
  have ho : OwnS W 30 3 (some ⟨g, 0, none⟩) l.length l.length (l.flatMap recCells) := by
    have e : ∀ l : List Rec, (l.flatMap recCells).length = l.length * 3 := fun l => by
      induction l with
      | nil => rfl
      | cons x l ih => rw [List.flatMap_cons, List.length_append, ih, List.length_cons, show (recCells x).length = 3 from rfl]; omega
    refine ⟨e l, Nat.le_refl _, by unfold maxLen; omega, .inr ⟨g, 0, _, rfl, hg, by rw [List.size_toArray, e]; omega, fun j u hj => by rw [Nat.zero_add]; simpa using hj⟩⟩
  exact own_recs ho rfl (fun k e => by injection e with e; subst e; exact hF) hx
theorem recOk_lit {n : Int} (h : I64 n) : RecOk ⟨keyA, n, 0⟩ := ⟨by unfold maxLen; show (1 : Nat) ≤ _; omega, h, rfl⟩
end Go.Proofs.YtcmhbhdiepkndaaGreatDoor

/-
  Package den, plain: what a Union makes of what comes by its inputs; a job of two Sources put together. No condition: plain definitions and lemmas.
-/
namespace Go.Proofs.YtcmhbhdiepkndaaGreatDoor
open Go.RowKit
set_option linter.unusedVariables false

/-! ### Keys of a Union -/
theorem ba_append_inj {a b c d : ByteArray} (hs : a.size = c.size) (h : a ++ b = c ++ d) : a = c ∧ b = d := by
  have h1 : (a ++ b).data.toList = (c ++ d).data.toList := by rw [h]
  rw [ByteArray.data_append, ByteArray.data_append, Array.toList_append, Array.toList_append] at h1
  obtain ⟨e1, e2⟩ := List.append_inj h1 (by rw [Array.length_toList, Array.length_toList]; exact hs)
  cases a; cases b; cases c; cases d
  exact ⟨by congr 1; exact Array.toList_inj.1 e1, by congr 1; exact Array.toList_inj.1 e2⟩
def uniPre (j : Nat) : ByteArray := ⟨#[UInt8.ofNat (48 + j), 58]⟩
theorem uniKey_pre {j : Nat} (hj : j < 4) (k : ByteArray) : uniKey (j : Int) k = uniPre j ++ k := by
  have h : (⟨(Lib.itoa (j : Int)).toArray⟩ : ByteArray) ++ ⟨#[58]⟩ = uniPre j := by
    have hc : j = 0 ∨ j = 1 ∨ j = 2 ∨ j = 3 := by omega
    rcases hc with rfl | rfl | rfl | rfl
    · decide +kernel
    · decide +kernel
    · decide +kernel
    · decide +kernel
  unfold uniKey
  rw [h]
theorem uniPre_size (j : Nat) : (uniPre j).size = 2 := rfl
theorem uniPre_inj {i j : Nat} (hi : i < 4) (hj : j < 4) (h : uniPre i = uniPre j) : i = j := by
  have hc : i = 0 ∨ i = 1 ∨ i = 2 ∨ i = 3 := by omega
  have hd : j = 0 ∨ j = 1 ∨ j = 2 ∨ j = 3 := by omega
  rcases hc with rfl | rfl | rfl | rfl <;> rcases hd with rfl | rfl | rfl | rfl <;> first | rfl | (exact absurd h (by decide))
theorem uniKey_inj {i j : Nat} (hi : i < 4) (hj : j < 4) {a b : ByteArray} (h : uniKey (i : Int) a = uniKey (j : Int) b) : i = j ∧ a = b := by
  rw [uniKey_pre hi, uniKey_pre hj] at h
  obtain ⟨h1, h2⟩ := ba_append_inj (by rw [uniPre_size, uniPre_size]) h
  exact ⟨uniPre_inj hi hj h1, h2⟩
theorem uniKey_size {j : Nat} (hj : j < 4) (k : ByteArray) : (uniKey (j : Int) k).size = k.size + 2 := by
  rw [uniKey_pre hj, ByteArray.size_append, uniPre_size]; omega

/-! ### A Union's log -/
def uniR (p : Nat × Rec) : List Rec := passR { p.2 with key := uniKey (p.1 : Int) p.2.key }
theorem run_union (fr : List Int) (text : ByteArray) (m : Int) (log : List (Nat × Rec)) : (runLog ⟨6, fr, text, m⟩ log).2 = log.flatMap uniR ∧ (runLog ⟨6, fr, text, m⟩ log).1 = [] := by
  refine snoc_ind (P := fun log => (runLog ⟨6, fr, text, m⟩ log).2 = log.flatMap uniR ∧ (runLog ⟨6, fr, text, m⟩ log).1 = []) ⟨rfl, rfl⟩ ?_ log
  intro log p ⟨i1, i2⟩
  rw [runLog_snoc]
  unfold stepLog
  simp only
  rw [i1, i2]
  refine ⟨?_, rfl⟩
  rw [List.flatMap_append]
  congr 1
  simp only [List.flatMap_cons, List.flatMap_nil, List.append_nil]
  rfl
def TagsUnder (n : Nat) (log : List (Nat × Rec)) : Prop := ∀ p ∈ log, p.1 < n
/-- Of one key of a Union's: what came by that input with that key. -/
theorem uni_at {log : List (Nat × Rec)} (ht : TagsUnder 4 log) {j : Nat} (hj : j < 4) (k : ByteArray) (hs : k.size + 2 ≤ 40) : recsAt (uniKey (j : Int) k) (log.flatMap uniR) = (recsAt k (byIn j log)).map fun r => { r with key := uniKey (j : Int) r.key } := by
  induction log with
  | nil => rfl
  | cons p log ih =>
    have ih' := ih fun q hq => ht q (List.mem_cons_of_mem _ hq)
    have hp := ht p List.mem_cons_self
    unfold recsAt byIn at ih' ⊢
    rw [List.flatMap_cons, List.filter_append, ih', List.filter_cons]
    by_cases e : p.1 = j
    · rw [if_pos (by simp [e]), List.map_cons, List.filter_cons]
      by_cases ek : p.2.key = k
      · rw [if_pos (by simp [ek]), List.map_cons]
        unfold uniR
        rw [passR_one (by show (uniKey (p.1 : Int) p.2.key).size ≤ 40; rw [uniKey_size hp, ek]; exact hs)]
        rw [List.filter_cons, if_pos (by simp [e, ek])]
        simp [e]
      · rw [if_neg (by simp [ek])]
        have : (uniR p).filter (fun r => decide (r.key = uniKey (j : Int) k)) = [] := List.filter_eq_nil_iff.2 fun x hx he => by
          rw [passR_key hx] at he
          exact ek (uniKey_inj hp hj (of_decide_eq_true he)).2
        rw [this]; rfl
    · rw [if_neg (by simp [e])]
      have : (uniR p).filter (fun r => decide (r.key = uniKey (j : Int) k)) = [] := List.filter_eq_nil_iff.2 fun x hx he => by
        rw [passR_key hx] at he
        exact e (uniKey_inj hp hj (of_decide_eq_true he)).1
      rw [this]; rfl
theorem uni_nums {log : List (Nat × Rec)} (ht : TagsUnder 4 log) {j : Nat} (hj : j < 4) (k : ByteArray) (hs : k.size + 2 ≤ 40) : numsAt (log.flatMap uniR) (uniKey (j : Int) k) = numsAt (byIn j log) k := by
  rw [numsAt_recs, uni_at ht hj k hs, List.map_map]
  rfl
theorem uni_keys {log : List (Nat × Rec)} (ht : TagsUnder 4 log) (k : ByteArray) : (∃ r ∈ log.flatMap uniR, r.key = k) ↔ ∃ p ∈ log, p.2.key.size + 2 ≤ 40 ∧ uniKey (p.1 : Int) p.2.key = k := by
  constructor
  · rintro ⟨r, hr, e⟩
    obtain ⟨p, hp, hr⟩ := List.mem_flatMap.1 hr
    have h1 := passR_key hr
    refine ⟨p, hp, ?_, by rw [← e, h1]⟩
    unfold uniR passR at hr
    split at hr
    · cases hr
    · rename_i h2
      have h3 : ¬ 40 < (uniKey (p.1 : Int) p.2.key).size := h2
      rw [uniKey_size (ht p hp)] at h3
      omega
  · rintro ⟨p, hp, hs, e⟩
    refine ⟨{ p.2 with key := uniKey (p.1 : Int) p.2.key }, List.mem_flatMap.2 ⟨p, hp, ?_⟩, e⟩
    unfold uniR
    rw [passR_one (by show (uniKey (p.1 : Int) p.2.key).size ≤ 40; rw [uniKey_size (ht p hp)]; exact hs)]
    exact List.mem_singleton.2 rfl
theorem mem_byIn {log : List (Nat × Rec)} {j : Nat} {r : Rec} : r ∈ byIn j log ↔ (j, r) ∈ log := by
  unfold byIn
  rw [List.mem_map]
  constructor
  · rintro ⟨⟨i, x⟩, hp, rfl⟩
    obtain ⟨h1, h2⟩ := List.mem_filter.1 hp
    have : i = j := by simpa using h2
    rw [← this]; exact h1
  · intro h
    exact ⟨(j, r), List.mem_filter.2 ⟨h, by simp⟩, rfl⟩
theorem byIn_len2 {log : List (Nat × Rec)} (ht : TagsUnder 2 log) : log.length = (byIn 0 log).length + (byIn 1 log).length := by
  induction log with
  | nil => rfl
  | cons p log ih =>
    have ih' := ih fun q hq => ht q (List.mem_cons_of_mem _ hq)
    have hp := ht p List.mem_cons_self
    unfold byIn at ih' ⊢
    rw [List.length_cons, ih', List.filter_cons, List.filter_cons]
    have hc : p.1 = 0 ∨ p.1 = 1 := by omega
    rcases hc with e | e
    · rw [e]; simp; omega
    · rw [e]; simp; omega
theorem uniR_len (log : List (Nat × Rec)) : (log.flatMap uniR).length ≤ log.length := by
  induction log with
  | nil => exact Nat.le_refl _
  | cons p log ih =>
    rw [List.flatMap_cons, List.length_append, List.length_cons]
    have : (uniR p).length ≤ 1 := by unfold uniR passR; split <;> simp
    omega

/-! ### Two Sources put together -/
def uniJ : List Nod := [⟨1, [], ⟨#[]⟩, 2⟩, ⟨1, [], ⟨#[]⟩, 1⟩, ⟨6, [0, 1], ⟨#[]⟩, 0⟩, ⟨10, [2], ⟨#[]⟩, 0⟩, ⟨10, [0], ⟨#[]⟩, 0⟩, ⟨10, [1], ⟨#[]⟩, 0⟩]
theorem job_uni : jobErr uniJ = 0 := by decide +kernel
theorem uni_of : ofKind uniJ 1 = [0, 1] ∧ ofKind uniJ 10 = [3, 4, 5] := by decide +kernel
theorem uni_flow (a b : List Rec) (ha : a.length ≤ 300) (hb : b.length ≤ 300) :
    ∃ f log, flowAll uniJ [a, b] = some f ∧ f.ln[3]? = some (grp (log.flatMap uniR)) ∧ f.ln[4]? = some (grp a) ∧ f.ln[5]? = some (grp b) ∧ TagsUnder 2 log ∧ byIn 0 log = a ∧ byIn 1 log = b := by
  obtain ⟨S, h0, hA, hD⟩ := flow_hist job_uni [a, b] (by rw [uni_of.1]; rfl)
  have hH0 : S.H 0 = a := hD 0 0 a (by rw [uni_of.1]; rfl) rfl
  have hH1 : S.H 1 = b := hD 1 1 b (by rw [uni_of.1]; rfl) rfl
  have hl2 := hA.2.1 2 ⟨6, [0, 1], ⟨#[]⟩, 0⟩ rfl
  have hH2 : S.H 2 = (S.M 2).flatMap uniR := (hl2.2.1 (by decide) (by decide)).2.trans (run_union _ _ _ _).1
  have ht : TagsUnder 2 (S.M 2) := hl2.2.2
  have hb0 : byIn 0 (S.M 2) = a := (hA.2.2 2 0 0 ⟨_, rfl, rfl⟩).trans hH0
  have hb1 : byIn 1 (S.M 2) = b := (hA.2.2 2 1 1 ⟨_, rfl, rfl⟩).trans hH1
  obtain ⟨l3, e3⟩ := sink_out hA (u := 3) (n := ⟨10, [2], ⟨#[]⟩, 0⟩) rfl rfl (p := 2) rfl
  obtain ⟨l4, e4⟩ := sink_out hA (u := 4) (n := ⟨10, [0], ⟨#[]⟩, 0⟩) rfl rfl (p := 0) rfl
  obtain ⟨l5, e5⟩ := sink_out hA (u := 5) (n := ⟨10, [1], ⟨#[]⟩, 0⟩) rfl rfl (p := 1) rfl
  rw [hH2] at l3
  rw [hH0] at l4
  rw [hH1] at l5
  refine ⟨S.f, S.M 2, ?_, l3, l4, l5, ht, hb0, hb1⟩
  rw [flow_cut job_uni, ← h0]
  refine if_pos (flow_ok hA fun v hv => ?_)
  have hv6 : v < 6 := hv
  have hml := byIn_len2 ht
  rw [hb0, hb1] at hml
  match v, hv6 with
  | 0, _ => rw [hH0]; omega
  | 1, _ => rw [hH1]; omega
  | 2, _ => rw [hH2]; have := uniR_len (S.M 2); omega
  | 3, _ => rw [e3]; simp
  | 4, _ => rw [e4]; simp
  | 5, _ => rw [e5]; simp
theorem nodup_len {α : Type} [DecidableEq α] : ∀ {a b : List α}, a.Nodup → (∀ x ∈ a, x ∈ b) → a.length ≤ b.length
  | [], _, _, _ => Nat.zero_le _
  | x :: a, b, hn, hs => by
    have hx := hs x List.mem_cons_self
    have h1 := nodup_len (b := b.erase x) (List.nodup_cons.1 hn).2 fun y hy => (List.mem_erase_of_ne fun e => (List.nodup_cons.1 hn).1 (by rw [← e]; exact hy)).2 (hs y (List.mem_cons_of_mem _ hy))
    rw [List.length_erase_of_mem hx] at h1
    have := List.length_pos_of_mem hx
    rw [List.length_cons]; omega
theorem LinesGrp.len_le {l : List Rec} {out : List Lin} (h : LinesGrp l out) : out.length ≤ l.length := by
  have := nodup_len h.nd (b := l.map (·.key)) fun k hk => by
    obtain ⟨r, hr, e⟩ := (h.keys k).1 hk
    exact List.mem_map.2 ⟨r, hr, e⟩
  rw [List.length_map, List.length_map] at this
  exact this
def cntShort (out : List Lin) : Nat := (out.filter fun x => decide (x.key.size + 2 ≤ 40)).length
theorem uni_count {log : List (Nat × Rec)} (ht : TagsUnder 2 log) {x0 x1 x2 : List Lin} (h0 : LinesGrp (log.flatMap uniR) x0) (h1 : LinesGrp (byIn 0 log) x1) (h2 : LinesGrp (byIn 1 log) x2) : x0.length = cntShort x1 + cntShort x2 := by
  have ht4 : TagsUnder 4 log := fun p hp => by have := ht p hp; omega
  have hk : ∀ (j : Nat) (x : List Lin), LinesGrp (byIn j log) x → ∀ k, k ∈ (x.filter fun y => decide (y.key.size + 2 ≤ 40)).map (fun y => uniKey (j : Int) y.key) ↔ ∃ r, (j, r) ∈ log ∧ r.key.size + 2 ≤ 40 ∧ uniKey (j : Int) r.key = k := fun j x hx k => by
    rw [List.mem_map]
    constructor
    · rintro ⟨y, hy, e⟩
      obtain ⟨hy1, hy2⟩ := List.mem_filter.1 hy
      obtain ⟨r, hr, er⟩ := (hx.keys y.key).1 (List.mem_map.2 ⟨y, hy1, rfl⟩)
      exact ⟨r, mem_byIn.1 hr, by rw [er]; exact of_decide_eq_true hy2, by rw [er]; exact e⟩
    · rintro ⟨r, hr, hs, e⟩
      obtain ⟨y, hy, ey⟩ := List.mem_map.1 ((hx.keys r.key).2 ⟨r, mem_byIn.2 hr, rfl⟩)
      exact ⟨y, List.mem_filter.2 ⟨hy, decide_eq_true (by rw [ey]; exact hs)⟩, by rw [ey]; exact e⟩
  have hnd : ∀ (j : Nat) (x : List Lin), j < 4 → LinesGrp (byIn j log) x → ((x.filter fun y => decide (y.key.size + 2 ≤ 40)).map (fun y => uniKey (j : Int) y.key)).Nodup := fun j x hj hx => by
    have h3 := (List.pairwise_map.1 hx.nd).sublist (List.filter_sublist (p := fun y => decide (y.key.size + 2 ≤ 40)))
    exact List.pairwise_map.2 (h3.imp fun {a b} hab e => hab (uniKey_inj hj hj e).2)
  have hp : (x0.map (·.key)).Perm (((x1.filter fun y => decide (y.key.size + 2 ≤ 40)).map (fun y => uniKey ((0 : Nat) : Int) y.key)) ++ ((x2.filter fun y => decide (y.key.size + 2 ≤ 40)).map (fun y => uniKey ((1 : Nat) : Int) y.key))) := by
    refine (List.perm_ext_iff_of_nodup h0.nd (List.nodup_append.2 ⟨hnd 0 x1 (by omega) h1, hnd 1 x2 (by omega) h2, fun a ha b hb e => ?_⟩)).2 fun k => ?_
    · obtain ⟨r, _, _, e1⟩ := (hk 0 x1 h1 a).1 ha
      obtain ⟨r', _, _, e2⟩ := (hk 1 x2 h2 b).1 hb
      have := (uniKey_inj (i := 0) (j := 1) (by omega) (by omega) (e1.trans (e.trans e2.symm))).1
      omega
    · rw [h0.keys, uni_keys ht4, List.mem_append, hk 0 x1 h1, hk 1 x2 h2]
      constructor
      · rintro ⟨p, hp, hs, e⟩
        have hc : p.1 = 0 ∨ p.1 = 1 := by have := ht p hp; omega
        obtain ⟨i, r⟩ := p
        rcases hc with rfl | rfl
        · exact .inl ⟨r, hp, hs, e⟩
        · exact .inr ⟨r, hp, hs, e⟩
      · rintro (⟨r, hr, hs, e⟩ | ⟨r, hr, hs, e⟩)
        · exact ⟨_, hr, hs, e⟩
        · exact ⟨_, hr, hs, e⟩
  have hl := hp.length_eq
  rw [List.length_map, List.length_append, List.length_map, List.length_map] at hl
  exact hl
end Go.Proofs.YtcmhbhdiepkndaaGreatDoor

/-
  Package den, plain: what parting by what a number leaves over m makes of records, key by key, and how many lines there are. No condition: plain definitions and lemmas.
-/
namespace Go.Proofs.YtcmhbhdiepkndaaGreatDoor
open Go.RowKit
set_option linter.unusedVariables false

def txtMod (m : Nat) : ByteArray := ⟨#[110, 37, UInt8.ofNat (48 + m)]⟩
theorem nine {P : Nat → Prop} (h : P 1 ∧ P 2 ∧ P 3 ∧ P 4 ∧ P 5 ∧ P 6 ∧ P 7 ∧ P 8 ∧ P 9) {m : Nat} (h1 : 1 ≤ m) (h9 : m ≤ 9) : P m := by
  have hc : m = 1 ∨ m = 2 ∨ m = 3 ∨ m = 4 ∨ m = 5 ∨ m = 6 ∨ m = 7 ∨ m = 8 ∨ m = 9 := by omega
  obtain ⟨a1, a2, a3, a4, a5, a6, a7, a8, a9⟩ := h
  rcases hc with rfl | rfl | rfl | rfl | rfl | rfl | rfl | rfl | rfl <;> assumption
theorem parse_mod {m : Nat} (h1 : 1 ≤ m) (h9 : m ≤ 9) : parseT (txtMod m).data.toList = .tree (.bin 37 (.nam true) (.num (m : Int))) :=
  nine (P := fun m => parseT (txtMod m).data.toList = .tree (.bin 37 (.nam true) (.num (m : Int)))) ⟨by kernel_rfl, by kernel_rfl, by kernel_rfl, by kernel_rfl, by kernel_rfl, by kernel_rfl, by kernel_rfl, by kernel_rfl, by kernel_rfl⟩ h1 h9
theorem job_mod {m : Nat} (h1 : 1 ≤ m) (h9 : m ≤ 9) : jobErr (lineJ ⟨4, [], txtMod m, 0⟩) = 0 :=
  nine (P := fun m => jobErr (lineJ ⟨4, [], txtMod m, 0⟩) = 0) (by decide +kernel) h1 h9
theorem txt_mod {m : Nat} (h1 : 1 ≤ m) (h9 : m ≤ 9) : (⟨#[110, 37]⟩ : ByteArray) ++ ⟨(Lib.itoa (m : Int)).toArray⟩ = txtMod m :=
  nine (P := fun m => (⟨#[110, 37]⟩ : ByteArray) ++ ⟨(Lib.itoa (m : Int)).toArray⟩ = txtMod m) (by decide +kernel) h1 h9
theorem ev_mod {m : Nat} (h1 : 1 ≤ m) (h9 : m ≤ 9) (n s : Int) : evalOf (txtMod m) n s = n.tmod (m : Int) := by
  unfold evalOf
  rw [parse_mod h1 h9]
  show opVal 37 n (m : Int) = _
  unfold opVal
  rw [if_neg (by decide), if_neg (by decide), if_neg (by decide), if_neg (by decide), if_neg (by decide), if_neg (by decide), if_neg (by decide), if_neg (by decide), if_neg (by omega), if_neg (by omega), if_neg (by decide)]

/-! ### Keys -/
def sufK (j : Int) : List UInt8 := 47 :: Lib.itoa j
theorem subKey_list (k : ByteArray) (j : Int) : (subKey k j).data.toList = k.data.toList ++ sufK j := by
  unfold subKey
  rw [ByteArray.data_append, ByteArray.data_append, Array.toList_append, Array.toList_append]
  rfl
theorem suf_small {j : Int} (h1 : -9 < j) (h2 : j < 9) : (0 ≤ j ∧ sufK j = [47, UInt8.ofNat (48 + j.toNat)]) ∨ (j < 0 ∧ sufK j = [47, 45, UInt8.ofNat (48 + j.natAbs)]) := by
  unfold sufK Lib.itoa
  by_cases h : j < 0
  · rw [if_pos h, Lib.decDigits_one (by omega)]; exact .inr ⟨h, rfl⟩
  · rw [if_neg h, Lib.decDigits_one (by omega)]; exact .inl ⟨by omega, rfl⟩
theorem dig_inj {a b : Nat} (ha : a < 10) (hb : b < 10) (h : UInt8.ofNat (48 + a) = UInt8.ofNat (48 + b)) : a = b := by
  have h2 := congrArg UInt8.toNat h
  rw [UInt8.toNat_ofNat', UInt8.toNat_ofNat'] at h2
  omega
theorem ba_ext {a b : ByteArray} (h : a.data.toList = b.data.toList) : a = b := by
  cases a; cases b; congr 1; exact Array.toList_inj.1 h
theorem subKey_inj {a b : ByteArray} {i j : Int} (h1 : -9 < i) (h2 : i < 9) (h3 : -9 < j) (h4 : j < 9) (h : subKey a i = subKey b j) : a = b ∧ i = j := by
  have e : a.data.toList ++ sufK i = b.data.toList ++ sufK j := by rw [← subKey_list, ← subKey_list, h]
  rcases suf_small h1 h2 with ⟨p1, e1⟩ | ⟨p1, e1⟩ <;> rcases suf_small h3 h4 with ⟨p2, e2⟩ | ⟨p2, e2⟩ <;> rw [e1, e2] at e
  · obtain ⟨f1, f2⟩ := List.append_inj' e rfl
    injection f2 with _ f2; injection f2 with f2 _
    have := dig_inj (by omega) (by omega) f2
    exact ⟨ba_ext f1, by omega⟩
  · rw [show b.data.toList ++ [47, 45, UInt8.ofNat (48 + j.natAbs)] = (b.data.toList ++ [47]) ++ [45, UInt8.ofNat (48 + j.natAbs)] by simp] at e
    obtain ⟨f1, f2⟩ := List.append_inj' e rfl
    injection f2 with f2 _
    exact absurd f2 (by decide)
  · rw [show a.data.toList ++ [47, 45, UInt8.ofNat (48 + i.natAbs)] = (a.data.toList ++ [47]) ++ [45, UInt8.ofNat (48 + i.natAbs)] by simp] at e
    obtain ⟨f1, f2⟩ := List.append_inj' e rfl
    injection f2 with f2 _
    exact absurd f2 (by decide)
  · obtain ⟨f1, f2⟩ := List.append_inj' e rfl
    injection f2 with _ f2; injection f2 with _ f2; injection f2 with f2 _
    have := dig_inj (by omega) (by omega) f2
    exact ⟨ba_ext f1, by omega⟩
theorem subKey_size {j : Int} (h1 : -9 < j) (h2 : j < 9) (k : ByteArray) : (subKey k j).size ≤ k.size + 3 := by
  have h : (subKey k j).data.toList.length = k.data.toList.length + (sufK j).length := by rw [subKey_list, List.length_append]
  have h3 : (sufK j).length ≤ 3 := by
    rcases suf_small h1 h2 with ⟨_, e⟩ | ⟨_, e⟩ <;> rw [e] <;> simp
  rw [Array.length_toList, Array.length_toList] at h
  show (subKey k j).data.size ≤ k.data.size + 3
  omega
theorem mod_range {m : Nat} (h1 : 1 ≤ m) (h9 : m ≤ 9) (x : Int) : -(m : Int) < x.tmod (m : Int) ∧ x.tmod (m : Int) < m := by
  have h2 := Int.tmod_lt_of_pos x (show (0 : Int) < m by omega)
  have h3 := Int.lt_tmod_of_pos x (show (0 : Int) < m by omega)
  exact ⟨by omega, h2⟩

/-! ### What is parted -/
def subR (m : Nat) (r : Rec) : List Rec := passR { r with key := subKey r.key (r.num.tmod (m : Int)) }
theorem run_sub {m : Nat} (h1 : 1 ≤ m) (h9 : m ≤ 9) (d : List Rec) :
    (runLog ⟨4, [0], txtMod m, 0⟩ (logOf d)).2 = d.flatMap (subR m) ∧ (runLog ⟨4, [0], txtMod m, 0⟩ (logOf d)).1 = [] := by
  refine snoc_ind (P := fun d => (runLog ⟨4, [0], txtMod m, 0⟩ (logOf d)).2 = d.flatMap (subR m) ∧ (runLog ⟨4, [0], txtMod m, 0⟩ (logOf d)).1 = []) ⟨rfl, rfl⟩ ?_ d
  intro d r ⟨i1, i2⟩
  rw [logOf_snoc, runLog_snoc]
  unfold stepLog
  simp only
  rw [i1, i2]
  have happ : applyN ⟨4, [0], txtMod m, 0⟩ ((pget ([] : List (ByteArray × Hld)) r.key).getD zeroH) (pget ([] : List (ByteArray × Hld)) r.key).isSome r 0 = ⟨subR m r, zeroH, false⟩ := by
    show ends_ (passR { r with key := subKey r.key (evalOf (txtMod m) r.num 0) }) _ false = _
    rw [ev_mod h1 h9]; rfl
  rw [show ((0 : Nat) : Int) = 0 from rfl, happ]
  refine ⟨?_, rfl⟩
  rw [List.flatMap_append]
  simp
/-- The numbers that leave k. -/
def subN (m : Nat) (k : Int) (l : List Int) : List Int := l.filter fun x => decide (x.tmod (m : Int) = k)
theorem sub_nums {m : Nat} (h1 : 1 ≤ m) (h9 : m ≤ 9) (d : List Rec) (k : ByteArray) (hk : k.size ≤ 37) {j : Int} (hj1 : -9 < j) (hj2 : j < 9) :
    numsAt (d.flatMap (subR m)) (subKey k j) = subN m j (numsAt d k) := by
  unfold numsAt subN
  induction d with
  | nil => rfl
  | cons r d ih =>
    obtain ⟨m1, m2⟩ := mod_range h1 h9 r.num
    rw [List.flatMap_cons, List.filter_append, List.map_append, ih, List.filter_cons]
    by_cases e : r.key = k
    · rw [decide_eq_true e, if_pos rfl, List.map_cons, List.filter_cons]
      have hsz : (subKey r.key (r.num.tmod (m : Int))).size ≤ 40 := by
        have := subKey_size (j := r.num.tmod (m : Int)) (by omega) (by omega) r.key
        rw [e] at this ⊢
        omega
      have hp : subR m r = [{ r with key := subKey r.key (r.num.tmod (m : Int)) }] := passR_one hsz
      rw [hp]
      by_cases ej : r.num.tmod (m : Int) = j
      · rw [decide_eq_true ej, if_pos rfl, List.filter_cons, if_pos (by simp [e, ej])]
        rfl
      · rw [decide_eq_false ej, if_neg (by decide), List.filter_cons, if_neg (fun h => ej (subKey_inj (by omega) (by omega) hj1 hj2 (of_decide_eq_true h)).2)]
        rfl
    · rw [decide_eq_false e, if_neg (by decide)]
      have : (subR m r).filter (fun r => decide (r.key = subKey k j)) = [] := List.filter_eq_nil_iff.2 fun x hx he => by
        rw [passR_key hx] at he
        exact e (subKey_inj (by omega) (by omega) hj1 hj2 (of_decide_eq_true he)).1
      rw [this]; rfl
theorem sub_keys {m : Nat} (h1 : 1 ≤ m) (h9 : m ≤ 9) (d : List Rec) (h : ∀ r ∈ d, r.key.size ≤ 37) (q : ByteArray) :
    (∃ r ∈ d.flatMap (subR m), r.key = q) ↔ ∃ r ∈ d, subKey r.key (r.num.tmod (m : Int)) = q := by
  constructor
  · rintro ⟨x, hx, e⟩
    obtain ⟨r, hr, hx⟩ := List.mem_flatMap.1 hx
    refine ⟨r, hr, ?_⟩
    rw [← e, passR_key hx]
  · rintro ⟨r, hr, e⟩
    obtain ⟨m1, m2⟩ := mod_range h1 h9 r.num
    have hsz : (subKey r.key (r.num.tmod (m : Int))).size ≤ 40 := by
      have := subKey_size (j := r.num.tmod (m : Int)) (by omega) (by omega) r.key
      have := h r hr
      omega
    refine ⟨{ r with key := subKey r.key (r.num.tmod (m : Int)) }, List.mem_flatMap.2 ⟨r, hr, ?_⟩, e⟩
    unfold subR
    rw [passR_one hsz]
    exact List.mem_cons_self

/-! ### How many lines -/
def hasK (m : Nat) (y : Lin) (t : Nat) : Bool := !(subN m ((t : Int) + 1 - m) y.nums).isEmpty
def cntK (m : Nat) (y : Lin) (t : Nat) : Nat := ((List.range t).filter (hasK m y)).length
theorem cntK_succ (m : Nat) (y : Lin) (t : Nat) : cntK m y (t + 1) = cntK m y t + if hasK m y t then 1 else 0 := by
  unfold cntK
  rw [List.range_succ, List.filter_append, List.length_append, List.filter_cons]
  cases hasK m y t <;> rfl
theorem cntK_le (m : Nat) (y : Lin) (t : Nat) : cntK m y t ≤ t := by
  unfold cntK
  have := List.length_filter_le (hasK m y) (List.range t)
  rwa [List.length_range] at this
def cntAll (m : Nat) : List Lin → Nat
  | [] => 0
  | y :: l => cntK m y (2 * m - 1) + cntAll m l
theorem cntAll_snoc (m : Nat) (l : List Lin) (y : Lin) : cntAll m (l ++ [y]) = cntAll m l + cntK m y (2 * m - 1) := by
  induction l with
  | nil => simp [cntAll]
  | cons z l ih => simp only [List.cons_append, cntAll, ih]; omega
theorem cntAll_le (m : Nat) (l : List Lin) : cntAll m l ≤ l.length * (2 * m - 1) := by
  induction l with
  | nil => simp [cntAll]
  | cons y l ih =>
    have := cntK_le m y (2 * m - 1)
    rw [List.length_cons, Nat.add_mul, Nat.one_mul]
    show cntK m y (2 * m - 1) + cntAll m l ≤ _
    omega
def keysOf (m : Nat) (l : List Lin) : List ByteArray := l.flatMap fun y => ((List.range (2 * m - 1)).filter (hasK m y)).map fun (t : Nat) => subKey y.key ((t : Int) + 1 - m)
theorem keysOf_len (m : Nat) (l : List Lin) : (keysOf m l).length = cntAll m l := by
  unfold keysOf
  induction l with
  | nil => rfl
  | cons y l ih => rw [List.flatMap_cons, List.length_append, ih, List.length_map]; rfl
theorem sub_count {m : Nat} (h1 : 1 ≤ m) (h9 : m ≤ 9) {d : List Rec} {pl x : List Lin} (hp : LinesGrp d pl) (hx : LinesGrp (d.flatMap (subR m)) x) (hs : ∀ y ∈ pl, y.key.size ≤ 37) : x.length = cntAll m pl := by
  have hsd : ∀ r ∈ d, r.key.size ≤ 37 := fun r hr => by
    obtain ⟨y, hy, e⟩ := List.mem_map.1 ((hp.keys r.key).2 ⟨r, hr, rfl⟩)
    rw [← e]; exact hs y hy
  have hnd : (keysOf m pl).Nodup := by
    unfold keysOf
    refine List.pairwise_flatMap.2 ⟨fun y hy => ?_, ?_⟩
    · refine List.pairwise_map.2 (List.Pairwise.imp_of_mem ?_ ((List.nodup_range (n := 2 * m - 1)).sublist List.filter_sublist))
      intro a b ha hb hab e
      have ha2 := List.mem_range.1 (List.mem_filter.1 ha).1
      have hb2 := List.mem_range.1 (List.mem_filter.1 hb).1
      have := (subKey_inj (by omega) (by omega) (by omega) (by omega) e).2
      exact hab (by omega)
    · refine (List.pairwise_map.1 hp.nd).imp ?_
      intro a b hab u hu v hv e
      obtain ⟨s, hs1, rfl⟩ := List.mem_map.1 hu
      obtain ⟨t, ht1, rfl⟩ := List.mem_map.1 hv
      have ha2 := List.mem_range.1 (List.mem_filter.1 hs1).1
      have hb2 := List.mem_range.1 (List.mem_filter.1 ht1).1
      exact hab (subKey_inj (by omega) (by omega) (by omega) (by omega) e).1
  have hmem : ∀ q, q ∈ keysOf m pl ↔ ∃ r ∈ d, subKey r.key (r.num.tmod (m : Int)) = q := fun q => by
    constructor
    · intro hq
      obtain ⟨y, hy, hq⟩ := List.mem_flatMap.1 hq
      obtain ⟨t, ht, rfl⟩ := List.mem_map.1 hq
      obtain ⟨ht1, ht2⟩ := List.mem_filter.1 ht
      unfold hasK at ht2
      have hne : subN m ((t : Int) + 1 - m) y.nums ≠ [] := fun e => by rw [e] at ht2; cases ht2
      obtain ⟨n, ln, en⟩ := List.exists_cons_of_ne_nil hne
      have hn : n ∈ subN m ((t : Int) + 1 - m) y.nums := by rw [en]; exact List.mem_cons_self
      obtain ⟨hn1, hn2⟩ := List.mem_filter.1 hn
      rw [hp.nums y hy] at hn1
      obtain ⟨r, hr, er⟩ := List.mem_map.1 hn1
      obtain ⟨hr1, hr2⟩ := List.mem_filter.1 hr
      refine ⟨r, hr1, ?_⟩
      rw [of_decide_eq_true hr2, er, of_decide_eq_true hn2]
    · rintro ⟨r, hr, rfl⟩
      obtain ⟨y, hy, e⟩ := List.mem_map.1 ((hp.keys r.key).2 ⟨r, hr, rfl⟩)
      obtain ⟨m1, m2⟩ := mod_range h1 h9 r.num
      refine List.mem_flatMap.2 ⟨y, hy, List.mem_map.2 ⟨(r.num.tmod (m : Int) + m - 1).toNat, List.mem_filter.2 ⟨List.mem_range.2 (by omega), ?_⟩, ?_⟩⟩
      · have e2 : (((r.num.tmod (m : Int) + m - 1).toNat : Nat) : Int) + 1 - m = r.num.tmod (m : Int) := by omega
        unfold hasK
        rw [e2]
        have hin : r.num ∈ subN m (r.num.tmod (m : Int)) y.nums := by
          refine List.mem_filter.2 ⟨?_, decide_eq_true rfl⟩
          rw [hp.nums y hy, e]
          exact List.mem_map.2 ⟨r, List.mem_filter.2 ⟨hr, decide_eq_true rfl⟩, rfl⟩
        cases h : subN m (r.num.tmod (m : Int)) y.nums with
        | nil => rw [h] at hin; cases hin
        | cons a b => rfl
      · show subKey y.key ((((r.num.tmod (m : Int) + m - 1).toNat : Nat) : Int) + 1 - m) = _
        rw [e, show (((r.num.tmod (m : Int) + m - 1).toNat : Nat) : Int) + 1 - m = r.num.tmod (m : Int) by omega]
  have hperm : (x.map (·.key)).Perm (keysOf m pl) := (List.perm_ext_iff_of_nodup hx.nd hnd).2 fun q => (hx.keys q).trans ((sub_keys h1 h9 d hsd q).trans (hmem q).symm)
  have := hperm.length_eq
  rwa [List.length_map, keysOf_len] at this
theorem subN_snoc (m : Nat) (k : Int) (l : List Int) (x : Int) : subN m k (l ++ [x]) = subN m k l ++ if x.tmod (m : Int) = k then [x] else [] := by
  unfold subN
  rw [List.filter_append, List.filter_cons]
  by_cases h : x.tmod (m : Int) = k
  · rw [decide_eq_true h, if_pos rfl, if_pos h]; rfl
  · rw [decide_eq_false h, if_neg (by decide), if_neg h]; rfl
theorem subN_len (m : Nat) (k : Int) (l : List Int) : (subN m k l).length ≤ l.length := List.length_filter_le _ _
def litS : List Rec := [⟨⟨#[97]⟩, 3, 0⟩]
theorem litS_ok : dataErr [litS] = 0 := by decide +kernel
theorem litS_run : (runLog ⟨4, [0], txtMod 2, 0⟩ (logOf litS)).2 = [⟨⟨#[97, 47, 49]⟩, 3, 0⟩] := by kernel_rfl
end Go.Proofs.YtcmhbhdiepkndaaGreatDoor

/-
  The statements' own whole numbers (weirgatebig), by words: trim, words, NewInt, small, Text, and the digits of an int. No condition.
-/
namespace Go.Proofs.YtcmhbhdiepkndaaGreatDoor
open Go.RowKit Go.ChangeShapes Go.WideShapes
set_option linter.unusedVariables false

def u32E : Elt Nat where
  sz := 1
  bulk := fun _ => 1
  R := fun _ _ cs n => cs = [.int .u32 (n : Int)] ∧ n < 4294967296
  len := fun _ _ _ _ h => by rw [h.1]; rfl
  keep := fun _ _ _ _ _ h _ => h
  more := fun _ _ _ _ _ h _ => h
theorem SlA.u32_ {F : Nat → Prop} {w : World} {A : Option Addr} {c : Nat} {l : List Nat} (h : SlA u32E F w A c l) {k : Nat} (hk : k < l.length) :
    ∃ b off, A = some ⟨b, off, none⟩ ∧ F b ∧ w.cell? ⟨b, off + k, none⟩ = some (.int .u32 (l[k] : Int)) ∧ l[k] < 4294967296 := by
  obtain ⟨b, off, cs, rfl, hb, hc, he, hw⟩ := h.at_ hk
  refine ⟨b, off, rfl, hb, ?_, hw⟩
  have := hc 0 _ (by rw [he]; rfl)
  simpa [u32E] using this

/-! ### Words, plain -/
def wVal : List Nat → Nat
  | [] => 0
  | a :: l => a + 4294967296 * wVal l
theorem wVal_zero : ∀ {l : List Nat}, (∀ x ∈ l, x = 0) → wVal l = 0
  | [], _ => rfl
  | a :: l, h => by rw [wVal, h a List.mem_cons_self, wVal_zero fun x hx => h x (List.mem_cons_of_mem _ hx)]
theorem wVal_take : ∀ {l : List Nat} (n : Nat), (∀ x ∈ l.drop n, x = 0) → wVal (l.take n) = wVal l
  | [], n, _ => by simp
  | a :: l, 0, h => by rw [List.take_zero, wVal_zero (l := a :: l) (by simpa using h)]; rfl
  | a :: l, n + 1, h => by rw [List.take_succ_cons, wVal, wVal, wVal_take n (by simpa using h)]
theorem wVal_pos : ∀ {l : List Nat} {k x : Nat}, l[k]? = some x → x ≠ 0 → 0 < wVal l
  | [], k, x, h, _ => by simp at h
  | a :: l, 0, x, h, h0 => by simp at h; subst h; unfold wVal; omega
  | a :: l, k + 1, x, h, h0 => by have := wVal_pos (l := l) (k := k) (by simpa using h) h0; unfold wVal; omega
/-- Where trim cuts. -/
def TrimOf (l : List Nat) (n : Nat) : Prop := (∀ x ∈ l.drop n, x = 0) ∧ (n = 0 ∨ ∃ x, l[n - 1]? = some x ∧ x ≠ 0)
theorem TrimOf.val {l : List Nat} {n : Nat} (h : TrimOf l n) : wVal (l.take n) = wVal l := wVal_take n h.1
theorem TrimOf.zero {l : List Nat} {n : Nat} (h : TrimOf l n) (hn : n ≤ l.length) : wVal l = 0 ↔ n = 0 := by
  constructor
  · intro h0
    rcases h.2 with h1 | ⟨x, hx, hx0⟩
    · exact h1
    · have := wVal_pos hx hx0; omega
  · intro h0
    subst h0
    exact wVal_zero (by simpa using h.1)
theorem drop_drop_zero {l : List Nat} {n : Nat} (hn : n < l.length) (h : ∀ x ∈ l.drop (n + 1), x = 0) (h0 : l[n] = 0) : ∀ x ∈ l.drop n, x = 0 := fun x hx => by
  rw [List.drop_eq_getElem_cons hn] at hx
  rcases List.mem_cons.1 hx with rfl | hx
  · exact h0
  · exact h x hx

set_option maxRecDepth 100000 in
theorem trim_ok (F : Nat → Prop) (g c : Nat) (l : List Nat) (w : World) (h : SlA u32E F w (some ⟨g, 0, none⟩) c l) :
    Calls Tryz.prog 43 #[.slice (some ⟨g, 0, none⟩) l.length c] w fun e w' => ∃ n, e = .returned (.slice (some ⟨g, 0, none⟩) n c) ∧ n ≤ l.length ∧ TrimOf l n ∧ w = w' := by
  have H := Lib.hid h
  have hle := h.le
  have hc := h.1
  have hcm := h.2.1
  unfold maxLen at hcm
  clear h
  go_enter Tryz.func43, Tryz.ntmps43
  go_wp2_with fail
  go_loop [3] (fun nv => ∃ n : Nat, n ≤ l.length ∧ nv = .int .i64 n ∧ Hid (∀ x ∈ l.drop n, x = 0)) (fun nv => (intOf nv).toNat)
  case atStart => exact ⟨l.length, Nat.le_refl _, rfl, (fun x hx => by simp at hx)⟩
  case round =>
    obtain ⟨n, hn, rfl, HZ⟩ := hrel
    by_cases h0 : n = 0
    · subst h0
      have d0 : decide (0 < 0) = false := rfl
      have HT : Hid (TrimOf l 0) := ⟨HZ.out, .inl rfl⟩
      clear HZ
      go_wp2_with fail
      go_ret
      exact ⟨0, rfl, Nat.zero_le _, HT.out, rfl⟩
    · obtain ⟨m, rfl⟩ : ∃ m, n = m + 1 := ⟨n - 1, by omega⟩
      obtain ⟨b, off, e, _, c0, hw⟩ := H.out.u32_ (k := m) (by omega)
      injection e with e; injection e with e1 e2
      subst e1; subst e2
      rw [Nat.zero_add] at c0
      have e1 : ((m + 1 : Nat) : Int) - 1 = (m : Int) := by omega
      have d0 : decide (0 < m + 1) = true := decide_eq_true (by omega)
      by_cases hx : l[m] = 0
      · have HZ2 : Hid (∀ x ∈ l.drop m, x = 0) := drop_drop_zero (by omega) HZ.out hx
        rw [hx] at c0
        clear HZ hx
        go_wp2_with fail
        go_round
        case rel => exact ⟨m, by omega, by go_num, HZ2⟩
        case measure => simp [intOf]
      · have HT : Hid (TrimOf l (m + 1)) := ⟨HZ.out, .inr ⟨l[m], by rw [Nat.add_sub_cancel]; exact List.getElem?_eq_getElem (by omega), hx⟩⟩
        generalize l[m] = x at c0 hx hw
        have d2 : ((x : Int) == 0) = false := by rw [beq_eq_false_iff_ne]; omega
        clear HZ
        go_wp2_with fail
        go_ret
        exact ⟨m + 1, rfl, by omega, HT.out, rfl⟩

/-- A number's words. -/
def wsOf (x : Nat) : List Nat := [x % 4294967296, x / 4294967296]
theorem wsOf_val (x : Nat) : wVal (wsOf x) = x := by unfold wsOf; simp only [wVal]; omega
theorem ws_sl {W : World} {g : Nat} (l : List Nat) {t : TypeId} {F : Nat → Prop} {cs : Array Value} (hg : W.heap[g]? = some (.cells cs t (0, 0))) (hcs : cs.toList = l.map fun n => .int .u32 (n : Int)) (hF : F g) (hx : ∀ x ∈ l, x < 4294967296) (hl : l.length ≤ maxLen) : SlA u32E F W (some ⟨g, 0, none⟩) l.length l := by
  refine ⟨Nat.le_refl _, hl, fun i x hi => ⟨g, 0, [.int .u32 (x : Int)], rfl, hF, ?_, rfl, hx x (List.mem_of_getElem? hi)⟩⟩
  intro j u hj
  match j, hj with
  | 0, hj =>
    simp at hj; subst hj
    have h1 := cell_of_row W g (0 + (i * 1 + 0)) cs t (0, 0) hg
    rw [show u32E.sz = 1 from rfl, h1, ← Array.getElem?_toList, hcs]
    simp [hi]
set_option maxRecDepth 100000 in
theorem words_ok (x : Nat) (w : World) (hx : x < 18446744073709551616) :
    Calls Tryz.prog 34 #[.int .u64 (x : Int)] w fun e w' => ∃ n, e = .returned (.slice (some ⟨w.heap.size, 0, none⟩) n 2) ∧ n ≤ 2 ∧ TrimOf (wsOf x) n ∧
      SlA u32E (· = w.heap.size) w' (some ⟨w.heap.size, 0, none⟩) 2 (wsOf x) ∧ Below w.heap.size w w' ∧ w'.heap.size = w.heap.size + 1 := by
  obtain ⟨W, hW⟩ : ∃ W, W = w.alloc (.cells #[.int .u32 ((x : Int) % 4294967296), .int .u32 ((x : Int) / 4294967296)] 86) := ⟨_, rfl⟩
  have hg : W.heap[w.heap.size]? = some (.cells #[.int .u32 ((x : Int) % 4294967296), .int .u32 ((x : Int) / 4294967296)] 86 (0, 0)) := by rw [hW]; exact heap_alloc_new _ _
  have hs : SlA u32E (· = w.heap.size) W (some ⟨w.heap.size, 0, none⟩) 2 (wsOf x) := ws_sl (wsOf x) hg rfl rfl (fun y hy => by
    simp only [wsOf, List.mem_cons, List.not_mem_nil, or_false] at hy
    rcases hy with rfl | rfl <;> omega) (by unfold maxLen; show 2 ≤ _; omega)
  have HT := Lib.hid (trim_ok _ _ _ _ W hs)
  have HS := Lib.hid hs
  have HB : Hid (Below w.heap.size w W ∧ W.heap.size = w.heap.size + 1) := ⟨by rw [hW]; exact (Below.refl _ _).alloc (Nat.le_refl _) _, by rw [hW]; simp⟩
  clear hg hs
  go_enter Tryz.func34, Tryz.ntmps34
  go_wp2_with fail
  rw [← hW]
  clear hW
  refine HT.out.mono ?_
  rintro e w2 ⟨n, rfl, hn, ht, rfl⟩
  go_wp2_with fail
  go_ret
  exact ⟨n, rfl, hn, ht, HS.out, HB.out⟩
theorem give_ok (g : Nat) (b0 neg : Bool) (v0 : Value) (A : Option Addr) (n c : Nat) (t : TypeId) (w : World) (hg : w.heap[g]? = some (.cells #[.bool b0, v0] t (0, 0))) (hc : n ≤ 9223372036854775807) :
    Calls Tryz.prog 33 #[.pointer (some ⟨g, 0, none⟩), .bool neg, .slice A n c] w fun e w' => e = .returned (.pointer (some ⟨g, 0, none⟩)) ∧
      w'.heap[g]? = some (.cells #[.bool (neg && decide (0 < n)), .slice A n c] t (0, 0)) ∧ w'.heap.size = w.heap.size ∧ Frm (· = g) w w' := by
  have c0 := cell_of_row w g 0 _ _ _ hg
  have c1 := cell_of_row w g 1 _ _ _ hg
  simp at c0 c1
  have hlt := block_lt hg
  have HG := Lib.hid hg
  have hfz : ∀ j, w.frozen? ⟨g, j, none⟩ = false := fun j => by simp [World.frozen?, hg]
  have f0 := hfz 0
  have f1 := hfz 1
  clear hg hfz
  have hend : ∀ u0 u1 : Value, ((w.setCell ⟨g, 1, none⟩ u1).setCell ⟨g, 0, none⟩ u0).heap[g]? = some (.cells #[u0, u1] t (0, 0)) ∧ ((w.setCell ⟨g, 1, none⟩ u1).setCell ⟨g, 0, none⟩ u0).heap.size = w.heap.size ∧ Frm (· = g) w ((w.setCell ⟨g, 1, none⟩ u1).setCell ⟨g, 0, none⟩ u0) := fun u0 u1 =>
    ⟨by simp [World.setCell, Array.getElem?_modify, HG.out], by rw [size_setCell, size_setCell], ((Frm.refl (· = g) w).setCell (p := ⟨g, 1, none⟩) (.inl rfl) u1).setCell (p := ⟨g, 0, none⟩) (.inl rfl) u0⟩
  have HE := Lib.hid hend
  clear hend
  cases neg with
  | true =>
    go_enter Tryz.func33, Tryz.ntmps33
    go_wp2_with fail
    go_ret
    exact ⟨rfl, HE.out _ _⟩
  | false =>
    go_enter Tryz.func33, Tryz.ntmps33
    go_wp2_with fail
    go_ret
    exact ⟨rfl, HE.out _ _⟩
/-- A whole number in memory: its sign, and its words, trimmed. -/
structure BigAt (w : World) (g : Nat) (neg : Bool) (V : Nat) : Prop where
  ex : ∃ b n c l, w.heap[g]? = some (.cells #[.bool (neg && decide (0 < n)), .slice (some ⟨b, 0, none⟩) n c] 72 (0, 0)) ∧ n ≤ l.length ∧ TrimOf l n ∧ SlA u32E (· < w.heap.size) w (some ⟨b, 0, none⟩) c l ∧ wVal l = V ∧ l.length ≤ 1000
theorem setInt_ok (x : Int) (g : Nat) (b0 : Bool) (v0 : Value) (w : World) (hx : -9223372036854775808 ≤ x ∧ x ≤ 9223372036854775807) (hg : w.heap[g]? = some (.cells #[.bool b0, v0] 72 (0, 0))) :
    Calls Tryz.prog 25 #[.pointer (some ⟨g, 0, none⟩), .int .i64 x] w fun e w' => e = .returned (.pointer (some ⟨g, 0, none⟩)) ∧ BigAt w' g (decide (x < 0)) x.natAbs ∧ Frm (· = g) w w' := by
  have hend : ∀ (W2 w3 : World) (n : Nat), Below w.heap.size w W2 → W2.heap.size = w.heap.size + 1 → n ≤ 2 → TrimOf (wsOf x.natAbs) n → SlA u32E (· = w.heap.size) W2 (some ⟨w.heap.size, 0, none⟩) 2 (wsOf x.natAbs) →
      w3.heap[g]? = some (.cells #[.bool (decide (x < 0) && decide (0 < n)), .slice (some ⟨w.heap.size, 0, none⟩) n 2] 72 (0, 0)) → w3.heap.size = W2.heap.size → Frm (· = g) W2 w3 → BigAt w3 g (decide (x < 0)) x.natAbs ∧ Frm (· = g) w w3 := fun W2 w3 n h1 h2 h3 h4 h5 h6 h7 h8 => by
    have hlt := block_lt hg
    refine ⟨⟨w.heap.size, n, 2, wsOf x.natAbs, h6, h3, h4, ?_, wsOf_val _, by show 2 ≤ 1000; omega⟩, (Frm.ofBelow h1).trans h8 (fun _ h => h) (fun _ h => .inl h)⟩
    exact (h5.keep (h8.same (G := (· = w.heap.size)) (fun k hk => by omega) (fun k hk hk2 => by omega))).more fun k hk => by omega
  have hlt := block_lt hg
  have HE := Lib.hid hend
  have HW := Lib.hid (words_ok x.natAbs w (by omega))
  have HGV : Hid (∀ (W : World) (n : Nat), Below w.heap.size w W → n ≤ 2 → Calls Tryz.prog 33 #[.pointer (some ⟨g, 0, none⟩), .bool (decide (x < 0)), .slice (some ⟨w.heap.size, 0, none⟩) n 2] W fun e w' => e = .returned (.pointer (some ⟨g, 0, none⟩)) ∧
      w'.heap[g]? = some (.cells #[.bool (decide (x < 0) && decide (0 < n)), .slice (some ⟨w.heap.size, 0, none⟩) n 2] 72 (0, 0)) ∧ w'.heap.size = W.heap.size ∧ Frm (· = g) W w') := fun W n hb hn => give_ok g b0 _ v0 _ n 2 _ W ((hb.block g hlt).trans hg) (by omega)
  have hx1 := hx.1
  have hx2 := hx.2
  clear hend hg hx
  by_cases h0 : x < 0
  · have dx : decide (x < 0) = true := decide_eq_true h0
    have H0 := Lib.hid h0
    rw [dx] at HE HGV ⊢
    obtain ⟨k, hk⟩ : ∃ k : Nat, k = x.natAbs := ⟨_, rfl⟩
    rw [← hk] at HE HW ⊢
    have hx3 : x = -(k : Int) := by omega
    clear hk
    subst hx3
    go_enter Tryz.func25, Tryz.ntmps25
    have hwr : IntKind.u64.wrap (-IntKind.u64.wrap (-(k : Int))) = (k : Int) := by
      show (-((-(k : Int)) % 18446744073709551616)) % 18446744073709551616 = (k : Int)
      omega
    go_wp2_with fail
    clear hwr
    refine HW.out.mono ?_
    rintro e w2 ⟨n, rfl, hn, ht, hs, hb, hz⟩
    have HQ := Lib.hid (fun w3 h1 h2 h3 => HE.out w2 w3 n hb hz hn ht hs h1 h2 h3)
    have HGV2 := Lib.hid (HGV.out w2 n hb hn)
    clear hn ht hs hb hz HGV HE HW
    go_wp2_with fail
    refine HGV2.out.mono ?_
    rintro e w3 ⟨rfl, h1, h2, h3⟩
    have HR := Lib.hid (HQ.out w3 h1 h2 h3)
    clear h1 h2 h3 HQ HGV2
    go_wp2_with fail
    go_ret
    exact ⟨rfl, HR.out⟩
  · have dx : decide (x < 0) = false := decide_eq_false h0
    rw [dx] at HE HGV ⊢
    obtain ⟨k, rfl⟩ : ∃ k : Nat, x = (k : Int) := ⟨x.natAbs, by omega⟩
    rw [Int.natAbs_natCast] at HE HW ⊢
    go_enter Tryz.func25, Tryz.ntmps25
    go_wp2_with fail
    refine HW.out.mono ?_
    rintro e w2 ⟨n, rfl, hn, ht, hs, hb, hz⟩
    have HQ := Lib.hid (fun w3 h1 h2 h3 => HE.out w2 w3 n hb hz hn ht hs h1 h2 h3)
    have HGV2 := Lib.hid (HGV.out w2 n hb hn)
    clear hn ht hs hb hz HGV HE HW
    go_wp2_with fail
    refine HGV2.out.mono ?_
    rintro e w3 ⟨rfl, h1, h2, h3⟩
    have HR := Lib.hid (HQ.out w3 h1 h2 h3)
    clear h1 h2 h3 HQ HGV2
    go_wp2_with fail
    go_ret
    exact ⟨rfl, HR.out⟩
theorem newInt_ok (x : Int) (w : World) (hx : -9223372036854775808 ≤ x ∧ x ≤ 9223372036854775807) :
    Calls Tryz.prog 13 #[.int .i64 x] w fun e w' => ∃ g, e = .returned (.pointer (some ⟨g, 0, none⟩)) ∧ BigAt w' g (decide (x < 0)) x.natAbs ∧ Below w.heap.size w w' := by
  have HS := Lib.hid (fun W g v0 hg => setInt_ok x g false v0 W hx hg)
  go_enter Tryz.func13, Tryz.ntmps13
  go_wp2_with fail
  refine (HS.out _ w.heap.size _ (heap_alloc_new _ _)).mono ?_
  rintro e w2 ⟨rfl, h1, h2⟩
  have HR := Lib.hid (And.intro h1 (((Below.refl w.heap.size w).alloc (Nat.le_refl _) _).trans (h2.below (by simp) (fun k hk => by omega))))
  clear h1 h2
  go_wp2_with fail
  go_ret
  exact ⟨_, rfl, HR.out⟩

/-! ### A number divided by one word -/
theorem or_add (r a : Nat) (h : a < 4294967296) (hr : r * 4294967296 + a < 18446744073709551616) : bits BinOp.or IntKind.u64 ((r : Int) * 4294967296) (a : Int) = ((r * 4294967296 + a : Nat) : Int) := by
  have h1 : r * 4294967296 ||| a = r * 4294967296 + a := by
    have := Nat.shiftLeft_add_eq_or_of_lt (i := 32) (b := a) (by simpa using h) r
    rw [Nat.shiftLeft_eq] at this
    exact this.symm
  have h2 : (((r : Int) * 4294967296 % 2 ^ IntKind.u64.bits).toNat ||| a % 2 ^ IntKind.u64.bits) = r * 4294967296 + a := by
    have e1 : ((r : Int) * 4294967296 % 2 ^ IntKind.u64.bits).toNat = r * 4294967296 := by
      show ((r : Int) * 4294967296 % 18446744073709551616).toNat = _
      omega
    have e2 : a % 2 ^ IntKind.u64.bits = a := by
      show a % 18446744073709551616 = a
      omega
    rw [e1, e2, h1]
  unfold bits
  simp only [BitVec.toNat_or, BitVec.toNat_ofInt]
  have h3 : (((a : Int) % ((2 ^ IntKind.u64.bits : Nat) : Int)).toNat) = a % 2 ^ IntKind.u64.bits := by
    show (((a : Int) % ((18446744073709551616 : Nat) : Int)).toNat) = a % 18446744073709551616
    omega
  have h4 : (((r : Int) * 4294967296 % ((2 ^ IntKind.u64.bits : Nat) : Int)).toNat) = ((r : Int) * 4294967296 % 2 ^ IntKind.u64.bits).toNat := by
    show (((r : Int) * 4294967296 % ((18446744073709551616 : Nat) : Int)).toNat) = ((r : Int) * 4294967296 % 18446744073709551616).toNat
    omega
  rw [h3, h4, h2]
  show (((r * 4294967296 + a : Nat) : Int)) % 18446744073709551616 = _
  omega
theorem small_step (V r a d : Nat) (hd : 0 < d) (hr : r = V % d) : (a + 4294967296 * V) / d = 4294967296 * (V / d) + (r * 4294967296 + a) / d ∧ (a + 4294967296 * V) % d = (r * 4294967296 + a) % d := by
  have h1 := Nat.div_add_mod V d
  have h2 : a + 4294967296 * V = d * (4294967296 * (V / d)) + (r * 4294967296 + a) := by
    rw [Nat.mul_left_comm]
    have : 4294967296 * V = 4294967296 * (d * (V / d)) + 4294967296 * (V % d) := by rw [← Nat.mul_add, h1]
    rw [hr]; omega
  rw [h2, Nat.mul_add_div hd, Nat.mul_add_mod]
  exact ⟨rfl, rfl⟩
theorem small_lt (r a d : Nat) (hd : 0 < d) (hr : r < d) (ha : a < 4294967296) : (r * 4294967296 + a) / d < 4294967296 := by
  rw [Nat.div_lt_iff_lt_mul hd]
  have : (r + 1) * 4294967296 ≤ d * 4294967296 := Nat.mul_le_mul_right _ hr
  rw [Nat.add_mul] at this
  omega
theorem u32_info : (Tryz.prog.info? 86).map (fun i => (i.zero, i.size, i.bytes)) = some (some (.int .u32 0), 1, 4) := by kernel_rfl
def u32v (n : Nat) : Value := .int .u32 (n : Int)
/-- The quotient's block: so many still noughts, then the words found. -/
def qCells (k : Nat) (qs : List Nat) : Array Value := ((List.replicate k 0 ++ qs).map u32v).toArray
theorem q_made (w : World) (n : Nat) : (w.alloc (.cells (madeCells #[.int .u32 0] n) 86)).heap[w.heap.size]? = some (.cells (qCells n []) 86 (0, 0)) := by
  rw [heap_alloc_new w _]
  congr 2
  apply Array.ext'
  rw [toList_madeCells_one]
  simp [qCells, u32v]
theorem q_at (k : Nat) (qs : List Nat) : (qCells (k + 1) qs)[k]? = some (u32v 0) := by
  unfold qCells
  rw [List.getElem?_toArray, List.getElem?_map, List.getElem?_append_left (by simp), List.getElem?_replicate, if_pos (by omega)]
  rfl
theorem q_set (k : Nat) (qs : List Nat) (x : Nat) : (qCells (k + 1) qs).setIfInBounds k (u32v x) = qCells k (x :: qs) := by
  unfold qCells
  apply Array.ext'
  rw [Array.toList_setIfInBounds]
  apply List.ext_getElem?
  intro j
  rw [List.getElem?_set]
  simp only [List.getElem?_map, List.length_map, List.length_append, List.length_replicate]
  by_cases e : k = j
  · subst e
    rw [if_pos rfl, if_pos (by omega), List.getElem?_append_right (by simp)]
    simp
  · rw [if_neg e]
    by_cases hj : j < k
    · rw [List.getElem?_append_left (by simp; omega), List.getElem?_append_left (by simp; omega)]
      simp [List.getElem?_replicate, hj, show j < k + 1 by omega]
    · rw [List.getElem?_append_right (by simp; omega), List.getElem?_append_right (by simp; omega)]
      simp only [List.length_replicate]
      rw [show j - k = (j - (k + 1)) + 1 by omega, List.getElem?_cons_succ]
set_option maxRecDepth 100000 in
set_option maxHeartbeats 1000000 in
theorem small_ok (F : Nat → Prop) (A : Option Addr) (c : Nat) (l : List Nat) (d : Nat) (w : World) (h : SlA u32E F w A c l) (hF : ∀ k, F k → k < w.heap.size) (hd : 0 < d) (hd2 : d < 4294967296) (hl : l.length ≤ 1000) :
    Calls Tryz.prog 36 #[.slice A l.length c, .int .u32 (d : Int)] w fun e w' => ∃ n q, e = .returned (.tuple #[.slice (some ⟨w.heap.size, 0, none⟩) n l.length, .int .u32 ((wVal l % d : Nat) : Int)]) ∧ n ≤ List.length q ∧ TrimOf q n ∧
      SlA u32E (fun k => w.heap.size ≤ k ∧ k < w'.heap.size) w' (some ⟨w.heap.size, 0, none⟩) l.length q ∧ wVal q = wVal l / d ∧ q.length = l.length ∧ Below w.heap.size w w' := by
  have H := Lib.hid h
  have HF := Lib.hid hF
  have hmk : ∀ u : World, (Instr.makeSlice 70 (.int .i64 (l.length : Int)) (.int .i64 (l.length : Int))).run Tryz.prog u = .ok (.slice (some ⟨u.heap.size, 0, none⟩) l.length l.length) (u.alloc (.cells (madeCells #[.int .u32 0] l.length) 86)) := fun u =>
    run_make_row' (P := Tryz.prog) 70 86 (.int .u32 0) 4 Tryz.underlying70 u32_info rfl .i64 .i64 l.length (by omega) (by omega) u
  have hc := h.1
  clear h hF
  go_enter Tryz.func36, Tryz.ntmps36
  go_wp2_with fail
  go_loopw [7, 8] (fun rv iv wx => ∃ (k : Nat) (qs : List Nat), k ≤ l.length ∧ iv = .int .i64 ((k : Int) - 1) ∧ rv = .int .u64 ((wVal (l.drop k) % d : Nat) : Int) ∧ Hid (wx.heap[w.heap.size]? = some (.cells (qCells k qs) 86 (0, 0)) ∧ k + qs.length = l.length ∧ (∀ x ∈ qs, x < 4294967296) ∧ wVal qs = wVal (l.drop k) / d ∧ Below w.heap.size w wx)) (fun _ iv _ => (intOf iv + 1).toNat)
  case atStart => exact ⟨l.length, [], Nat.le_refl _, rfl, by simp [wVal], q_made w l.length, by simp, nofun, by simp [wVal], (Below.refl _ _).alloc (Nat.le_refl _) _⟩
  case round =>
    obtain ⟨k, qs, hk, rfl, rfl, HI⟩ := hrel
    by_cases h0 : k = 0
    · subst h0
      obtain ⟨hg, hq, hqs, hv, hb⟩ := HI.out
      rw [Nat.zero_add] at hq
      rw [List.drop_zero] at hv ⊢
      have hsl : SlA u32E (fun k => w.heap.size ≤ k ∧ k < wr.heap.size) wr (some ⟨w.heap.size, 0, none⟩) l.length qs := by
        rw [← hq]
        exact ws_sl qs hg (by simp [qCells]; intros; rfl) ⟨Nat.le_refl _, block_lt hg⟩ hqs (by unfold maxLen; omega)
      have HT := Lib.hid (trim_ok _ _ _ _ _ hsl)
      have HS := Lib.hid hsl
      have HR := Lib.hid (And.intro hv (And.intro hq hb))
      rw [hq] at HT
      have hrd := Nat.mod_lt (wVal l) hd
      obtain ⟨r, hr⟩ : ∃ r, r = wVal l % d := ⟨_, rfl⟩
      rw [← hr] at hrd ⊢
      have HRM := Lib.hid hr
      clear hr
      clear HI hg hq hqs hv hb hsl
      go_wp2_with fail
      refine HT.out.mono ?_
      rintro e w3 ⟨n, rfl, hn, ht, rfl⟩
      go_wp2_with fail
      go_ret2
      exact ⟨n, qs, by rw [← HRM.out]; rfl, by rw [HR.out.2.1]; exact hn, ht, HS.out, HR.out⟩
    · obtain ⟨m, rfl⟩ : ∃ m, k = m + 1 := ⟨k - 1, by omega⟩
      obtain ⟨b, off, rfl, hb, c0, hw⟩ := H.out.u32_ (k := m) (by omega)
      have e1 : ((m + 1 : Nat) : Int) - 1 = (m : Int) := by omega
      have hz : wr.cell? ⟨b, off + m, none⟩ = some (.int .u32 (l[m] : Int)) := (HI.out.2.2.2.2.cell (p := ⟨b, off + m, none⟩) (HF.out _ hb)).trans c0
      have HD := Lib.hid (List.drop_eq_getElem_cons (show m < l.length by omega))
      generalize l[m] = a at hz hw HD
      obtain ⟨V, hV⟩ : ∃ V, V = wVal (l.drop (m + 1)) := ⟨_, rfl⟩
      rw [← hV] at HI ⊢
      have HV := Lib.hid hV
      have hrd := Nat.mod_lt V hd
      obtain ⟨r, hr⟩ : ∃ r, r = V % d := ⟨_, rfl⟩
      rw [← hr] at hrd ⊢
      have HR := Lib.hid hr
      clear hV hr c0
      have hra : r * 4294967296 + a < 18446744073709551616 := by
        have : (r + 1) * 4294967296 ≤ d * 4294967296 := Nat.mul_le_mul_right _ hrd
        rw [Nat.add_mul] at this
        omega
      have hor := or_add r a hw hra
      have hq32 := small_lt r a d hd hrd hw
      obtain ⟨T, hT⟩ : ∃ T, T = r * 4294967296 + a := ⟨_, rfl⟩
      rw [← hT] at hra hor hq32
      have HT := Lib.hid hT
      clear hT
      obtain ⟨Q, hQ⟩ : ∃ Q, Q = T / d := ⟨_, rfl⟩
      rw [← hQ] at hq32
      have hq1 : ((T : Int) / (d : Int)) = (Q : Int) := by rw [hQ]; exact Int.natCast_ediv T d ▸ rfl
      have HQ := Lib.hid hQ
      clear hQ
      obtain ⟨R, hR⟩ : ∃ R, R = T % d := ⟨_, rfl⟩
      have hr1 : ((T : Int) % (d : Int)) = (R : Int) := by rw [hR]; rfl
      have HRR := Lib.hid hR
      clear hR
      have hcl : wr.cell? ⟨w.heap.size, m, none⟩ = some (u32v 0) := by
        have h1 := cell_of_row wr w.heap.size m _ _ _ HI.out.1
        rw [h1]
        exact q_at m qs
      have hfz : wr.frozen? ⟨w.heap.size, m, none⟩ = false := by simp [World.frozen?, HI.out.1]
      unfold u32v at hcl
      have HN : Hid ((wr.setCell ⟨w.heap.size, m, none⟩ (.int .u32 (Q : Int))).heap[w.heap.size]? = some (.cells (qCells m (Q :: qs)) 86 (0, 0)) ∧ m + (Q :: qs).length = l.length ∧ (∀ x ∈ Q :: qs, x < 4294967296) ∧ wVal (Q :: qs) = wVal (l.drop m) / d ∧ Below w.heap.size w (wr.setCell ⟨w.heap.size, m, none⟩ (.int .u32 (Q : Int)))) := by
        obtain ⟨i1, i2, i3, i4, i5⟩ := HI.out
        refine ⟨?_, by rw [List.length_cons]; omega, ?_, ?_, i5.setCell (Nat.le_refl _) _⟩
        · rw [show (wr.setCell ⟨w.heap.size, m, none⟩ (.int .u32 (Q : Int))).heap[w.heap.size]? = some (.cells ((qCells (m + 1) qs).setIfInBounds m (u32v Q)) 86 (0, 0)) by simp [World.setCell, Array.getElem?_modify, i1, u32v], q_set]
        · intro x hx
          rcases List.mem_cons.1 hx with rfl | hx
          · exact hq32
          · exact i3 x hx
        · rw [HD.out, wVal, wVal, i4, ← HV.out, (small_step V r a d hd HR.out).1, HQ.out, HT.out]; omega
      have HN2 : Hid (R = wVal (l.drop m) % d) := by
        show _ = _
        rw [HD.out, wVal, ← HV.out, (small_step V r a d hd HR.out).2, HRR.out, HT.out]
      clear HI HR HRR HQ HD HV HT
      go_wp2_with fail
      go_roundw
      case rel => exact ⟨m, Q :: qs, by omega, rfl, by rw [hr1, HN2.out], HN⟩
      case measure => simp [intOf]

/-! ### The digits -/
theorem twin_ok (F : Nat → Prop) (A : Option Addr) (c : Nat) (l : List Nat) (w : World) (h : SlA u32E F w A c l) (hl : l.length ≤ 1000) :
    Calls Tryz.prog 35 #[.slice A l.length c] w fun e w' => ∃ A' c', e = .returned (.slice A' l.length c') ∧ SlA u32E (fun k => w.heap.size ≤ k ∧ k < w'.heap.size) w' A' c' l ∧ Below w.heap.size w w' := by
  have hs : Src Tryz.prog 1 70 (.slice A l.length c) l.length (l.flatMap fun x => [u32v x]) w := Src.of_sl (P := Tryz.prog) (tx := 70) h Tryz.underlying70 (fun x => [u32v x]) (fun cs x hx => hx.1) (fun _ => rfl) (fun x u hu => by simp at hu; subst hu; rfl)
  have HW : Hid (∀ x ∈ l, x < 4294967296) := fun x hx => by
    obtain ⟨i, hi⟩ := List.getElem?_of_mem hx
    obtain ⟨b, off, cs, _, _, _, hr⟩ := h.2.2 i x hi
    exact hr.2
  have HS := Lib.hid hs
  clear hs h
  go_enter Tryz.func35, Tryz.ntmps35
  go_wp2_with (at_builtin; refine wpList_append_src (w := w) rfl _ _ 70 70 rfl w.heap.size 86 _ 1 4 Tryz.underlying70 u32_info rfl (by decide) (.slice none 0 0) 0 [] rfl (World.ownsRow_nil _ _ _ _) (.slice A l.length c) rfl l.length _ HS.out ?_ ?_ (Nat.le_refl _) (Below.refl _ _) (Nat.le_refl _) ?_)
  · unfold maxLen; omega
  · omega
  · intro v1 w1 hown hg hb hat
    try rw [Nat.zero_add, List.nil_append] at hown
    obtain ⟨A', c', hv, _, hsl⟩ := own_sl (E := u32E) (l := l) (fun x => [u32v x]) (fun _ => rfl) (by decide) hown (fun x hx => ⟨rfl, HW.out x hx⟩)
    subst hv
    have HR : Hid (SlA u32E (fun k => w.heap.size ≤ k ∧ k < w1.heap.size) w1 A' c' l) := by
      refine ⟨hsl.1, hsl.2.1, fun i x hi => ?_⟩
      obtain ⟨b, off, cs, e, hb2, hc2, hr2⟩ := hsl.2.2 i x hi
      refine ⟨b, off, cs, e, ⟨?_, hb2⟩, hc2, hr2⟩
      have := hown.lt b (by rw [e]; rfl)
      omega
    have HB := Lib.hid hb
    clear hown hg hb hat hsl
    go_wp2_with fail
    go_ret
    exact ⟨A', c', rfl, HR.out, HB.out⟩

theorem own_stays {w w' : World} {B e size n : Nat} {v : Value} {xs : List Value} (h : w.ownsRow B e size v n xs) (hb : Below w.heap.size w w') : w'.ownsRow B e size v n xs :=
  h.kept (row := none) ⟨hb.os, hb.tape, hb.output, hb.size, fun k hk _ => hb.block k hk⟩ (by
    cases hv : v.ownBlock with
    | none => exact .inl rfl
    | some k => exact .inr (by simp))
def bytV (x : UInt8) : Value := .int .u8 (x.toNat : Int)
theorem u8_info : (Tryz.prog.info? 5).map (fun i => (i.zero, i.size, i.bytes)) = some (some (.int .u8 0), 1, 1) := by kernel_rfl
/-- The digits but for a nought alone. -/
def dds (V : Nat) : List UInt8 := if V = 0 then [] else Lib.decDigits V
theorem dds_step {V : Nat} (h : V ≠ 0) : dds V = dds (V / 10) ++ [UInt8.ofNat (48 + V % 10)] := by
  unfold dds
  rw [if_neg h]
  by_cases h1 : V < 10
  · rw [Lib.decDigits, dif_pos h1, if_pos (by omega), Nat.mod_eq_of_lt h1]; rfl
  · rw [Lib.decDigits, dif_neg h1, if_neg (by omega)]
/-- A row whose first and last i are turned round. -/
def revC (l : List UInt8) (i : Nat) : List UInt8 := (List.range l.length).map fun p => if p < i ∨ l.length ≤ p + i then l.getD (l.length - 1 - p) 0 else l.getD p 0
theorem revC_len (l : List UInt8) (i : Nat) : (revC l i).length = l.length := by unfold revC; simp
theorem revC_get (l : List UInt8) (i : Nat) {p : Nat} (hp : p < l.length) : (revC l i)[p]? = some (if p < i ∨ l.length ≤ p + i then l.getD (l.length - 1 - p) 0 else l.getD p 0) := by
  unfold revC
  rw [List.getElem?_map, List.getElem?_range hp]; rfl
theorem revC_zero (l : List UInt8) : revC l 0 = l := by
  apply List.ext_getElem?
  intro p
  by_cases hp : p < l.length
  · rw [revC_get l 0 hp, if_neg (by omega), List.getD_eq_getElem?_getD, List.getElem?_eq_getElem hp]; rfl
  · rw [List.getElem?_eq_none (by rw [revC_len]; omega), List.getElem?_eq_none (by omega)]
theorem revC_end (l : List UInt8) {i : Nat} (h : l.length ≤ 2 * i + 1) : revC l i = l.reverse := by
  apply List.ext_getElem?
  intro p
  by_cases hp : p < l.length
  · rw [revC_get l i hp, List.getElem?_reverse hp]
    by_cases hc : p < i ∨ l.length ≤ p + i
    · rw [if_pos hc, List.getD_eq_getElem?_getD, List.getElem?_eq_getElem (by omega)]; rfl
    · rw [if_neg hc, show l.length - 1 - p = p by omega, List.getD_eq_getElem?_getD, List.getElem?_eq_getElem hp]; rfl
  · rw [List.getElem?_eq_none (by rw [revC_len]; omega), List.getElem?_eq_none (by rw [List.length_reverse]; omega)]
theorem revC_step (l : List UInt8) {i : Nat} (h : 2 * i + 1 < l.length) : ((revC l i).set i (l.getD (l.length - 1 - i) 0)).set (l.length - 1 - i) (l.getD i 0) = revC l (i + 1) := by
  apply List.ext_getElem?
  intro p
  by_cases hp : p < l.length
  · rw [revC_get l (i + 1) hp, List.getElem?_set, List.getElem?_set, revC_get l i hp]
    simp only [List.length_set, revC_len]
    by_cases h1 : l.length - 1 - i = p
    · rw [if_pos h1, if_pos (by omega), if_pos (.inr (by omega)), ← h1, show l.length - 1 - (l.length - 1 - i) = i by omega]
    · rw [if_neg h1]
      by_cases h2 : i = p
      · rw [if_pos h2, if_pos (by omega), if_pos (.inl (by omega)), h2]
      · rw [if_neg h2]
        by_cases hc : p < i ∨ l.length ≤ p + i
        · rw [if_pos hc, if_pos (by omega)]
        · rw [if_neg hc, if_neg (by omega)]
  · rw [List.getElem?_eq_none (by rw [List.length_set, List.length_set, revC_len]; omega), List.getElem?_eq_none (by rw [revC_len]; omega)]
theorem OwnS.set1 {w : World} {e : TypeId} {cap n g off j : Nat} {xs : List Value} (h : OwnS w e 1 (some ⟨g, off, none⟩) cap n xs) (hj : j < n) (u : Value) : OwnS (w.setCell ⟨g, off + j, none⟩ u) e 1 (some ⟨g, off, none⟩) cap n (xs.set j u) := by
  obtain ⟨h1, h2, h3, h4⟩ := h
  refine ⟨by rw [List.length_set]; exact h1, h2, h3, ?_⟩
  rcases h4 with ⟨h4, _⟩ | ⟨g', off', cur, e1, hh, hc, hr⟩
  · cases h4
  · injection e1 with e1; injection e1 with e1 e2; subst e1; subst e2
    refine .inr ⟨g, off, cur.setIfInBounds (off + j) u, rfl, by simp [World.setCell, Array.getElem?_modify, hh], by simpa using hc, fun i v hi => ?_⟩
    rw [List.getElem?_set] at hi
    by_cases e : j = i
    · subst e
      rw [if_pos rfl] at hi
      split at hi
      · injection hi with hi; subst hi
        rw [Array.getElem?_setIfInBounds_self_of_lt (by omega)]
      · cases hi
    · rw [if_neg e] at hi
      rw [Array.getElem?_setIfInBounds_ne (by omega)]
      exact hr i v hi
def sliceLen : Value → Nat
  | .slice _ n _ => n
  | _ => 0
theorem dec20_len {V : Nat} (h : V < 18446744073709551616) : (Lib.decDigits V).length ≤ 20 := by
  rw [Lib.decDigits_length]
  have : ∀ (k u : Nat), u < 10 ^ (k + 1) → Lib.nDigits u ≤ k + 1 := fun k => by
    induction k with
    | zero => intro u hu; rw [Lib.nDigits_small (by simpa using hu)]; omega
    | succ k ih =>
      intro u hu
      by_cases h1 : u < 10
      · rw [Lib.nDigits_small h1]; omega
      · rw [Lib.nDigits_big h1]
        have := ih (u / 10) (by rw [Nat.pow_succ] at hu; omega)
        omega
  exact this 19 V (by omega)
def numeral (neg : Bool) (V : Nat) : List UInt8 := if V = 0 then [48] else if neg then 45 :: Lib.decDigits V else Lib.decDigits V
theorem flat_one {α β : Type} (f : α → β) : ∀ l : List α, (l.flatMap fun x => [f x]) = l.map f
  | [] => rfl
  | x :: l => by rw [List.flatMap_cons, flat_one f l]; rfl
theorem own_len {w : World} {B e size n : Nat} {v : Value} {xs : List Value} (h : w.ownsRow B e size v n xs) : sliceLen v = n := by
  rcases h.2 with ⟨rfl, h0⟩ | ⟨g, cap, cur, rfl, _⟩
  · exact h0.symm
  · rfl
set_option maxRecDepth 100000 in
set_option maxHeartbeats 1000000 in
theorem text_ok (g : Nat) (neg : Bool) (V : Nat) (w : World) (h : BigAt w g neg V) (hl : V < 18446744073709551616) :
    Calls Tryz.prog 26 #[.pointer (some ⟨g, 0, none⟩), .int .i64 10] w fun e w' => e = .returned (.string ⟨(numeral neg V).toArray⟩) ∧ Below w.heap.size w w' := by
  obtain ⟨b, n, c, l, hg, hn, ht, hsl, hv, hlen⟩ := h.ex
  have c0 := cell_of_row w g 0 _ _ _ hg
  have c1 := cell_of_row w g 1 _ _ _ hg
  simp at c0 c1
  have hglt := block_lt hg
  clear hg h
  by_cases h0 : n = 0
  · subst h0
    have hV := (ht.zero (Nat.zero_le _)).2 rfl
    have HN : Hid (numeral neg V = [48]) := by unfold numeral; rw [← hv, hV]; rfl
    clear hsl hv ht hV
    go_enter Tryz.func26, Tryz.ntmps26
    go_wp2_with fail
    go_ret
    rw [HN.out]
    exact ⟨rfl, Below.refl _ _⟩
  · have hV : V ≠ 0 := fun e => h0 ((ht.zero hn).1 (hv.trans e))
    have hhd := hsl.head hn
    have hnl : (l.take n).length = n := by rw [List.length_take]; omega
    have HT1 := twin_ok _ _ _ _ w hhd (by omega)
    rw [hnl] at HT1
    have HT2 := Lib.hid HT1
    have hcap := hsl.1
    have hvt : wVal (l.take n) = V := ht.val.trans hv
    have HTR : Hid (n = 0 ↔ wVal (l.take n) = 0) := ⟨fun e => absurd e h0, fun e => absurd (hvt.symm.trans e) hV⟩
    have HVT := Lib.hid hvt
    have HNL := Lib.hid hnl
    clear HT1 hhd hsl ht hv hvt
    generalize l.take n = ws at HT2 HTR HVT HNL
    go_enter Tryz.func26, Tryz.ntmps26
    go_wp2_with fail
    refine HT2.out.mono ?_
    rintro e w2 ⟨A2, c2, rfl, hs2, hb2⟩
    have HS2 : Hid (SlA u32E (fun k => w.heap.size ≤ k ∧ k < w2.heap.size) w2 A2 c2 ws) := hs2
    have HB2 := Lib.hid hb2
    clear hs2 hb2 HT2
    go_wp2_with fail
    go_loopw [5, 6] (fun bv av wx => ∃ (bs : List UInt8) (A : Option Addr) (n c : Nat) (l : List Nat), av = .slice A n c ∧ n ≤ 1000 ∧ l.length = n ∧ Hid ((n = 0 ↔ wVal l = 0) ∧ SlA u32E (fun k => w.heap.size ≤ k ∧ k < wx.heap.size) wx A c l ∧ Lib.decDigits V = dds (wVal l) ++ bs.reverse) ∧ Hid (wx.ownsRow w.heap.size 5 1 bv bs.length (bs.map bytV)) ∧ Hid (Below w.heap.size w wx)) (fun bv _ _ => (Lib.decDigits V).length - sliceLen bv)
    case atStart => exact ⟨[], A2, n, c2, ws, rfl, by omega, HNL.out, ⟨HTR.out, HS2.out, by rw [HVT.out]; unfold dds; rw [if_neg hV]; simp⟩, World.ownsRow_nil _ _ _ _, HB2.out⟩
    case round =>
      clear HTR HVT HNL HS2 HB2
      obtain ⟨bs, A, m, cm, ls, rfl, hm, hlm, HI, HO, HB⟩ := hrel
      by_cases hm0 : m = 0
      · subst hm0
        have hrev : Lib.decDigits V = bs.reverse := by rw [HI.out.2.2, HI.out.1.1 rfl]; rfl
        have hbl : bs.length ≤ 20 := by have := dec20_len hl; rw [hrev, List.length_reverse] at this; exact this
        have hx0 : wr.cell? ⟨g, 0, none⟩ = some (.bool (neg && decide (0 < n))) := (HB.out.cell (p := ⟨g, 0, none⟩) hglt).trans c0
        rw [decide_eq_true (show 0 < n by omega), Bool.and_true] at hx0
        have HREV := Lib.hid hrev
        have hszr := HB.out.size
        clear HI hrev hlm
        go_upto_if 52 with (fail)
        go_cut [5] from 53 to 55 (fun bv wx => ∃ bs2 : List UInt8, bs2.length ≤ 21 ∧ Hid (bs2.reverse = numeral neg V) ∧ Hid (wx.ownsRow w.heap.size 5 1 bv bs2.length (bs2.map bytV)) ∧ Hid (Below w.heap.size w wx))
        case first =>
          cases neg with
          | false =>
            go_wp2_with fail
            go_meet
            case rel => exact ⟨bs, by omega, (by show _ = _; rw [← HREV.out]; unfold numeral; rw [if_neg hV]; rfl), HO, HB⟩
          | true =>
            go_wp2_with (at_builtin; refine wpList_push (w0 := wr) rfl _ _ 84 rfl w.heap.size 5 (.int .u8 0) 1 1 Tryz.underlying84 u8_info rfl (by decide) u5 bs.length _ rfl HO.out [.int .u8 45] (by simp [Act.eval]) rfl ?_ ?_ ?_ HB.out.size HB.out (Nat.le_refl _) ?_)
            · intro u hu; rw [List.mem_singleton.1 hu]; rfl
            · unfold maxLen; omega
            · omega
            · intro v4 w4 hown4 hg4 hb4 hat4
              have HO4 : Hid (w4.ownsRow w.heap.size 5 1 v4 (bs ++ [45]).length ((bs ++ [45]).map bytV)) := by
                rw [List.length_append, List.length_singleton, List.map_append, List.map_singleton]; exact hown4
              have HB4 := Lib.hid hb4
              clear hown4 hg4 hb4 hat4 HO HB
              go_wp2_with fail
              go_meet
              case rel => exact ⟨bs ++ [45], by rw [List.length_append, List.length_singleton]; omega, (by show _ = _; rw [List.reverse_append, ← HREV.out]; unfold numeral; rw [if_neg hV]; rfl), HO4, HB4⟩
        case rest =>
          clear HO HB HREV hbl hx0
          obtain ⟨bs2, hbl, HREV, HO, HB⟩ := hcut
          obtain ⟨A5, c5, hv5, hown5, hbs5⟩ := OwnS.of_row HO.out
          obtain rfl := hv5
          have hnp : 0 < bs2.length := by
            rcases bs2 with _ | ⟨x, xs⟩
            · have := HREV.out
              unfold numeral at this
              rw [if_neg hV] at this
              have hd := Lib.decDigits_length V
              have hd2 := Lib.nDigits_pos V
              split at this
              · cases this
              · rw [← this] at hd; simp at hd; omega
            · simp
          obtain ⟨g5, o5, rfl, hg5, hc5⟩ := hown5.head hnp (by decide)
          have hb5 := hbs5 g5 rfl
          have hcap5 := hown5.2.1
          have HOW := Lib.hid hown5
          clear hown5 hbs5 HO hc5
          go_wp2_with fail
          go_loopw [8, 9] (fun iv jv wx => ∃ i j : Nat, 2 * i ≤ bs2.length ∧ i + j + 1 = bs2.length ∧ iv = .int .i64 i ∧ jv = .int .i64 j ∧ Hid (OwnS wx 5 1 (some ⟨g5, o5, none⟩) c5 bs2.length ((revC bs2 i).map bytV)) ∧ Hid (Below w.heap.size w wx)) (fun iv _ _ => bs2.length - (intOf iv).toNat)
          case atStart => exact ⟨0, bs2.length - 1, by omega, by omega, rfl, (by congr 1; omega), (by rw [revC_zero]; exact HOW.out), HB⟩
          case round =>
            clear HOW HB
            obtain ⟨i, j, hi, hij1, rfl, rfl, HOW, HB⟩ := hrel
            by_cases hij : 2 * i + 1 < bs2.length
            · have hcell : ∀ p, p < bs2.length → wr.cell? ⟨g5, o5 + p, none⟩ = some (bytV ((revC bs2 i).getD p 0)) := fun p hp => by
                obtain ⟨g', o', e, _, hc⟩ := HOW.out.head hnp (by decide)
                injection e with e; injection e with e1 e2; subst e1; subst e2
                refine hc p _ ?_
                rw [List.getElem?_map, List.getD_eq_getElem?_getD, List.getElem?_eq_getElem (by rw [revC_len]; exact hp)]
                rfl
              have hold : ∀ p, i ≤ p → p + i < bs2.length → (revC bs2 i).getD p 0 = bs2.getD p 0 := fun p h1 h2 => by
                rw [List.getD_eq_getElem?_getD, revC_get bs2 i (by omega), if_neg (by omega)]; rfl
              have y0 := hcell i (by omega)
              have y1 := hcell j (by omega)
              rw [hold i (Nat.le_refl _) (by omega)] at y0
              rw [hold j (by omega) (by omega)] at y1
              have hfz : ∀ (W : World) (cs : List Value) (p : Nat), OwnS W 5 1 (some ⟨g5, o5, none⟩) c5 bs2.length cs → W.frozen? ⟨g5, p, none⟩ = false := fun W cs p h => by
                rcases h.2.2.2 with ⟨h4, _⟩ | ⟨g', off', cur, e1, hh, _⟩
                · cases h4
                · injection e1 with e1; injection e1 with e1 e2; subst e1; simp [World.frozen?, hh]
              have f0 := hfz _ _ (o5 + i) HOW.out
              have hst := revC_step bs2 hij
              rw [show bs2.length - 1 - i = j by omega] at hst
              have HST := Lib.hid hst
              have hs1 := HOW.out.set1 (j := i) (by omega) (bytV (bs2.getD j 0))
              have f1 := hfz _ _ (o5 + j) hs1
              have y2 : (wr.setCell ⟨g5, o5 + i, none⟩ (bytV (bs2.getD j 0))).cell? ⟨g5, o5 + j, none⟩ = some (bytV (bs2.getD j 0)) := by
                obtain ⟨g', o', e, _, hc⟩ := hs1.head hnp (by decide)
                injection e with e; injection e with e1 e2; subst e1; subst e2
                refine hc j _ ?_
                rw [List.getElem?_set_ne (by omega), List.getElem?_map, List.getElem?_eq_getElem (by rw [revC_len]; omega), Option.map_some]
                have := hold j (by omega) (by omega)
                rw [List.getD_eq_getElem?_getD, List.getElem?_eq_getElem (by rw [revC_len]; omega)] at this
                rw [← this]; rfl
              have HS2 : Hid (OwnS ((wr.setCell ⟨g5, o5 + i, none⟩ (bytV (bs2.getD j 0))).setCell ⟨g5, o5 + j, none⟩ (bytV (bs2.getD i 0))) 5 1 (some ⟨g5, o5, none⟩) c5 bs2.length ((revC bs2 (i + 1)).map bytV)) := by
                have h2 := hs1.set1 (j := j) (by omega) (bytV (bs2.getD i 0))
                rw [← List.map_set, ← List.map_set, HST.out] at h2
                exact h2
              have HB2 : Hid (Below w.heap.size w ((wr.setCell ⟨g5, o5 + i, none⟩ (bytV (bs2.getD j 0))).setCell ⟨g5, o5 + j, none⟩ (bytV (bs2.getD i 0)))) := (HB.out.setCell hb5 _).setCell hb5 _
              have dij : decide (i < j) = true := decide_eq_true (by omega)
              clear hcell hold hfz hst HST hs1 HOW HB
              unfold bytV at y0 y1 y2 f1 HS2 HB2
              generalize bs2.getD i 0 = x at y0 HS2 HB2
              generalize bs2.getD j 0 = y at y1 y2 f1 HS2 HB2
              go_wp2_with fail
              go_roundw
              case rel => exact ⟨i + 1, j - 1, by omega, by omega, by go_num, by go_num, HS2, HB2⟩
              case measure => simp [intOf]; omega
            · have dij : decide (i < j) = false := decide_eq_false (by omega)
              have hrv := revC_end bs2 (i := i) (by omega)
              have hsl : SlA bytE (· < wr.heap.size) wr (some ⟨g5, o5, none⟩) c5 (numeral neg V) := by
                have h1 := HOW.out
                rw [hrv, HREV.out] at h1
                have h2 : OwnS wr 5 bytE.sz (some ⟨g5, o5, none⟩) c5 bs2.length ((numeral neg V).flatMap fun x => [bytV x]) := by
                  rw [show ((numeral neg V).flatMap fun x => [bytV x]) = (numeral neg V).map bytV from flat_one bytV _]
                  exact h1
                exact h2.sl (E := bytE) (fun x => [bytV x]) (fun _ => rfl) (by rw [← HREV.out, List.length_reverse]) (fun k e => HOW.out.lt k e) (fun x _ => rfl)
              have hcv := conv_string (P := Tryz.prog) (src := 84) (dst := 9) hsl Tryz.underlying84 Tryz.underlying5 Tryz.underlying9
              rw [← HREV.out, List.length_reverse, HREV.out] at hcv
              clear hsl hrv HOW
              go_wp2_with fail
              go_ret
              exact ⟨rfl, HB.out⟩
      · have hwv : wVal ls ≠ 0 := fun e => hm0 (HI.out.1.2 e)
        have HSM := small_ok _ A cm ls 10 wr HI.out.2.1 (fun k hk => hk.2) (by decide) (by decide) (by omega)
        rw [hlm] at HSM
        have HC := Lib.hid HSM
        clear HSM
        have hbl := HO.out.1
        have hdd := dds_step hwv
        have hdl : bs.length < (Lib.decDigits V).length := by
          rw [HI.out.2.2, hdd]
          simp only [List.length_append, List.length_reverse, List.length_singleton]
          omega
        have HDD := Lib.hid hdd
        have hdm : (Lib.decDigits V).length ≤ 20 := dec20_len hl
        have HWV := Lib.hid hwv
        clear hdd hwv hbl
        have hm63 : m ≤ 1000 := hm
        go_wp2_with fail
        refine HC.out.mono ?_
        rintro e w3 ⟨n3, q, rfl, hn3, ht3, hs3, hv3, hql, hb3⟩
        have hrr := Nat.mod_lt (wVal ls) (show 0 < 10 by decide)
        obtain ⟨r, hr⟩ : ∃ r, r = wVal ls % 10 := ⟨_, rfl⟩
        rw [← hr] at hrr ⊢
        have HRE := Lib.hid hr
        have dr : decide (r < 10) = true := decide_eq_true hrr
        have hu8 : ((UInt8.ofNat (48 + r)).toNat : Int) = 48 + (r : Int) := by rw [UInt8.toNat_ofNat']; omega
        have HN3 : Hid ((n3 = 0 ↔ wVal (q.take n3) = 0) ∧ SlA u32E (fun k => wr.heap.size ≤ k ∧ k < w3.heap.size) w3 (some ⟨wr.heap.size, 0, none⟩) m (q.take n3) ∧ wVal (q.take n3) = wVal ls / 10 ∧ (q.take n3).length = n3) :=
          ⟨by rw [ht3.val]; exact (ht3.zero hn3).symm, hs3.head hn3, by rw [ht3.val, hv3], by rw [List.length_take]; omega⟩
        have hn3m : n3 ≤ m := by omega
        have HB3 := Lib.hid hb3
        have HO3 : Hid (w3.ownsRow w.heap.size 5 1 u5 bs.length (bs.map bytV)) := own_stays HO.out hb3
        clear hn3 ht3 hs3 hv3 hql hb3 hr
        have hsz3 := HB3.out.size
        have hszr := HB.out.size
        go_wp2_with (at_builtin; refine wpList_push (w0 := w3) rfl _ _ 84 rfl w.heap.size 5 (.int .u8 0) 1 1 Tryz.underlying84 u8_info rfl (by decide) u5 bs.length _ rfl HO3.out [.int .u8 (48 + (r : Int))] (by simp [Act.eval]) rfl ?_ ?_ ?_ (by omega) (HB.out.trans (HB3.out.mono HB.out.size)) (Nat.le_refl _) ?_)
        · intro u hu; rw [List.mem_singleton.1 hu]; rfl
        · unfold maxLen; omega
        · omega
        · intro v4 w4 hown4 hg4 hb4 hat4
          have HO4 : Hid (w4.ownsRow w.heap.size 5 1 v4 (bs ++ [UInt8.ofNat (48 + r)]).length ((bs ++ [UInt8.ofNat (48 + r)]).map bytV)) := by
            rw [List.length_append, List.length_singleton, List.map_append, List.map_singleton, show bytV (UInt8.ofNat (48 + r)) = .int .u8 (48 + (r : Int)) by unfold bytV; rw [hu8]]
            exact hown4
          have hsz4 := hg4.size
          have HI4 : Hid ((n3 = 0 ↔ wVal (q.take n3) = 0) ∧ SlA u32E (fun k => w.heap.size ≤ k ∧ k < w4.heap.size) w4 (some ⟨wr.heap.size, 0, none⟩) m (q.take n3) ∧ Lib.decDigits V = dds (wVal (q.take n3)) ++ (bs ++ [UInt8.ofNat (48 + r)]).reverse) := by
            refine ⟨HN3.out.1, (HN3.out.2.1.keep fun k hk => hg4.block k hk.2 fun e => ?_).more fun k hk => ⟨by have := hk.1; omega, by have := hk.2; omega⟩, ?_⟩
            · have := (HO.out.lt k e.symm).2
              have := hk.1
              omega
            · rw [HI.out.2.2, HDD.out, HN3.out.2.2.1, HRE.out]; simp
          have HB4 := Lib.hid hb4
          have HNL4 : Hid ((q.take n3).length = n3) := HN3.out.2.2.2
          have hl4 := own_len HO4.out
          rw [List.length_append, List.length_singleton] at hl4
          have hl5 := own_len HO.out
          clear hown4 hg4 hb4 hat4 HI HO HB HB3 HO3 HN3 HDD HRE HWV
          go_wp2_with fail
          go_roundw
          case rel => exact ⟨bs ++ [UInt8.ofNat (48 + r)], some ⟨wr.heap.size, 0, none⟩, n3, m, q.take n3, rfl, by omega, HNL4.out, HI4, HO4, HB4⟩
          case measure => rw [hl4, hl5]; omega
theorem string_ok (g : Nat) (s : ByteArray) (w : World) (h : Calls Tryz.prog 26 #[.pointer (some ⟨g, 0, none⟩), .int .i64 10] w fun e w' => e = .returned (.string s) ∧ Below w.heap.size w w') :
    Calls Tryz.prog 14 #[.pointer (some ⟨g, 0, none⟩)] w fun e w' => e = .returned (.string s) ∧ Below w.heap.size w w' := by
  have H := Lib.hid h
  clear h
  go_enter Tryz.func14, Tryz.ntmps14
  go_wp2_with fail
  refine H.out.mono ?_
  rintro e w2 ⟨rfl, hb⟩
  have HB := Lib.hid hb
  clear hb H
  go_wp2_with fail
  go_ret
  exact ⟨rfl, HB.out⟩
theorem digits_ok (x : Int) (w : World) (hx : -9223372036854775808 ≤ x ∧ x ≤ 9223372036854775807) :
    Calls Tryz.prog 6 #[.int .i64 x] w fun e w' => e = .returned (.string ⟨(Lib.itoa x).toArray⟩) ∧ Below w.heap.size w w' := by
  have HN := Lib.hid (newInt_ok x w hx)
  have HT := Lib.hid (fun g W h => text_ok g (decide (x < 0)) x.natAbs W h (by omega))
  have hnum : numeral (decide (x < 0)) x.natAbs = Lib.itoa x := by
    unfold numeral Lib.itoa
    by_cases h0 : x < 0
    · rw [if_neg (by omega), decide_eq_true h0, if_pos rfl, if_pos h0]
    · rw [if_neg h0, decide_eq_false h0]
      by_cases h1 : x = 0
      · subst h1; rw [if_pos (by decide)]; exact (Lib.decDigits_one (i := 0) (by omega)).symm
      · rw [if_neg (by omega), if_neg (by decide), show x.natAbs = x.toNat by omega]
  rw [hnum] at HT
  clear hx hnum
  go_enter Tryz.func6, Tryz.ntmps6
  go_wp2_with fail
  refine HN.out.mono ?_
  rintro e w2 ⟨g, rfl, hg, hb⟩
  have HT2 := Lib.hid (HT.out g w2 hg)
  have HB := Lib.hid hb
  clear hg hb HN HT
  go_wp2_with fail
  refine (string_ok g _ w2 HT2.out).mono ?_
  rintro e w3 ⟨rfl, hb⟩
  have HB3 := Lib.hid (HB.out.trans (hb.mono HB.out.size))
  clear hb HB HT2
  go_wp2_with fail
  go_ret
  exact ⟨rfl, HB3.out⟩
end Go.Proofs.YtcmhbhdiepkndaaGreatDoor

/-
  The contract of weirsame.Ints at equal lists. No condition.
-/
namespace Go.Proofs.YtcmhbhdiepkndaaGreatDoor
open Go.RowKit
set_option linter.unusedVariables false

set_option maxRecDepth 100000 in
theorem ints_same (A B : Option Addr) (c d : Nat) (l : List Int) (w : World) (F G : Nat → Prop) (ha : SlA (intE .i64) F w A c l) (hb : SlA (intE .i64) G w B d l) :
    Calls Tryz.prog 7 #[.slice A l.length c, .slice B l.length d] w fun e w' => e = .returned (.bool true) ∧ ∃ k, w' = w.drewN k := by
  have hn := ha.le
  have H := Lib.hid ha
  have H' := Lib.hid hb
  clear ha hb
  go_enter Tryz.func7, Tryz.ntmps7
  go_wp2
  go_loopw [5] (fun i wr => ∃ k q : Nat, k ≤ l.length ∧ i = .int .i64 k ∧ wr = w.drewN q) (fun i _ => l.length - (intOf i).toNat)
  case atStart => exact ⟨0, 0, Nat.zero_le _, rfl, rfl⟩
  case round =>
    obtain ⟨k, q, hk, rfl, rfl⟩ := hrel
    by_cases hlt : k < l.length
    · obtain ⟨b, off, rfl, _, c0, _⟩ := H.out.int_ hlt
      obtain ⟨b', off', rfl, _, d0, _⟩ := H'.out.int_ hlt
      obtain ⟨s, hs⟩ : ∃ s, s = l[k] := ⟨_, rfl⟩
      rw [← hs] at c0 d0
      clear hs
      go_wp2
      go_quiet (fail)
      go_wp2
      go_roundw
      case rel => exact ⟨k + 1, q + nq, by omega, by go_num, by simp⟩
      case measure => simp [intOf]; omega
    · go_wp2
      go_ret
      exact ⟨rfl, q, rfl⟩
end Go.Proofs.YtcmhbhdiepkndaaGreatDoor

/-
  From what the row lists to what the walks of package den ask: the two variables of Atoi's errors hold errors; the table of powers of ten. No condition.
-/
namespace Go.Proofs.YtcmhbhdiepkndaaGreatDoor
open Go.RowKit Go.Shelf
set_option linter.unusedVariables false

theorem err_of_reads {w : World} {n nm : String} {g : Nat} {d : DataW Unit} (hg : Tryz.prog.globalNamed n = some g) (ht : (Tryz.prog.globals[g]?).map (·.type) = some 41) (h : Lib.VarReads Tryz.prog w n (.iface nm d)) :
    ∃ ev, w.cell? ⟨g, 0, none⟩ = some ev ∧ (ev = .nilIface ∨ ∃ te pe, ev = .iface te pe) := by
  obtain ⟨g', t', cs, fuel, p, hg', ht', hvar, hd⟩ := h
  obtain rfl := Option.some.inj (hg.symm.trans hg')
  obtain rfl := Option.some.inj (ht.symm.trans ht')
  obtain ⟨_, u, v, hcs, _, _⟩ := iface_of_trod Tryz.underlying41 hd
  refine ⟨.iface u v, ?_, .inr ⟨u, v, rfl⟩⟩
  obtain ⟨l⟩ := cs
  have hl : l = [.iface u v] := hcs
  subst hl
  simpa using World.var?_cell hg hvar 0
theorem errVars_of_reads {w : World} (h1 : Lib.VarReads Tryz.prog w "strconv.ErrSyntax" Rows.laid_strconv_ErrSyntax) (h2 : Lib.VarReads Tryz.prog w "strconv.ErrRange" Rows.laid_strconv_ErrRange) : ErrVars w :=
  ⟨err_of_reads (g := 4) (by kernel_rfl) (by kernel_rfl) h1, err_of_reads (g := 5) (by kernel_rfl) (by kernel_rfl) h2⟩
theorem pow_of_reads {w : World} (h : Lib.VarReads Tryz.prog w "internal/strconv.uint64pow10" Rows.laid_internal_strconv_uint64pow10) : PowTab w := by
  obtain ⟨g', t', cs, fuel, p, hg', ht', hvar, hd⟩ := h
  obtain rfl := Option.some.inj ((show Tryz.prog.globalNamed "internal/strconv.uint64pow10" = some 0 by kernel_rfl).symm.trans hg')
  obtain rfl := Option.some.inj ((show (Tryz.prog.globals[0]?).map (·.type) = some 154 by kernel_rfl).symm.trans ht')
  have e : (Rows.laid_internal_strconv_uint64pow10 : DataW Unit) = Lib.tabData .u64 Lib.pow10Tab := by kernel_rfl
  rw [e] at hd
  unfold PowTab Lib.TabIs
  rw [hvar, ← Lib.cells_of_tab Tryz.underlying154 Tryz.underlying81 (by kernel_rfl) (by kernel_rfl) hd]
end Go.Proofs.YtcmhbhdiepkndaaGreatDoor
