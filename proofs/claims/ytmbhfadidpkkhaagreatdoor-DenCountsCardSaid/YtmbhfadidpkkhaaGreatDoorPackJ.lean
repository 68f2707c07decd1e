/-
  Several texts of this claim in one, in build order; each begins with its own remark, which says what it proves and under which conditions.
-/
import Derived.Test.YtmbhfadidpkkhaaGreatDoorPackI
import Derived.ProofKit
import Derived.Test.YtmbhfadidpkkhaaGreatDoorPackD
import Derived.Test.YtmbhfadidpkkhaaGreatDoorRows
import Derived.LaidLaws
import Derived.Lib.LaidU8
import Derived.Lib.LaidTab
import Derived.Test.YtmbhfadidpkkhaaGreatDoorPackF

/-
  Package den, plain: what single nodes make of records, key by key. No condition: plain definitions and lemmas.
-/
namespace Go.Proofs.YtmbhfadidpkkhaaGreatDoor
open Go.RowKit
set_option linter.unusedVariables false

def txtN : ByteArray := ⟨#[110]⟩
def txtSum : ByteArray := ⟨#[115, 43, 110]⟩
def txtMax : ByteArray := ⟨#[109, 97, 120, 40, 115, 44, 110, 41]⟩
theorem parse_n : parseT txtN.data.toList = .tree (.nam true) := by kernel_rfl
theorem parse_sum : parseT txtSum.data.toList = .tree (.bin 43 (.nam false) (.nam true)) := by kernel_rfl
theorem parse_max : parseT txtMax.data.toList = .tree (.bin 77 (.nam false) (.nam true)) := by kernel_rfl
theorem job_n : jobErr (lineJ ⟨2, [], txtN, 0⟩) = 0 := by decide +kernel
theorem job_sum : jobErr (lineJ ⟨7, [], txtSum, 0⟩) = 0 := by decide +kernel
theorem job_max : jobErr (lineJ ⟨7, [], txtMax, 0⟩) = 0 := by decide +kernel
theorem job_first : jobErr (lineJ ⟨9, [], ⟨#[]⟩, 0⟩) = 0 := by decide +kernel
theorem ev_n (n s : Int) : evalOf txtN n s = n := by unfold evalOf; rw [parse_n]; rfl
theorem ev_sum (n s : Int) : evalOf txtSum n s = wrap64 (s + n) := by unfold evalOf; rw [parse_sum]; rfl
theorem ev_max (n s : Int) : evalOf txtMax n s = if s < n then n else s := by unfold evalOf; rw [parse_max]; show max s n = _; omega

/-- What a step makes of numbers, so far. -/
def scanN (f : Int → Int → Int) (s : Int) : List Int → List Int
  | [] => []
  | x :: l => f s x :: scanN f (f s x) l
theorem scanN_len (f : Int → Int → Int) (l : List Int) : ∀ s, (scanN f s l).length = l.length := by
  induction l with
  | nil => intro s; rfl
  | cons x l ih => intro s; simp only [scanN, List.length_cons, ih]
theorem scanN_get (f : Int → Int → Int) (l : List Int) : ∀ (s : Int) (k : Nat), k < l.length → (scanN f s l)[k]? = some ((l.take (k + 1)).foldl f s) := by
  induction l with
  | nil => intro s k hk; simp at hk
  | cons x l ih =>
    intro s k hk
    cases k with
    | zero => rfl
    | succ k => simp only [scanN, List.getElem?_cons_succ, List.take_succ_cons, List.foldl_cons]; exact ih _ k (by simpa using hk)
theorem scanN_snoc (f : Int → Int → Int) (l : List Int) (x : Int) : ∀ s, scanN f s (l ++ [x]) = scanN f s l ++ [f (l.foldl f s) x] := by
  induction l with
  | nil => intro s; rfl
  | cons y l ih => intro s; simp only [List.cons_append, scanN, List.foldl_cons, ih]
theorem foldK_succ (f : Int → Int → Int) (s : Int) (l : List Int) {k : Nat} (hk : k < l.length) : (l.take (k + 1)).foldl f s = f ((l.take k).foldl f s) l[k] := by
  rw [List.take_succ_eq_append_getElem hk, List.foldl_append]; rfl
theorem logOf_snoc (l : List Rec) (r : Rec) : logOf (l ++ [r]) = logOf l ++ [(0, r)] := by unfold logOf; rw [List.map_append]; rfl
theorem runLog_snoc (n : Nod) (log : List (Nat × Rec)) (p : Nat × Rec) : runLog n (log ++ [p]) = stepLog n (runLog n log) p := by unfold runLog; rw [List.foldl_append]; rfl
theorem atKey_log (k : ByteArray) (d : List Rec) : atKey k (logOf d) = logOf (recsAt k d) := by
  unfold atKey logOf recsAt
  rw [List.filter_map]
  rfl
def KeysOk (d : List Rec) : Prop := ∀ r ∈ d, r.key.size ≤ 40
theorem KeysOk.at_ {d : List Rec} (h : KeysOk d) (k : ByteArray) : ∀ r ∈ recsAt k d, r.key = k ∧ r.key.size ≤ 40 := fun r hr => by
  obtain ⟨h1, h2⟩ := List.mem_filter.1 hr
  exact ⟨of_decide_eq_true h2, h r h1⟩
theorem KeysOk.snoc {d : List Rec} {r : Rec} (h : KeysOk (d ++ [r])) : KeysOk d ∧ r.key.size ≤ 40 := ⟨fun x hx => h x (List.mem_append.2 (.inl hx)), h r (List.mem_append.2 (.inr List.mem_cons_self))⟩
theorem passR_one {r : Rec} (h : r.key.size ≤ 40) : passR r = [r] := by unfold passR; rw [if_neg (by omega)]
/-- A Map of n hands on what it gets. -/
theorem run_map (d : List Rec) (h : KeysOk d) : (runLog ⟨2, [0], txtN, 0⟩ (logOf d)).2 = d := by
  revert h
  refine snoc_ind (P := fun d => KeysOk d → (runLog ⟨2, [0], txtN, 0⟩ (logOf d)).2 = d) (fun _ => rfl) ?_ d
  intro d r ih h
  obtain ⟨h1, h2⟩ := h.snoc
  rw [logOf_snoc, runLog_snoc]
  show (runLog _ (logOf d)).2 ++ passR { r with num := evalOf txtN r.num 0 } = _
  rw [ih h1, ev_n, passR_one (r := { r with num := r.num }) h2]
/-- A Fold: of each key. -/
theorem run_fold (text : ByteArray) (k : ByteArray) (d : List Rec) (h : ∀ r ∈ d, r.key = k ∧ r.key.size ≤ 40) :
    (runLog ⟨7, [0], text, 0⟩ (logOf d)).2.map (·.num) = scanN (fun s x => evalOf text x s) 0 (d.map (·.num)) ∧
    pget (runLog ⟨7, [0], text, 0⟩ (logOf d)).1 k = (if d = [] then none else some ⟨0, k, (d.map (·.num)).foldl (fun s x => evalOf text x s) 0, 0⟩) := by
  revert h
  refine snoc_ind (P := fun d => (∀ r ∈ d, r.key = k ∧ r.key.size ≤ 40) → (runLog ⟨7, [0], text, 0⟩ (logOf d)).2.map (·.num) = scanN (fun s x => evalOf text x s) 0 (d.map (·.num)) ∧
    pget (runLog ⟨7, [0], text, 0⟩ (logOf d)).1 k = (if d = [] then none else some ⟨0, k, (d.map (·.num)).foldl (fun s x => evalOf text x s) 0, 0⟩)) (fun _ => ⟨rfl, rfl⟩) ?_ d
  intro d r ih h
  obtain ⟨i1, i2⟩ := ih fun x hx => h x (List.mem_append.2 (.inl hx))
  obtain ⟨hrk, hrs⟩ := h r (List.mem_append.2 (.inr List.mem_cons_self))
  have ha : begins ((pget (runLog ⟨7, [0], text, 0⟩ (logOf d)).1 k).getD zeroH) (pget (runLog ⟨7, [0], text, 0⟩ (logOf d)).1 k).isSome r = ⟨0, k, (d.map (·.num)).foldl (fun s x => evalOf text x s) 0, 0⟩ := by
    rw [i2]
    split
    · rename_i hd; rw [hd]; unfold begins; rw [hrk]; rfl
    · unfold begins; rw [hrk]; rfl
  rw [logOf_snoc, runLog_snoc]
  unfold stepLog
  simp only
  rw [hrk]
  have happ : applyN ⟨7, [0], text, 0⟩ ((pget (runLog ⟨7, [0], text, 0⟩ (logOf d)).1 k).getD zeroH) (pget (runLog ⟨7, [0], text, 0⟩ (logOf d)).1 k).isSome r 0 =
      ⟨[{ r with num := evalOf text r.num ((d.map (·.num)).foldl (fun s x => evalOf text x s) 0) }], ⟨0, k, evalOf text r.num ((d.map (·.num)).foldl (fun s x => evalOf text x s) 0), 0⟩, true⟩ := by
    show ends_ (passR { r with num := evalOf text r.num (begins _ _ r).a }) { (begins _ _ r) with a := evalOf text r.num (begins _ _ r).a } true = _
    rw [ha, passR_one (by exact hrs)]
    rfl
  rw [show ((0 : Nat) : Int) = 0 from rfl, happ]
  simp only [if_true]
  refine ⟨?_, ?_⟩
  · rw [List.map_append, i1, List.map_append, List.map_cons, List.map_nil, List.map_cons, List.map_nil, scanN_snoc]
  · rw [pget_pset, if_pos rfl, if_neg (by simp), List.map_append, List.foldl_append]
    rfl
theorem fold_at (text : ByteArray) (d : List Rec) (h : KeysOk d) (k : ByteArray) : numsAt (runLog ⟨7, [0], text, 0⟩ (logOf d)).2 k = scanN (fun s x => evalOf text x s) 0 (numsAt d k) := by
  rw [numsAt_recs, (run_key (show (7 : Int) ≠ 4 by decide) (show (7 : Int) ≠ 6 by decide) k (logOf d)).1, atKey_log, (run_fold text k (recsAt k d) (h.at_ k)).1]
  rfl
theorem LinesGrp.len0 {l l' : List Rec} {a b : List Lin} (ha : LinesGrp l a) (hb : LinesGrp l' b) (h : ∀ k, numsAt l k = [] ↔ numsAt l' k = []) : a.length = b.length := by
  refine ha.len hb fun k => ?_
  have e : ∀ l : List Rec, (∃ r ∈ l, r.key = k) ↔ ¬ numsAt l k = [] := fun l => ⟨fun ⟨r, hr, e⟩ h0 => numsAt_nil.1 h0 r hr e, fun h0 => Classical.byContradiction fun hn => h0 (numsAt_nil.2 fun r hr e => hn ⟨r, hr, e⟩)⟩
  rw [e, e, h k]
theorem scanN_nil (f : Int → Int → Int) (s : Int) (l : List Int) : scanN f s l = [] ↔ l = [] := by
  rw [← List.length_eq_zero_iff, scanN_len, List.length_eq_zero_iff]
/-- One key alone: one line. -/
theorem LinesGrp.one {l : List Rec} {a : List Lin} (ha : LinesGrp l a) {k : ByteArray} (h : ∀ r ∈ l, r.key = k) (h0 : l ≠ []) : ∃ x, a = [x] ∧ x.key = k ∧ x.nums = l.map (·.num) := by
  have hk : ∀ j, j ∈ a.map (·.key) ↔ j = k := fun j => (ha.keys j).trans ⟨fun ⟨r, hr, e⟩ => by rw [← e]; exact h r hr, fun e => by
    obtain ⟨r, l', rfl⟩ := List.exists_cons_of_ne_nil h0
    exact ⟨r, List.mem_cons_self, (h r List.mem_cons_self).trans e.symm⟩⟩
  have hp : (a.map (·.key)).Perm [k] := (List.perm_ext_iff_of_nodup ha.nd (by simp)).2 fun j => (hk j).trans (by simp)
  have hlen := hp.length_eq
  rw [List.length_map] at hlen
  obtain ⟨x, rfl⟩ := List.length_eq_one_iff.1 hlen
  have hxk : x.key = k := (hk x.key).1 (by simp)
  refine ⟨x, rfl, hxk, ?_⟩
  rw [ha.nums x List.mem_cons_self]
  unfold numsAt
  rw [List.filter_eq_self.2 fun r hr => decide_eq_true ((h r hr).trans hxk.symm)]

/-! ### First, Copy, Every -/
theorem run_first (k : ByteArray) (d : List Rec) (h : ∀ r ∈ d, r.key = k ∧ r.key.size ≤ 40) :
    (runLog ⟨9, [0], ⟨#[]⟩, 0⟩ (logOf d)).2 = d.take 1 ∧ (pget (runLog ⟨9, [0], ⟨#[]⟩, 0⟩ (logOf d)).1 k).isSome = !d.isEmpty := by
  revert h
  refine snoc_ind (P := fun d => (∀ r ∈ d, r.key = k ∧ r.key.size ≤ 40) → (runLog ⟨9, [0], ⟨#[]⟩, 0⟩ (logOf d)).2 = d.take 1 ∧ (pget (runLog ⟨9, [0], ⟨#[]⟩, 0⟩ (logOf d)).1 k).isSome = !d.isEmpty) (fun _ => ⟨rfl, rfl⟩) ?_ d
  intro d r ih h
  obtain ⟨i1, i2⟩ := ih fun x hx => h x (List.mem_append.2 (.inl hx))
  obtain ⟨hrk, hrs⟩ := h r (List.mem_append.2 (.inr List.mem_cons_self))
  rw [logOf_snoc, runLog_snoc]
  unfold stepLog
  simp only
  rw [hrk]
  have happ : ∀ (h : Hld) (has : Bool), (applyN ⟨9, [0], ⟨#[]⟩, 0⟩ h has r 0).out = (if has = true then [] else [r]) ∧ (applyN ⟨9, [0], ⟨#[]⟩, 0⟩ h has r 0).has = true := fun h has => by
    show (if has = true then [] else passR r) = _ ∧ true = true
    rw [passR_one hrs]; exact ⟨rfl, rfl⟩
  obtain ⟨a1, a2⟩ := happ ((pget (runLog ⟨9, [0], ⟨#[]⟩, 0⟩ (logOf d)).1 k).getD zeroH) (pget (runLog ⟨9, [0], ⟨#[]⟩, 0⟩ (logOf d)).1 k).isSome
  rw [show ((0 : Nat) : Int) = 0 from rfl, a1, a2, i1, i2]
  refine ⟨?_, ?_⟩
  · cases d with
    | nil => rfl
    | cons x d => simp
  · simp only [if_true]
    rw [pget_pset, if_pos rfl]
    cases d <;> rfl
theorem first_at (d : List Rec) (h : KeysOk d) (k : ByteArray) : numsAt (runLog ⟨9, [0], ⟨#[]⟩, 0⟩ (logOf d)).2 k = (numsAt d k).take 1 := by
  rw [numsAt_recs, (run_key (show (9 : Int) ≠ 4 by decide) (show (9 : Int) ≠ 6 by decide) k (logOf d)).1, atKey_log, (run_first k (recsAt k d) (h.at_ k)).1, List.map_take]
  rfl
theorem run_copy (n : Nat) (hn : n ≤ 3) (d : List Rec) (h : ∀ r ∈ d, r.key.size ≤ 40) :
    (runLog ⟨5, [0], ⟨#[]⟩, (n : Int)⟩ (logOf d)).2 = d.flatMap (List.replicate n) ∧ (runLog ⟨5, [0], ⟨#[]⟩, (n : Int)⟩ (logOf d)).1 = [] := by
  revert h
  refine snoc_ind (P := fun d => (∀ r ∈ d, r.key.size ≤ 40) → (runLog ⟨5, [0], ⟨#[]⟩, (n : Int)⟩ (logOf d)).2 = d.flatMap (List.replicate n) ∧ (runLog ⟨5, [0], ⟨#[]⟩, (n : Int)⟩ (logOf d)).1 = []) (fun _ => ⟨rfl, rfl⟩) ?_ d
  intro d r ih h
  obtain ⟨i1, i2⟩ := ih fun x hx => h x (List.mem_append.2 (.inl hx))
  have hrs := h r (List.mem_append.2 (.inr List.mem_cons_self))
  rw [logOf_snoc, runLog_snoc]
  unfold stepLog
  simp only
  rw [i1, i2]
  have happ : applyN ⟨5, [0], ⟨#[]⟩, (n : Int)⟩ ((pget ([] : List (ByteArray × Hld)) r.key).getD zeroH) (pget ([] : List (ByteArray × Hld)) r.key).isSome r 0 = ⟨List.replicate n r, zeroH, false⟩ := by
    show ends_ ((List.replicate (min 3 (n : Int)).toNat (passR r)).flatten) _ false = _
    rw [passR_one hrs, show (min 3 (n : Int)).toNat = n by omega]
    have : ∀ m : Nat, (List.replicate m [r]).flatten = List.replicate m r := fun m => by
      induction m with
      | zero => rfl
      | succ m ih => rw [List.replicate_succ, List.flatten_cons, ih]; rfl
    rw [this]; rfl
  rw [show ((0 : Nat) : Int) = 0 from rfl, happ]
  refine ⟨?_, rfl⟩
  rw [List.flatMap_append]
  simp
theorem copy_at (n : Nat) (hn : n ≤ 3) (d : List Rec) (h : KeysOk d) (k : ByteArray) : numsAt (runLog ⟨5, [0], ⟨#[]⟩, (n : Int)⟩ (logOf d)).2 k = (numsAt d k).flatMap (List.replicate n) := by
  rw [(run_copy n hn d h).1]
  unfold numsAt
  induction d with
  | nil => rfl
  | cons r d ih =>
    have ih' := ih fun x hx => h x (List.mem_cons_of_mem _ hx)
    rw [List.flatMap_cons, List.filter_append, List.map_append, ih', List.filter_cons]
    by_cases e : r.key = k
    · rw [decide_eq_true e, if_pos rfl, List.map_cons, List.flatMap_cons]
      congr 1
      rw [List.filter_eq_self.2 fun x hx => by rw [List.eq_of_mem_replicate hx]; exact decide_eq_true e, List.map_replicate]
    · rw [decide_eq_false e, if_neg (by decide)]
      rw [List.filter_eq_nil_iff.2 fun x hx => by rw [List.eq_of_mem_replicate hx, decide_eq_false e]; decide]
      rfl
theorem copy_len (n : Nat) (l : List Int) : (l.flatMap (List.replicate n)).length = n * l.length := by
  induction l with
  | nil => simp
  | cons x l ih => rw [List.flatMap_cons, List.length_append, ih, List.length_replicate, List.length_cons, Nat.mul_succ]; omega
def addW (s x : Int) : Int := wrap64 (s + x)
/-- The sums of each n. -/
def chunkS (n : Nat) (l : List Int) : List Int := (List.range (l.length / n)).map fun j => ((l.drop (j * n)).take n).foldl addW 0
theorem chunk_len (n : Nat) (l : List Int) : (chunkS n l).length = l.length / n := by unfold chunkS; simp
theorem chunk_snoc {n : Nat} (hn : 0 < n) (l : List Int) (x : Int) : chunkS n (l ++ [x]) = chunkS n l ++ (if l.length % n + 1 = n then [addW ((l.drop (l.length / n * n)).foldl addW 0) x] else []) ∧
    (l ++ [x]).drop ((l ++ [x]).length / n * n) = (if l.length % n + 1 = n then [] else l.drop (l.length / n * n) ++ [x]) := by
  have hm := Nat.div_add_mod l.length n
  have hlt := Nat.mod_lt l.length hn
  have hcomm : n * (l.length / n) = l.length / n * n := Nat.mul_comm _ _
  have hlen : (l ++ [x]).length = l.length + 1 := by simp
  have hold : ∀ j, j < l.length / n → (((l ++ [x]).drop (j * n)).take n).foldl addW 0 = ((l.drop (j * n)).take n).foldl addW 0 := fun j hj => by
    have h1 : (j + 1) * n ≤ l.length / n * n := Nat.mul_le_mul_right n hj
    rw [Nat.succ_mul] at h1
    rw [List.drop_append_of_le_length (by omega), List.take_append_of_le_length (by rw [List.length_drop]; omega)]
  by_cases hc : l.length % n + 1 = n
  · have hdiv : (l.length + 1) / n = l.length / n + 1 := by
      rw [show l.length + 1 = n * (l.length / n + 1) by rw [Nat.mul_add]; omega, Nat.mul_div_cancel_left _ hn]
    rw [if_pos hc, if_pos hc]
    refine ⟨?_, ?_⟩
    · unfold chunkS
      rw [hlen, hdiv, List.range_succ, List.map_append, List.map_congr_left fun j hj => hold j (List.mem_range.1 hj)]
      congr 1
      simp only [List.map_cons, List.map_nil]
      have hle : l.length / n * n ≤ l.length := by rw [← hcomm]; omega
      have hsub : l.length - l.length / n * n + 1 ≤ n := by rw [← hcomm]; omega
      rw [List.drop_append_of_le_length hle, List.take_of_length_le (by rw [List.length_append, List.length_drop, List.length_singleton]; exact hsub), List.foldl_append]
      rfl
    · have hle : l.length + 1 ≤ l.length / n * n + n := by rw [← hcomm]; omega
      rw [hlen, hdiv]
      refine List.drop_eq_nil_of_le ?_
      rw [hlen, Nat.succ_mul]; exact hle
  · have hdiv : (l.length + 1) / n = l.length / n := by
      have h3 : l.length % n + 1 < n := Nat.lt_of_le_of_ne hlt hc
      have h2 : l.length + 1 = n * (l.length / n) + (l.length % n + 1) := by omega
      have h4 : (n * (l.length / n) + (l.length % n + 1)) / n = l.length / n := by rw [Nat.mul_add_div hn, Nat.div_eq_of_lt h3, Nat.add_zero]
      rw [← h4, ← h2]
    rw [if_neg hc, if_neg hc, List.append_nil]
    refine ⟨?_, ?_⟩
    · unfold chunkS
      rw [hlen, hdiv, List.map_congr_left fun j hj => hold j (List.mem_range.1 hj)]
    · rw [hlen, hdiv, List.drop_append_of_le_length (by omega)]
theorem run_every (n : Nat) (h1 : 1 ≤ n) (hn : n ≤ 3) (k : ByteArray) (d : List Rec) (h : ∀ r ∈ d, r.key = k ∧ r.key.size ≤ 40) :
    (runLog ⟨8, [0], ⟨#[]⟩, (n : Int)⟩ (logOf d)).2.map (·.num) = chunkS n (d.map (·.num)) ∧
    pget (runLog ⟨8, [0], ⟨#[]⟩, (n : Int)⟩ (logOf d)).1 k = (if d = [] then none else some ⟨0, k, ((d.length % n : Nat) : Int), ((d.map (·.num)).drop (d.length / n * n)).foldl addW 0⟩) := by
  revert h
  refine snoc_ind (P := fun d => (∀ r ∈ d, r.key = k ∧ r.key.size ≤ 40) → (runLog ⟨8, [0], ⟨#[]⟩, (n : Int)⟩ (logOf d)).2.map (·.num) = chunkS n (d.map (·.num)) ∧
    pget (runLog ⟨8, [0], ⟨#[]⟩, (n : Int)⟩ (logOf d)).1 k = (if d = [] then none else some ⟨0, k, ((d.length % n : Nat) : Int), ((d.map (·.num)).drop (d.length / n * n)).foldl addW 0⟩)) (fun _ => ⟨by simp [chunkS, logOf, runLog], rfl⟩) ?_ d
  intro d r ih h
  obtain ⟨i1, i2⟩ := ih fun x hx => h x (List.mem_append.2 (.inl hx))
  obtain ⟨hrk, hrs⟩ := h r (List.mem_append.2 (.inr List.mem_cons_self))
  obtain ⟨S, hS⟩ : ∃ S, S = ((d.map (·.num)).drop (d.length / n * n)).foldl addW 0 := ⟨_, rfl⟩
  have hlt := Nat.mod_lt d.length (show n > 0 by omega)
  have ha : begins ((pget (runLog ⟨8, [0], ⟨#[]⟩, (n : Int)⟩ (logOf d)).1 k).getD zeroH) (pget (runLog ⟨8, [0], ⟨#[]⟩, (n : Int)⟩ (logOf d)).1 k).isSome r = ⟨0, k, ((d.length % n : Nat) : Int), S⟩ := by
    rw [i2, hS]
    split
    · rename_i hd; rw [hd]; unfold begins; rw [hrk]; simp
    · unfold begins; rw [hrk]; rfl
  have hc := chunk_snoc (show 0 < n by omega) (d.map (·.num)) r.num
  rw [List.length_map, ← hS] at hc
  have hw : wrap64 (((d.length % n : Nat) : Int) + 1) = ((d.length % n : Nat) : Int) + 1 := by unfold wrap64; omega
  have happ : applyN ⟨8, [0], ⟨#[]⟩, (n : Int)⟩ ((pget (runLog ⟨8, [0], ⟨#[]⟩, (n : Int)⟩ (logOf d)).1 k).getD zeroH) (pget (runLog ⟨8, [0], ⟨#[]⟩, (n : Int)⟩ (logOf d)).1 k).isSome r 0 =
      (if d.length % n + 1 = n then ⟨[{ r with num := addW S r.num }], ⟨0, k, 0, 0⟩, true⟩ else ⟨[], ⟨0, k, ((d.length % n : Nat) : Int) + 1, addW S r.num⟩, true⟩) := by
    show (if (n : Int) ≤ wrap64 ((begins _ _ r).a + 1) then ends_ (passR { r with num := wrap64 ((begins _ _ r).b + r.num) }) { (begins _ _ r) with a := 0, b := 0 } true else ends_ [] { (begins _ _ r) with a := wrap64 ((begins _ _ r).a + 1), b := wrap64 ((begins _ _ r).b + r.num) } true) = _
    rw [ha]
    simp only
    rw [hw]
    by_cases hcc : d.length % n + 1 = n
    · rw [if_pos (by omega), if_pos hcc, passR_one (by exact hrs)]; rfl
    · rw [if_neg (by omega), if_neg hcc]; rfl
  have hdn : (d ++ [r]).length = d.length + 1 := by simp
  have hmap : (d ++ [r]).map (·.num) = d.map (·.num) ++ [r.num] := by simp
  rw [logOf_snoc, runLog_snoc]
  unfold stepLog
  simp only
  rw [hrk, show ((0 : Nat) : Int) = 0 from rfl, happ, hmap, hc.1, if_neg (show ¬ (d ++ [r] = []) by simp)]
  have hd2 : (d.map (·.num) ++ [r.num]).drop ((d ++ [r]).length / n * n) = (if d.length % n + 1 = n then [] else (d.map (·.num)).drop (d.length / n * n) ++ [r.num]) := by
    rw [← hc.2, hdn, List.length_append, List.length_map]; rfl
  have hmod : (d ++ [r]).length % n = if d.length % n + 1 = n then 0 else d.length % n + 1 := by
    rw [hdn]
    have hm := Nat.div_add_mod d.length n
    by_cases hcc : d.length % n + 1 = n
    · rw [if_pos hcc, show d.length + 1 = n * (d.length / n + 1) by rw [Nat.mul_add]; omega, Nat.mul_mod_right]
    · rw [if_neg hcc]
      have h2 : d.length + 1 = n * (d.length / n) + (d.length % n + 1) := by omega
      have h3 : d.length % n + 1 < n := Nat.lt_of_le_of_ne hlt hcc
      have h4 : (n * (d.length / n) + (d.length % n + 1)) % n = d.length % n + 1 := by rw [Nat.mul_add_mod, Nat.mod_eq_of_lt h3]
      rw [← h4, ← h2]
  rw [hd2, hmod]
  by_cases hcc : d.length % n + 1 = n
  · simp only [if_pos hcc, if_true]
    refine ⟨by rw [List.map_append, i1]; rfl, by rw [pget_pset, if_pos rfl]; rfl⟩
  · simp only [if_neg hcc, if_true]
    refine ⟨by rw [List.map_append, i1]; rfl, ?_⟩
    rw [pget_pset, if_pos rfl, List.foldl_append, ← hS]
    simp [addW]
theorem every_at (n : Nat) (h1 : 1 ≤ n) (hn : n ≤ 3) (d : List Rec) (h : KeysOk d) (k : ByteArray) : numsAt (runLog ⟨8, [0], ⟨#[]⟩, (n : Int)⟩ (logOf d)).2 k = chunkS n (numsAt d k) := by
  rw [numsAt_recs, (run_key (show (8 : Int) ≠ 4 by decide) (show (8 : Int) ≠ 6 by decide) k (logOf d)).1, atKey_log, (run_every n h1 hn k (recsAt k d) (h.at_ k)).1]
  rfl
theorem job_copy (n : Nat) (h1 : 1 ≤ n) (hn : n ≤ 3) : jobErr (lineJ ⟨5, [], ⟨#[]⟩, (n : Int)⟩) = 0 ∧ jobErr (lineJ ⟨8, [], ⟨#[]⟩, (n : Int)⟩) = 0 := by
  have hc : n = 1 ∨ n = 2 ∨ n = 3 := by omega
  rcases hc with rfl | rfl | rfl
  · exact ⟨by decide +kernel, by decide +kernel⟩
  · exact ⟨by decide +kernel, by decide +kernel⟩
  · exact ⟨by decide +kernel, by decide +kernel⟩
end Go.Proofs.YtmbhfadidpkkhaaGreatDoor

/-
  A literal of two records, in memory. No condition: definitions and lemmas.
-/
namespace Go.Proofs.YtmbhfadidpkkhaaGreatDoor
open Go.RowKit Go.ChangeShapes Go.WideShapes Go.Shelf
set_option linter.unusedVariables false

def keyA : ByteArray := ⟨#[97]⟩
def litA : List Rec := [⟨keyA, 2, 0⟩, ⟨keyA, 3, 0⟩]
theorem litA_ok : dataErr [litA] = 0 := by decide +kernel
theorem lit_recs {W : World} {g : Nat} (l : List Rec) {F : Nat → Prop} (hg : W.heap[g]? = some (.cells (l.flatMap recCells).toArray 39 (0, 0))) (hl : l.length ≤ 1000) (hF : F g) (hx : ∀ x ∈ l, RecOk x) : SlA recE F W (some ⟨g, 0, none⟩) l.length l := by
  have ho : OwnS W 39 3 (some ⟨g, 0, none⟩) l.length l.length (l.flatMap recCells) := by
    have e : ∀ l : List Rec, (l.flatMap recCells).length = l.length * 3 := fun l => by
      induction l with
      | nil => rfl
      | cons x l ih => rw [List.flatMap_cons, List.length_append, ih, List.length_cons, show (recCells x).length = 3 from rfl]; omega
    refine ⟨e l, Nat.le_refl _, by unfold maxLen; omega, .inr ⟨g, 0, _, rfl, hg, by rw [List.size_toArray, e]; omega, fun j u hj => by rw [Nat.zero_add]; simpa using hj⟩⟩
  exact own_recs ho rfl (fun k e => by injection e with e; subst e; exact hF) hx
theorem recOk_lit {n : Int} (h : I64 n) : RecOk ⟨keyA, n, 0⟩ := ⟨by unfold maxLen; show (1 : Nat) ≤ _; omega, h, rfl⟩
end Go.Proofs.YtmbhfadidpkkhaaGreatDoor

/-
  From what the row lists to what the walks of package den ask: the two variables of Atoi's errors hold errors; the table of powers of ten. No condition.
-/
namespace Go.Proofs.YtmbhfadidpkkhaaGreatDoor
open Go.RowKit Go.Shelf
set_option linter.unusedVariables false

theorem err_of_reads {w : World} {n nm : String} {g : Nat} {d : DataW Unit} (hg : Tryz.prog.globalNamed n = some g) (ht : (Tryz.prog.globals[g]?).map (·.type) = some 29) (h : Lib.VarReads Tryz.prog w n (.iface nm d)) :
    ∃ ev, w.cell? ⟨g, 0, none⟩ = some ev ∧ (ev = .nilIface ∨ ∃ te pe, ev = .iface te pe) := by
  obtain ⟨g', t', cs, fuel, p, hg', ht', hvar, hd⟩ := h
  obtain rfl := Option.some.inj (hg.symm.trans hg')
  obtain rfl := Option.some.inj (ht.symm.trans ht')
  obtain ⟨_, u, v, hcs, _, _⟩ := iface_of_trod Tryz.underlying29 hd
  refine ⟨.iface u v, ?_, .inr ⟨u, v, rfl⟩⟩
  obtain ⟨l⟩ := cs
  have hl : l = [.iface u v] := hcs
  subst hl
  simpa using World.var?_cell hg hvar 0
theorem errVars_of_reads {w : World} (h1 : Lib.VarReads Tryz.prog w "strconv.ErrSyntax" Rows.laid_strconv_ErrSyntax) (h2 : Lib.VarReads Tryz.prog w "strconv.ErrRange" Rows.laid_strconv_ErrRange) : ErrVars w :=
  ⟨err_of_reads (g := 4) (by kernel_rfl) (by kernel_rfl) h1, err_of_reads (g := 5) (by kernel_rfl) (by kernel_rfl) h2⟩
theorem pow_of_reads {w : World} (h : Lib.VarReads Tryz.prog w "internal/strconv.uint64pow10" Rows.laid_internal_strconv_uint64pow10) : PowTab w := by
  obtain ⟨g', t', cs, fuel, p, hg', ht', hvar, hd⟩ := h
  obtain rfl := Option.some.inj ((show Tryz.prog.globalNamed "internal/strconv.uint64pow10" = some 0 by kernel_rfl).symm.trans hg')
  obtain rfl := Option.some.inj ((show (Tryz.prog.globals[0]?).map (·.type) = some 157 by kernel_rfl).symm.trans ht')
  have e : (Rows.laid_internal_strconv_uint64pow10 : DataW Unit) = Lib.tabData .u64 Lib.pow10Tab := by kernel_rfl
  rw [e] at hd
  unfold PowTab Lib.TabIs
  rw [hvar, ← Lib.cells_of_tab Tryz.underlying157 Tryz.underlying94 (by kernel_rfl) (by kernel_rfl) hd]
end Go.Proofs.YtmbhfadidpkkhaaGreatDoor
