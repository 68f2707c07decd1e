/-
  Panes side by side in plain Lean, what WindowShifts asks: later records make the same panes, later; twice as wide ones are no more, and count as many. No condition but a width of at least 1.
-/
import Derived.Test.YtdnmdekmgbgioaaLayers
import Derived.Test.YtdnmdekmgbgioaaPaneSort
namespace Go.Proofs.Ytdnmdekmgbgioaa
open Go.RowKit
open Go.Sort hiding Below
set_option linter.unusedVariables false

def tumStep (size : Int) (m : List Pane) (r : Rec) : List Pane := addPane size 0 r.key r.num (r.time / size * size) m
def tum (size : Int) (l : List Rec) : List Pane := l.foldl (tumStep size) []
theorem tum_snoc (size : Int) (l : List Rec) (r : Rec) : tum size (l ++ [r]) = tumStep size (tum size l) r := by unfold tum; rw [List.foldl_append]; rfl
theorem lapsN_one {size t : Int} (hs : 1 ≤ size) (ht : 0 ≤ t) : lapsN size size t = 1 := by
  have h := lapsN_layers (by_ := size) (k := 1) hs (by omega) ht
  rw [Int.mul_one] at h
  have hq : 0 ≤ t / size := Int.ediv_nonneg ht (by omega)
  have : want1 size 1 t = 1 := by unfold want1; split <;> omega
  rw [this] at h; omega
theorem tum_eq {size : Int} (hs : 1 ≤ size) : ∀ {l : List Rec} (m : List Pane), (∀ r ∈ l, 0 ≤ r.time ∧ r.time ≤ 1000000) → l.foldl (slideStep size size 1000000) (0, m) = (0, l.foldl (tumStep size) m)
  | [], _, _ => rfl
  | r :: l, m, h => by
    have hr := h r (by simp)
    rw [List.foldl_cons, List.foldl_cons]
    have e : slideStep size size 1000000 (0, m) r = (0, tumStep size m r) := by
      unfold slideStep
      rw [lapsN_one hs hr.1, addFirst_succ, addFirst_zero]
      simp only [tumStep]
      congr 1
      · simp only [Int.max_def]; split <;> omega
      · simp
    rw [e]
    exact tum_eq hs _ fun q hq => h q (List.mem_cons_of_mem _ hq)
theorem slide_tum {size : Int} {l : List Rec} (hs : 1 ≤ size) (h : ∀ r ∈ l, 0 ≤ r.time ∧ r.time ≤ 1000000) : (slideAll size size 1000000 l).2 = tum size l := by
  unfold slideAll tum; rw [tum_eq hs _ h]
theorem tum_apart (size : Int) (l : List Rec) : Apart (tum size l) := by
  unfold tum
  suffices h : ∀ (l : List Rec) (m : List Pane), Apart m → Apart (l.foldl (tumStep size) m) from h l _ List.Pairwise.nil
  intro l
  induction l with
  | nil => intro m h; exact h
  | cons r l ih => intro m h; exact ih _ (addPane_apart h)

/-! ### Later -/
def shiftP (d : Int) (p : Pane) : Pane := { p with from_ := p.from_ + d, to := p.to + d }
def shiftR (d : Int) (r : Rec) : Rec := { r with time := r.time + d }
theorem bump_shift {d num : Int} {p : Pane} (h : 0 < p.to) (hd : 0 ≤ d) : bump 0 num (shiftP d p) = shiftP d (bump 0 num p) := by
  unfold bump shiftP
  simp only
  rw [if_neg (by omega), if_neg (by omega)]
theorem is_shift (d : Int) (p : Pane) (k : ByteArray) (f : Int) : (shiftP d p).is k (f + d) = p.is k f := by
  unfold Pane.is shiftP
  simp only
  congr 1
  rw [decide_eq_decide]; omega
theorem addPane_shift {size d num f : Int} {k : ByteArray} {m : List Pane} (hm : ∀ p ∈ m, 0 < p.to) (hf : 0 < f + size) (hd : 0 ≤ d) :
    addPane size 0 k num (f + d) (m.map (shiftP d)) = (addPane size 0 k num f m).map (shiftP d) := by
  unfold addPane
  have e1 : (m.map (shiftP d)).any (·.is k (f + d)) = m.any (·.is k f) := by
    rw [List.any_map]
    congr 1
    funext p
    exact is_shift d p k f
  rw [e1]
  split
  · rw [List.map_map, List.map_map]
    apply List.map_congr_left
    intro p hp
    simp only [Function.comp, is_shift]
    split
    · exact bump_shift (hm p hp) hd
    · rfl
  · rw [List.map_append]
    congr 1
    simp only [List.map_cons, List.map_nil]
    rw [← bump_shift (p := ⟨k, f, f + size, 0, 0, 0⟩) hf hd]
    unfold shiftP
    simp only
    rw [show f + d + size = f + size + d by omega]
theorem addPane_to {size num f : Int} {k : ByteArray} {m : List Pane} (hm : ∀ p ∈ m, 0 < p.to) (hf : 0 < f + size) : ∀ p ∈ addPane size 0 k num f m, 0 < p.to := by
  intro q hq
  unfold addPane at hq
  split at hq
  · obtain ⟨p, hp, rfl⟩ := List.mem_map.1 hq
    split
    · rw [(bump_key 0 num p).2.2]; exact hm p hp
    · exact hm p hp
  · rcases List.mem_append.1 hq with hq | hq
    · exact hm q hq
    · rw [List.mem_singleton.1 hq, (bump_key 0 num _).2.2]; exact hf
theorem floor_ok {size t : Int} (hs : 1 ≤ size) (ht : 0 ≤ t) : 0 ≤ t / size * size ∧ t / size * size ≤ t ∧ t < t / size * size + size := by
  refine ⟨Int.mul_nonneg (Int.ediv_nonneg ht (by omega)) (by omega), Int.ediv_mul_le t (by omega), ?_⟩
  have := Int.lt_ediv_add_one_mul_self t (by omega : 0 < size)
  rw [Int.add_mul, Int.one_mul] at this; exact this
theorem tum_shift {size b : Int} (hs : 1 ≤ size) (hb : 0 ≤ b) : ∀ {l : List Rec} (m : List Pane), (∀ r ∈ l, 0 ≤ r.time) → (∀ p ∈ m, 0 < p.to) →
    (l.map (shiftR (b * size))).foldl (tumStep size) (m.map (shiftP (b * size))) = (l.foldl (tumStep size) m).map (shiftP (b * size))
  | [], _, _, _ => rfl
  | r :: l, m, h, hm => by
    have hr := h r (by simp)
    have hf := floor_ok hs hr
    rw [List.map_cons, List.foldl_cons, List.foldl_cons]
    have e : tumStep size (m.map (shiftP (b * size))) (shiftR (b * size) r) = (tumStep size m r).map (shiftP (b * size)) := by
      unfold tumStep
      rw [← addPane_shift hm (by omega) (Int.mul_nonneg hb (by omega))]
      unfold shiftR
      simp only
      congr 1
      rw [Int.add_mul_ediv_right _ _ (by omega : size ≠ 0), Int.add_mul]
    rw [e]
    exact tum_shift hs hb _ (fun q hq => h q (List.mem_cons_of_mem _ hq)) (addPane_to hm (by omega))

/-! ### One order -/
theorem paneLt_of (p q : Pane) : ltOf paneCf p q = (ltStr p.key.data.toList q.key.data.toList || (decide (p.key = q.key) && decide (p.from_ < q.from_))) := by
  unfold ltOf paneCf cmpS cmpI orI
  cases h1 : ltStr p.key.data.toList q.key.data.toList with
  | true => simp
  | false =>
    cases h2 : ltStr q.key.data.toList p.key.data.toList with
    | true =>
      have hne : p.key ≠ q.key := fun e => by rw [e, swo_ltStr.irrefl] at h2; cases h2
      simp [hne]
    | false =>
      have he : p.key = q.key := by
        simp only [ltStr, decide_eq_false_iff_not, List.not_lt] at h1 h2
        have := List.le_antisymm h2 h1
        cases hp : p.key; cases hq : q.key
        rw [hp, hq] at this
        congr 1
        exact Array.toList_inj.1 this
      simp only [he, decide_true, Bool.true_and, Bool.false_or]
      by_cases h3 : p.from_ < q.from_
      · simp [h3]
      · by_cases h4 : q.from_ < p.from_ <;> simp [h3, h4]
theorem lt_shift (d : Int) (p q : Pane) : ltOf paneCf (shiftP d p) (shiftP d q) = ltOf paneCf p q := by
  rw [paneLt_of, paneLt_of]
  unfold shiftP
  simp only
  congr 2
  rw [decide_eq_decide]; omega
theorem strict_of {p q : Pane} (h : ltOf paneCf q p = false) (hn : ¬ (p.key = q.key ∧ p.from_ = q.from_)) : ltOf paneCf p q = true := by
  rw [paneLt_of] at h ⊢
  simp only [Bool.or_eq_false_iff, Bool.and_eq_false_iff, decide_eq_false_iff_not] at h
  cases h3 : ltStr p.key.data.toList q.key.data.toList with
  | true => rfl
  | false =>
    have he : p.key = q.key := by
      have a := h.1
      simp only [ltStr, decide_eq_false_iff_not, List.not_lt] at a h3
      have := List.le_antisymm a h3
      cases hp : p.key; cases hq : q.key
      rw [hp, hq] at this
      congr 1
      exact Array.toList_inj.1 this
    have h5 := h.2.resolve_left fun f => f he.symm
    have h6 : p.from_ ≠ q.from_ := fun e => hn ⟨he, e⟩
    simp [he]; omega
theorem stricts {q : List Pane} (hs : q.Pairwise (fun a b => ltOf paneCf b a = false)) (ha : Apart q) : q.Pairwise fun a b => ltOf paneCf a b = true := by
  unfold Apart at ha
  induction q with
  | nil => exact .nil
  | cons x q ih =>
    have h1 := List.pairwise_cons.1 hs
    have h2 := List.pairwise_cons.1 ha
    exact List.pairwise_cons.2 ⟨fun y hy => strict_of (h1.1 y hy) (h2.1 y hy), ih h1.2 h2.2⟩
/-- Two lists in one strict order that hold the same are the same. -/
theorem eq_of_order {α : Type} {lt : α → α → Bool} (hi : ∀ x, lt x x = false) (ht : ∀ x y z, lt x y = true → lt y z = true → lt x z = true) : ∀ {a b : List α}, a.Perm b → a.Pairwise (fun x y => lt x y = true) → b.Pairwise (fun x y => lt x y = true) → a = b
  | [], b, hp, _, _ => by rw [hp.nil_eq]
  | x :: a, [], hp, _, _ => by have := hp.length_eq; simp at this
  | x :: a, y :: b, hp, ha, hb => by
    have h1 := List.pairwise_cons.1 ha
    have h2 := List.pairwise_cons.1 hb
    have hxy : x = y := by
      rcases List.mem_cons.1 (hp.mem_iff.1 (List.mem_cons_self (a := x))) with h | h
      · exact h
      · rcases List.mem_cons.1 (hp.mem_iff.2 (List.mem_cons_self (a := y))) with h' | h'
        · exact h'.symm
        · have := ht _ _ _ (h2.1 x h) (h1.1 y h'); rw [hi] at this; cases this
    subst hxy
    rw [eq_of_order hi ht hp.cons_inv h1.2 h2.2]
theorem apart_perm {m m' : List Pane} (h : Apart m) (hp : m.Perm m') : Apart m' := (hp.pairwise_iff (fun {x y} hxy hyx => hxy ⟨hyx.1.symm, hyx.2.symm⟩)).1 h
theorem shifts_eq {size b : Int} {l : List Rec} {p q : List Pane} (hs : 1 ≤ size) (hb : 0 ≤ b) (h : ∀ r ∈ l, 0 ≤ r.time) (hp : p.Perm (tum size l)) (hp2 : p.Pairwise (fun a b => ltOf paneCf b a = false))
    (hq : q.Perm (tum size (l.map (shiftR (b * size))))) (hq2 : q.Pairwise (fun a b => ltOf paneCf b a = false)) : q = p.map (shiftP (b * size)) := by
  have e : tum size (l.map (shiftR (b * size))) = (tum size l).map (shiftP (b * size)) := tum_shift hs hb [] h nofun
  have hap := apart_perm (tum_apart size l) hp.symm
  have haq := apart_perm (tum_apart size _) hq.symm
  refine eq_of_order (lt := ltOf paneCf) paneSwo.irrefl paneSwo.trans ?_ (stricts hq2 haq) ?_
  · rw [e] at hq
    exact hq.trans (hp.map _).symm
  · rw [List.pairwise_map]
    exact (stricts hp2 hap).imp fun {x y} hxy => by rw [lt_shift]; exact hxy

/-! ### How many, and how much -/
def manyN (m : List Pane) : Int := (m.map (·.many)).sum
def sumN (m : List Pane) : Int := (m.map (·.sum)).sum
theorem manyN_append (a b : List Pane) : manyN (a ++ b) = manyN a + manyN b := by simp [manyN]
theorem sumN_append (a b : List Pane) : sumN (a ++ b) = sumN a + sumN b := by simp [sumN]
theorem manyN_cons (p : Pane) (b : List Pane) : manyN (p :: b) = p.many + manyN b := by simp [manyN]
theorem sumN_cons (p : Pane) (b : List Pane) : sumN (p :: b) = p.sum + sumN b := by simp [sumN]
theorem manyN_perm {a b : List Pane} (h : a.Perm b) : manyN a = manyN b := by
  induction h with
  | nil => rfl
  | cons x _ ih => rw [manyN_cons, manyN_cons, ih]
  | swap x y l => rw [manyN_cons, manyN_cons, manyN_cons, manyN_cons]; omega
  | trans _ _ h1 h2 => exact h1.trans h2
theorem sumN_perm {a b : List Pane} (h : a.Perm b) : sumN a = sumN b := by
  induction h with
  | nil => rfl
  | cons x _ ih => rw [sumN_cons, sumN_cons, ih]
  | swap x y l => rw [sumN_cons, sumN_cons, sumN_cons, sumN_cons]; omega
  | trans _ _ h1 h2 => exact h1.trans h2
theorem wrap_mod (x : Int) : ∃ k : Int, IntKind.i64.wrap x = x + k * 18446744073709551616 := by
  have e := IntWalk.i64_left x
  rw [e]
  unfold wrap64
  refine ⟨-((x + 9223372036854775808) / 18446744073709551616), ?_⟩
  omega
theorem bump_sum {num : Int} {p : Pane} (h : 0 < p.to) : (bump 0 num p).many = p.many + 1 ∧ ∃ k : Int, (bump 0 num p).sum = p.sum + num + k * 18446744073709551616 := by
  unfold bump
  rw [if_neg (by omega)]
  exact ⟨rfl, wrap_mod _⟩
theorem addPane_sums {size num f : Int} {k : ByteArray} {m : List Pane} (h : Apart m) (hm : ∀ p ∈ m, 0 < p.to) (hf : 0 < f + size) :
    manyN (addPane size 0 k num f m) = manyN m + 1 ∧ ∃ c : Int, sumN (addPane size 0 k num f m) = sumN m + num + c * 18446744073709551616 := by
  rcases addPane_parts (size := size) (mark := 0) (num := num) (f := f) (k := k) h with ⟨m1, p, m2, rfl, h1⟩ | h1
  · obtain ⟨b1, c, b2⟩ := bump_sum (num := num) (hm p (by simp))
    rw [addPane_hit h h1, manyN_append, manyN_append, manyN_cons, manyN_cons, sumN_append, sumN_append, sumN_cons, sumN_cons, b1, b2]
    exact ⟨by omega, c, by omega⟩
  · obtain ⟨b1, c, b2⟩ := bump_sum (num := num) (p := ⟨k, f, f + size, 0, 0, 0⟩) hf
    rw [addPane_miss h1, manyN_append, sumN_append, manyN_cons, sumN_cons, b1, b2]
    exact ⟨by simp [manyN], c, by simp [sumN]; omega⟩
def numN (l : List Rec) : Int := (l.map (·.num)).sum
theorem tum_sums {size : Int} (hs : 1 ≤ size) : ∀ {l : List Rec} (m : List Pane), (∀ r ∈ l, 0 ≤ r.time) → Apart m → (∀ p ∈ m, 0 < p.to) →
    manyN (l.foldl (tumStep size) m) = manyN m + l.length ∧ ∃ c : Int, sumN (l.foldl (tumStep size) m) = sumN m + numN l + c * 18446744073709551616
  | [], m, _, _, _ => ⟨by simp, 0, by simp [numN]⟩
  | r :: l, m, h, ha, hm => by
    have hf := floor_ok hs (h r (by simp))
    obtain ⟨a1, c1, a2⟩ := addPane_sums (size := size) (num := r.num) (f := r.time / size * size) (k := r.key) ha hm (by omega)
    obtain ⟨b1, c2, b2⟩ := tum_sums hs (l := l) (tumStep size m r) (fun q hq => h q (List.mem_cons_of_mem _ hq)) (addPane_apart ha) (addPane_to hm (by omega))
    rw [List.foldl_cons]
    unfold tumStep at b1 b2
    refine ⟨?_, c1 + c2, ?_⟩
    · show manyN (List.foldl (tumStep size) (addPane size 0 r.key r.num (r.time / size * size) m) l) = _
      have b1' : manyN (List.foldl (tumStep size) (addPane size 0 r.key r.num (r.time / size * size) m) l) = _ := b1
      rw [b1', a1]; simp only [List.length_cons]; omega
    · have b2' : sumN (List.foldl (tumStep size) (addPane size 0 r.key r.num (r.time / size * size) m) l) = _ := b2
      show sumN (List.foldl (tumStep size) (addPane size 0 r.key r.num (r.time / size * size) m) l) = _
      rw [b2', a2]; simp only [numN, List.map_cons, List.sum_cons]; rw [Int.add_mul]; omega
theorem tum_many {size : Int} {l : List Rec} (hs : 1 ≤ size) (h : ∀ r ∈ l, 0 ≤ r.time) : manyN (tum size l) = l.length := by
  have := (tum_sums hs [] h List.Pairwise.nil nofun).1
  unfold tum; rw [this]; simp [manyN]
theorem tum_sum {size : Int} {l : List Rec} (hs : 1 ≤ size) (h : ∀ r ∈ l, 0 ≤ r.time) : ∃ c : Int, sumN (tum size l) = numN l + c * 18446744073709551616 := by
  obtain ⟨c, hc⟩ := (tum_sums hs [] h List.Pairwise.nil nofun).2
  exact ⟨c, by unfold tum; rw [hc]; simp [sumN]⟩
/-- No pane counts below nought. -/
theorem tum_pos {size : Int} {l : List Rec} : Pos (tum size l) := by
  unfold tum
  suffices h : ∀ (l : List Rec) (m : List Pane), Pos m → Pos (l.foldl (tumStep size) m) from h l _ nofun
  intro l
  induction l with
  | nil => intro m h; exact h
  | cons r l ih => intro m h; exact ih _ (addPane_pos h)
theorem manyN_take_le {m : List Pane} (h : Pos m) (i : Nat) : 0 ≤ manyN (m.take i) ∧ manyN (m.take i) ≤ manyN m := by
  have hp : ∀ m : List Pane, Pos m → 0 ≤ manyN m := fun m => by
    induction m with
    | nil => intro _; simp [manyN]
    | cons p m ih => intro h; rw [manyN_cons]; have := h p (by simp); have := ih fun q hq => h q (List.mem_cons_of_mem _ hq); omega
  have e : m = m.take i ++ m.drop i := (List.take_append_drop i m).symm
  have h1 := hp _ fun p (hp : p ∈ m.take i) => h p (List.mem_of_mem_take hp)
  have h2 := hp _ fun p (hp : p ∈ m.drop i) => h p (List.mem_of_mem_drop hp)
  have h3 := congrArg manyN e
  rw [manyN_append] at h3
  omega

/-! ### No more of twice as wide ones -/
def placeOf (p : Pane) : ByteArray × Int := (p.key, p.from_)
def place1 (size : Int) (r : Rec) : ByteArray × Int := (r.key, r.time / size * size)
theorem addPane_places {size num f : Int} {k : ByteArray} {m : List Pane} (h : Apart m) (x : ByteArray × Int) : x ∈ (addPane size 0 k num f m).map placeOf ↔ x ∈ m.map placeOf ∨ x = (k, f) := by
  rcases addPane_parts (size := size) (mark := 0) (num := num) (f := f) (k := k) h with ⟨m1, p, m2, rfl, h1⟩ | h1
  · rw [addPane_hit h h1]
    have e : placeOf (bump 0 num p) = placeOf p := by unfold placeOf; rw [(bump_key 0 num p).1, (bump_key 0 num p).2.1]
    have e2 : placeOf p = (k, f) := by unfold placeOf; rw [h1.1, h1.2]
    simp only [List.map_append, List.map_cons, e, e2, List.mem_append, List.mem_cons]
    constructor
    · exact .inl
    · rintro (h | rfl)
      · exact h
      · exact .inr (.inl rfl)
  · rw [addPane_miss h1, List.map_append, List.mem_append]
    have e : placeOf (bump 0 num ⟨k, f, f + size, 0, 0, 0⟩) = (k, f) := by unfold placeOf; rw [(bump_key 0 num _).1, (bump_key 0 num _).2.1]
    simp [e]
theorem tum_places (size : Int) (l : List Rec) (x : ByteArray × Int) : x ∈ (tum size l).map placeOf ↔ x ∈ l.map (place1 size) := by
  unfold tum
  suffices h : ∀ (l : List Rec) (m : List Pane), Apart m → (x ∈ (l.foldl (tumStep size) m).map placeOf ↔ x ∈ m.map placeOf ∨ x ∈ l.map (place1 size)) by
    rw [h l [] List.Pairwise.nil]; simp
  intro l
  induction l with
  | nil => intro m _; simp
  | cons r l ih =>
    intro m hm
    have h1 := ih (tumStep size m r) (addPane_apart hm)
    rw [List.foldl_cons, h1]
    unfold tumStep
    rw [addPane_places hm, List.map_cons, List.mem_cons, or_assoc]
    rfl
theorem length_le_of {α : Type} [DecidableEq α] : ∀ {a b : List α}, a.Nodup → (∀ x ∈ a, x ∈ b) → a.length ≤ b.length
  | [], _, _, _ => by simp
  | x :: a, b, hn, h => by
    have h1 := List.nodup_cons.1 hn
    have hx : x ∈ b := h x (by simp)
    have := length_le_of (b := b.erase x) h1.2 fun y hy => (List.mem_erase_of_ne (by rintro rfl; exact h1.1 hy)).2 (h y (List.mem_cons_of_mem _ hy))
    rw [List.length_erase_of_mem hx] at this
    have : 0 < b.length := List.length_pos_of_mem hx
    simp only [List.length_cons]; omega
theorem apart_nodup {m : List Pane} (h : Apart m) : (m.map placeOf).Nodup := by
  unfold Apart at h
  rw [List.Nodup, List.pairwise_map]
  exact h.imp fun {x y} hxy e => hxy (by unfold placeOf at e; injection e with e1 e2; exact ⟨e1, e2⟩)
theorem tum_fewer {size : Int} {l : List Rec} (hs : 1 ≤ size) (h : ∀ r ∈ l, 0 ≤ r.time) : (tum (2 * size) l).length ≤ (tum size l).length := by
  have key : ∀ x ∈ (tum (2 * size) l).map placeOf, x ∈ ((tum size l).map placeOf).map fun y => (y.1, y.2 / (2 * size) * (2 * size)) := by
    intro x hx
    rw [tum_places] at hx
    obtain ⟨r, hr, rfl⟩ := List.mem_map.1 hx
    refine List.mem_map.2 ⟨place1 size r, (tum_places size l _).2 (List.mem_map.2 ⟨r, hr, rfl⟩), ?_⟩
    unfold place1
    simp only
    congr 2
    have ht := h r hr
    have h1 := floor_ok hs ht
    have e : r.time / (2 * size) = r.time / size / 2 := by rw [Int.mul_comm, Int.ediv_ediv_of_nonneg (by omega)]
    have e2 : r.time / size * size / (2 * size) = r.time / size / 2 := by rw [Int.mul_ediv_mul_of_pos_left _ _ (by omega)]
    rw [e, e2]
  have := length_le_of (apart_nodup (tum_apart (2 * size) l)) key
  simpa using this
theorem fact_tum : (slideAll 2 2 0 [⟨⟨#[97]⟩, 2, 3⟩]).2.length = 1 ∧ ∀ p ∈ (slideAll 2 2 0 [⟨⟨#[97]⟩, 2, 3⟩]).2, p.from_ = 2 := by
  constructor
  · decide +kernel
  · decide +kernel
theorem tum_bounds {size : Int} {l : List Rec} (hs : 1 ≤ size) (h : ∀ r ∈ l, 0 ≤ r.time ∧ r.time ≤ 1000000) : ∀ p ∈ tum size l, 0 ≤ p.from_ ∧ p.from_ ≤ 1000000 ∧ p.to = p.from_ + size := by
  intro p hp
  have h1 := (tum_places size l (placeOf p)).1 (List.mem_map.2 ⟨p, hp, rfl⟩)
  obtain ⟨r, hr, e⟩ := List.mem_map.1 h1
  unfold place1 placeOf at e
  injection e with e1 e2
  have hf := floor_ok hs (h r hr).1
  have ht := (h r hr).2
  have hto : Tos size (tum size l) := by
    have := slideAll_tos size size 1000000 l
    rwa [slide_tum hs h] at this
  exact ⟨by omega, by omega, hto p hp⟩
theorem wrap_add (a b : Int) : IntKind.i64.wrap (IntKind.i64.wrap a + b) = IntKind.i64.wrap (a + b) := by
  rw [IntWalk.i64_left, IntWalk.i64_left, IntWalk.i64_left]
  unfold wrap64
  omega
theorem wrap_sub (a b : Int) : IntKind.i64.wrap (IntKind.i64.wrap a - b) = IntKind.i64.wrap (a - b) := by
  rw [IntWalk.i64_left, IntWalk.i64_left, IntWalk.i64_left]
  unfold wrap64
  omega
theorem wrap_zero {a b n c d : Int} (ha : a = n + c * 18446744073709551616) (hb : b = n + d * 18446744073709551616) : IntKind.i64.wrap (a - b) = 0 := by
  rw [IntWalk.i64_left, ha, hb]
  unfold wrap64
  omega
theorem sumN_take_succ (m : List Pane) (i : Nat) (h : i < m.length) : sumN (m.take (i + 1)) = sumN (m.take i) + m[i].sum := by
  rw [List.take_succ_eq_append_getElem h, sumN_append, sumN_cons]; simp [sumN]
theorem manyN_take_succ (m : List Pane) (i : Nat) (h : i < m.length) : manyN (m.take (i + 1)) = manyN (m.take i) + m[i].many := by
  rw [List.take_succ_eq_append_getElem h, manyN_append, manyN_cons]; simp [manyN]
end Go.Proofs.Ytdnmdekmgbgioaa
