/-
  Package expr: the reader's methods by what is left of the text; the contract of less. Conditions: the text takes at most 120 bytes, the depth is at most 20.
-/
import Derived.Test.YtmbhfadidpkkhaaDoorExprIn
import Derived.Test.YtmbhfadidpkkhaaDoorExprCtx
namespace Go.Proofs.YtmbhfadidpkkhaaDoor
open Go.RowKit Go.Shelf
set_option linter.unusedVariables false

theorem RdL.keep {w w' : World} {R : Nat} {s : ByteArray} {l : List UInt8} {d : Nat} (h : RdL w R s l d) (hs : w'.heap[R]? = w.heap[R]?) : RdL w' R s l d := ⟨h.1, h.2.1, h.2.2.keep hs⟩
theorem RdL.lt {w : World} {R : Nat} {s : ByteArray} {l : List UInt8} {d : Nat} (h : RdL w R s l d) : R < w.heap.size := h.2.2.lt
/-- Some bytes further. -/
theorem RdL.on {w w' : World} {R : Nat} {s : ByteArray} {l r : List UInt8} {n d : Nat} (h : RdL w R s l d) (hl : l.length = n + r.length) (hr : r = l.drop n) (h' : RdAt w' R s (s.size - l.length + n) d) : RdL w' R s r d := by
  obtain ⟨h1, h2, h3⟩ := h
  have e : s.size - l.length + n = s.size - r.length := by omega
  rw [e] at h'
  refine ⟨by omega, ?_, h'⟩
  rw [← e, ← List.drop_drop, ← h2]
  exact hr
theorem RdL.allocs {w : World} {R d : Nat} {s : ByteArray} {l : List UInt8} (h : RdL w R s l d) : ∀ ob, (w.alloc ob).cell? ⟨R, 1, none⟩ = some (.int .i64 ((s.size - l.length : Nat) : Int)) := fun ob => (RdL.keep (w' := w.alloc ob) h (heap_alloc_old _ _ h.lt)).2.2.cells.2.1
theorem peekL (R : Nat) (s : ByteArray) (l : List UInt8) (d : Nat) (w : World) (h : RdL w R s l d) : Calls Tryd.prog 33 #[.pointer (some ⟨R, 0, none⟩)] w fun e w' => e = .returned (.int .u8 (headB l)) ∧ ∃ q, w' = w.drewN q := by
  have := peek_ok R s (s.size - l.length) d w h.2.2 (by omega)
  rw [← h.2.1] at this
  exact this
theorem has_eq {w : World} {R : Nat} {s t : ByteArray} {l : List UInt8} {d : Nat} (h : RdL w R s l d) : hasB s (s.size - l.length) t = Lib.hasPrefix l t.data.toList := by
  unfold hasB; rw [← h.2.1]
theorem hasL_yes (R : Nat) (s t : ByteArray) (l r : List UInt8) (d : Nat) (w : World) (h : RdL w R s l d) (hs : s.size ≤ 120) (ht : l = t.data.toList ++ r) :
    Calls Tryd.prog 27 #[.pointer (some ⟨R, 0, none⟩), .string t] w fun e w' => e = .returned (.bool true) ∧ RdL w' R s r d ∧ Frm (· = R) w w' := by
  have hb : hasB s (s.size - l.length) t = true := by rw [has_eq h, ht]; exact List.isPrefixOf_iff_prefix.2 (List.prefix_append _ _)
  have e2 : t.data.toList.length = t.size := by simp
  refine (has_ok R s t _ d w h.2.2 (by omega) hs).mono ?_
  rintro e w' ⟨h1, h2, h3⟩
  rw [hb] at h1 h2
  exact ⟨h1, h.on (n := t.size) (by rw [ht, List.length_append, e2]) (by rw [ht, ← e2, List.drop_left]) (by simpa using h2), h3⟩
theorem hasL_no (R : Nat) (s t : ByteArray) (l : List UInt8) (d : Nat) (w : World) (h : RdL w R s l d) (hs : s.size ≤ 120) (ht : Lib.hasPrefix l t.data.toList = false) :
    Calls Tryd.prog 27 #[.pointer (some ⟨R, 0, none⟩), .string t] w fun e w' => e = .returned (.bool false) ∧ RdL w' R s l d ∧ Frm (· = R) w w' := by
  have hb : hasB s (s.size - l.length) t = false := by rw [has_eq h]; exact ht
  refine (has_ok R s t _ d w h.2.2 (by omega) hs).mono ?_
  rintro e w' ⟨h1, h2, h3⟩
  rw [hb] at h1 h2
  exact ⟨h1, ⟨h.1, h.2.1, by simpa using h2⟩, h3⟩
theorem wantL_yes (R : Nat) (s : ByteArray) (c : UInt8) (r : List UInt8) (d : Nat) (w : World) (h : RdL w R s (c :: r) d) (hs : s.size ≤ 120) :
    Calls Tryd.prog 29 #[.pointer (some ⟨R, 0, none⟩), .string ⟨#[c]⟩] w fun e w' => e = .returned (.tuple #[]) ∧ RdL w' R s r d ∧ Frm (· = R) w w' := by
  have hb : hasB s (s.size - (c :: r).length) ⟨#[c]⟩ = true := by rw [has_eq h]; simp [Lib.hasPrefix]
  refine (want_yes R s ⟨#[c]⟩ _ d w h.2.2 (by omega) hs hb).mono ?_
  rintro e w' ⟨h1, h2, h3⟩
  exact ⟨h1, h.on (n := 1) (by simp; omega) rfl h2, h3⟩
theorem wantL_no (R : Nat) (s : ByteArray) (c : UInt8) (l : List UInt8) (d : Nat) (w : World) (h : RdL w R s l d) (hs : s.size ≤ 120) (hc : ∀ r, l ≠ c :: r) :
    Calls Tryd.prog 29 #[.pointer (some ⟨R, 0, none⟩), .string ⟨#[c]⟩] w fun e w' => e = faultE (s.size - l.length) 2 ∧ RdL w' R s l d ∧ Frm (· = R) w w' := by
  have hb : hasB s (s.size - l.length) ⟨#[c]⟩ = false := by
    rw [has_eq h]
    cases l with
    | nil => rfl
    | cons x r =>
      have : ¬ c = x := fun e => hc r (e ▸ rfl)
      simp [Lib.hasPrefix, List.isPrefixOf, this]
  refine (want_no R s ⟨#[c]⟩ _ d w h.2.2 (by omega) hs hb).mono ?_
  rintro e w' ⟨h1, h2, h3⟩
  exact ⟨h1, ⟨h.1, h.2.1, h2⟩, h3⟩
theorem withinL (R k0 d K : Nat) (s : ByteArray) (l : List UInt8) (first cap : Array Value) (w : World) (r : Rd) (h : RdL w R s l d) (hd2 : d ≤ 20)
    (hK : ∀ args w, (callFunc K args).run Tryd.prog w = .ok (.enter K args) w)
    (hC : d ≠ 20 → ∀ W, RdL W R s l (d + 1) → Frm (· = R) w W → Calls Tryd.prog K (first ++ cap) W (Reads_ R s (d + 1) W r)) :
    Calls Tryd.prog 28 #[.pointer (some ⟨R, 0, none⟩), .int .i64 ((s.size - k0 : Nat) : Int), .func (.func K) first cap] w (Reads_ R s d w (deepRd d k0 r)) := by
  by_cases hd : d = 20
  · subst hd
    have e : deepRd 20 k0 r = .bad k0 4 := rfl
    rw [e]
    refine (within_full R _ (s.size - k0) s _ w h.2.2).mono ?_
    rintro e w' ⟨h1, h2, h3⟩
    exact ⟨h1, ⟨_, h2⟩, h3⟩
  · have e : deepRd d k0 r = r := by unfold deepRd; rw [if_neg hd]
    rw [e]
    exact within_ok R _ (s.size - k0) d K s first cap w r h.2.2 hd hd2 hK fun W hW hF => hC hd W ⟨h.1, h.2.1, hW⟩ hF
/-- What a reader that is called last leaves, seen from further back. -/
theorem Reads_.back {R d : Nat} {s : ByteArray} {w W : World} {r : Rd} {e : Ending} {w' : World} (h : Reads_ R s d W r e w') (hF : Frm (· = R) w W) : Reads_ R s d w r e w' := by
  cases r with
  | ok t l =>
    obtain ⟨o, n, A, c, h1, h2, h3, h4⟩ := h
    exact ⟨o, n, A, c, h1, h2.in_ fun k hk _ => by have := hF.size; omega, h3, hF.trans h4 (fun _ h => h) (fun _ h => .inl h)⟩
  | bad k j =>
    obtain ⟨h1, h2, h3⟩ := h
    exact ⟨h1, h2, hF.trans h3 (fun _ h => h) (fun _ h => .inl h)⟩
/-- A reader's method f reads as X does. -/
def ReadsAs (f : Nat) (X : Reads) (m : Nat) : Prop := ∀ (R : Nat) (s : ByteArray) (l : List UInt8) (d : Nat) (w : World), RdL w R s l d → s.size ≤ 120 → d ≤ 20 → l.length ≤ m → NumVars w R → Calls Tryd.prog f #[.pointer (some ⟨R, 0, none⟩)] w (Reads_ R s d w (X d l))
theorem deep_bind (d k : Nat) (r : Rd) (f : Tr → List UInt8 → Rd) : (deepRd d k r).bind f = deepRd d k (r.bind f) := by
  unfold deepRd; split <;> rfl
theorem TVar.new (w : World) (x y z : Value) : TVar (w.alloc (.cells #[x, y, z] 50)) w.heap.size x y z := heap_alloc_new w _
theorem TVar.frm {w w' : World} {R k : Nat} {x y z : Value} (h : TVar w k x y z) (hF : Frm (· = R) w w') (hk : k ≠ R) : TVar w' k x y z := (hF.block k (block_lt h) hk).trans h
theorem TVar.allocs {w : World} {k : Nat} {x y z : Value} (h : TVar w k x y z) : (∀ ob, (w.alloc ob).cell? ⟨k, 0, none⟩ = some x) ∧ (∀ ob, (w.alloc ob).cell? ⟨k, 1, none⟩ = some y) ∧ (∀ ob, (w.alloc ob).cell? ⟨k, 2, none⟩ = some z) ∧ (∀ ob i, (w.alloc ob).frozen? ⟨k, i, none⟩ = false) := by
  have h2 : ∀ ob, TVar (w.alloc ob) k x y z := fun ob => (heap_alloc_old _ _ (block_lt h)).trans h
  exact ⟨fun ob => (h2 ob).cells.1, fun ob => (h2 ob).cells.2.1, fun ob => (h2 ob).cells.2.2.1, fun ob => (h2 ob).cells.2.2.2⟩
theorem frm_trans {R : Nat} {a b c : World} (h : Frm (· = R) a b) (h' : Frm (· = R) b c) : Frm (· = R) a c := h.trans h' (fun _ h => h) (fun _ h => .inl h)
/-! ### A tree is made, and laid into a variable -/
section
variable {F : Nat → Prop} {w0 w3 : World} {k R : Nat} {x y z : Value} {ob : Obj}
theorem four_far {j : Nat} (h1 : j < w3.heap.size) (h2 : j ≠ k) : (tset (w3.alloc ob) k x y z).heap[j]? = w3.heap[j]? := (tset_far _ h2 _ _ _).trans (heap_alloc_old _ _ h1)
theorem four_new (hk : k < w3.heap.size) : (tset (w3.alloc ob) k x y z).heap[w3.heap.size]? = some ob := (tset_far _ (by omega) _ _ _).trans (heap_alloc_new _ _)
theorem four_tree {t : Tr} {cs : List Value} (h : TrC F w3 t cs) (hF : ∀ j, F j → j ≠ k ∧ w0.heap.size ≤ j) : TrC (w0.heap.size ≤ ·) (tset (w3.alloc ob) k x y z) t cs := by
  have h1 : TrC (fun j => F j ∧ j < w3.heap.size) w3 t cs := h.in_ fun j h1 h2 => ⟨h1, h2⟩
  exact (h1.keep fun j hj => four_far hj.2 (hF j hj.1).1).in_ fun j hj _ => (hF j hj.1).2
theorem four_rd {s : ByteArray} {l : List UInt8} {d : Nat} (h : RdL w3 R s l d) (hk : R ≠ k) : RdL (tset (w3.alloc ob) k x y z) R s l d := h.keep (four_far h.lt hk)
theorem four_frm (h : Frm (· = R) w0 w3) (hk : w0.heap.size ≤ k) : Frm (· = R) w0 (tset (w3.alloc ob) k x y z) := (h.alloc ob).tset (.inr hk) _ _ _
theorem four_var {a b c : Value} (h : TVar w3 k a b c) : TVar (tset (w3.alloc ob) k x y z) k x y z := TVar.put (x := a) (y := b) (z := c) ((heap_alloc_old _ _ (block_lt h)).trans h) _ _ _
end
/-! ### What was read last is laid into a variable -/
section
variable {w0 w3 : World} {k R d : Nat} {s : ByteArray} {x y z : Value}
theorem pass_var {a b c : Value} (h : TVar w3 k a b c) : TVar (tset w3 k x y z) k x y z := TVar.put (x := a) (y := b) (z := c) h _ _ _
theorem pass_ok {F : Nat → Prop} {t : Tr} {l : List UInt8} {o n : Int} {A : Option Addr} {c : Nat} (h : TrC F w3 t (trL o n A c)) (hF : ∀ j, F j → j ≠ k ∧ w0.heap.size ≤ j) (hl : RdL w3 R s l d) (hf : Frm (· = R) w0 w3) (hR : R ≠ k) (hk : w0.heap.size ≤ k) : Reads_ R s d w0 (.ok t l) (.returned (.agg (trA o n A c))) (tset w3 k x y z) :=
  ⟨o, n, A, c, rfl, (h.keep fun j hj => tset_far _ (hF j hj).1 _ _ _).in_ fun j hj _ => (hF j hj).2, hl.keep (tset_far _ hR _ _ _), hf.tset (.inr hk) _ _ _⟩
end
set_option maxRecDepth 100000 in
set_option maxHeartbeats 4000000 in
theorem less_one_reads {W : Reads} {m : Nat} (hone : ReadsAs 38 (oneRd W) m) (R : Nat) (s : ByteArray) (l : List UInt8) (d : Nat) (w : World) (h : RdL w R s l d) (hs : s.size ≤ 120) (hd : d ≤ 20) (hm : l.length ≤ m) (hnv : NumVars w R) (hl : ∀ r, l ≠ 45 :: r) :
    Calls Tryd.prog 32 #[.pointer (some ⟨R, 0, none⟩)] w (Reads_ R s d w (oneRd W d l)) := by
  obtain ⟨r0, hr0⟩ : ∃ r0, r0 = oneRd W d l := ⟨_, rfl⟩
  have HR0 := Lib.hid hr0
  rw [← hr0]
  have hb : Lib.hasPrefix l [45] = false := by
    cases l with
    | nil => rfl
    | cons x r =>
      have : ¬ 45 = x := fun e => hl r (e ▸ rfl)
      simp [Lib.hasPrefix, List.isPrefixOf, this]
  have HH := Lib.hid h
  obtain ⟨c0, c1, c2, cf⟩ := h.2.2.cells
  have hlt := h.lt
  have HLT := Lib.hid hlt
  clear hr0
  go_enter Tryd.func32, Tryd.ntmps32
  go_wp2_with fail
  have HH1 : Hid (RdL (w.alloc (.cells #[.int .u8 0, .int .i64 0, .slice none 0 0] 50)) R s l d) := HH.out.keep (heap_alloc_old _ _ hlt)
  have HF1 : Hid (Frm (· = R) w (w.alloc (.cells #[.int .u8 0, .int .i64 0, .slice none 0 0] 50))) := (Frm.refl _ _).alloc _
  have HV1 : Hid (TVar (w.alloc (.cells #[.int .u8 0, .int .i64 0, .slice none 0 0] 50)) w.heap.size (.int .u8 0) (.int .i64 0) (.slice none 0 0)) := TVar.new _ _ _ _
  clear c0 c1 c2 cf h hlt
  refine (hasL_no R s ⟨#[45]⟩ l d _ HH1.out hs hb).mono ?_
  rintro e w2 ⟨rfl, h2, f2⟩
  have HH2 := Lib.hid h2
  have HF2 := Lib.hid (frm_trans HF1.out f2)
  have HV2 := Lib.hid (HV1.out.frm f2 (by have := HLT.out; omega))
  clear h2 f2 HH1 HF1 HV1
  go_wp2_with fail
  refine (hone R s l d w2 HH2.out hs hd hm (hnv.frm HF2.out)).mono ?_
  intro e w3 hr
  rw [← HR0.out] at hr
  clear HR0
  cases r0 with
  | bad k j =>
    obtain ⟨rfl, hp, hf⟩ := hr
    exact ⟨rfl, rfl, hp, frm_trans HF2.out hf⟩
  | ok a l1 =>
    obtain ⟨o, n, A, ca, rfl, ht, hl, hf⟩ := hr
    have HT := Lib.hid ht
    have HL := Lib.hid hl
    have HF3 := Lib.hid (frm_trans HF2.out hf)
    have hV := HV2.out.frm hf (by have := HLT.out; omega)
    have HV3 := Lib.hid hV
    obtain ⟨v0, v1, v2, vf⟩ := hV.cells
    have hk2 : w.heap.size < w2.heap.size := block_lt HV2.out
    clear ht hl hf hV HV2 HH2 HF2
    simp only [trA]
    go_wp2_with fail
    obtain ⟨q0, q1, q2, qf⟩ := (pass_var (x := .int .u8 o) (y := .int .i64 n) (z := .slice A ca ca) HV3.out).cells
    simp only [tset] at q0 q1 q2
    refine ⟨rfl, .agg (trA o n A ca), ?_, pass_ok HT.out (fun j hj => by omega) HL.out HF3.out (by have := HLT.out; omega) (Nat.le_refl _)⟩
    simp only [results, Tryd.results32]
    simp [go_sem, q0, q1, q2, trA]
set_option maxRecDepth 100000 in
set_option maxHeartbeats 4000000 in
theorem less_reads {W : Reads} {m : Nat} (hone : ReadsAs 38 (oneRd W) m) : ReadsAs 32 (lessRd W) m := by
  intro R s l
  induction l with
  | nil => intro d w h hs hd hm hnv; exact less_one_reads hone R s [] d w h hs hd hm hnv (fun r e => by cases e)
  | cons c l ih =>
    intro d w h hs hd hm hnv
    have hmf : ∀ (fn : Fn) (first cap : Array Value) (w : World), (Instr.makeFunc fn first cap).run Tryd.prog w = .ok (.func fn first cap) w := fun _ _ _ _ => rfl
    have hK : ∀ args w, (callFunc 32 args).run Tryd.prog w = .ok (.enter 32 args) w := fun _ _ => rfl
    by_cases ec : c = 45
    · subst ec
      rw [less_minus, ← deep_bind]
      obtain ⟨r0, hr0⟩ : ∃ r0, r0 = deepRd d (l.length + 1) (lessRd W (d + 1) l) := ⟨_, rfl⟩
      rw [← hr0]
      have HR0 := Lib.hid hr0
      clear hr0
      have HH := Lib.hid h
      have HIH := Lib.hid ih
      obtain ⟨c0, c1, c2, cf⟩ := h.2.2.cells
      have hlt := h.lt
      have HLT := Lib.hid hlt
      clear ih
      go_enter Tryd.func32, Tryd.ntmps32
      go_wp2_with fail
      have HH1 : Hid (RdL (w.alloc (.cells #[.int .u8 0, .int .i64 0, .slice none 0 0] 50)) R s (45 :: l) d) := HH.out.keep (heap_alloc_old _ _ hlt)
      have HF1 : Hid (Frm (· = R) w (w.alloc (.cells #[.int .u8 0, .int .i64 0, .slice none 0 0] 50))) := (Frm.refl _ _).alloc _
      have HV1 : Hid (TVar (w.alloc (.cells #[.int .u8 0, .int .i64 0, .slice none 0 0] 50)) w.heap.size (.int .u8 0) (.int .i64 0) (.slice none 0 0)) := TVar.new _ _ _ _
      clear c0 c1 c2 cf h hlt
      refine (hasL_yes R s ⟨#[45]⟩ (45 :: l) l d _ HH1.out hs rfl).mono ?_
      rintro e w2 ⟨rfl, h2, f2⟩
      have HH2 := Lib.hid h2
      have HF2 := Lib.hid (frm_trans HF1.out f2)
      have HV2 := Lib.hid (HV1.out.frm f2 (by have := HLT.out; omega))
      clear h2 f2 HH1 HF1 HV1
      go_wp2_with fail
      refine (withinL R (l.length + 1) d 32 s l #[.pointer (some ⟨R, 0, none⟩)] #[] w2 (lessRd W (d + 1) l) HH2.out hd hK (fun hne W2 hW hF => HIH.out (d + 1) W2 hW hs (by omega) (by simp only [List.length_cons] at hm; omega) (hnv.frm (frm_trans HF2.out hF)))).mono ?_
      intro e w3 hr
      rw [← HR0.out] at hr
      clear HR0
      cases r0 with
      | bad k j =>
        obtain ⟨rfl, hp, hf⟩ := hr
        exact ⟨rfl, rfl, hp, frm_trans HF2.out hf⟩
      | ok a l1 =>
        obtain ⟨o, n, A, ca, rfl, ht, hl, hf⟩ := hr
        have HT := Lib.hid ht
        have HL := Lib.hid hl
        have HF3 := Lib.hid (frm_trans HF2.out hf)
        have hV := HV2.out.frm hf (by have := HLT.out; omega)
        have HV3 := Lib.hid hV
        obtain ⟨v0, v1, v2, vf⟩ := hV.allocs
        have hk2 : w.heap.size < w2.heap.size := block_lt HV2.out
        clear ht hl hf hV HV2 HH2 HF2
        simp only [trA]
        go_wp2_with fail
        have hk : w.heap.size < w3.heap.size := block_lt HV3.out
        obtain ⟨q0, q1, q2, qf⟩ := (four_var (x := .int .u8 126) (y := .int .i64 0) (z := .slice (some ⟨w3.heap.size, 0, none⟩) 1 1) (ob := .cells #[.int .u8 o, .int .i64 n, .slice A ca ca] 50) HV3.out).cells
        simp only [tset] at q0 q1 q2
        refine ⟨rfl, .agg (trA 126 0 (some ⟨w3.heap.size, 0, none⟩) 1), ?_, 126, 0, some ⟨w3.heap.size, 0, none⟩, 1, rfl, ⟨w3.heap.size, trL o n A ca, rfl, ⟨by omega, four_new hk⟩, four_tree HT.out fun j hj => by omega⟩, four_rd HL.out (by have := HLT.out; omega), four_frm HF3.out (Nat.le_refl _)⟩
        simp only [results, Tryd.results32]
        simp [go_sem, q0, q1, q2, trA]
    · rw [less_other _ _ _ ec]
      exact less_one_reads hone R s (c :: l) d w h hs hd hm hnv (fun r e => by injection e with e _; exact ec e)
end Go.Proofs.YtmbhfadidpkkhaaDoor
