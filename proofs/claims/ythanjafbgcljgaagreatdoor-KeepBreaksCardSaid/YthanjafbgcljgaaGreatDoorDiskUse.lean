/-
  Package disk: contracts of Named, has, of slices.Clone at bytes, of Write, Rename, Read. Conditions: names that memory holds, fewer than 10^12 steps.
-/
import Derived.Test.YthanjafbgcljgaaGreatDoorDiskStep
import Derived.Test.YthanjafbgcljgaaGreatDoorLays
namespace Go.Proofs.YthanjafbgcljgaaGreatDoor
open Go.RowKit Go.Shelf
set_option linter.unusedVariables false

def alnum : ByteArray := ⟨#[97, 98, 99, 100, 101, 102, 103, 104, 105, 106, 107, 108, 109, 110, 111, 112, 113, 114, 115, 116, 117, 118, 119, 120, 121, 122, 48, 49, 50, 51, 52, 53, 54, 55, 56, 57, 45]⟩
set_option maxRecDepth 100000 in
theorem dtrim_ok (s : ByteArray) (w : World) (hs : s.size ≤ maxLen) : Calls Tryz.prog 52 #[.string s, .string alnum] w fun e w' => e = .returned (.string ⟨(Lib.trimS s.data.toList nameSet).toArray⟩) ∧ Below w.heap.size w w' :=
  Any.strings_Trim_laid Tryz.trim (by kernel_rfl) s alnum w (by unfold maxLen at hs; omega) (by decide) (ascii_of_all (by decide))
theorem toList_size (s : ByteArray) : s.toList.length = s.size := by rw [Lib.toList_data]; simp
set_option maxRecDepth 100000 in
theorem named_ok (s : ByteArray) (w : World) (hs : s.size ≤ maxLen) : Calls Tryz.prog 30 #[.string s] w fun e w' => e = .returned (.bool (namedB s)) ∧ Below w.heap.size w w' := by
  have hT := dtrim_ok s w hs
  obtain ⟨T, hTT⟩ : ∃ T, T = Lib.trimS s.data.toList nameSet := ⟨_, rfl⟩
  have hN : namedB s = (decide (0 < s.size) && decide (s.size ≤ 20) && T.isEmpty) := by rw [hTT]; rfl
  rw [← hTT] at hT
  generalize hb : namedB s = b at hN
  clear hb hTT
  have HN := Lib.hid hN
  clear hN
  unfold alnum at hT
  go_enter Tryz.func30, Tryz.ntmps30
  go_wp2_with (go_at_call 52; refine hT.mono ?_; rintro e w1 ⟨rfl, hb1⟩)
  · rename_i h0
    have e : b = false := by
      have h1 : s.size = 0 := by rw [← toList_size, h0]; rfl
      rw [HN.out]; simp [h1]
    subst e
    go_ret
    exact ⟨rfl, Below.refl _ _⟩
  · rename_i h0 h1
    have h2 : 0 < s.size := by rw [← toList_size]; exact List.length_pos_iff.2 h0
    have e : (!s.toList.isEmpty && T.isEmpty) = b := by
      rw [HN.out]
      have : s.toList.isEmpty = false := by cases hh : s.toList with
        | nil => exact absurd hh h0
        | cons _ _ => rfl
      rw [this]
      simp [h2, show s.size ≤ 20 by omega]
    rw [e]
    go_ret
    exact ⟨rfl, hb1⟩
  · rename_i h0 h1
    have e : b = false := by rw [HN.out]; simp [show ¬ s.size ≤ 20 by omega]
    subst e
    go_ret
    exact ⟨rfl, Below.refl _ _⟩

set_option maxRecDepth 100000 in
theorem has_ok (g bn bs c : Nat) (A : Option Addr) (vs : List Value) (S : DState) (s : ByteArray) (w : World) (D : DiskAt w g bn bs A c vs S) (hs : s.size ≤ maxLen) :
    Calls Tryz.prog 36 #[.pointer (some ⟨g, 0, none⟩), .string s] w fun e w' => e = .returned (errV (hasE S s)) ∧ Below w.heap.size w w' := by
  have hN := named_ok s w hs
  cases hn : namedB s with
  | false =>
    rw [hn] at hN
    have hE : hasE S s = some 2 := by simp [hasE, hn]
    rw [hE]
    unfold errV
    clear D hs hn hE
    go_enter Tryz.func36, Tryz.ntmps36
    go_wp2_with (go_at_call 30; refine hN.mono ?_; rintro e w1 ⟨rfl, hb1⟩)
    go_ret
    exact ⟨rfl, hb1⟩
  | true =>
    rw [hn] at hN
    obtain ⟨c0, _⟩ := D.cells
    have hlt := D.lt (.inl rfl)
    have HM := Lib.hid D.now
    have HD := Lib.hid D
    have HL : ∀ w1, Below w.heap.size w w1 → w1.cell? ⟨g, 0, none⟩ = some (.map (some bn)) ∧ (Instr.lookup 40 (.map (some bn)) (.string s) true).run Tryz.prog w1 = .ok (.tuple #[fgetD zB S.now s, .bool (fhas S.now s)]) w1 := fun w1 hb => by
      have h1 := HD.out.below hb
      exact ⟨h1.cells.1, (h1.now.get (P := Tryz.prog) Tryz.underlying9 files_t (z := zB) (by kernel_rfl) hs true).trans (by simp)⟩
    have hE : hasE S s = if fhas S.now s then none else some 6 := by simp [hasE, hn]
    rw [hE]
    generalize fgetD zB S.now s = u at HL
    cases hf : fhas S.now s
    all_goals
      rw [hf] at HL
      simp only [Bool.false_eq_true, ↓reduceIte]
      unfold errV
      clear D hs hn hE HM HD
      go_enter Tryz.func36, Tryz.ntmps36
      go_wp2_with (go_at_call 30; refine hN.mono ?_; rintro e w1 ⟨rfl, hb1⟩; obtain ⟨d0, hl⟩ := HL w1 hb1)
      go_ret
      exact ⟨rfl, hb1⟩

/-! ### Bytes cloned -/
def bytCells (b : UInt8) : List Value := [.int .u8 (b.toNat : Int)]
theorem info_u8_ : (Tryz.prog.info? 5).map (fun i => (i.zero, i.size, i.bytes)) = some (some (.int .u8 0), 1, 1) := by kernel_rfl
theorem own_quiet {w : World} {A : Option Addr} {cap n : Nat} {xs : List Value} (h : OwnS w 5 1 A cap n xs) {k : Nat} (hk : blk A = some k) : Quiet w k := by
  obtain ⟨cur, hc⟩ := h.tag hk
  exact ⟨_, _, _, hc, by decide, by decide⟩
/-- Bytes in a row that was not there before. -/
def NewBlob (w w' : World) (v : Value) (l : List UInt8) : Prop := ∃ A c, v = .slice A l.length c ∧ SlA bytE (fun k => Quiet w' k ∧ w.heap.size ≤ k) w' A c l
theorem NewBlob.blob {w w' : World} {v : Value} {l : List UInt8} (h : NewBlob w w' v l) : BlobAt w' v l := by
  obtain ⟨A, c, rfl, h⟩ := h
  exact ⟨A, c, rfl, h.more fun k hk => hk.1⟩
theorem NewBlob.keep {w w' w2 : World} {v : Value} {l : List UInt8} (h : NewBlob w w' v l) (hs : ∀ k, Quiet w' k → w.heap.size ≤ k → w2.heap[k]? = w'.heap[k]?) : NewBlob w w2 v l := by
  obtain ⟨A, c, rfl, h⟩ := h
  exact ⟨A, c, rfl, (h.keep fun k hk => hs k hk.1 hk.2).more fun k hk => ⟨hk.1.kept (hs k hk.1 hk.2), hk.2⟩⟩
set_option maxRecDepth 100000 in
theorem bclone_ok (A : Option Addr) (c : Nat) (l : List UInt8) (F : Nat → Prop) (w : World) (h : SlA bytE F w A c l) (hF : ∀ k, F k → k < w.heap.size) (hn : l.length ≤ 140737488355328) :
    Calls Tryz.prog 31 #[.slice A l.length c] w fun e w' => ∃ v, e = .returned v ∧ NewBlob w w' v l ∧ Below w.heap.size w w' := by
  have h1 := fun wx : World => Lib.run_eql_slice_nil (P := Tryz.prog) wx 28 5 A l.length c 0 0 Tryz.underlying28
  have H := Lib.hid h
  have HF := Lib.hid hF
  clear h hF
  cases A with
  | none =>
    have h0 : l = [] := by
      cases l with
      | nil => rfl
      | cons x l => obtain ⟨b, off, cs, e, _⟩ := H.out.2.2 0 x rfl; cases e
    subst h0
    clear H h1
    have h2 := fun wx : World => (Lib.run_eql_slice_nil (P := Tryz.prog) wx 28 5 none 0 c 0 0 Tryz.underlying28).trans (show (Result.ok (Value.bool (none : Option Addr).isNone) wx : Result Value) = .ok (.bool true) wx from rfl)
    go_enter Tryz.func31, Tryz.ntmps31
    go_wp2_with fail
    go_ret
    exact ⟨_, rfl, ⟨none, 0, rfl, SlA.nil _ _ _ _ _ (by unfold maxLen; omega)⟩, Below.refl _ _⟩
  | some ad =>
    have hsrc := Src.of_sl (P := Tryz.prog) (tx := 28) (H.out.keep (w' := w.alloc (.cells #[] 5)) (fun k hk => Below.heap_alloc _ _ _ (HF.out k hk))) Tryz.underlying28 bytCells (fun cs x hx => hx) (fun _ => rfl) (fun x u hu => by simp [bytCells] at hu; subst hu; rfl)
    have HS := Lib.hid hsrc
    clear hsrc
    have h2 := fun wx : World => (h1 wx).trans (show (Result.ok (Value.bool (some ad : Option Addr).isNone) wx : Result Value) = .ok (.bool false) wx from rfl)
    clear h1
    go_enter Tryz.func31, Tryz.ntmps31
    go_wp2_with (at_builtin; refine wpList_append_S rfl _ _ 28 28 rfl 5 _ 1 1 Tryz.underlying28 info_u8_ rfl (by decide) (some ⟨w.heap.size, 0, none⟩) 0 0 [] rfl ?_ _ rfl l.length (l.flatMap bytCells) HS.out ?_ ?_ ?_)
    · exact ⟨by simp, Nat.le_refl _, Nat.zero_le _, .inr ⟨_, 0, #[], rfl, heap_alloc_new w _, by simp, fun j u hj => by simp at hj⟩⟩
    · unfold maxLen; omega
    · omega
    · intro A' cap' w1 hown1 hg1 hat1
      have hb : Below w.heap.size w w1 := ((Below.refl _ _).alloc (Nat.le_refl _) _).grown hg1 (by simp) (fun k e => by simp [blk] at e; omega)
      have HO := Lib.hid hown1
      have HB := Lib.hid hb
      have HAT : Hid (∀ k, blk A' = some k → w.heap.size ≤ k) := fun k e => by
        rcases hat1 with h | h
        · rw [h] at e; injection e with e; subst e; exact Nat.le_refl _
        · rw [h] at e; injection e with e; rw [← e]; simp
      clear hown1 hg1 hat1 hb
      go_wp2_with fail
      go_ret
      have ho := HO.out
      try simp only [List.nil_append, Nat.zero_add] at ho
      refine ⟨.slice A' l.length cap', by first | rfl | (simp; rfl), ⟨A', cap', rfl, ho.sl (E := bytE) bytCells (fun _ => rfl) rfl (fun k e => ⟨own_quiet ho e, HAT.out k e⟩) (fun x hx => rfl)⟩, HB.out⟩

/-! ### Steps and writes -/
theorem step_any (g bn bs c : Nat) (A : Option Addr) (vs : List Value) (S : DState) (ev : Option Int) (f : Value) (op : DOp) (w : World) (D : DiskAt w g bn bs A c vs S) (hf : OpAt w f op) (ok : DiskOk S) :
    Calls Tryz.prog 32 #[.pointer (some ⟨g, 0, none⟩), errV ev, f] w fun e w' => e = .returned (errV (stepE S ev)) ∧ (stepE S ev = none → Turned w g bn bs A (doneS S op) w') ∧ (stepE S ev ≠ none → Below w.heap.size w w') := by
  cases hs : stoppedB S with
  | true =>
    have e : stepE S ev = some 7 := by simp [stepE, hs]
    rw [e]
    exact (step_stopped g bn bs c A vs S ev f w D hs).mono fun e w' h => ⟨h.1, nofun, fun _ => h.2⟩
  | false =>
    have e : stepE S ev = ev := by simp [stepE, hs]
    rw [e]
    cases ev with
    | some k => exact (step_err g bn bs c A vs S k f w D hs).mono fun e w' h => ⟨h.1, nofun, fun _ => h.2⟩
    | none => exact (step_done g bn bs c A vs S f op w D hf ok hs).mono fun e w' h => ⟨h.1, fun _ => h.2, fun h => absurd rfl h⟩
theorem Turned.from {w0 w w' : World} {g bn bs : Nat} {A : Option Addr} {S' : DState} (h : Turned w g bn bs A S' w') (hb : Below w0.heap.size w0 w) : Turned w0 g bn bs A S' w' := by
  obtain ⟨A', c', vs', h1, h2, h3⟩ := h
  exact ⟨A', c', vs', h1, (Frm.ofBelow (F := dom g bn bs A) hb).trans h2 (fun _ h => h) (fun _ h => .inl h), h3.imp_right fun ⟨k, e, h⟩ => ⟨k, e, Nat.le_trans hb.size h⟩⟩
def writeE (n : ByteArray) (l : List UInt8) : Option Int := if namedB n then (if 60000 < l.length then some 4 else none) else some 2
/-- What Write leaves behind. -/
def Wrote (w : World) (g bn bs : Nat) (A : Option Addr) (S : DState) (n : ByteArray) (l : List UInt8) (w' : World) : Prop := ∃ v, Turned w g bn bs A (doneS S (.wr n v)) w' ∧ BlobAt w' v l
set_option maxRecDepth 100000 in
set_option maxHeartbeats 2000000 in
theorem write_ok (g bn bs c : Nat) (A : Option Addr) (vs : List Value) (S : DState) (n : ByteArray) (A0 : Option Addr) (c0 : Nat) (l : List UInt8) (F : Nat → Prop) (w : World) (D : DiskAt w g bn bs A c vs S) (hs : n.size ≤ maxLen)
    (h : SlA bytE F w A0 c0 l) (hF : ∀ k, F k → k < w.heap.size) (hn : l.length ≤ 140737488355328) (ok : DiskOk S) :
    Calls Tryz.prog 15 #[.pointer (some ⟨g, 0, none⟩), .string n, .slice A0 l.length c0] w fun e w' => e = .returned (errV (stepE S (writeE n l))) ∧ (stepE S (writeE n l) = none → Wrote w g bn bs A S n l w') ∧ (stepE S (writeE n l) ≠ none → Below w.heap.size w w') := by
  have hmf : ∀ (fn : Fn) (first cap : Array Value) (w : World), (Instr.makeFunc fn first cap).run Tryz.prog w = .ok (.func fn first cap) w := fun _ _ _ _ => rfl
  have HD := Lib.hid D
  have HS := Lib.hid h
  have HF := Lib.hid hF
  have HOK := Lib.hid ok
  have hN := fun w => named_ok n w hs
  have hE : writeE n l = if namedB n then (if decide (60000 < l.length) then some 4 else none) else some 2 := by simp [writeE]
  obtain ⟨m, hm⟩ : ∃ m, m = l.length := ⟨_, rfl⟩
  rw [← hm] at hE hn ⊢
  have HM := Lib.hid hm
  generalize writeE n l = ev at hE ⊢
  generalize namedB n = b at hN hE
  have hdn : decide (60000 < (m : Int)) = decide (60000 < m) := by simp; omega
  generalize hlg : decide (60000 < m) = lg at hE hdn
  obtain ⟨r, hr⟩ : ∃ r, r = stepE S ev := ⟨_, rfl⟩
  rw [← hr]
  have HR := Lib.hid hr
  clear D h hF ok hm hlg hr
  obtain ⟨W0, hW0⟩ : ∃ W0 : World, W0 = (w.alloc (.cells #[.string n] 9)).alloc (.cells #[.slice A0 m c0] 28) := ⟨_, rfl⟩
  have hz0 : W0.heap.size = w.heap.size + 2 := by rw [hW0]; simp
  have hB0 : Below w.heap.size w W0 := by rw [hW0]; exact ((Below.refl _ _).alloc (Nat.le_refl _) _).alloc (by simp) _
  have hn0 : BoxAt W0 w.heap.size (.string n) 9 := by rw [hW0]; exact (Below.heap_alloc _ _ _ (by simp)).trans (heap_alloc_new w _)
  have hb0 : BoxAt W0 (w.heap.size + 1) (.slice A0 m c0) 28 := by
    rw [hW0]
    have := heap_alloc_new (w.alloc (.cells #[.string n] 9)) (.cells #[.slice A0 m c0] 28)
    simpa [BoxAt] using this
  have HB0 := Lib.hid hB0
  have HN0 := Lib.hid hn0
  have HW0 := Lib.hid hb0
  clear hB0 hn0 hb0
  rcases b with _ | _
  rotate_left
  rcases lg with _ | _
  all_goals
    simp only [Bool.false_eq_true, ↓reduceIte] at hE
    subst hE
    have cn0 := HN0.out.cell
    go_enter Tryz.func15, Tryz.ntmps15
    go_wp2_with fail
    rw [← hW0]
    refine (hN _).mono ?_
    rintro e w1 ⟨rfl, hb1⟩
    have hB1 := HB0.out.trans (hb1.mono (by omega))
    have hn1 := HN0.out.keep (hb1.block _ (by omega))
    have hb1' := HW0.out.keep (hb1.block _ (by omega))
    have cb1 := hb1'.cell
    have fb1 : w1.frozen? ⟨w.heap.size + 1, 0, none⟩ = false := by have := hb1'; unfold BoxAt at this; simp [World.frozen?, this]
    have HN1 := Lib.hid hn1
    have HBX1 := Lib.hid hb1'
    have HB1 := Lib.hid hB1
    have hz1 : w.heap.size + 2 ≤ w1.heap.size := by have := hb1.size; omega
    clear hb1 hn1 hb1' hB1 cn0
    go_wp2_with fail
    rw [HM.out]
    refine (bclone_ok A0 c0 l F _ (HS.out.keep (fun k hk => HB1.out.block k (HF.out k hk))) (fun k hk => Nat.lt_of_lt_of_le (HF.out k hk) HB1.out.size) (by rw [← HM.out]; exact hn)).mono ?_
    rintro e w2 ⟨v, rfl, ⟨A9, c9, rfl, hvv⟩, hb2⟩
    have hv : NewBlob w1 w2 (.slice A9 l.length c9) l := ⟨A9, c9, rfl, hvv⟩
    clear hvv
    have hbx2 := HBX1.out.keep (hb2.block _ (by omega))
    have hnm2 := HN1.out.keep (hb2.block _ (by omega))
    have fb2 : w2.frozen? ⟨w.heap.size + 1, 0, none⟩ = false := by have := hbx2; unfold BoxAt at this; simp [World.frozen?, this]
    have cb2 := hbx2.cell
    have hz2 := hb2.size
    obtain ⟨W4, hW4⟩ : ∃ W4 : World, W4 = w2.setCell ⟨w.heap.size + 1, 0, none⟩ (.slice A9 l.length c9) := ⟨_, rfl⟩
    have hB4 : Below w.heap.size w W4 := by rw [hW4]; exact (HB1.out.trans (hb2.mono (by omega))).setCell (by simp) _
    have hbx4 : BoxAt W4 (w.heap.size + 1) (.slice A9 l.length c9) 28 := by
      have := hbx2
      unfold BoxAt at this ⊢
      rw [hW4]; simp [World.setCell, Array.getElem?_modify, this]
    have hnm4 : BoxAt W4 w.heap.size (.string n) 9 := hnm2.keep (by rw [hW4]; exact Below.heap_setCell _ _ _ _ (by simp))
    have hv4 : NewBlob w1 W4 (.slice A9 l.length c9) l := hv.keep fun k _ hk => by rw [hW4]; exact Below.heap_setCell _ _ _ _ (by simp; omega)
    have hD4 := HD.out.below hB4
    have hst := fun (ev : Option Int) (_ : r = stepE S ev) => step_any g bn bs c A vs S ev (.func (.func 33) #[] #[.pointer (some ⟨w.heap.size + 1, 0, none⟩), .pointer (some ⟨w.heap.size, 0, none⟩)]) (.wr n (.slice A9 l.length c9)) W4 hD4 (.inl ⟨n, .slice A9 l.length c9, _, _, rfl, rfl, hbx4, hnm4, hs⟩) HOK.out
    have HST := Lib.hid hst
    have HV4 := Lib.hid hv4.blob
    have HB4 := Lib.hid hB4
    have HD4 := Lib.hid hD4
    clear hbx4 hnm4 hv4 hD4 hst hB4 hv hb2 hbx2 hnm2
    go_wp2_with fail
    rw [← hW4]
    refine (HST.out _ HR.out).mono ?_
    rintro e w5 ⟨he, hT, hBd⟩
    rw [← HR.out] at he hT hBd
    subst he
    have HT := Lib.hid hT
    have HBD := Lib.hid hBd
    clear hT hBd
    go_wp2_with fail
    go_ret
    refine ⟨rfl, fun h => ⟨.slice A9 l.length c9, (HT.out h).from HB4.out, ?_⟩, fun h => HB4.out.trans ((HBD.out h).mono HB4.out.size)⟩
    obtain ⟨_, _, _, _, hf, _⟩ := HT.out h
    exact HV4.out.keep (Frm.quiet hf fun k hk => HD4.out.quiet hk)

/-! ### Rename -/
def renE (S : DState) (a b : ByteArray) : Option Int := if namedB b then hasE S a else some 2
set_option maxRecDepth 100000 in
set_option maxHeartbeats 2000000 in
theorem rename_ok (g bn bs c : Nat) (A : Option Addr) (vs : List Value) (S : DState) (a b : ByteArray) (w : World) (D : DiskAt w g bn bs A c vs S) (ha : a.size ≤ maxLen) (hb : b.size ≤ maxLen) (ok : DiskOk S) :
    Calls Tryz.prog 18 #[.pointer (some ⟨g, 0, none⟩), .string a, .string b] w fun e w' => e = .returned (errV (stepE S (renE S a b))) ∧ (stepE S (renE S a b) = none → Turned w g bn bs A (doneS S (.ren a b)) w') ∧ (stepE S (renE S a b) ≠ none → Below w.heap.size w w') := by
  have hmf : ∀ (fn : Fn) (first cap : Array Value) (w : World), (Instr.makeFunc fn first cap).run Tryz.prog w = .ok (.func fn first cap) w := fun _ _ _ _ => rfl
  have HD := Lib.hid D
  have HOK := Lib.hid ok
  have hN := fun w => named_ok b w hb
  have hE : renE S a b = if namedB b then hasE S a else some 2 := rfl
  generalize renE S a b = ev at hE ⊢
  generalize namedB b = bb at hN hE
  obtain ⟨r, hr⟩ : ∃ r, r = stepE S ev := ⟨_, rfl⟩
  rw [← hr]
  have HR := Lib.hid hr
  clear D ok hr
  obtain ⟨W0, hW0⟩ : ∃ W0 : World, W0 = (w.alloc (.cells #[.string a] 9)).alloc (.cells #[.string b] 9) := ⟨_, rfl⟩
  have hz0 : W0.heap.size = w.heap.size + 2 := by rw [hW0]; simp
  have hB0 : Below w.heap.size w W0 := by rw [hW0]; exact ((Below.refl _ _).alloc (Nat.le_refl _) _).alloc (by simp) _
  have hn0 : BoxAt W0 w.heap.size (.string a) 9 := by rw [hW0]; exact (Below.heap_alloc _ _ _ (by simp)).trans (heap_alloc_new w _)
  have hb0 : BoxAt W0 (w.heap.size + 1) (.string b) 9 := by
    rw [hW0]
    have := heap_alloc_new (w.alloc (.cells #[.string a] 9)) (.cells #[.string b] 9)
    simpa [BoxAt] using this
  have HB0 := Lib.hid hB0
  have HN0 := Lib.hid hn0
  have HW0 := Lib.hid hb0
  clear hB0 hn0 hb0
  have HH := Lib.hid (has_ok g bn bs c A vs S a W0 (HD.out.below HB0.out) ha)
  generalize hasE S a = ha0 at hE HH
  rcases bb with _ | _
  all_goals
    simp only [Bool.false_eq_true, ↓reduceIte] at hE
    subst hE
    go_enter Tryz.func18, Tryz.ntmps18
    go_wp2_with fail
    rw [← hW0]
    refine (HH.out).mono ?_
    rintro e w1 ⟨rfl, hb1⟩
    have hB1 := HB0.out.trans (hb1.mono (by omega))
    have hn1 := HN0.out.keep (hb1.block _ (by omega))
    have hb1' := HW0.out.keep (hb1.block _ (by omega))
    have cn1 := hn1.cell
    have cb1 := hb1'.cell
    have HN1 := Lib.hid hn1
    have HBX1 := Lib.hid hb1'
    have HB1 := Lib.hid hB1
    have hz1 : w.heap.size + 2 ≤ w1.heap.size := by have := hb1.size; omega
    clear hb1 hn1 hb1' hB1
    go_wp2_with fail
    refine (hN _).mono ?_
    rintro e w2 ⟨rfl, hb2⟩
    have hbx2 := HBX1.out.keep (hb2.block _ (by omega))
    have hnm2 := HN1.out.keep (hb2.block _ (by omega))
    have hB2 := HB1.out.trans (hb2.mono (by omega))
    have hD2 := HD.out.below hB2
    have hst := fun (ev : Option Int) (_ : r = stepE S ev) => step_any g bn bs c A vs S ev (.func (.func 37) #[] #[.pointer (some ⟨w.heap.size, 0, none⟩), .pointer (some ⟨w.heap.size + 1, 0, none⟩)]) (.ren a b) w2 hD2 (.inr (.inl ⟨a, b, _, _, rfl, rfl, hnm2, hbx2, ha, hb⟩)) HOK.out
    have HST := Lib.hid hst
    have HB2 := Lib.hid hB2
    clear hst hB2 hb2 hbx2 hnm2 hD2
    go_wp2_with fail
    refine (HST.out _ HR.out).mono ?_
    rintro e w5 ⟨he, hT, hBd⟩
    rw [← HR.out] at he hT hBd
    subst he
    have HT := Lib.hid hT
    have HBD := Lib.hid hBd
    clear hT hBd
    go_wp2_with fail
    go_ret
    exact ⟨rfl, fun h => (HT.out h).from HB2.out, fun h => HB2.out.trans ((HBD.out h).mono HB2.out.size)⟩

/-! ### Read -/
set_option maxRecDepth 100000 in
theorem read_no (g bn bs c : Nat) (A : Option Addr) (vs : List Value) (S : DState) (s : ByteArray) (k : Int) (w : World) (D : DiskAt w g bn bs A c vs S) (hs : s.size ≤ maxLen) (hk : hasE S s = some k) :
    Calls Tryz.prog 28 #[.pointer (some ⟨g, 0, none⟩), .string s] w fun e w' => e = .returned (.tuple #[zB, errV (some k)]) ∧ Below w.heap.size w w' := by
  have hH := has_ok g bn bs c A vs S s w D hs
  rw [hk] at hH
  unfold errV at hH ⊢
  clear D hk
  go_enter Tryz.func28, Tryz.ntmps28
  go_wp2_with fail
  refine hH.mono ?_
  rintro e w1 ⟨rfl, hb1⟩
  go_wp2_with fail
  refine bodyPost_ret (v := .tuple #[zB, .iface 45 (.int .i64 k)]) (by simp [results, Tryz.results28, go_sem, zB]) rfl ⟨rfl, hb1⟩
set_option maxRecDepth 100000 in
theorem read_yes (g bn bs c : Nat) (A : Option Addr) (vs : List Value) (S : DState) (s : ByteArray) (l : List UInt8) (w : World) (D : DiskAt w g bn bs A c vs S) (hs : s.size ≤ maxLen) (hk : hasE S s = none) (hv : BlobAt w (fgetD zB S.now s) l) (hn : l.length ≤ 140737488355328) :
    Calls Tryz.prog 28 #[.pointer (some ⟨g, 0, none⟩), .string s] w fun e w' => ∃ v, e = .returned (.tuple #[v, .nilIface]) ∧ BlobAt w' v l ∧ Below w.heap.size w w' := by
  have hH := has_ok g bn bs c A vs S s w D hs
  rw [hk] at hH
  unfold errV at hH
  have HD := Lib.hid D
  obtain ⟨A0, c0, e0, hsl⟩ := hv
  have HS := Lib.hid hsl
  have HL : ∀ w1, Below w.heap.size w w1 → w1.cell? ⟨g, 0, none⟩ = some (.map (some bn)) ∧ (Instr.lookup 40 (.map (some bn)) (.string s) false).run Tryz.prog w1 = .ok (.slice A0 l.length c0) w1 := fun w1 hb => by
    have h1 := HD.out.below hb
    exact ⟨h1.cells.1, (h1.now.get (P := Tryz.prog) Tryz.underlying9 files_t (z := zB) (by kernel_rfl) hs false).trans (by simp [e0])⟩
  clear D hk hsl
  go_enter Tryz.func28, Tryz.ntmps28
  go_wp2_with fail
  refine hH.mono ?_
  rintro e w1 ⟨rfl, hb1⟩
  obtain ⟨d0, hl⟩ := HL w1 hb1
  have HB1 := Lib.hid hb1
  clear hb1 HL
  go_wp2_with fail
  refine (bclone_ok A0 c0 l (Quiet w) w1 (HS.out.keep fun k hk => HB1.out.block k hk.lt) (fun k hk => Nat.lt_of_lt_of_le hk.lt HB1.out.size) hn).mono ?_
  rintro e w2 ⟨v, rfl, ⟨A9, c9, rfl, hvv⟩, hb2⟩
  have HV : Hid (BlobAt w2 (.slice A9 l.length c9) l) := ⟨A9, c9, rfl, hvv.more fun k hk => hk.1⟩
  have HB2 : Hid (Below w.heap.size w w2) := HB1.out.trans (hb2.mono HB1.out.size)
  clear hvv hb2
  go_wp2_with fail
  refine bodyPost_ret (v := .tuple #[.slice A9 l.length c9, .nilIface]) (by simp [results, Tryz.results28, go_sem]) rfl ⟨_, rfl, HV.out, HB2.out⟩
end Go.Proofs.YthanjafbgcljgaaGreatDoor
