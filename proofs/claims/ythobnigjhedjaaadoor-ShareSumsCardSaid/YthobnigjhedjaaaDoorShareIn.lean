/-
  The library's words at rows of names: ContainsFunc with share.Take's test, Clone. Conditions: where the names lie.
-/
import Derived.Test.YthobnigjhedjaaaDoorNamed
import Derived.Test.YthobnigjhedjaaaDoorHeap
import Derived.Test.YthobnigjhedjaaaDoorShareRow
import Derived.Test.YthobnigjhedjaaaDoorForest
import Derived.Lib.AppendZeros
import Derived.Laws.AppendOwn
namespace Go.Proofs.YthobnigjhedjaaaDoor
open Go.RowKit Go.Shelf
set_option linter.unusedVariables false

theorem unnamed_ok (s : ByteArray) (w : World) (hs : s.size ≤ maxLen) : Calls Tryd.prog 20 #[.string s] w fun e w' => e = .returned (.bool (!namedB s)) ∧ Below w.heap.size w w' := by
  have hN := named_ok s w hs
  generalize namedB s = b at hN ⊢
  go_enter Tryd.func20, Tryd.ntmps20
  go_wp2_with (go_at_call 21; refine hN.mono ?_; rintro e w1 ⟨rfl, hb1⟩)
  go_ret
  exact ⟨rfl, hb1⟩
def allNamed (l : List ByteArray) : Bool := l.all namedB
theorem allNamed_take (l : List ByteArray) : (∀ i (hi : i < l.length), namedB l[i] = true) → allNamed l = true := fun h => by
  unfold allNamed
  rw [List.all_eq_true]
  intro x hx
  obtain ⟨i, hi, rfl⟩ := List.mem_iff_getElem.1 hx
  exact h i hi
theorem allNamed_no {l : List ByteArray} {k : Nat} (hk : k < l.length) (h : namedB l[k] = false) : allNamed l = false := by
  unfold allNamed
  rw [List.all_eq_false]
  exact ⟨l[k], List.getElem_mem hk, by simp [h]⟩
set_option maxRecDepth 100000 in
theorem sindex_ok (F : Nat → Prop) (A : Option Addr) (c : Nat) (l : List ByteArray) (w : World) (h : SlA strE F w A c l) (hF : ∀ k, F k → k < w.heap.size) :
    Calls Tryd.prog 39 #[.slice A l.length c, .func (.func 20) #[] #[]] w fun e w' =>
      ((allNamed l = true ∧ e = .returned (.int .i64 (-1))) ∨ (allNamed l = false ∧ ∃ k : Nat, k < l.length ∧ e = .returned (.int .i64 k))) ∧ Below w.heap.size w w' := by
  have hn := h.le
  have H := Lib.hid h
  have HF := Lib.hid hF
  clear h hF
  go_enter Tryd.func39, Tryd.ntmps39
  go_wp2
  go_loopw [8] (fun i wr => ∃ k : Nat, k ≤ l.length ∧ i = .int .i64 k ∧ Hid (∀ i (hi : i < k), ∀ hb : i < l.length, namedB l[i] = true) ∧ Hid (Below w.heap.size w wr)) (fun i _ => l.length - (intOf i).toNat)
  case atStart => exact ⟨0, Nat.zero_le _, rfl, fun i hi => absurd hi (by omega), Below.refl _ _⟩
  case round =>
    obtain ⟨k, hk, rfl, HN, HB⟩ := hrel
    by_cases hlt : k < l.length
    · obtain ⟨b0, o0, rfl, hb0, x0, hz⟩ := (H.out.keep (w' := wr) (fun k hk => HB.out.block k (HF.out k hk))).str_ hlt
      have hbl : b0 < wr.heap.size := Nat.lt_of_lt_of_le (HF.out b0 hb0) HB.out.size
      have hU := unnamed_ok l[k] wr hz
      cases hkey : namedB l[k] with
      | false =>
        have HK := Lib.hid (allNamed_no hlt hkey)
        rw [hkey] at hU
        clear hkey
        generalize l[k] = y at hU x0
        go_wp2_with fail
        refine hU.mono ?_
        rintro e w2 ⟨rfl, hb2⟩
        go_wp2_with fail
        go_ret
        exact ⟨.inr ⟨HK.out, k, hlt, rfl⟩, HB.out.trans (hb2.mono HB.out.size)⟩
      | true =>
        have HK := Lib.hid hkey
        rw [hkey] at hU
        clear hkey
        obtain ⟨y, hy⟩ : ∃ y, y = l[k] := ⟨_, rfl⟩
        rw [← hy] at hU x0 hz
        clear hy
        go_wp2_with fail
        refine hU.mono ?_
        rintro e w2 ⟨rfl, hb2⟩
        go_wp2_with fail
        go_roundw
        case rel =>
          refine ⟨k + 1, by omega, by go_num, fun i hi hb => ?_, HB.out.trans (hb2.mono HB.out.size)⟩
          by_cases e : i = k
          · subst e; exact HK.out
          · exact HN.out i (by omega) hb
        case measure => simp [intOf]; omega
    · go_wp2_with fail
      go_ret
      exact ⟨.inl ⟨allNamed_take l fun i hi => HN.out i (by omega) hi, rfl⟩, HB.out⟩
theorem scontains_ok (F : Nat → Prop) (A : Option Addr) (c : Nat) (l : List ByteArray) (w : World) (h : SlA strE F w A c l) (hF : ∀ k, F k → k < w.heap.size) :
    Calls Tryd.prog 19 #[.slice A l.length c, .func (.func 20) #[] #[]] w fun e w' => e = .returned (.bool (!allNamed l)) ∧ Below w.heap.size w w' := by
  have hI := sindex_ok F A c l w h hF
  clear h hF
  go_enter Tryd.func19, Tryd.ntmps19
  go_wp2_with fail
  refine hI.mono ?_
  rintro e w1 ⟨h | ⟨h, k, hk, h2⟩, hb⟩
  · obtain ⟨h, rfl⟩ := h
    have HH := Lib.hid h
    clear h
    go_wp2_with fail
    go_ret
    exact ⟨by rw [HH.out]; rfl, hb⟩
  · subst h2
    have HH := Lib.hid h
    clear h
    go_wp2_with fail
    go_ret
    exact ⟨by rw [HH.out]; simp, hb⟩

def strC (s : ByteArray) : List Value := [.string s]
theorem info_strS : (Tryd.prog.info? 9).map (fun i => (i.zero, i.size, i.bytes)) = some (some (.string ByteArray.empty), 1, 16) := by kernel_rfl
set_option maxRecDepth 100000 in
theorem sclone_ok (F : Nat → Prop) (A : Option Addr) (c : Nat) (l : List ByteArray) (w : World) (h : SlA strE F w A c l) (hF : ∀ k, F k → k < w.heap.size) (hn : l.length ≤ 400) :
    Calls Tryd.prog 22 #[.slice A l.length c] w fun e w' => (∃ v, e = .returned v ∧ w'.ownsRow w.heap.size 9 1 v l.length (l.flatMap strC)) ∧ Below w.heap.size w w' := by
  have h1 := fun wx : World => Lib.run_eql_slice_nil (P := Tryd.prog) wx 28 9 A l.length c 0 0 Tryd.underlying28
  have H := Lib.hid h
  have HF := Lib.hid hF
  clear h hF
  cases A with
  | none =>
    have h0 : l = [] := by
      cases l with
      | nil => rfl
      | cons x l => obtain ⟨b, off, cs, e, _⟩ := H.out.2.2 0 x rfl; cases e
    subst h0
    clear H h1
    have h2 := fun wx : World => (Lib.run_eql_slice_nil (P := Tryd.prog) wx 28 9 none 0 c 0 0 Tryd.underlying28).trans (show (Result.ok (Value.bool (none : Option Addr).isNone) wx : Result Value) = .ok (.bool true) wx from rfl)
    go_enter Tryd.func22, Tryd.ntmps22
    go_wp2_with fail
    go_ret
    exact ⟨⟨_, rfl, by simp, .inl ⟨rfl, rfl⟩⟩, Below.refl _ _⟩
  | some ad =>
    have hsrc := Src.of_sl (P := Tryd.prog) (tx := 28) (H.out.keep (w' := w.alloc (.cells #[] 9)) (fun k hk => Below.heap_alloc _ _ _ (HF.out k hk))) Tryd.underlying28 strC (fun cs x hx => hx.1) (fun _ => rfl) (fun x u hu => by simp [strC] at hu; subst hu; rfl)
    have HS := Lib.hid hsrc
    clear hsrc
    have h2 := fun wx : World => (h1 wx).trans (show (Result.ok (Value.bool (some ad : Option Addr).isNone) wx : Result Value) = .ok (.bool false) wx from rfl)
    clear h1
    go_enter Tryd.func22, Tryd.ntmps22
    go_wp2_with (at_builtin; refine wpList_append_src rfl _ _ 28 28 rfl w.heap.size 9 _ 1 16 Tryd.underlying28 info_strS rfl (by decide) (.slice (some ⟨w.heap.size, 0, none⟩) 0 0) 0 [] rfl ?_ _ rfl l.length (l.flatMap strC) HS.out ?_ ?_ ?_ (B := w.heap.size) (W := w) ?_ (Nat.le_refl _) ?_)
    · exact ⟨by simp, .inr ⟨_, 0, #[], rfl, Nat.le_refl _, heap_alloc_new w _, Nat.le_refl _, Nat.zero_le _, by simp, by simp⟩⟩
    · unfold maxLen; omega
    · omega
    · simp
    · exact (Below.refl _ _).alloc (Nat.le_refl _) _
    · intro v' w1 hown1 hg1 hb1 hat1
      have HO := Lib.hid hown1
      have HB := Lib.hid hb1
      clear hown1 hg1 hat1 hb1
      go_wp2_with fail
      go_ret
      have ho := HO.out
      try simp only [List.nil_append, Nat.zero_add] at ho
      exact ⟨⟨v', rfl, ho⟩, HB.out⟩
end Go.Proofs.YthobnigjhedjaaaDoor
