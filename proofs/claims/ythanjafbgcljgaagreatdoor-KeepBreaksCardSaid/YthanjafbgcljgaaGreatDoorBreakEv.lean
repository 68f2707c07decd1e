/-
  For KeepBreaks: the text of a picture; what each call of an event makes of a disk. Conditions: fewer than 41 events.
-/
import Derived.Test.YthanjafbgcljgaaGreatDoorCleanAny
import Derived.Test.YthanjafbgcljgaaGreatDoorDiskFail
import Derived.Test.YthanjafbgcljgaaGreatDoorBigTxt
namespace Go.Proofs.YthanjafbgcljgaaGreatDoor
open Go.RowKit Go.Shelf
set_option linter.unusedVariables false

def txA : ByteArray := ⟨#[112, 105, 99, 116, 117, 114, 101, 32]⟩
def txB : ByteArray := ⟨#[32, 111, 102, 32, 115, 111, 109, 101, 32, 108, 101, 110, 103, 116, 104, 44, 32, 115, 111, 32, 116, 104, 97, 116, 32, 105, 116, 32, 109, 97, 121, 32, 98, 101, 32, 116, 111, 114, 110]⟩
def txt (id : Int) : ByteArray := txA ++ ⟨(Lib.itoa id).toArray⟩ ++ txB
def pic (id : Int) : List UInt8 := (txt id).data.toList
theorem pic_len {id : Int} (h : Good id) : (pic id).length ≤ 60 := by
  have := itoa_len h
  unfold pic txt txA txB
  simp [ByteArray.data_append]
  omega
theorem pic_seal {id : Int} (h : Good id) : (sealB (pic id)).length ≤ 60000 := by
  have := pic_len h
  rw [sealB_length]
  have := numB_len ((pic id).length : Int)
  omega
theorem bytesRow_sl (w : World) (s : ByteArray) (cap : Nat) (fr : Nat × Nat) (hc : s.size ≤ cap) (hm : cap ≤ maxLen) : SlA bytE (Quiet (w.alloc (.cells (bytesRow s cap) 5 fr))) (w.alloc (.cells (bytesRow s cap) 5 fr)) (some ⟨w.heap.size, 0, none⟩) cap s.data.toList := by
  have hb := heap_alloc_new w (.cells (bytesRow s cap) 5 fr)
  refine ⟨by simp; exact hc, hm, fun i x hx => ⟨w.heap.size, 0, [.int .u8 (x.toNat : Int)], rfl, ⟨_, _, _, hb, by decide, by decide⟩, fun j u hj => ?_, rfl⟩⟩
  cases j with
  | succ j => simp at hj
  | zero =>
    simp at hj; subst hj
    have h1 := cell_of_row _ w.heap.size (0 + (i * 1 + 0)) _ _ fr hb
    simp only [bytE]
    rw [h1]
    have hi : i < s.data.toList.length := (List.getElem?_eq_some_iff.1 hx).1
    rw [List.getElem?_eq_getElem hi] at hx
    have hx := Option.some.inj hx
    unfold bytesRow
    rw [Array.getElem?_append_left (by simp at hi ⊢; omega)]
    simp only [Nat.zero_add, Nat.mul_one, Nat.add_zero, Array.getElem?_map]
    rw [Array.getElem?_eq_getElem (by simpa using hi)]
    simp only [Option.map_some]
    rw [← hx]
    simp
theorem txt_of {id : Int} {d : ByteArray} (hd : d = ⟨(Lib.itoa id).toArray⟩) : txt id = ⟨#[112, 105, 99, 116, 117, 114, 101, 32]⟩ ++ d ++ ⟨#[32, 111, 102, 32, 115, 111, 109, 101, 32, 108, 101, 110, 103, 116, 104, 44, 32, 115, 111, 32, 116, 104, 97, 116, 32, 105, 116, 32, 109, 97, 121, 32, 98, 101, 32, 116, 111, 114, 110]⟩ := by rw [hd]; rfl
set_option maxRecDepth 100000 in
theorem ptext_ok (id : Int) (w : World) (hG : Good id) :
    Calls Tryz.prog 10 #[.int .i64 id] w fun e w' => ∃ A c, e = .returned (.slice A (pic id).length c) ∧ SlA bytE (Quiet w') w' A c (pic id) ∧ Below w.heap.size w w' := by
  have hD := digits_ok id w (by obtain ⟨h1, h2⟩ := hG; omega)
  obtain ⟨d, hd⟩ : ∃ d : ByteArray, d = ⟨(Lib.itoa id).toArray⟩ := ⟨_, rfl⟩
  have hdl : d.size ≤ 10 := by
    have := itoa_len hG
    rw [hd]
    show (Lib.itoa id).toArray.size ≤ 10
    simpa using this
  have HT := Lib.hid (txt_of hd)
  rw [← hd] at hD
  have HPL : Hid ((pic id).length = 8 + d.size + 39) := by
    show _ = _
    unfold pic
    rw [HT.out]
    simp [ByteArray.data_append]
    first | rfl | omega | (show d.size + 8 = 8 + d.size; omega)
  have HTS : Hid ((txt id).size = 8 + d.size + 39) := by
    show _ = _
    rw [HT.out]
    simp [ByteArray.size_append]
    first | rfl | omega
  clear hd
  go_enter Tryz.func10, Tryz.ntmps10
  go_wp2_with fail
  refine hD.mono ?_
  rintro e w1 ⟨rfl, hb1⟩
  have hcv := fun s : ByteArray => run_bytes_of_string w1 9 28 5 s Tryz.underlying9 Tryz.underlying28 Tryz.underlying5
  have hsz : (txt id).size ≤ maxLen := by rw [HTS.out]; unfold maxLen; omega
  have h1 := bytesRow_sl w1.drew (txt id) _ ((bytesRow (txt id) (grownCap w1 (txt id).size 0 5)).size, (bytesRow (txt id) (grownCap w1 (txt id).size 0 5)).size + 1) (grownCap_ge w1 (txt id).size 0 5) (grownCap_le_maxLen w1 (txt id).size 0 5 hsz)
  have h2 : Below w.heap.size w (w1.drew.alloc (.cells (bytesRow (txt id) (grownCap w1 (txt id).size 0 5)) 5 ((bytesRow (txt id) (grownCap w1 (txt id).size 0 5)).size, (bytesRow (txt id) (grownCap w1 (txt id).size 0 5)).size + 1))) := hb1.drew.alloc hb1.size _
  rw [HTS.out, HT.out] at h1 h2
  have HS := Lib.hid h1
  have HB := Lib.hid h2
  clear hD hb1 h1 h2 hsz
  go_wp2_with fail
  go_ret
  exact ⟨_, _, by rw [HPL.out]; rfl, by unfold pic; rw [HT.out]; exact HS.out, HB.out⟩
theorem fdel_fset (fs : SMap) (k : ByteArray) (v : Value) : fdel (fset fs k v) k = fdel fs k := by
  induction fs with
  | nil => simp [fset, fdel]
  | cons p r ih =>
    unfold fdel at ih ⊢
    simp only [fset]
    by_cases e : p.1 = k
    · rw [if_pos e]
      simp [e]
    · rw [if_neg e, List.filter_cons, ih, List.filter_cons]
/-! ### Events -/
/-- The disk between events. -/
def Br (w0 w : World) (g : Nat) (safe given : Int) (n : Nat) : Prop := ∃ S, DiskIn w0 w g S ∧ S.safe = S.now ∧ S.since = [] ∧ S.stop = -1 ∧ 0 ≤ S.steps ∧ S.steps ≤ 1000 * n ∧ S.now.length ≤ n + 1 ∧ FilesAt w S.now safe given pic
/-- The disk of an event, before something is done; calm: it is not to fail. -/
def BrA (w0 w : World) (g : Nat) (safe given : Int) (n : Nat) (calm : Bool) : Prop := ∃ S, DiskIn w0 w g S ∧ S.safe = S.now ∧ S.since = [] ∧ -1 ≤ S.stop ∧ S.stop ≤ 1000000 ∧ (calm = true → S.stop = -1) ∧ 0 ≤ S.steps ∧ S.steps ≤ 1000 * n ∧ S.now.length ≤ n + 1 ∧ FilesAt w S.now safe given pic
/-- The disk of an event, behind what was done. -/
def BrB (w0 w : World) (g : Nat) (safe given : Int) (n : Nat) (calm : Bool) : Prop := ∃ S, DiskIn w0 w g S ∧ DiskOk S ∧ (∀ k, FilesAt w (runOps S.safe (S.since.take k)) safe given pic ∧ (runOps S.safe (S.since.take k)).length ≤ n + 2) ∧ (calm = true → S.safe = S.now ∧ S.since = [] ∧ S.stop = -1 ∧ S.steps ≤ 1000 * (n + 1))
theorem Br.calm {w0 w : World} {g : Nat} {safe given : Int} {n : Nat} (h : Br w0 w g safe given n) : BrA w0 w g safe given n true := by
  obtain ⟨S, h1, h2, h3, h4, h5⟩ := h
  exact ⟨S, h1, h2, h3, by omega, by omega, fun _ => h4, h5⟩
theorem Br.below {w0 w w' : World} {g : Nat} {safe given : Int} {n : Nat} (h : Br w0 w g safe given n) (hb : Below w.heap.size w w') : Br w0 w' g safe given n := by
  obtain ⟨S, h1, h2, h3, h4, h5, h6, h7, h8⟩ := h
  exact ⟨S, h1.below hb, h2, h3, h4, h5, h6, h7, h8.below hb⟩
theorem BrA.below {w0 w w' : World} {g : Nat} {safe given : Int} {n : Nat} {calm : Bool} (h : BrA w0 w g safe given n calm) (hb : Below w.heap.size w w') : BrA w0 w' g safe given n calm := by
  obtain ⟨S, h1, h2, h3, h4, h5, h5', h5'', h6, h7, h8⟩ := h
  exact ⟨S, h1.below hb, h2, h3, h4, h5, h5', h5'', h6, h7, h8.below hb⟩
theorem BrB.rest {w0 w : World} {g : Nat} {safe given : Int} {n : Nat} (h : BrB w0 w g safe given n true) : Br w0 w g safe given (n + 1) := by
  obtain ⟨S, h1, h2, h3, h4⟩ := h
  obtain ⟨h5, h6, h7, h8⟩ := h4 rfl
  obtain ⟨h9, h10⟩ := h3 0
  rw [List.take_zero] at h9 h10
  have e : runOps S.safe [] = S.now := h5
  rw [e] at h9 h10
  exact ⟨S, h1, h5, h6, h7, h2.st0, h8, h10, h9⟩
set_option maxRecDepth 100000 in
theorem ev_steps (w0 : World) (g : Nat) (safe given : Int) (n : Nat) (w : World) (D : Br w0 w g safe given n) (hn : n ≤ 50) :
    Calls Tryz.prog 8 #[.pointer (some ⟨g, 0, none⟩)] w fun e w' => ∃ k : Int, 0 ≤ k ∧ k ≤ 50000 ∧ e = .returned (.int .i64 k) ∧ w' = w := by
  obtain ⟨S, h1, h2, h3, h4, h5, h6, h7, h8⟩ := D
  refine (steps_in w0 g S w h1).mono ?_
  rintro e w' ⟨rfl, rfl⟩
  exact ⟨S.steps, h5, by omega, rfl, rfl⟩
theorem ev_fail (w0 : World) (g : Nat) (safe given : Int) (n : Nat) (x : Int) (w : World) (D : Br w0 w g safe given n) (hx : x ≤ 1000000) :
    Calls Tryz.prog 7 #[.pointer (some ⟨g, 0, none⟩), .int .i64 x] w fun e w' => e = .returned (.tuple #[]) ∧ QKeep w w' ∧ BrA w0 w' g safe given n false := by
  obtain ⟨S, h1, h2, h3, h4, h5, h6, h7, h8⟩ := D
  refine (fail_in w0 g S x w h1).mono ?_
  rintro e w' ⟨rfl, hq, hd⟩
  exact ⟨rfl, hq, failS S x, hd, h2, h3, by simp only [failS]; omega, by simp only [failS]; omega, nofun, h5, h6, h7, h8.qk hq⟩
theorem ev_crash (w0 : World) (g : Nat) (safe given : Int) (n : Nat) (calm : Bool) (x : Int) (w : World) (D : BrB w0 w g safe given n calm) (hI : I64 x) :
    Calls Tryz.prog 11 #[.pointer (some ⟨g, 0, none⟩), .int .i64 x] w fun e w' => e = .returned (.tuple #[]) ∧ QKeep w w' ∧ Br w0 w' g safe given (n + 1) := by
  obtain ⟨S, h1, h2, h3, h4⟩ := D
  refine (crash_in w0 g S x w h1 h2 hI).mono ?_
  rintro e w' ⟨rfl, hq, hd⟩
  obtain ⟨h5, h6⟩ := h3 (keepN x S.since.length)
  exact ⟨rfl, hq, crashS S x, hd, rfl, rfl, rfl, by simp only [crashS]; omega, by simp only [crashS]; omega, h6, h5.qk hq⟩
theorem ev_clean (w0 : World) (g : Nat) (safe given : Int) (n : Nat) (calm : Bool) (many : Int) (w : World) (D : BrA w0 w g safe given n calm) (hT : PowTab w0) (hsy : SynVar w0) (hn : n ≤ 50) (hm : 1 ≤ many) (hm2 : many ≤ 3) :
    Calls Tryz.prog 9 #[.pointer (some ⟨g, 0, none⟩), .int .i64 many] w fun e w' => (∃ v, e = .returned v) ∧ QKeep w w' ∧ BrB w0 w' g safe given n calm := by
  obtain ⟨S, h1, h2, h3, h4, h5, h5', h5'', h6, h7, h8⟩ := D
  have hf : DiskFine S := ⟨h5'', by omega, h4, by omega, by rw [h3]; simp⟩
  refine (clean_any w0 g S many w h1 hT h8.all hsy hf (by omega) hm (WalkArith.wf_i64 (by omega))).mono ?_
  rintro e w' ⟨hv, hq, zs, S', T, hd, hp, hs, hT', hS', hTl, hc⟩
  have hcl : ∀ T', (∀ x ∈ T', x ∈ T) → FilesAt w' (runOps S.now (rems T')) safe given pic ∧ (runOps S.now (rems T')).length ≤ n + 2 := fun T' ht =>
    ⟨(h8.qk hq).cleaned hp hs (F := zs.length - many.toNat) (by omega) (fun x hx => hT' x (ht x hx)), by have := rems_len T' S.now; omega⟩
  refine ⟨hv, hq, S', hd, ?_, ?_, fun hcalm => ?_⟩
  · rcases hS' with rfl | rfl
    · exact goneS_ok hf T (by omega)
    · have := goneS_ok hf T (by omega)
      exact ⟨by have := this.st0; simp only [syncS]; omega, by simp only [syncS, goneS]; omega, this.sp0, this.sp1, by simp [syncS]⟩
  · intro k
    rcases hS' with rfl | rfl
    · simp only [goneS, h3, List.nil_append, h2]
      rw [rems_take]
      exact hcl _ fun x hx => List.mem_of_mem_take hx
    · simp only [syncS, List.take_nil]
      exact hcl T fun x hx => hx
  · have e := hc (h5' hcalm)
    subst e
    refine ⟨rfl, rfl, h5' hcalm, ?_⟩
    simp only [syncS, goneS]
    omega
theorem ev_save (w0 : World) (g : Nat) (safe given : Int) (n : Nat) (calm : Bool) (A : Option Addr) (c : Nat) (w : World) (D : BrA w0 w g safe given n calm) (hT : PowTab w0) (hn : n ≤ 50) (hk : Good (given + 1)) (hx : SlA bytE (Quiet w) w A c (pic (given + 1))) :
    Calls Tryz.prog 5 #[.pointer (some ⟨g, 0, none⟩), .int .i64 (given + 1), .slice A (pic (given + 1)).length c] w fun e w' => QKeep w w' ∧
      ((e = .returned .nilIface ∧ BrB w0 w' g (given + 1) (given + 1) n calm) ∨ (e = .returned (.iface 45 (.int .i64 7)) ∧ BrB w0 w' g safe (given + 1) n calm)) := by
  obtain ⟨S, h1, h2, h3, h4, h5, h5', h5'', h6, h7, h8⟩ := D
  have hf : DiskFine S := ⟨h5'', by omega, h4, by omega, by rw [h3]; simp⟩
  have hno : fhas S.now (picN (given + 1)) = false := by
    cases hh : fhas S.now (picN (given + 1)) with
    | false => rfl
    | true =>
      have := h8.ids_le ((has_ids h8.all hk).1 hh)
      omega
  refine (save_ok w0 g S (given + 1) A c (pic (given + 1)) w h1 hk hT hno (hx.more fun k hk => hk.lt) (pic_seal hk) hf).mono ?_
  rintro e w' ⟨v, j, rfl, hs⟩
  have hq := hs.keep
  have hle := hs.le
  have h8' := h8.qk hq
  have F0 : FilesAt w' S.now safe (given + 1) pic := h8'.more (by omega)
  have F1 : 0 < j → FilesAt w' (fset S.now halfN v) safe (given + 1) pic := fun hj => (h8'.half (hs.blob hj) (pic_seal hk)).more (by omega)
  have F2 : ∀ s, s = safe ∨ s = given + 1 → 0 < j → FilesAt w' ((DOp.ren halfN (picN (given + 1))).run (fset S.now halfN v)) s (given + 1) pic := fun s hs' hj => h8'.saved hk (by omega) (hs.blob hj) hs'
  have l1 := fset_len S.now halfN v
  have l2 : ((DOp.ren halfN (picN (given + 1))).run (fset S.now halfN v)).length ≤ n + 2 := by
    have h3 := fset_len (fdel (fset S.now halfN v) halfN) (picN (given + 1)) (fgetD zB (fset S.now halfN v) halfN)
    have h4 : (fdel (fset S.now halfN v) halfN).length ≤ S.now.length := by
      rw [fdel_fset]; exact List.length_filter_le _ _
    show (fset (fdel (fset S.now halfN v) halfN) _ _).length ≤ _
    omega
  have hok := saveS_ok hf (given + 1) v j hle
  refine ⟨hq, ?_⟩
  by_cases hj4 : j = 4
  · subst hj4
    refine .inl ⟨rfl, _, hs.disk, hok, fun k => ?_, fun hc => ⟨rfl, rfl, h5' hc, ?_⟩⟩
    · simp only [saveS, syncS, doneS, List.take_nil]
      exact ⟨F2 _ (.inr rfl) (by omega), l2⟩
    · simp only [saveS, syncS, doneS]; omega
  · refine .inr ⟨by simp only [saveE, if_neg hj4]; rfl, _, hs.disk, hok, ?_, fun hc => absurd (saved_all hs (h5' hc)) hj4⟩
    intro k
    match j, hle, hj4 with
    | 0, _, _ =>
      simp only [saveS, h3, List.take_nil, h2]
      exact ⟨F0, by show S.now.length ≤ _; omega⟩
    | 1, _, _ =>
      simp only [saveS, doneS, h3, List.nil_append, h2]
      cases k with
      | zero => exact ⟨F0, by show S.now.length ≤ _; omega⟩
      | succ k =>
        rw [show List.take (k + 1) [DOp.wr halfN v] = [DOp.wr halfN v] by simp]
        exact ⟨F1 (by omega), by show (fset S.now halfN v).length ≤ _; omega⟩
    | 2, _, _ =>
      simp only [saveS, syncS, doneS, List.take_nil]
      exact ⟨F1 (by omega), by show (fset S.now halfN v).length ≤ _; omega⟩
    | 3, _, _ =>
      simp only [saveS, syncS, doneS, List.nil_append]
      cases k with
      | zero => exact ⟨F1 (by omega), by show (fset S.now halfN v).length ≤ _; omega⟩
      | succ k =>
        rw [show List.take (k + 1) [DOp.ren halfN (picN (given + 1))] = [DOp.ren halfN (picN (given + 1))] by simp]
        exact ⟨F2 _ (.inl rfl) (by omega), l2⟩
    | 4, _, h => exact absurd rfl h
end Go.Proofs.YthanjafbgcljgaaGreatDoor
