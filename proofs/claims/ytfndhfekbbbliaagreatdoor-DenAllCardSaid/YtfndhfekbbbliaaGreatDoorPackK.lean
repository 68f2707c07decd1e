/-
  Several texts of this claim in one, in build order; each begins with its own remark, which says what it proves and under which conditions.
-/
import Derived.Test.YtfndhfekbbbliaaGreatDoorPackJ
import Derived.Test.YtfndhfekbbbliaaGreatDoorPackB
import Derived.Deep.LoopGhost

/-
  The reference's reader: less. Conditions: the text takes at most 120 bytes, the depth is at most 20.
-/
namespace Go.Proofs.YtfndhfekbbbliaaGreatDoor
open Go.RowKit Go.ChangeShapes Go.WideShapes
set_option linter.unusedVariables false
theorem pless_minus (W : Reads) (d : Nat) (l : List UInt8) : lessRd W d (45 :: l) = deepRd d (l.length + 1) ((lessRd W (d + 1) l).bind fun a l1 => .ok (.neg a) l1) := by simp [lessRd]
set_option maxRecDepth 100000 in
set_option maxHeartbeats 4000000 in
theorem pless_full (R : Nat) (s : ByteArray) (l : List UInt8) (w : World) (h : PL w R s (45 :: l) 20) (hs : s.size ≤ 120) :
  Calls Tryz.prog 138 #[.pointer (some ⟨R, 0, none⟩)] w (PReads R s 20 w (.bad (l.length + 1) 4)) := by
 have HH := Lib.hid h
 obtain ⟨wr, hp⟩ := h.2.2
 obtain ⟨c0, c1, c2, c3, c4, cf⟩ := hp.cells
 have hlt := h.lt
 have HLT := Lib.hid hlt
 clear hp
 go_enter Tryz.func138, Tryz.ntmps138
 go_wp2_with fail
 have HH1 : Hid (PL (w.alloc (.cells #[.int .i64 0, .int .i64 0, .slice none 0 0] 24)) R s (45 :: l) 20) := HH.out.keep (heap_alloc_old _ _ hlt)
 have HF1 : Hid (Frm (· = R) w (w.alloc (.cells #[.int .i64 0, .int .i64 0, .slice none 0 0] 24))) := (Frm.refl _ _).alloc _
 have HV1 : Hid (RTVar (w.alloc (.cells #[.int .i64 0, .int .i64 0, .slice none 0 0] 24)) w.heap.size (.int .i64 0) (.int .i64 0) (.slice none 0 0)) := RTVar.new _ _ _ _
 clear c0 c1 c2 c3 c4 cf h hlt
 refine (pisL_yes R s ⟨#[45]⟩ (45 :: l) l 20 _ HH1.out hs (by show 1 ≤ 10; omega) rfl).mono ?_
 rintro e w2 ⟨rfl, h2, f2⟩
 have HH2 := Lib.hid h2
 have HF2 := Lib.hid (frmR HF1.out f2)
 have HV2 := Lib.hid (HV1.out.frm f2 (by have := HLT.out; omega))
 clear h2 f2 HH1 HF1 HV1
 go_wp2_with fail
 refine (pdownL_full R s l _ w2 HH2.out).mono ?_
 rintro e w3 ⟨rfl, hp, hf⟩
 have HP := Lib.hid hp
 have HF3 := Lib.hid (frmR HF2.out hf)
 have hV := HV2.out.frm hf (by have := HLT.out; omega)
 have HV3 := Lib.hid hV
 obtain ⟨v0, v1, v2, vf⟩ := hV.cells
 clear hp hf hV HV2 HH2 HF2
 go_wp2_with fail
 obtain ⟨q0, q1, q2, qf⟩ := (RTVar.put HV3.out (.int .i64 0) (.int .i64 0) (.slice none 0 0)).cells
 simp only [rset] at q0 q1 q2
 refine ⟨rfl, .agg #[.int .i64 0, .int .i64 0, .slice none 0 0], ?_, 0, 0, none, 0, rfl, HP.out.keep (rset_far _ (by have := HLT.out; omega) _ _ _), HF3.out.rset (.inr (Nat.le_refl _)) _ _ _⟩
 simp only [results, Tryz.results138]
 simp [go_sem, q0, q1, q2]
theorem PL.up {w : World} {R : Nat} {s : ByteArray} {l : List UInt8} {d : Nat} (h : PL w R s l (d + 1)) : PL (w.setCell ⟨R, 2, none⟩ (.int .i64 d)) R s l d := ⟨h.1, h.2.1, h.2.2.elim fun wr h => ⟨wr, h.deeper d⟩⟩
set_option maxRecDepth 100000 in
set_option maxHeartbeats 4000000 in
theorem pless_deep {W : Reads} {m : Nat} (R d : Nat) (s : ByteArray) (l : List UInt8) (w : World) (h : PL w R s (45 :: l) d) (hs : s.size ≤ 120) (hd : d < 20)
  (hrec : ∀ w', PL w' R s l (d + 1) → Calls Tryz.prog 138 #[.pointer (some ⟨R, 0, none⟩)] w' (PReads R s (d + 1) w' (lessRd W (d + 1) l))) :
  Calls Tryz.prog 138 #[.pointer (some ⟨R, 0, none⟩)] w (PReads R s d w ((lessRd W (d + 1) l).bind fun a l1 => .ok (.neg a) l1)) := by
 obtain ⟨r0, hr0⟩ : ∃ r0, r0 = lessRd W (d + 1) l := ⟨_, rfl⟩
 rw [← hr0]
 rw [← hr0] at hrec
 clear hr0
 have HREC := Lib.hid hrec
 have HH := Lib.hid h
 obtain ⟨wr, hp⟩ := h.2.2
 obtain ⟨c0, c1, c2, c3, c4, cf⟩ := hp.cells
 have hlt := h.lt
 have HLT := Lib.hid hlt
 have HD := Lib.hid hd
 clear hp hrec hd
 go_enter Tryz.func138, Tryz.ntmps138
 go_wp2_with fail
 have HH1 : Hid (PL (w.alloc (.cells #[.int .i64 0, .int .i64 0, .slice none 0 0] 24)) R s (45 :: l) d) := HH.out.keep (heap_alloc_old _ _ hlt)
 have HF1 : Hid (Frm (· = R) w (w.alloc (.cells #[.int .i64 0, .int .i64 0, .slice none 0 0] 24))) := (Frm.refl _ _).alloc _
 have HV1 : Hid (RTVar (w.alloc (.cells #[.int .i64 0, .int .i64 0, .slice none 0 0] 24)) w.heap.size (.int .i64 0) (.int .i64 0) (.slice none 0 0)) := RTVar.new _ _ _ _
 clear c0 c1 c2 c3 c4 cf h hlt
 refine (pisL_yes R s ⟨#[45]⟩ (45 :: l) l d _ HH1.out hs (by show 1 ≤ 10; omega) rfl).mono ?_
 rintro e w2 ⟨rfl, h2, f2⟩
 have HH2 := Lib.hid h2
 have HF2 := Lib.hid (frmR HF1.out f2)
 have HV2 := Lib.hid (HV1.out.frm f2 (by have := HLT.out; omega))
 clear h2 f2 HH1 HF1 HV1
 go_wp2_with fail
 refine (pdownL R d s l _ w2 HH2.out HD.out).mono ?_
 rintro e w3 ⟨rfl, hp, hf⟩
 have HP := Lib.hid hp
 have HF3 := Lib.hid (frmR HF2.out hf)
 have HV3 := Lib.hid (HV2.out.frm hf (by have := HLT.out; omega))
 clear hp hf HV2 HH2 HF2
 go_wp2_with fail
 refine (HREC.out w3 HP.out).mono ?_
 intro e w4 hr
 clear HREC HP
 cases r0 with
 | bad k j =>
  obtain ⟨o, n, A, c, rfl, ⟨p', d', g1, g2, g3, g4, g5⟩, hf⟩ := hr
  obtain ⟨D, hD⟩ : ∃ D : Nat, d' = D + 1 := ⟨d' - 1, by omega⟩
  subst hD
  have hm : ((D + 1 : Nat) : Int) - 1 = (D : Int) := by omega
  obtain ⟨E, hE⟩ : ∃ E : Nat, E = D + 1 := ⟨_, rfl⟩
  rw [← hE] at g5 hm
  have HE := Lib.hid hE
  obtain ⟨c0, c1, c2, c3, c4, cf⟩ := g5.cells
  have hRl := g5.lt
  have HF4 := Lib.hid (frmR HF3.out hf)
  have hV := HV3.out.frm hf (by have := HLT.out; omega)
  obtain ⟨v0, v1, v2, vf⟩ := hV.cells
  have HV4 := Lib.hid hV
  have HG := Lib.hid (And.intro g1 (And.intro g2 (And.intro g3 (And.intro g4 g5))))
  have hwD : wrap64 (D : Int) = (D : Int) := by unfold wrap64; omega
  have hk4 : w.heap.size < w4.heap.size := block_lt hV
  have hkR : w.heap.size ≠ R := by have := HLT.out; omega
  have hA : ∀ v ob1 ob2, RTVar (((w4.setCell ⟨R, 2, none⟩ v).alloc ob1).alloc ob2) w.heap.size (.int .i64 0) (.int .i64 0) (.slice none 0 0) := fun v ob1 ob2 =>
   ((heap_alloc_old _ _ (by simp; omega)).trans ((heap_alloc_old _ _ (by simpa using hk4)).trans (Below.heap_setCell _ _ _ _ (by simpa using hkR)))).trans hV
  have a0 := fun v ob1 ob2 => (hA v ob1 ob2).cells.1
  have a1 := fun v ob1 ob2 => (hA v ob1 ob2).cells.2.1
  have a2 := fun v ob1 ob2 => (hA v ob1 ob2).cells.2.2.1
  have a3 := fun v ob1 ob2 i => (hA v ob1 ob2).cells.2.2.2 i
  have HA := Lib.hid hA
  have HK := Lib.hid (And.intro hk4 (And.intro hkR hRl))
  clear g1 g2 g3 g4 g5 hf hV HV3 HF3 hE hA hk4 hkR
  go_wp2_with fail
  obtain ⟨g1, g2, g3, g4, g5⟩ := HG.out
  obtain ⟨hk4, hkR, hRl⟩ := HK.out
  obtain ⟨q0, q1, q2, qf⟩ := (RTVar.put (HA.out (.int .i64 D) (.cells #[.int .i64 o, .int .i64 n, .slice A c c] 24) (.cells #[.int .i64 o, .int .i64 n, .slice A c c] 24)) (.int .i64 126) (.int .i64 0) (.slice (some ⟨w4.heap.size + 1, 0, none⟩) 1 1)).cells
  simp only [rset] at q0 q1 q2
  refine ⟨rfl, .agg #[.int .i64 126, .int .i64 0, .slice (some ⟨w4.heap.size + 1, 0, none⟩) 1 1], ?_, 126, 0, some ⟨w4.heap.size + 1, 0, none⟩, 1, rfl, ⟨p', D, g1, by have := HE.out; omega, by have := HE.out; omega, g4, (g5.deeper D).keep ((rset_far _ (Ne.symm hkR) _ _ _).trans ((heap_alloc_old _ _ (by simp; omega)).trans (heap_alloc_old _ _ (by simpa using hRl))))⟩, (((HF4.out.setCell (p := ⟨R, 2, none⟩) (.inl rfl) _).alloc _).alloc _).rset (.inr (Nat.le_refl _)) _ _ _⟩
  simp only [results, Tryz.results138]
  simp [go_sem, q0, q1, q2]
 | ok a l1 =>
  obtain ⟨o, n, A, c, rfl, ht, hl, hf⟩ := hr
  obtain ⟨E, hE⟩ : ∃ E : Nat, E = d + 1 := ⟨_, rfl⟩
  have hm : (E : Int) - 1 = (d : Int) := by omega
  have HU := Lib.hid hl.up
  rw [← hE] at hl
  obtain ⟨wr4, hp4⟩ := hl.2.2
  obtain ⟨c0, c1, c2, c3, c4, cf⟩ := hp4.cells
  have hRl := hp4.lt
  have hk3 : w.heap.size < w3.heap.size := block_lt HV3.out
  have HF4 := Lib.hid (frmR HF3.out hf)
  have hV := HV3.out.frm hf (by have := HLT.out; omega)
  obtain ⟨v0, v1, v2, vf⟩ := hV.cells
  have hwD : wrap64 (d : Int) = (d : Int) := by have := HD.out; unfold wrap64; omega
  have hk4 : w.heap.size < w4.heap.size := block_lt hV
  have hkR : w.heap.size ≠ R := by have := HLT.out; omega
  have hA : ∀ v ob1 ob2, RTVar (((w4.setCell ⟨R, 2, none⟩ v).alloc ob1).alloc ob2) w.heap.size (.int .i64 0) (.int .i64 0) (.slice none 0 0) := fun v ob1 ob2 =>
   ((heap_alloc_old _ _ (by simp; omega)).trans ((heap_alloc_old _ _ (by simpa using hk4)).trans (Below.heap_setCell _ _ _ _ (by simpa using hkR)))).trans hV
  have a0 := fun v ob1 ob2 => (hA v ob1 ob2).cells.1
  have a1 := fun v ob1 ob2 => (hA v ob1 ob2).cells.2.1
  have a2 := fun v ob1 ob2 => (hA v ob1 ob2).cells.2.2.1
  have a3 := fun v ob1 ob2 i => (hA v ob1 ob2).cells.2.2.2 i
  have HA := Lib.hid hA
  have HT := Lib.hid ht
  have HK := Lib.hid (And.intro hk4 (And.intro hkR (And.intro hRl hk3)))
  clear ht hl hp4 hf hV HV3 HF3 hE hA hk4 hkR hk3
  go_wp2_with fail
  obtain ⟨hk4, hkR, hRl, hk3⟩ := HK.out
  obtain ⟨X, hX⟩ : ∃ X, X = Obj.cells #[.int .i64 o, .int .i64 n, .slice A c c] 24 (0, 0) := ⟨_, rfl⟩
  obtain ⟨q0, q1, q2, qf⟩ := (RTVar.put (HA.out (.int .i64 d) (.cells #[.int .i64 o, .int .i64 n, .slice A c c] 24) (.cells #[.int .i64 o, .int .i64 n, .slice A c c] 24)) (.int .i64 126) (.int .i64 0) (.slice (some ⟨w4.heap.size + 1, 0, none⟩) 1 1)).cells
  obtain ⟨W, hW⟩ : ∃ W, W = rset (((w4.setCell ⟨R, 2, none⟩ (.int .i64 d)).alloc (.cells #[.int .i64 o, .int .i64 n, .slice A c c] 24)).alloc (.cells #[.int .i64 o, .int .i64 n, .slice A c c] 24)) w.heap.size (.int .i64 126) (.int .i64 0) (.slice (some ⟨w4.heap.size + 1, 0, none⟩) 1 1) := ⟨_, rfl⟩
  have hsz : W.heap.size = w4.heap.size + 2 := by rw [hW, rset_size]; simp
  have hold : ∀ j, j < w4.heap.size → j ≠ R → j ≠ w.heap.size → W.heap[j]? = w4.heap[j]? := fun j h1 h2 h3 => by
   rw [hW]
   exact (rset_far _ h3 _ _ _).trans ((heap_alloc_old _ _ (by simp; omega)).trans ((heap_alloc_old _ _ (by simpa using h1)).trans (Below.heap_setCell _ _ _ _ (by simpa using h2))))
  have hnew : RTVar W (w4.heap.size + 1) (.int .i64 o) (.int .i64 n) (.slice A c c) := by
   rw [hW]
   refine (rset_far _ (by omega) _ _ _).trans ?_
   have := heap_alloc_new ((w4.setCell ⟨R, 2, none⟩ (.int .i64 d)).alloc (.cells #[.int .i64 o, .int .i64 n, .slice A c c] 24)) (.cells #[.int .i64 o, .int .i64 n, .slice A c c] 24)
   simpa using this
  have hfr : Frm (· = R) w W := by rw [hW]; exact (((HF4.out.setCell (p := ⟨R, 2, none⟩) (.inl rfl) _).alloc _).alloc _).rset (.inr (Nat.le_refl _)) _ _ _
  have hpl : PL W R s l1 d := by rw [hW]; exact HU.out.keep ((rset_far _ (Ne.symm hkR) _ _ _).trans ((heap_alloc_old _ _ (by simp; omega)).trans (heap_alloc_old _ _ (by simpa using hRl))))
  have hta : TreeAt (fun j => w.heap.size ≤ j ∧ j < W.heap.size) W (.agg #[.int .i64 o, .int .i64 n, .slice A c c]) a :=
   (HT.out.keep fun j hj => hold j hj.2 (by have := hj.1; have := HLT.out; omega) (by have := hj.1; omega)).more fun j hj => ⟨by have := hj.1; omega, by have := hj.2; omega⟩
  have htn := TreeAt.neg (F := fun j => w.heap.size ≤ j ∧ j < W.heap.size) (b := w4.heap.size + 1) ⟨by omega, by omega⟩ hnew.cells.1 hnew.cells.2.1 hnew.cells.2.2.1 hta
  rw [← hW] at q0 q1 q2
  refine ⟨rfl, .agg #[.int .i64 126, .int .i64 0, .slice (some ⟨w4.heap.size + 1, 0, none⟩) 1 1], ?_, ?_⟩
  ·simp only [results, Tryz.results138]
   rw [hW] at q0 q1 q2
   simp only [rset] at q0 q1 q2
   simp [go_sem, q0, q1, q2]
  ·show PReads R s d w (.ok (.neg a) l1) _ (rset _ w.heap.size _ _ _)
   rw [← hW]
   exact ⟨126, 0, _, 1, rfl, htn, hpl, hfr⟩
theorem pless_reads {W : Reads} {m : Nat} (hone : PReadsAs 176 (oneRd W) m) : PReadsAs 138 (lessRd W) m := by
 intro R s l
 induction l with
 | nil => intro d w h hs hd hm; exact pless_one hone R s [] d w h hs hd hm (fun r e => by cases e)
 | cons c l ih =>
  intro d w h hs hd hm
  have hm2 : l.length ≤ m := by simp only [List.length_cons] at hm; omega
  by_cases ec : c = 45
  ·subst ec
   rw [pless_minus]
   by_cases hd2 : d = 20
   ·subst hd2
    exact pless_full R s l w h hs
   ·rw [show deepRd d (l.length + 1) ((lessRd W (d + 1) l).bind fun a l1 => .ok (.neg a) l1) = ((lessRd W (d + 1) l).bind fun a l1 => .ok (.neg a) l1) from by unfold deepRd; rw [if_neg hd2]]
    exact pless_deep (m := m) R d s l w h hs (by omega) fun w' h' => ih (d + 1) w' h' hs (by omega) hm2
  ·have e : lessRd W d (c :: l) = oneRd W d (c :: l) := by
    unfold lessRd
    split
    ·rename_i r hr; exact absurd (List.cons.inj hr).1 ec
    ·rfl
   rw [e]
   exact pless_one hone R s (c :: l) d w h hs hd hm (fun r e => ec (List.cons.inj e).1)
end Go.Proofs.YtfndhfekbbbliaaGreatDoor

/-
  The reference's reader: row. Conditions: the text takes at most 120 bytes, the depth is at most 20.
-/
namespace Go.Proofs.YtfndhfekbbbliaaGreatDoor
open Go.RowKit Go.ChangeShapes Go.WideShapes
set_option linter.unusedVariables false
set_option maxRecDepth 100000 in
set_option maxHeartbeats 4000000 in
theorem prow4 {X : Reads} {m : Nat} (hless : PReadsAs 138 X m) (R : Nat) (s : ByteArray) (l : List UInt8) (d : Nat) (w : World) (h : PL w R s l d) (hs : s.size ≤ 120) (hd : d ≤ 20) (hm : l.length ≤ m) :
  Calls Tryz.prog 114 #[.pointer (some ⟨R, 0, none⟩), .int .i64 4] w (PReads R s d w (X d l)) := by
 obtain ⟨r0, hr0⟩ : ∃ r0, r0 = X d l := ⟨_, rfl⟩
 have HR0 := Lib.hid hr0
 rw [← hr0]
 have hlt := h.lt
 have HLT := Lib.hid hlt
 have HH1 : Hid (PL (w.alloc (.cells #[.int .i64 0, .int .i64 0, .slice none 0 0] 24)) R s l d) := h.keep (heap_alloc_old _ _ hlt)
 have HF1 : Hid (Frm (· = R) w (w.alloc (.cells #[.int .i64 0, .int .i64 0, .slice none 0 0] 24))) := (Frm.refl _ _).alloc _
 have HV1 : Hid (RTVar (w.alloc (.cells #[.int .i64 0, .int .i64 0, .slice none 0 0] 24)) w.heap.size (.int .i64 0) (.int .i64 0) (.slice none 0 0)) := RTVar.new _ _ _ _
 clear hr0 h hlt
 go_enter Tryz.func114, Tryz.ntmps114
 go_wp2_with fail
 refine (hless R s l d _ HH1.out hs hd hm).mono ?_
 intro e w3 hr
 rw [← HR0.out] at hr
 clear HR0
 cases r0 with
 | bad k j =>
  obtain ⟨o, n, A, c, rfl, hp, hf⟩ := hr
  have HP := Lib.hid hp
  have HF3 := Lib.hid (frmR HF1.out hf)
  have hV := HV1.out.frm hf (by have := HLT.out; omega)
  have HV3 := Lib.hid hV
  obtain ⟨v0, v1, v2, vf⟩ := hV.cells
  clear hp hf hV HV1 HH1 HF1
  go_wp2_with fail
  obtain ⟨q0, q1, q2, qf⟩ := (RTVar.put HV3.out (.int .i64 o) (.int .i64 n) (.slice A c c)).cells
  simp only [rset] at q0 q1 q2
  refine ⟨rfl, .agg #[.int .i64 o, .int .i64 n, .slice A c c], ?_, o, n, A, c, rfl, HP.out.keep (rset_far _ (by have := HLT.out; omega) _ _ _), HF3.out.rset (.inr (Nat.le_refl _)) _ _ _⟩
  simp only [results, Tryz.results114]
  simp [go_sem, q0, q1, q2]
 | ok a l1 =>
  obtain ⟨o, n, A, c, rfl, ht, hl, hf⟩ := hr
  have HT := Lib.hid ht
  have HL := Lib.hid hl
  have HF3 := Lib.hid (frmR HF1.out hf)
  have hV := HV1.out.frm hf (by have := HLT.out; omega)
  have HV3 := Lib.hid hV
  obtain ⟨v0, v1, v2, vf⟩ := hV.cells
  have HK2 := Lib.hid (block_lt HV1.out)
  clear ht hl hf hV HV1 HH1 HF1
  go_wp2_with fail
  obtain ⟨q0, q1, q2, qf⟩ := (RTVar.put HV3.out (.int .i64 o) (.int .i64 n) (.slice A c c)).cells
  simp only [rset] at q0 q1 q2
  refine ⟨rfl, .agg #[.int .i64 o, .int .i64 n, .slice A c c], ?_, o, n, A, c, rfl, (HT.out.rset HK2.out _ _ _).more (fun k hk => ⟨Nat.le_trans (Nat.le_of_lt HK2.out) hk.1, hk.2⟩), HL.out.keep (rset_far _ (by have := HLT.out; omega) _ _ _), HF3.out.rset (.inr (Nat.le_refl _)) _ _ _⟩
  simp only [results, Tryz.results114]
  simp [go_sem, q0, q1, q2]
end Go.Proofs.YtfndhfekbbbliaaGreatDoor

/-
  The reference's reader: row's loop. Conditions: the text takes at most 120 bytes, the depth is at most 20.
-/
namespace Go.Proofs.YtfndhfekbbbliaaGreatDoor
open Go.RowKit Go.ChangeShapes Go.WideShapes
set_option linter.unusedVariables false
def PRowAs (lv : Int) (X : Reads) (m : Nat) : Prop := ∀ (R : Nat) (s : ByteArray) (l : List UInt8) (d : Nat) (w : World), PL w R s l d → s.size ≤ 120 → d ≤ 20 → l.length ≤ m → Calls Tryz.prog 114 #[.pointer (some ⟨R, 0, none⟩), .int .i64 lv] w (PReads R s d w (X d l))
theorem prow4_as {X : Reads} {m : Nat} (hless : PReadsAs 138 X m) : PRowAs 4 X m := fun R s l d w h hs hd hm => prow4 hless R s l d w h hs hd hm
theorem PReads.form {R d : Nat} {s : ByteArray} {w w' : World} {r : Rd} {e : Ending} (h : PReads R s d w r e w') : ∃ o n A c, e = .returned (.agg #[.int .i64 o, .int .i64 n, .slice A c c]) ∧ Frm (· = R) w w' ∧
  ((∃ t l, r = .ok t l ∧ TreeAt (fun k => w.heap.size ≤ k ∧ k < w'.heap.size) w' (.agg #[.int .i64 o, .int .i64 n, .slice A c c]) t ∧ PL w' R s l d) ∨ (∃ k j, r = .bad k j ∧ PBad w' R s d (s.size - k : Nat) j)) := by
 cases r with
 | ok t l =>
  obtain ⟨o, n, A, c, h1, h2, h3, h4⟩ := h
  exact ⟨o, n, A, c, h1, h4, .inl ⟨t, l, rfl, h2, h3⟩⟩
 | bad k j =>
  obtain ⟨o, n, A, c, h1, h2, h3⟩ := h
  exact ⟨o, n, A, c, h1, h3, .inr ⟨k, j, rfl, h2⟩⟩
structure PRowInv (R : Nat) (s : ByteArray) (d m : Nat) (w : World) (ga : Nat) (X : List UInt8 → Rd) (ops : List UInt8) (r0 : Rd) (gk : Nat) (o n : Int) (A : Option Addr) (c : Nat) (wx : World) : Prop where
 var : RTVar wx ga (.int .i64 o) (.int .i64 n) (.slice A c c)
 res : RTVar wx w.heap.size (.int .i64 0) (.int .i64 0) (.slice none 0 0)
 frm : Frm (· = R) w wx
 st : (∃ a l, PL wx R s l d ∧ TreeAt (fun j => (w.heap.size ≤ j ∧ j < wx.heap.size) ∧ j ≠ ga ∧ j ≠ w.heap.size) wx (.agg #[.int .i64 o, .int .i64 n, .slice A c c]) a ∧ gk = l.length + 1 ∧ l.length ≤ m ∧ ∃ k, l.length ≤ k ∧ r0 = loopRd X ops k a l) ∨
  (gk = 0 ∧ ∃ k j, r0 = .bad k j ∧ PBad wx R s d (s.size - k : Nat) j)
theorem row_heads {lv l1 : Int} {ops : List UInt8} (hlv : (lv = 2 ∧ l1 = 3 ∧ ops = [43, 45]) ∨ (lv = 3 ∧ l1 = 4 ∧ ops = [42, 47, 37])) {x : UInt8} (hx : x ∈ ops) :
  (lv = 2 ∧ ((x.toNat : Int) = 43 ∨ (x.toNat : Int) = 45)) ∨ (lv = 3 ∧ ((x.toNat : Int) = 42 ∨ (x.toNat : Int) = 47 ∨ (x.toNat : Int) = 37)) := by
 rcases hlv with ⟨h1, _, rfl⟩ | ⟨h1, _, rfl⟩
 ·refine .inl ⟨h1, ?_⟩
  simp at hx
  rcases hx with rfl | rfl <;> simp
 ·refine .inr ⟨h1, ?_⟩
  simp at hx
  rcases hx with rfl | rfl | rfl <;> simp
theorem row_nohead {lv l1 : Int} {ops : List UInt8} (hlv : (lv = 2 ∧ l1 = 3 ∧ ops = [43, 45]) ∨ (lv = 3 ∧ l1 = 4 ∧ ops = [42, 47, 37])) {l : List UInt8} (hx : ∀ x r, l = x :: r → x ∉ ops) :
  (lv = 2 ∧ (headR l == 43) = false ∧ (headR l == 45) = false) ∨ (lv = 3 ∧ (headR l == 42) = false ∧ (headR l == 47) = false ∧ (headR l == 37) = false) := by
 have key : ∀ y : UInt8, y ∈ ops → y ≠ 0 → (headR l == (y.toNat : Int)) = false := fun y hy h0 => by
  cases l with
  | nil =>
   have : y.toNat ≠ 0 := fun e => h0 (UInt8.toNat_inj.1 e)
   show ((0 : Int) == _) = false
   exact beq_eq_false_iff_ne.2 (by omega)
  | cons x r =>
   show ((x.toNat : Int) == _) = false
   refine beq_eq_false_iff_ne.2 fun e => hx x r rfl ?_
   have e2 : x.toNat = y.toNat := by omega
   rw [UInt8.toNat_inj.1 e2]; exact hy
 rcases hlv with ⟨h1, _, rfl⟩ | ⟨h1, _, rfl⟩
 ·exact .inl ⟨h1, key 43 (by simp) (by decide), key 45 (by simp) (by decide)⟩
 ·exact .inr ⟨h1, key 42 (by simp) (by decide), key 47 (by simp) (by decide), key 37 (by simp) (by decide)⟩
set_option maxRecDepth 100000 in
set_option maxHeartbeats 8000000 in
theorem prow_loop {lv l1 : Int} {ops : List UInt8} (hlv : (lv = 2 ∧ l1 = 3 ∧ ops = [43, 45]) ∨ (lv = 3 ∧ l1 = 4 ∧ ops = [42, 47, 37])) {X : Reads} {m : Nat} (hS : ∀ d, Short (X d)) (hin : PRowAs l1 X m) : PRowAs lv (fun d l => rowRd (X d) ops l) m := by
 intro R s l d w h hs hd hm
 obtain ⟨r1, hr1⟩ : ∃ r1, r1 = X d l := ⟨_, rfl⟩
 obtain ⟨r0, hr0⟩ : ∃ r0, r0 = rowRd (X d) ops l := ⟨_, rfl⟩
 have e0 : r0 = r1.bind fun a l1 => loopRd (X d) ops l1.length a l1 := by rw [hr0, hr1]; rfl
 show Calls _ _ _ _ (PReads R s d w (rowRd (X d) ops l))
 rw [← hr0]
 have HR1 := Lib.hid hr1
 have HR0 := Lib.hid e0
 have HLV := Lib.hid hlv
 have HS := Lib.hid hS
 have HIN := Lib.hid hin
 have hlt := h.lt
 have HLT := Lib.hid hlt
 have d4 : (lv == 4) = false := beq_eq_false_iff_ne.2 (by omega)
 have hadd : wrap64 (lv + 1) = l1 := by unfold wrap64; omega
 have hb1 : 2 ≤ lv := by omega
 have hb2 : lv ≤ 3 := by omega
 have hadd2 : lv + 1 = l1 := by omega
 have HH1 : Hid (PL (w.alloc (.cells #[.int .i64 0, .int .i64 0, .slice none 0 0] 24)) R s l d) := h.keep (heap_alloc_old _ _ hlt)
 have HF1 : Hid (Frm (· = R) w (w.alloc (.cells #[.int .i64 0, .int .i64 0, .slice none 0 0] 24))) := (Frm.refl _ _).alloc _
 have HV1 : Hid (RTVar (w.alloc (.cells #[.int .i64 0, .int .i64 0, .slice none 0 0] 24)) w.heap.size (.int .i64 0) (.int .i64 0) (.slice none 0 0)) := RTVar.new _ _ _ _
 have HM := Lib.hid hm
 clear hr0 hr1 e0 hS hin h hlt hlv hm
 go_enter Tryz.func114, Tryz.ntmps114
 go_wp2_with fail
 refine (HIN.out R s l d _ HH1.out hs hd HM.out).mono ?_
 rw [← HR1.out]
 intro e w2 hr
 obtain ⟨o0, n0, A0, c0, rfl, hf, hst⟩ := hr.form
 have hkR : w.heap.size ≠ R := by have := HLT.out; omega
 have hv2 := HV1.out.frm hf hkR
 have hRl : R < w2.heap.size := Nat.lt_of_lt_of_le HLT.out (Nat.le_of_lt (block_lt hv2))
 have HGA : Hid (w.heap.size < w2.heap.size) := block_lt hv2
 have HI : Hid (∃ gk, PRowInv R s d m w w2.heap.size (X d) ops r0 gk o0 n0 A0 c0 (w2.alloc (.cells #[.int .i64 o0, .int .i64 n0, .slice A0 c0 c0] 24))) := by
  have hs1 : (w.alloc (.cells #[.int .i64 0, .int .i64 0, .slice none 0 0] 24)).heap.size = w.heap.size + 1 := by simp
  rcases hst with ⟨t, lt, h1, ht, hp⟩ | ⟨k, j, h1, hp⟩
  ·refine ⟨lt.length + 1, RTVar.new _ _ _ _, (heap_alloc_old _ _ HGA.out).trans hv2, (frmR HF1.out hf).alloc _, .inl ⟨t, lt, hp.keep (heap_alloc_old _ _ hRl), ?_, rfl, ?_, _, Nat.le_refl _, ?_⟩⟩
   ·refine (ht.keep fun k hk => heap_alloc_old _ _ hk.2).more fun k hk => ?_
    rw [hs1] at hk
    simp
    have := hk.1; have := hk.2
    omega
   ·have := HS.out d l t lt (by rw [← HR1.out]; exact h1); have := HM.out; omega
   ·rw [HR0.out, h1]; rfl
  ·exact ⟨0, RTVar.new _ _ _ _, (heap_alloc_old _ _ HGA.out).trans hv2, (frmR HF1.out hf).alloc _, .inr ⟨rfl, k, j, by rw [HR0.out, h1]; rfl, hp.keep (heap_alloc_old _ _ hRl)⟩⟩
 clear hr hst hf hv2 HH1 HF1 HV1 HR0 HR1
 go_wp2_with fail
 obtain ⟨gk0, hI0⟩ := HI.out
 have HI0 := Lib.hid hI0
 clear HI hI0
 obtain ⟨ga, hga⟩ : ∃ ga, ga = w2.heap.size := ⟨_, rfl⟩
 rw [← hga] at HI0 HGA ⊢
 have HGR : Hid (R < ga) := by rw [hga]; exact hRl
 clear hga hRl
 go_loopg [] gk0 (fun gk wx => ∃ o n A c, Hid (PRowInv R s d m w ga (X d) ops r0 gk o n A c wx))
 case atStart => exact ⟨o0, n0, A0, c0, HI0⟩
 case round =>
  obtain ⟨o, n, A, c, HJ⟩ := hrel
  clear HI0
  obtain ⟨v0, v1, v2, vf⟩ := HJ.out.var.cells
  obtain ⟨z0, z1, z2, zf⟩ := HJ.out.res.cells
  obtain ⟨q0, q1, q2, qf⟩ := (RTVar.put HJ.out.res (.int .i64 o) (.int .i64 n) (.slice A c c)).cells
  simp only [rset] at q0 q1 q2
  rcases HJ.out.st with ⟨a, l2, hp, ht, hgk, hlm, k0, hk0, hr0⟩ | ⟨hgk, k, j, hr0, hp⟩
  ·have HP := Lib.hid hp
   have HT := Lib.hid ht
   have HR0 : Hid (∃ k, l2.length ≤ k ∧ r0 = loopRd (X d) ops k a l2) := ⟨k0, hk0, hr0⟩
   obtain ⟨wr0, hpa⟩ := hp.2.2
   obtain ⟨c0, c1, c2, c3, c4, cf⟩ := hpa.cells
   clear hp ht hk0 hr0
   go_wp2_with fail
   refine (ppeekL R s l2 d wr HP.out).mono ?_
   rintro e w4 ⟨rfl, q, rfl⟩
   have HP4 : Hid (PL (wr.drewN q) R s l2 d) := HP.out.keep rfl
   have HT4 : Hid (TreeAt (fun j => (w.heap.size ≤ j ∧ j < (wr.drewN q).heap.size) ∧ j ≠ ga ∧ j ≠ w.heap.size) (wr.drewN q) (.agg #[.int .i64 o, .int .i64 n, .slice A c c]) a) := HT.out.keep fun _ _ => rfl
   have HV4 : Hid (RTVar (wr.drewN q) ga (.int .i64 o) (.int .i64 n) (.slice A c c)) := HJ.out.var
   have HZ4 : Hid (RTVar (wr.drewN q) w.heap.size (.int .i64 0) (.int .i64 0) (.slice none 0 0)) := HJ.out.res
   have HF4 : Hid (Frm (· = R) w (wr.drewN q)) := HJ.out.frm.drewN q
   clear v0 v1 v2 vf z0 z1 z2 zf q0 q1 q2 qf c0 c1 c2 c3 c4 cf HP HT HJ hpa
   generalize wr.drewN q = W4 at *
   obtain ⟨v0, v1, v2, vf⟩ := HV4.out.cells
   obtain ⟨z0, z1, z2, zf⟩ := HZ4.out.cells
   by_cases hmem : ∃ x r, l2 = x :: r ∧ x ∈ ops
   ·obtain ⟨x, r, rfl, hx⟩ := hmem
    have hheads := row_heads HLV.out hx
    have eh : headR (x :: r) = (x.toNat : Int) := rfl
    rw [eh]
    have HX := Lib.hid hx
    clear eh hx
    obtain ⟨xi, hxi⟩ : ∃ xi : Int, xi = (x.toNat : Int) := ⟨_, rfl⟩
    rw [← hxi] at hheads ⊢
    have HXI := Lib.hid hxi
    clear hxi
    go_upto_region 6 with (fail)
    go_cut [7] from 17 to 68 (fun bv wx => bv = .bool true ∧ W4 = wx)
    case first =>
     rcases hheads with ⟨rfl, rfl | rfl⟩ | ⟨rfl, rfl | rfl | rfl⟩
     all_goals
      go_wp2_with fail
      go_meet
      case rel => exact ⟨rfl, rfl⟩
    case rest =>
     obtain ⟨rfl, rfl⟩ := hcut
     clear hheads
     obtain ⟨wr4, hpa⟩ := HP4.out.2.2
     obtain ⟨c0, c1, c2, c3, c4, cf⟩ := hpa.cells
     have hlen : r.length + 1 ≤ s.size := by have := HP4.out.1; simpa using this
     have HPA := Lib.hid hpa
     clear hpa
     go_wp2_with fail
     obtain ⟨W5, hW5⟩ : ∃ W5, W5 = W4.setCell ⟨R, 1, none⟩ (.int .i64 (((s.size - (r.length + 1) : Nat) : Int) + 1)) := ⟨_, rfl⟩
     have HP5 : Hid (PL W5 R s r d) := by
      have h1 := HPA.out.moved (s.size - (r.length + 1) + 1)
      have e2 : (((s.size - (r.length + 1) : Nat) : Int) + 1) = ((s.size - (r.length + 1) + 1 : Nat) : Int) := by omega
      rw [hW5, e2]
      exact HP4.out.on (n := 1) (wr := wr4) (by simp only [List.length_cons]; omega) rfl h1
     have hRw := HLT.out
     have hRg := HGR.out
     have hwg := HGA.out
     have h5o : ∀ j, j ≠ R → W5.heap[j]? = W4.heap[j]? := fun j hj => by rw [hW5]; exact Below.heap_setCell _ _ _ _ (by simpa using hj)
     have h5s : W5.heap.size = W4.heap.size := by rw [hW5]; simp
     have HV5 : Hid (RTVar W5 ga (.int .i64 o) (.int .i64 n) (.slice A c c)) := (h5o ga (by omega)).trans HV4.out
     have HZ5 : Hid (RTVar W5 w.heap.size (.int .i64 0) (.int .i64 0) (.slice none 0 0)) := (h5o _ hkR).trans HZ4.out
     have HT5 : Hid (TreeAt (fun j => (w.heap.size ≤ j ∧ j < W5.heap.size) ∧ j ≠ ga ∧ j ≠ w.heap.size) W5 (.agg #[.int .i64 o, .int .i64 n, .slice A c c]) a) := (HT4.out.keep fun j hj => h5o j (by have := hj.1.1; omega)).more fun j hj => by rw [h5s]; exact hj
     have HF5 : Hid (Frm (· = R) w W5) := by rw [hW5]; exact HF4.out.setCell (p := ⟨R, 1, none⟩) (.inl rfl) _
     rw [← hW5]
     clear hW5 h5o h5s HP4 HV4 HZ4 HT4 HF4 v0 v1 v2 vf z0 z1 z2 zf c0 c1 c2 c3 c4 cf HPA
     have hrm : r.length ≤ m := by simp only [List.length_cons] at hlm; omega
     refine (HIN.out R s r d W5 HP5.out hs hd hrm).mono ?_
     intro e w7 hr
     obtain ⟨o7, n7, A7, c7, rfl, hf, hst⟩ := hr.form
     have hv7 := HV5.out.frm hf (by omega)
     have hz7 := HZ5.out.frm hf hkR
     have hg7 : ga < w7.heap.size := block_lt hv7
     have hg5 : ga < W5.heap.size := block_lt HV5.out
     have h57 : W5.heap.size ≤ w7.heap.size := hf.size
     have hA : ∀ ob1, RTVar (w7.alloc ob1) ga (.int .i64 o) (.int .i64 n) (.slice A c c) := fun ob1 => (heap_alloc_old _ _ hg7).trans hv7
     have hB : ∀ ob1 ob2, RTVar ((w7.alloc ob1).alloc ob2) ga (.int .i64 o) (.int .i64 n) (.slice A c c) := fun ob1 ob2 => (heap_alloc_old _ _ (by simp; omega)).trans (hA ob1)
     have a0 := fun ob1 => (hA ob1).cells.1
     have a1 := fun ob1 => (hA ob1).cells.2.1
     have a2 := fun ob1 => (hA ob1).cells.2.2.1
     have b0 := fun ob1 ob2 => (hB ob1 ob2).cells.1
     have b1 := fun ob1 ob2 => (hB ob1 ob2).cells.2.1
     have b2 := fun ob1 ob2 => (hB ob1 ob2).cells.2.2.1
     have a3 := fun ob1 ob2 i => (hB ob1 ob2).cells.2.2.2 i
     have a4 := fun ob1 i => (hA ob1).cells.2.2.2 i
     have HFIN : Hid (∃ gk', gk' < gk ∧ PRowInv R s d m w ga (X d) ops r0 gk' xi 0 (some ⟨w7.heap.size + 1, 0, none⟩) 2 (rset ((w7.alloc (.cells #[.int .i64 o7, .int .i64 n7, .slice A7 c7 c7] 24)).alloc (.cells #[.int .i64 o, .int .i64 n, .slice A c c, .int .i64 o7, .int .i64 n7, .slice A7 c7 c7] 24)) ga (.int .i64 xi) (.int .i64 0) (.slice (some ⟨w7.heap.size + 1, 0, none⟩) 2 2))) := by
      obtain ⟨ob1, hob1⟩ : ∃ ob1 : Obj, ob1 = .cells #[.int .i64 o7, .int .i64 n7, .slice A7 c7 c7] 24 := ⟨_, rfl⟩
      obtain ⟨ob2, hob2⟩ : ∃ ob2 : Obj, ob2 = .cells #[.int .i64 o, .int .i64 n, .slice A c c, .int .i64 o7, .int .i64 n7, .slice A7 c7 c7] 24 := ⟨_, rfl⟩
      rw [← hob1, ← hob2]
      obtain ⟨W8, hW8⟩ : ∃ W8, W8 = rset ((w7.alloc ob1).alloc ob2) ga (.int .i64 xi) (.int .i64 0) (.slice (some ⟨w7.heap.size + 1, 0, none⟩) 2 2) := ⟨_, rfl⟩
      have hsz : W8.heap.size = w7.heap.size + 2 := by rw [hW8, rset_size]; simp
      have hold : ∀ j, j < w7.heap.size → j ≠ ga → W8.heap[j]? = w7.heap[j]? := fun j h1 h2 => by
       rw [hW8]
       exact (rset_far _ h2 _ _ _).trans ((heap_alloc_old _ _ (by simp; omega)).trans (heap_alloc_old _ _ h1))
      have hnew : W8.heap[w7.heap.size + 1]? = some ob2 := by
       rw [hW8]
       refine (rset_far _ (by omega) _ _ _).trans ?_
       have := heap_alloc_new (w7.alloc ob1) ob2
       simpa using this
      have hvar : RTVar W8 ga (.int .i64 xi) (.int .i64 0) (.slice (some ⟨w7.heap.size + 1, 0, none⟩) 2 2) := by rw [hW8]; exact RTVar.put (hB ob1 ob2) _ _ _
      have hfr : Frm (· = R) w W8 := by rw [hW8]; exact (((frmR HF5.out hf).alloc _).alloc _).rset (.inr (by omega)) _ _ _
      have hres : RTVar W8 w.heap.size (.int .i64 0) (.int .i64 0) (.slice none 0 0) := (hold _ (block_lt hz7) (by omega)).trans hz7
      have hRR : W8.heap[R]? = w7.heap[R]? := hold R (by omega) (by omega)
      rw [← hW8]
      clear hW8
      rcases hst with ⟨b, l3, h1, htb, hp⟩ | ⟨k, j, h1, hp⟩
      ·have hsh := HS.out d r b l3 h1
       refine ⟨l3.length + 1, by rw [hgk]; simp only [List.length_cons]; omega, hvar, hres, hfr, .inl ⟨.bin x a b, l3, hp.keep hRR, ?_, rfl, by omega, ?_⟩⟩
       ·have hta : TreeAt (fun j => (w.heap.size ≤ j ∧ j < W8.heap.size) ∧ j ≠ ga ∧ j ≠ w.heap.size) W8 (.agg #[.int .i64 o, .int .i64 n, .slice A c c]) a :=
         ((HT5.out.keep fun j hj => hf.block j hj.1.2 (by have := hj.1.1; omega)).keep fun j hj => hold j (by have := hj.1.2; omega) hj.2.1).more fun j hj => ⟨⟨hj.1.1, by have := hj.1.2; omega⟩, hj.2⟩
        have htb2 : TreeAt (fun j => (w.heap.size ≤ j ∧ j < W8.heap.size) ∧ j ≠ ga ∧ j ≠ w.heap.size) W8 (.agg #[.int .i64 o7, .int .i64 n7, .slice A7 c7 c7]) b :=
         (htb.keep fun j hj => hold j hj.2 (by have := hj.1; omega)).more fun j hj => by have := hj.1; have := hj.2; omega
        have hop : x ∈ binOps := by
         have := HX.out
         rcases HLV.out with ⟨_, _, rfl⟩ | ⟨_, _, rfl⟩
         ·simp at this; rcases this with rfl | rfl <;> decide
         ·simp at this; rcases this with rfl | rfl | rfl <;> decide
        rw [hob2] at hnew
        have cl := fun j => cell_of_row W8 (w7.heap.size + 1) j _ _ _ hnew
        rw [HXI.out]
        exact .bin (b := w7.heap.size + 1) hop ⟨⟨by omega, by omega⟩, by omega, by omega⟩ ((cl 0).trans rfl) ((cl 1).trans rfl) ((cl 2).trans rfl) hta ((cl 3).trans rfl) ((cl 4).trans rfl) ((cl 5).trans rfl) htb2
       ·obtain ⟨k, hk, e⟩ := HR0.out
        obtain ⟨k2, rfl⟩ : ∃ k2, k = k2 + 1 := ⟨k - 1, by simp only [List.length_cons] at hk; omega⟩
        refine ⟨k2, by simp only [List.length_cons] at hk; omega, ?_⟩
        rw [e]; simp only [loopRd, if_pos HX.out, h1, Rd.bind]
      ·refine ⟨0, by omega, hvar, hres, hfr, .inr ⟨rfl, k, j, ?_, hp.keep hRR⟩⟩
       obtain ⟨k2, hk, e⟩ := HR0.out
       obtain ⟨k3, rfl⟩ : ∃ k3, k2 = k3 + 1 := ⟨k2 - 1, by simp only [List.length_cons] at hk; omega⟩
       rw [e]; simp only [loopRd, if_pos HX.out, h1, Rd.bind]
     clear hr hst hf hA hB hv7 hz7 HP5 HV5 HZ5 HT5 HF5 hgk hg7 hg5 h57 hRw hRg hwg
     go_wp2_with fail
     obtain ⟨gk', hlt, hI⟩ := HFIN.out
     go_roundg gk'
     case measure => exact hlt
     case rel => exact ⟨_, _, _, _, hI⟩
   ·have hno := row_nohead HLV.out fun x r e hx => hmem ⟨x, r, e, hx⟩
    have HE : Hid (r0 = .ok a l2) := by
     obtain ⟨k, hk, e⟩ := HR0.out
     exact e.trans (loop_stop (fun x r e hx => hmem ⟨x, r, e, hx⟩) k a)
    obtain ⟨q0, q1, q2, qf⟩ := (RTVar.put HZ4.out (.int .i64 o) (.int .i64 n) (.slice A c c)).cells
    simp only [rset] at q0 q1 q2
    clear HR0 hmem
    rcases hno with ⟨rfl, h1, h2⟩ | ⟨rfl, h1, h2, h3⟩
    all_goals
     generalize headR l2 = cc at *
     go_wp2_with fail
     refine ⟨rfl, .agg #[.int .i64 o, .int .i64 n, .slice A c c], ?_, ?_⟩
     ·simp only [results, Tryz.results114]
      simp [go_sem, q0, q1, q2]
     ·rw [HE.out]
      refine ⟨o, n, A, c, rfl, ?_, HP4.out.keep (rset_far W4 (Ne.symm hkR) _ _ _), HF4.out.rset (.inr (Nat.le_refl _)) _ _ _⟩
      refine (HT4.out.keep fun j hj => rset_far W4 hj.2.2 _ _ _).more fun j hj => ⟨hj.1.1, ?_⟩
      show j < (rset W4 _ _ _ _).heap.size
      rw [rset_size]; exact hj.1.2
  ·obtain ⟨p', d', g1, g2, g3, g4, g5⟩ := hp
   obtain ⟨c0, c1, c2, c3, c4, cf⟩ := g5.cells
   have d0 : (j == 0) = false := beq_eq_false_iff_ne.2 g4
   go_wp2_with fail
   refine ⟨rfl, .agg #[.int .i64 o, .int .i64 n, .slice A c c], ?_, ?_⟩
   ·simp only [results, Tryz.results114]
    simp [go_sem, q0, q1, q2]
   ·rw [hr0]
    exact ⟨o, n, A, c, rfl, ⟨p', d', g1, g2, g3, g4, g5.keep (rset_far _ (Ne.symm hkR) _ _ _)⟩, HJ.out.frm.rset (.inr (Nat.le_refl _)) _ _ _⟩
end Go.Proofs.YtfndhfekbbbliaaGreatDoor

/-
  The reference's reader: what a reading method has made so far (its variables, the trees in them), kept from step to step. No condition of ours.
-/
namespace Go.Proofs.YtfndhfekbbbliaaGreatDoor
open Go.RowKit Go.ChangeShapes Go.WideShapes
set_option linter.unusedVariables false
structure PSt (w0 : World) (R : Nat) (ks : List (Nat × Value × Value × Value)) (ts : List (Value × Tr)) (w : World) : Prop where
 frm : Frm (· = R) w0 w
 lt : R < w0.heap.size
 vars : ∀ v ∈ ks, w0.heap.size ≤ v.1 ∧ RTVar w v.1 v.2.1 v.2.2.1 v.2.2.2
 trees : ∀ p ∈ ts, TreeAt (fun j => (w0.heap.size ≤ j ∧ j < w.heap.size) ∧ ∀ v ∈ ks, j ≠ v.1) w p.1 p.2
theorem PSt.start {w0 : World} {R : Nat} (h : R < w0.heap.size) : PSt w0 R [] [] w0 := ⟨Frm.refl _ _, h, nofun, nofun⟩
theorem PSt.lt' {w0 w : World} {R : Nat} {ks : List (Nat × Value × Value × Value)} {ts : List (Value × Tr)} (h : PSt w0 R ks ts w) : R < w.heap.size := Nat.lt_of_lt_of_le h.lt h.frm.size
theorem PSt.below {w0 w : World} {R : Nat} {ks : List (Nat × Value × Value × Value)} {ts : List (Value × Tr)} (h : PSt w0 R ks ts w) {v : Nat × Value × Value × Value} (hv : v ∈ ks) : v.1 < w.heap.size := block_lt (h.vars v hv).2
theorem PSt.call {w0 w w' : World} {R : Nat} {ks : List (Nat × Value × Value × Value)} {ts : List (Value × Tr)} (h : PSt w0 R ks ts w) (hf : Frm (· = R) w w') : PSt w0 R ks ts w' :=
 ⟨frmR h.frm hf, h.lt, fun v hv => ⟨(h.vars v hv).1, (h.vars v hv).2.frm hf (by have := (h.vars v hv).1; have := h.lt; omega)⟩,
  fun p hp => ((h.trees p hp).keep fun j hj => hf.block j hj.1.2 (by have := hj.1.1; have := h.lt; omega)).more fun j hj => ⟨⟨hj.1.1, Nat.lt_of_lt_of_le hj.1.2 hf.size⟩, hj.2⟩⟩
theorem PSt.drewN {w0 w : World} {R : Nat} {ks : List (Nat × Value × Value × Value)} {ts : List (Value × Tr)} (h : PSt w0 R ks ts w) (q : Nat) : PSt w0 R ks ts (w.drewN q) := h.call ((Frm.refl _ _).drewN q)
theorem PSt.alloc {w0 w : World} {R : Nat} {ks : List (Nat × Value × Value × Value)} {ts : List (Value × Tr)} (h : PSt w0 R ks ts w) (ob : Obj) : PSt w0 R ks ts (w.alloc ob) := h.call ((Frm.refl _ _).alloc ob)
theorem PSt.setR {w0 w : World} {R : Nat} {ks : List (Nat × Value × Value × Value)} {ts : List (Value × Tr)} (h : PSt w0 R ks ts w) (i : Nat) (v : Value) : PSt w0 R ks ts (w.setCell ⟨R, i, none⟩ v) := h.call ((Frm.refl (· = R) _).setCell (p := ⟨R, i, none⟩) (.inl rfl) v)
theorem PSt.var {w0 w : World} {R : Nat} {ks : List (Nat × Value × Value × Value)} {ts : List (Value × Tr)} (h : PSt w0 R ks ts w) (x y z : Value) : PSt w0 R ((w.heap.size, x, y, z) :: ks) ts (w.alloc (.cells #[x, y, z] 24)) := by
 have h1 := h.alloc (.cells #[x, y, z] 24)
 refine ⟨h1.frm, h.lt, fun v hv => ?_, fun p hp => ?_⟩
 ·rcases List.mem_cons.1 hv with rfl | hv
  ·exact ⟨h.frm.size, RTVar.new _ _ _ _⟩
  ·exact h1.vars v hv
 ·refine ((h.trees p hp).keep fun j hj => heap_alloc_old _ _ hj.1.2).more fun j hj => ⟨⟨hj.1.1, by have := hj.1.2; simp; omega⟩, fun v hv => ?_⟩
  rcases List.mem_cons.1 hv with rfl | hv
  ·have := hj.1.2; show j ≠ w.heap.size; omega
  ·exact hj.2 v hv
theorem PSt.tree {w0 w1 w : World} {R : Nat} {ks : List (Nat × Value × Value × Value)} {ts : List (Value × Tr)} (h1 : PSt w0 R ks ts w1) (hf : Frm (· = R) w1 w) {v : Value} {t : Tr} (ht : TreeAt (fun k => w1.heap.size ≤ k ∧ k < w.heap.size) w v t) : PSt w0 R ks ((v, t) :: ts) w := by
 have h := h1.call hf
 refine ⟨h.frm, h.lt, h.vars, fun p hp => ?_⟩
 rcases List.mem_cons.1 hp with rfl | hp
 ·refine ht.more fun j hj => ⟨⟨Nat.le_trans h1.frm.size hj.1, hj.2⟩, fun v hv => ?_⟩
  have := h1.below hv; have := hj.1; omega
 ·exact h.trees p hp
theorem PSt.res {w0 w : World} {R k : Nat} {x y z : Value} {ks : List (Nat × Value × Value × Value)} {ts : List (Value × Tr)} (h : PSt w0 R ks ts w) (hk : (k, x, y, z) ∈ ks) (x' y' z' : Value) :
  Frm (· = R) w0 (rset w k x' y' z') ∧ RTVar (rset w k x' y' z') k x' y' z' ∧ (rset w k x' y' z').heap[R]? = w.heap[R]? ∧ ∀ p ∈ ts, TreeAt (fun j => w0.heap.size ≤ j ∧ j < (rset w k x' y' z').heap.size) (rset w k x' y' z') p.1 p.2 := by
 have hv := h.vars _ hk
 refine ⟨h.frm.rset (.inr hv.1) _ _ _, hv.2.put _ _ _, rset_far _ (by have h1 : w0.heap.size ≤ k := hv.1; have := h.lt; omega) _ _ _, fun p hp => ?_⟩
 exact ((h.trees p hp).keep fun j hj => rset_far _ (hj.2 _ hk) _ _ _).more fun j hj => ⟨hj.1.1, by rw [rset_size]; exact hj.1.2⟩
theorem PSt.cells {w0 w : World} {R k : Nat} {x y z : Value} {ks : List (Nat × Value × Value × Value)} {ts : List (Value × Tr)} (h : PSt w0 R ks ts w) (hk : (k, x, y, z) ∈ ks) : w.cell? ⟨k, 0, none⟩ = some x ∧ w.cell? ⟨k, 1, none⟩ = some y ∧ w.cell? ⟨k, 2, none⟩ = some z ∧ (∀ i, w.frozen? ⟨k, i, none⟩ = false) := (h.vars _ hk).2.cells
theorem PSt.two {w0 w : World} {R : Nat} {ks : List (Nat × Value × Value × Value)} {ts : List (Value × Tr)} (h : PSt w0 R ks ts w) {o n s o' n' s' : Value} {a b : Tr} (ha : (.agg #[o, n, s], a) ∈ ts) (hb : (.agg #[o', n', s'], b) ∈ ts) {op : UInt8} (hop : op ∈ binOps) :
  PSt w0 R ks [(.agg #[.int .i64 (op.toNat : Int), .int .i64 0, .slice (some ⟨w.heap.size, 0, none⟩) 2 2], .bin op a b)] (w.alloc (.cells #[o, n, s, o', n', s'] 24)) := by
 have h1 := h.alloc (.cells #[o, n, s, o', n', s'] 24)
 refine ⟨h1.frm, h.lt, h1.vars, fun p hp => ?_⟩
 rw [List.mem_singleton.1 hp]
 have hnew := heap_alloc_new w (.cells #[o, n, s, o', n', s'] 24)
 have cl := fun j => cell_of_row (w.alloc (.cells #[o, n, s, o', n', s'] 24)) w.heap.size j _ _ _ hnew
 exact .bin (b := w.heap.size) hop ⟨⟨h.frm.size, by show w.heap.size < (w.alloc _).heap.size; simp⟩, fun v hv => by have := h.below hv; omega⟩ ((cl 0).trans rfl) ((cl 1).trans rfl) ((cl 2).trans rfl) (h1.trees _ ha) ((cl 3).trans rfl) ((cl 4).trans rfl) ((cl 5).trans rfl) (h1.trees _ hb)
theorem PSt.three {w0 w : World} {R : Nat} {ks : List (Nat × Value × Value × Value)} {ts : List (Value × Tr)} (h : PSt w0 R ks ts w) {o n s o' n' s' o'' n'' s'' : Value} {a b c : Tr} (ha : (.agg #[o, n, s], a) ∈ ts) (hb : (.agg #[o', n', s'], b) ∈ ts) (hc : (.agg #[o'', n'', s''], c) ∈ ts) :
  PSt w0 R ks [(.agg #[.int .i64 63, .int .i64 0, .slice (some ⟨w.heap.size, 0, none⟩) 3 3], .sel a b c)] (w.alloc (.cells #[o, n, s, o', n', s', o'', n'', s''] 24)) := by
 have h1 := h.alloc (.cells #[o, n, s, o', n', s', o'', n'', s''] 24)
 refine ⟨h1.frm, h.lt, h1.vars, fun p hp => ?_⟩
 rw [List.mem_singleton.1 hp]
 have hnew := heap_alloc_new w (.cells #[o, n, s, o', n', s', o'', n'', s''] 24)
 have cl := fun j => cell_of_row (w.alloc (.cells #[o, n, s, o', n', s', o'', n'', s''] 24)) w.heap.size j _ _ _ hnew
 exact .sel (b := w.heap.size) ⟨⟨h.frm.size, by show w.heap.size < (w.alloc _).heap.size; simp⟩, fun v hv => by have := h.below hv; omega⟩ ((cl 0).trans rfl) ((cl 1).trans rfl) ((cl 2).trans rfl) (h1.trees _ ha) ((cl 3).trans rfl) ((cl 4).trans rfl) ((cl 5).trans rfl) (h1.trees _ hb) ((cl 6).trans rfl) ((cl 7).trans rfl) ((cl 8).trans rfl) (h1.trees _ hc)
theorem PSt.endOk {w0 w : World} {R k d : Nat} {s : ByteArray} {l : List UInt8} {x y z : Value} {ks : List (Nat × Value × Value × Value)} {ts : List (Value × Tr)} (h : PSt w0 R ks ts w) (hk : (k, x, y, z) ∈ ks) {o n : Int} {A : Option Addr} {c : Nat} {t : Tr} (ht : (.agg #[.int .i64 o, .int .i64 n, .slice A c c], t) ∈ ts) (hp : PL w R s l d) :
  PReads R s d w0 (.ok t l) (.returned (.agg #[.int .i64 o, .int .i64 n, .slice A c c])) (rset w k (.int .i64 o) (.int .i64 n) (.slice A c c)) := by
 obtain ⟨h1, h2, h3, h4⟩ := h.res hk (.int .i64 o) (.int .i64 n) (.slice A c c)
 exact ⟨o, n, A, c, rfl, h4 _ ht, hp.keep h3, h1⟩
theorem PSt.endBad {w0 w : World} {R k d : Nat} {s : ByteArray} {k' : Nat} {j : Int} {x y z : Value} {ks : List (Nat × Value × Value × Value)} {ts : List (Value × Tr)} (h : PSt w0 R ks ts w) (hk : (k, x, y, z) ∈ ks) {o n : Int} {A : Option Addr} {c : Nat} (hp : PBad w R s d (s.size - k' : Nat) j) :
  PReads R s d w0 (.bad k' j) (.returned (.agg #[.int .i64 o, .int .i64 n, .slice A c c])) (rset w k (.int .i64 o) (.int .i64 n) (.slice A c c)) := by
 obtain ⟨h1, h2, h3, h4⟩ := h.res hk (.int .i64 o) (.int .i64 n) (.slice A c c)
 exact ⟨o, n, A, c, rfl, hp.keep h3, h1⟩
theorem PSt.out {w0 w : World} {R k : Nat} {x y z : Value} {ks : List (Nat × Value × Value × Value)} {ts : List (Value × Tr)} (h : PSt w0 R ks ts w) (hk : (k, x, y, z) ∈ ks) (x' y' z' : Value) :
  (((w.setCell ⟨k, 0, none⟩ x').setCell ⟨k, 1, none⟩ y').setCell ⟨k, 2, none⟩ z').cell? ⟨k, 0, none⟩ = some x' ∧ (((w.setCell ⟨k, 0, none⟩ x').setCell ⟨k, 1, none⟩ y').setCell ⟨k, 2, none⟩ z').cell? ⟨k, 1, none⟩ = some y' ∧ (((w.setCell ⟨k, 0, none⟩ x').setCell ⟨k, 1, none⟩ y').setCell ⟨k, 2, none⟩ z').cell? ⟨k, 2, none⟩ = some z' := by
 have := ((h.vars _ hk).2.put x' y' z').cells
 exact ⟨this.1, this.2.1, this.2.2.1⟩
end Go.Proofs.YtfndhfekbbbliaaGreatDoor

/-
  The reference's reader: compared. Conditions: the text takes at most 120 bytes, the depth is at most 20.
-/
namespace Go.Proofs.YtfndhfekbbbliaaGreatDoor
open Go.RowKit Go.ChangeShapes Go.WideShapes
set_option linter.unusedVariables false
theorem headR_no {l ops : List UInt8} (hx : ∀ x r, l = x :: r → x ∉ ops) {y : UInt8} (hy : y ∈ ops) (h0 : y ≠ 0) : (headR l == (y.toNat : Int)) = false := by
 cases l with
 | nil =>
  have : y.toNat ≠ 0 := fun e => h0 (UInt8.toNat_inj.1 e)
  show ((0 : Int) == _) = false
  exact beq_eq_false_iff_ne.2 (by omega)
 | cons x r =>
  show ((x.toNat : Int) == _) = false
  refine beq_eq_false_iff_ne.2 fun e => hx x r rfl ?_
  have e2 : x.toNat = y.toNat := by omega
  rw [UInt8.toNat_inj.1 e2]; exact hy
theorem PL.next {w : World} {R : Nat} {s : ByteArray} {x : UInt8} {r : List UInt8} {d : Nat} (h : PL w R s (x :: r) d) : PL (w.setCell ⟨R, 1, none⟩ (.int .i64 (((s.size - (r.length + 1) : Nat) : Int) + 1))) R s r d := by
 obtain ⟨wr, hp⟩ := h.2.2
 have hlen : r.length + 1 ≤ s.size := by have := h.1; simpa using this
 have h1 := hp.moved (s.size - (r.length + 1) + 1)
 have e2 : (((s.size - (r.length + 1) : Nat) : Int) + 1) = ((s.size - (r.length + 1) + 1 : Nat) : Int) := by omega
 rw [e2]
 exact h.on (n := 1) (wr := wr) (by simp only [List.length_cons]; omega) rfl h1
theorem cmp_tl {W : Reads} {d : Nat} {a : Tr} {l : List UInt8} (h : ∀ x r, l = x :: r → x ∉ [61, 60, 62]) : cmpTl W d a l = .ok a l := by
 cases l with
 | nil => rfl
 | cons x r => simp only [cmpTl, if_neg (h x r rfl)]
set_option maxRecDepth 100000 in
set_option maxHeartbeats 8000000 in
theorem pcmp_reads {W : Reads} {m : Nat} (hS : ∀ d, Short (W d)) (hrow : PRowAs 2 (addRd W) m) : PReadsAs 79 (cmpRd W) m := by
 intro R s l d w h hs hd hm
 obtain ⟨r1, hr1⟩ : ∃ r1, r1 = addRd W d l := ⟨_, rfl⟩
 obtain ⟨r0, hr0⟩ : ∃ r0, r0 = cmpRd W d l := ⟨_, rfl⟩
 have e0 : r0 = r1.bind (cmpTl W d) := by rw [hr0, hr1]; rfl
 rw [← hr0]
 have HR1 := Lib.hid hr1
 have HR0 := Lib.hid e0
 have HS := Lib.hid hS
 have HROW := Lib.hid hrow
 have hlt := h.lt
 have HLT := Lib.hid hlt
 have HM := Lib.hid hm
 have HS1 := Lib.hid ((PSt.start hlt).var (.int .i64 0) (.int .i64 0) (.slice none 0 0))
 have HP1 : Hid (PL (w.alloc (.cells #[.int .i64 0, .int .i64 0, .slice none 0 0] 24)) R s l d) := h.keep (heap_alloc_old _ _ hlt)
 clear hr0 hr1 e0 hS hrow h hlt hm
 go_enter Tryz.func79, Tryz.ntmps79
 go_wp2_with fail
 refine (HROW.out R s l d _ HP1.out hs hd HM.out).mono ?_
 rw [← HR1.out]
 intro e w2 hr
 obtain ⟨o, n, A, c, rfl, hf, hst⟩ := hr.form
 have hR2 := (HS1.out.call hf).lt'
 rcases hst with ⟨a, l1, h1, ht, hp⟩ | ⟨k, j, h1, hp⟩
 ·have HS3 := Lib.hid ((HS1.out.tree hf ht).var (.int .i64 o) (.int .i64 n) (.slice A c c))
  have HP3 : Hid (PL (w2.alloc (.cells #[.int .i64 o, .int .i64 n, .slice A c c] 24)) R s l1 d) := hp.keep (heap_alloc_old _ _ hR2)
  have HL1 : Hid (l1.length < l.length) := add_short HS.out d l a l1 (by rw [← HR1.out]; exact h1)
  have HE : Hid (r0 = cmpTl W d a l1) := by show _ = _; rw [HR0.out, h1]; rfl
  clear hr hf ht hp h1 HR1 HR0 HS1 HP1
  go_wp2_with fail
  refine (ppeekL R s l1 d _ HP3.out).mono ?_
  rintro e w4 ⟨rfl, q, rfl⟩
  have HP4 : Hid (PL ((w2.alloc (.cells #[.int .i64 o, .int .i64 n, .slice A c c] 24)).drewN q) R s l1 d) := HP3.out.keep rfl
  have HS4 := Lib.hid (HS3.out.drewN q)
  clear HS3 HP3 hR2
  generalize ga : w2.heap.size = g at *
  generalize (w2.alloc (.cells #[.int .i64 o, .int .i64 n, .slice A c c] 24)).drewN q = W4 at *
  obtain ⟨z0, z1, z2, zf⟩ := HS4.out.cells (.tail _ (.head _))
  obtain ⟨v0, v1, v2, vf⟩ := HS4.out.cells (.head _)
  obtain ⟨wr, hpa⟩ := HP4.out.2.2
  obtain ⟨c0, c1, c2, c3, c4, cf⟩ := hpa.cells
  clear hpa
  by_cases hmem : ∃ x r, l1 = x :: r ∧ x ∈ [61, 60, 62]
  ·obtain ⟨x, r, rfl, hx⟩ := hmem
   have hheads : (x.toNat : Int) = 61 ∨ (x.toNat : Int) = 60 ∨ (x.toNat : Int) = 62 := by
    simp at hx
    rcases hx with rfl | rfl | rfl <;> simp
   have eh : headR (x :: r) = (x.toNat : Int) := rfl
   rw [eh]
   have HE2 : Hid (r0 = (addRd W d r).bind fun b l2 => .ok (.bin x a b) l2) := by show _ = _; rw [HE.out]; simp only [cmpTl, if_pos hx]
   have HX : Hid (x ∈ binOps) := by show x ∈ binOps; simp at hx; rcases hx with rfl | rfl | rfl <;> decide
   clear eh hx HE
   obtain ⟨xi, hxi⟩ : ∃ xi : Int, xi = (x.toNat : Int) := ⟨_, rfl⟩
   rw [← hxi] at hheads ⊢
   have HXI := Lib.hid hxi
   have hlen : r.length + 1 ≤ s.size := by have := HP4.out.1; simpa using this
   clear hxi
   go_upto_region 3 with (fail)
   go_cut [26] from 6 to 41 (fun bv wx => bv = .bool true ∧ W4 = wx)
   case first =>
    rcases hheads with rfl | rfl | rfl
    all_goals
     go_wp2_with fail
     go_meet
     case rel => exact ⟨rfl, rfl⟩
   case rest =>
    obtain ⟨rfl, rfl⟩ := hcut
    clear hheads
    go_wp2_with fail
    have HS5 := Lib.hid (HS4.out.setR 1 (.int .i64 (((s.size - (r.length + 1) : Nat) : Int) + 1)))
    have HP5 := Lib.hid HP4.out.next
    clear HS4 HP4 c0 c1 c2 c3 c4 cf v0 v1 v2 vf z0 z1 z2 zf
    generalize W4.setCell ⟨R, 1, none⟩ (.int .i64 (((s.size - (r.length + 1) : Nat) : Int) + 1)) = W5 at *
    obtain ⟨rn, hrn⟩ : ∃ rn, rn = addRd W d r := ⟨_, rfl⟩
    rw [← hrn] at HE2
    refine (HROW.out R s r d W5 HP5.out hs hd (by have := HM.out; have := HL1.out; simp only [List.length_cons] at this; omega)).mono ?_
    rw [← hrn]
    intro e w7 hr
    obtain ⟨o7, n7, A7, c7, rfl, hf, hst⟩ := hr.form
    have hS7 := HS5.out.call hf
    have a0 := fun ob => ((hS7.alloc ob).cells (.head _)).1
    have a1 := fun ob => ((hS7.alloc ob).cells (.head _)).2.1
    have a2 := fun ob => ((hS7.alloc ob).cells (.head _)).2.2.1
    have b0 := fun ob ob2 => (((hS7.alloc ob).alloc ob2).cells (.tail _ (.head _))).1
    have b1 := fun ob ob2 => (((hS7.alloc ob).alloc ob2).cells (.tail _ (.head _))).2.1
    have b2 := fun ob ob2 => (((hS7.alloc ob).alloc ob2).cells (.tail _ (.head _))).2.2.1
    have b3 := fun ob ob2 => (((hS7.alloc ob).alloc ob2).cells (.tail _ (.head _))).2.2.2
    have hQ := Lib.hid (((hS7.alloc (.cells #[.int .i64 o7, .int .i64 n7, .slice A7 c7 c7] 24)).alloc (.cells #[.int .i64 o, .int .i64 n, .slice A c c, .int .i64 o7, .int .i64 n7, .slice A7 c7 c7] 24)).out (.tail _ (.head _)) (.int .i64 xi) (.int .i64 0) (.slice (some ⟨w7.heap.size + 1, 0, none⟩) 2 2))
    have HEND : Hid (PReads R s d w r0 (.returned (.agg #[.int .i64 xi, .int .i64 0, .slice (some ⟨w7.heap.size + 1, 0, none⟩) 2 2])) (rset ((w7.alloc (.cells #[.int .i64 o7, .int .i64 n7, .slice A7 c7 c7] 24)).alloc (.cells #[.int .i64 o, .int .i64 n, .slice A c c, .int .i64 o7, .int .i64 n7, .slice A7 c7 c7] 24)) w.heap.size (.int .i64 xi) (.int .i64 0) (.slice (some ⟨w7.heap.size + 1, 0, none⟩) 2 2))) := by
     have hsz : (w7.alloc (.cells #[.int .i64 o7, .int .i64 n7, .slice A7 c7 c7] 24)).heap.size = w7.heap.size + 1 := by simp
     have hR7 := hS7.lt'
     show PReads _ _ _ _ _ _ _
     rw [HE2.out]
     rcases hst with ⟨b, l3, h1, ht, hp⟩ | ⟨k, j, h1, hp⟩
     ·rw [h1]
      have hS8 := ((HS5.out.tree hf ht).var (.int .i64 o7) (.int .i64 n7) (.slice A7 c7 c7)).two (.tail _ (.head _)) (.head _) HX.out
      rw [hsz, ← HXI.out] at hS8
      exact hS8.endOk (.tail _ (.tail _ (.head _))) (.head _) (hp.keep ((heap_alloc_old _ _ (by rw [hsz]; omega)).trans (heap_alloc_old _ _ hR7)))
     ·rw [h1]
      exact ((hS7.alloc _).alloc _).endBad (.tail _ (.head _)) (hp.keep ((heap_alloc_old _ _ (by rw [hsz]; omega)).trans (heap_alloc_old _ _ hR7)))
    clear hr hst hf hS7 HS5 HP5 hrn HE2
    go_wp2_with fail
    obtain ⟨q0, q1, q2⟩ := hQ.out
    refine ⟨rfl, .agg #[.int .i64 xi, .int .i64 0, .slice (some ⟨w7.heap.size + 1, 0, none⟩) 2 2], ?_, HEND.out⟩
    simp only [results, Tryz.results79]
    simp [go_sem, q0, q1, q2]
  ·have hno := fun y => headR_no (y := y) fun x r e hx => hmem ⟨x, r, e, hx⟩
   have b1 : (headR l1 == 61) = false := hno 61 (by simp) (by decide)
   have b2 : (headR l1 == 60) = false := hno 60 (by simp) (by decide)
   have b3 : (headR l1 == 62) = false := hno 62 (by simp) (by decide)
   have HE2 : Hid (r0 = .ok a l1) := HE.out.trans (cmp_tl fun x r e hx => hmem ⟨x, r, e, hx⟩)
   obtain ⟨q0, q1, q2⟩ := HS4.out.out (.tail _ (.head _)) (.int .i64 o) (.int .i64 n) (.slice A c c)
   have HEND := Lib.hid (HS4.out.endOk (.tail _ (.head _)) (.head _) HP4.out)
   clear hno hmem HE
   generalize headR l1 = cc at *
   go_wp2_with fail
   refine ⟨rfl, .agg #[.int .i64 o, .int .i64 n, .slice A c c], ?_, ?_⟩
   ·simp only [results, Tryz.results79]
    simp [go_sem, q0, q1, q2]
   ·rw [HE2.out]; exact HEND.out
 ·have HS3 := Lib.hid ((HS1.out.call hf).var (.int .i64 o) (.int .i64 n) (.slice A c c))
  have HP3 : Hid (PBad (w2.alloc (.cells #[.int .i64 o, .int .i64 n, .slice A c c] 24)) R s d (s.size - k : Nat) j) := hp.keep (heap_alloc_old _ _ hR2)
  have HE : Hid (r0 = .bad k j) := by show _ = _; rw [HR0.out, h1]; rfl
  clear hr hf hp h1 HR1 HR0 HS1 HP1
  go_wp2_with fail
  refine (ppeekBad R s d _ _ _ HP3.out).mono ?_
  rintro e w4 ⟨⟨cc, rfl⟩, q, rfl⟩
  have HP4 : Hid (PBad ((w2.alloc (.cells #[.int .i64 o, .int .i64 n, .slice A c c] 24)).drewN q) R s d (s.size - k : Nat) j) := HP3.out.keep rfl
  have HS4 := Lib.hid (HS3.out.drewN q)
  clear HS3 HP3 hR2
  generalize ga : w2.heap.size = g at *
  generalize (w2.alloc (.cells #[.int .i64 o, .int .i64 n, .slice A c c] 24)).drewN q = W4 at *
  obtain ⟨z0, z1, z2, zf⟩ := HS4.out.cells (.tail _ (.head _))
  obtain ⟨v0, v1, v2, vf⟩ := HS4.out.cells (.head _)
  obtain ⟨p', d', g1, g2, g3, g4, g5⟩ := HP4.out
  obtain ⟨c0, c1, c2, c3, c4, cf⟩ := g5.cells
  have d0 : (j == 0) = false := beq_eq_false_iff_ne.2 g4
  obtain ⟨q0, q1, q2⟩ := HS4.out.out (.tail _ (.head _)) (.int .i64 o) (.int .i64 n) (.slice A c c)
  have HEND := Lib.hid (HS4.out.endBad (.tail _ (.head _)) HP4.out (o := o) (n := n) (A := A) (c := c))
  clear g1 g2 g3 g4 g5
  go_wp2_with fail
  refine ⟨rfl, .agg #[.int .i64 o, .int .i64 n, .slice A c c], ?_, ?_⟩
  ·simp only [results, Tryz.results79]
   simp [go_sem, q0, q1, q2]
  ·rw [HE.out]; exact HEND.out
end Go.Proofs.YtfndhfekbbbliaaGreatDoor

/-
  The reference's reader: Whole. Conditions: the text takes at most 120 bytes, the depth is at most 20.
-/
namespace Go.Proofs.YtfndhfekbbbliaaGreatDoor
open Go.RowKit Go.ChangeShapes Go.WideShapes
set_option linter.unusedVariables false
def PReadsLt (f : Nat) (X : Reads) (m : Nat) : Prop := ∀ (R : Nat) (s : ByteArray) (l : List UInt8) (d : Nat) (w : World), PL w R s l d → s.size ≤ 120 → d ≤ 20 → l.length < m → Calls Tryz.prog f #[.pointer (some ⟨R, 0, none⟩)] w (PReads R s d w (X d l))
theorem PBad.dec {w : World} {R d : Nat} {s : ByteArray} {a e : Int} (h : PBad w R s (d + 1) a e) : ∃ p E D : Nat, p ≤ s.size ∧ PAt w R s p E a e ∧ (e == 0) = false ∧ (E : Int) - 1 = (D : Int) ∧ wrap64 (D : Int) = (D : Int) ∧ PBad (w.setCell ⟨R, 2, none⟩ (.int .i64 (D : Int))) R s d a e := by
 obtain ⟨p, d', h1, h2, h3, h4, h5⟩ := h
 obtain ⟨D, rfl⟩ : ∃ D, d' = D + 1 := ⟨d' - 1, by omega⟩
 exact ⟨p, D + 1, D, h1, h5, beq_eq_false_iff_ne.2 h4, by omega, by unfold wrap64; omega, p, D, h1, by omega, by omega, h4, h5.deeper D⟩
theorem PL.dec {w : World} {R d : Nat} {s : ByteArray} {l : List UInt8} (h : PL w R s l (d + 1)) (hd : d < 20) : ∃ (E : Nat) (wr : Int), PAt w R s (s.size - l.length) E wr 0 ∧ (E : Int) - 1 = (d : Int) ∧ wrap64 (d : Int) = (d : Int) ∧ PL (w.setCell ⟨R, 2, none⟩ (.int .i64 (d : Int))) R s l d := by
 obtain ⟨wr, h1⟩ := h.2.2
 exact ⟨d + 1, wr, h1, by omega, by unfold wrap64; omega, h.up⟩
theorem PSt.setvar {w0 w : World} {R : Nat} {ks : List (Nat × Value × Value × Value)} {ts : List (Value × Tr)} (h : PSt w0 R ks ts w) (i : Nat) (v : Value) (x y z : Value) : PSt w0 R ((w.heap.size, x, y, z) :: ks) ts ((w.setCell ⟨R, i, none⟩ v).alloc (.cells #[x, y, z] 24)) := by
 have h1 := (h.setR i v).var x y z
 have e : (w.setCell ⟨R, i, none⟩ v).heap.size = w.heap.size := by simp
 rwa [e] at h1
theorem keep_setalloc {w : World} {R j : Nat} (i : Nat) (v : Value) (ob : Obj) (h : j < w.heap.size) : ((w.setCell ⟨R, i, none⟩ v).alloc ob).heap[j]? = (w.setCell ⟨R, i, none⟩ v).heap[j]? := heap_alloc_old _ _ (by simpa using h)
theorem sel_no {W : Reads} {d : Nat} {a : Tr} {l : List UInt8} (h : ∀ x r, l = x :: r → x ∉ [63]) : selRd W d a l = .ok a l := by
 cases l with
 | nil => rfl
 | cons x r => simp only [selRd, if_neg (show ¬ x = 63 from fun e => h x r rfl (by simp [e]))]
theorem want_other {c : UInt8} {l : List UInt8} (f : List UInt8 → Rd) (h : ∀ r, l ≠ c :: r) : wantRd c l f = .bad l.length 2 := by
 cases l with
 | nil => rfl
 | cons x r => simp only [wantRd, if_neg (fun e : x = c => h r (e ▸ rfl))]
set_option maxRecDepth 100000 in
set_option maxHeartbeats 16000000 in
theorem pwhole_reads {W : Reads} {m : Nat} (hS : ∀ d, Short (W d)) (hcmp : PReadsAs 79 (cmpRd W) m) (hW : PReadsLt 35 W m) : PReadsAs 35 (wholeStep W) m := by
 intro R s l d w h hs hd hm
 obtain ⟨r1, hr1⟩ : ∃ r1, r1 = cmpRd W d l := ⟨_, rfl⟩
 obtain ⟨r0, hr0⟩ : ∃ r0, r0 = wholeStep W d l := ⟨_, rfl⟩
 have e0 : r0 = r1.bind (selRd W d) := by rw [hr0, hr1]; rfl
 rw [← hr0]
 have HR1 := Lib.hid hr1
 have HR0 := Lib.hid e0
 have HS := Lib.hid hS
 have HCMP := Lib.hid hcmp
 have HW := Lib.hid hW
 have hlt := h.lt
 have HLT := Lib.hid hlt
 have HM := Lib.hid hm
 have HS1 := Lib.hid ((PSt.start hlt).var (.int .i64 0) (.int .i64 0) (.slice none 0 0))
 have HP1 : Hid (PL (w.alloc (.cells #[.int .i64 0, .int .i64 0, .slice none 0 0] 24)) R s l d) := h.keep (heap_alloc_old _ _ hlt)
 clear hr0 hr1 e0 hS hcmp hW h hlt hm
 go_enter Tryz.func35, Tryz.ntmps35
 go_wp2_with fail
 refine (HCMP.out R s l d _ HP1.out hs hd HM.out).mono ?_
 rw [← HR1.out]
 intro e w2 hr
 obtain ⟨o, n, A, c, rfl, hf, hst⟩ := hr.form
 have hR2 := (HS1.out.call hf).lt'
 rcases hst with ⟨a, l1, h1, ht, hp⟩ | ⟨k, j, h1, hp⟩
 ·have HS3 := Lib.hid ((HS1.out.tree hf ht).var (.int .i64 o) (.int .i64 n) (.slice A c c))
  have HP3 : Hid (PL (w2.alloc (.cells #[.int .i64 o, .int .i64 n, .slice A c c] 24)) R s l1 d) := hp.keep (heap_alloc_old _ _ hR2)
  have HL1 : Hid (l1.length < l.length) := cmp_short HS.out d l a l1 (by rw [← HR1.out]; exact h1)
  have HE : Hid (r0 = selRd W d a l1) := by show _ = _; rw [HR0.out, h1]; rfl
  obtain ⟨wr1, hpa1⟩ := hp.2.2
  obtain ⟨c0, c1, c2, c3, c4, cf⟩ := hpa1.cells
  clear hr hf ht hp h1 HR1 HR0 HS1 HP1 hpa1
  go_wp2_with fail
  refine (ppeekL R s l1 d _ HP3.out).mono ?_
  rintro e w4 ⟨rfl, q, rfl⟩
  have HP4 : Hid (PL ((w2.alloc (.cells #[.int .i64 o, .int .i64 n, .slice A c c] 24)).drewN q) R s l1 d) := HP3.out.keep rfl
  have HS4 := Lib.hid (HS3.out.drewN q)
  clear HS3 HP3 hR2 c0 c1 c2 c3 c4 cf
  generalize ga : w2.heap.size = g at *
  generalize (w2.alloc (.cells #[.int .i64 o, .int .i64 n, .slice A c c] 24)).drewN q = W4 at *
  clear ga
  obtain ⟨z0, z1, z2, zf⟩ := HS4.out.cells (.tail _ (.head _))
  obtain ⟨v0, v1, v2, vf⟩ := HS4.out.cells (.head _)
  obtain ⟨wr, hpa⟩ := HP4.out.2.2
  obtain ⟨c0, c1, c2, c3, c4, cf⟩ := hpa.cells
  clear hpa
  by_cases hmem : ∃ r, l1 = 63 :: r
  ·obtain ⟨r, rfl⟩ := hmem
   have eh : headR (63 :: r) = 63 := rfl
   rw [eh]
   have hlen : r.length + 1 ≤ s.size := by have := HP4.out.1; simpa using this
   have HE2 : Hid (r0 = deepRd d (r.length + 1) ((W (d + 1) r).bind fun b l2 => wantRd 58 l2 fun l3 => (W (d + 1) l3).bind fun c l4 => .ok (.sel a b c) l4)) := by show _ = _; rw [HE.out]; simp only [selRd, if_true]
   have HRM : Hid (r.length < m) := by have h1 := HL1.out; simp only [List.length_cons] at h1; have := HM.out; show _ < _; omega
   clear HE eh HL1
   go_wp2_with fail
   have HS5 := Lib.hid (HS4.out.setR 1 (.int .i64 (((s.size - (r.length + 1) : Nat) : Int) + 1)))
   have HP5 := Lib.hid HP4.out.next
   clear HS4 HP4 c0 c1 c2 c3 c4 cf v0 v1 v2 vf z0 z1 z2 zf
   generalize W4.setCell ⟨R, 1, none⟩ (.int .i64 (((s.size - (r.length + 1) : Nat) : Int) + 1)) = W5 at *
   by_cases hd2 : d = 20
   ·subst hd2
    refine (pdownL_full R s r _ W5 HP5.out).mono ?_
    rintro e w6 ⟨rfl, hp, hf⟩
    have HS6 := Lib.hid (HS5.out.call hf)
    have HP6 := Lib.hid hp
    clear hp hf HS5 HP5
    obtain ⟨z0, z1, z2, zf⟩ := HS6.out.cells (.tail _ (.head _))
    obtain ⟨v0, v1, v2, vf⟩ := HS6.out.cells (.head _)
    have HE3 : Hid (r0 = .bad (r.length + 1) 4) := HE2.out
    obtain ⟨q0, q1, q2⟩ := HS6.out.out (.tail _ (.head _)) (.int .i64 o) (.int .i64 n) (.slice A c c)
    have HEND := Lib.hid (HS6.out.endBad (.tail _ (.head _)) HP6.out (o := o) (n := n) (A := A) (c := c))
    clear HE2
    go_wp2_with fail
    refine ⟨rfl, .agg #[.int .i64 o, .int .i64 n, .slice A c c], ?_, ?_⟩
    ·simp only [results, Tryz.results35]
     simp [go_sem, q0, q1, q2]
    ·rw [HE3.out]; exact HEND.out
   ·have hd3 : d < 20 := by omega
    refine (pdownL R d s r _ W5 HP5.out hd3).mono ?_
    rintro e w6 ⟨rfl, hp, hf⟩
    have HS6 := Lib.hid (HS5.out.call hf)
    have HP6 := Lib.hid hp
    obtain ⟨rb, hrb⟩ : ∃ rb, rb = W (d + 1) r := ⟨_, rfl⟩
    have HE3 : Hid (r0 = rb.bind fun b l2 => wantRd 58 l2 fun l3 => (W (d + 1) l3).bind fun c l4 => .ok (.sel a b c) l4) := by show _ = _; rw [HE2.out, hrb]; unfold deepRd; rw [if_neg hd2]
    have HRB := Lib.hid hrb
    clear hp hf HS5 HP5 HE2 hrb
    go_wp2_with fail
    refine (HW.out R s r (d + 1) w6 HP6.out hs (by omega) HRM.out).mono ?_
    rw [← HRB.out]
    intro e w7 hr
    obtain ⟨o7, n7, A7, c7, rfl, hf, hst⟩ := hr.form
    have hR7 := (HS6.out.call hf).lt'
    rcases hst with ⟨b, l2, h1, ht, hp⟩ | ⟨k, j, h1, hp⟩
    ·have HE4 : Hid (r0 = wantRd 58 l2 fun l3 => (W (d + 1) l3).bind fun c l4 => .ok (.sel a b c) l4) := by show _ = _; rw [HE3.out, h1]; rfl
     have HL2 : Hid (l2.length < r.length) := HS.out (d + 1) r b l2 (by rw [← HRB.out]; exact h1)
     obtain ⟨E, wr7, g2, g3, g4, g5⟩ := hp.dec hd3
     obtain ⟨c0, c1, c2, c3, c4, cf⟩ := g2.cells
     have HS8 := Lib.hid ((HS6.out.tree hf ht).setvar 2 (.int .i64 (d : Int)) (.int .i64 o7) (.int .i64 n7) (.slice A7 c7 c7))
     have HP8 : Hid (PL ((w7.setCell ⟨R, 2, none⟩ (.int .i64 (d : Int))).alloc (.cells #[.int .i64 o7, .int .i64 n7, .slice A7 c7 c7] 24)) R s l2 d) := g5.keep (keep_setalloc 2 _ _ hR7)
     clear hr hf hp h1 ht HE3 HS6 HP6 g2 g5 HRB
     go_wp2_with fail
     generalize gb : w7.heap.size = g2 at *
     clear c0 c1 c2 c3 c4 cf g3 g4
     generalize (w7.setCell ⟨R, 2, none⟩ (.int .i64 (d : Int))).alloc (.cells #[.int .i64 o7, .int .i64 n7, .slice A7 c7 c7] 24) = W8 at *
     by_cases hw : ∃ l3, l2 = 58 :: l3
     ·obtain ⟨l3, rfl⟩ := hw
      have HE5 : Hid (r0 = (W (d + 1) l3).bind fun c l4 => .ok (.sel a b c) l4) := by show _ = _; rw [HE4.out]; simp only [wantRd, if_true]
      have hat : (58 :: l3 : List UInt8).length = l3.length + 1 := rfl
      refine (pwantL_yes R s 58 l3 d W8 HP8.out hs).mono ?_
      rintro e w9 ⟨rfl, hp, hf⟩
      have HS9 := Lib.hid (HS8.out.call hf)
      have HP9 := Lib.hid hp
      obtain ⟨wr9, hpa⟩ := hp.2.2
      obtain ⟨c0, c1, c2, c3, c4, cf⟩ := hpa.cells
      clear hp hf HS8 HP8 hpa HE4
      go_wp2_with fail
      refine (pdownL R d s l3 _ w9 HP9.out hd3).mono ?_
      rintro e w10 ⟨rfl, hp, hf⟩
      have HS10 := Lib.hid (HS9.out.call hf)
      have HP10 := Lib.hid hp
      obtain ⟨rc, hrc⟩ : ∃ rc, rc = W (d + 1) l3 := ⟨_, rfl⟩
      rw [← hrc] at HE5
      clear hp hf HS9 HP9 c0 c1 c2 c3 c4 cf
      go_wp2_with fail
      refine (HW.out R s l3 (d + 1) w10 HP10.out hs (by omega) (by have := HL2.out; have := HRM.out; simp only [List.length_cons] at *; omega)).mono ?_
      rw [← hrc]
      clear hrc
      intro e w11 hr
      obtain ⟨o9, n9, A9, c9, rfl, hf, hst⟩ := hr.form
      have hS11 := HS10.out.call hf
      have hR11 := hS11.lt'
      have a0 := fun v ob => (((hS11.setR 2 v).alloc ob).cells (.tail _ (.head _))).1
      have a1 := fun v ob => (((hS11.setR 2 v).alloc ob).cells (.tail _ (.head _))).2.1
      have a2 := fun v ob => (((hS11.setR 2 v).alloc ob).cells (.tail _ (.head _))).2.2.1
      have b0 := fun v ob => (((hS11.setR 2 v).alloc ob).cells (.head _)).1
      have b1 := fun v ob => (((hS11.setR 2 v).alloc ob).cells (.head _)).2.1
      have b2 := fun v ob => (((hS11.setR 2 v).alloc ob).cells (.head _)).2.2.1
      have z0 := fun v ob ob2 => ((((hS11.setR 2 v).alloc ob).alloc ob2).cells (.tail _ (.tail _ (.head _)))).1
      have z1 := fun v ob ob2 => ((((hS11.setR 2 v).alloc ob).alloc ob2).cells (.tail _ (.tail _ (.head _)))).2.1
      have z2 := fun v ob ob2 => ((((hS11.setR 2 v).alloc ob).alloc ob2).cells (.tail _ (.tail _ (.head _)))).2.2.1
      have z3 := fun v ob ob2 => ((((hS11.setR 2 v).alloc ob).alloc ob2).cells (.tail _ (.tail _ (.head _)))).2.2.2
      have HFIN : Hid (∃ (p E D : Nat) (wr bd : Int), PAt w11 R s p E wr bd ∧ (E : Int) - 1 = (D : Int) ∧ wrap64 (D : Int) = (D : Int) ∧
        PReads R s d w r0 (.returned (.agg #[.int .i64 63, .int .i64 0, .slice (some ⟨w11.heap.size + 1, 0, none⟩) 3 3])) (rset (((w11.setCell ⟨R, 2, none⟩ (.int .i64 (D : Int))).alloc (.cells #[.int .i64 o9, .int .i64 n9, .slice A9 c9 c9] 24)).alloc (.cells #[.int .i64 o, .int .i64 n, .slice A c c, .int .i64 o7, .int .i64 n7, .slice A7 c7 c7, .int .i64 o9, .int .i64 n9, .slice A9 c9 c9] 24)) w.heap.size (.int .i64 63) (.int .i64 0) (.slice (some ⟨w11.heap.size + 1, 0, none⟩) 3 3))) := by
       show ∃ _, _
       have hsz : ∀ v, ((w11.setCell ⟨R, 2, none⟩ v).alloc (.cells #[.int .i64 o9, .int .i64 n9, .slice A9 c9 c9] 24)).heap.size = w11.heap.size + 1 := fun v => by simp
       rw [HE5.out]
       rcases hst with ⟨c', l4, h1, ht, hp⟩ | ⟨k, j, h1, hp⟩
       ·obtain ⟨E', wr', g2', g3', g4', g5'⟩ := hp.dec hd3
        rw [h1]
        refine ⟨_, E', d, wr', 0, g2', g3', g4', ?_⟩
        have hS12 := ((HS10.out.tree hf ht).setvar 2 (.int .i64 (d : Int)) (.int .i64 o9) (.int .i64 n9) (.slice A9 c9 c9)).three (.tail _ (.tail _ (.head _))) (.tail _ (.head _)) (.head _)
        rw [hsz] at hS12
        exact hS12.endOk (.tail _ (.tail _ (.tail _ (.head _)))) (.head _) (g5'.keep ((heap_alloc_old _ _ (by rw [hsz]; omega)).trans (keep_setalloc 2 _ _ hR11)))
       ·obtain ⟨p', E', D, g1', g2', g3', g4', g5', g6'⟩ := hp.dec
        rw [h1]
        refine ⟨_, E', D, _, j, g2', g4', g5', ?_⟩
        exact (((hS11.setR 2 _).alloc _).alloc _).endBad (.tail _ (.tail _ (.head _))) (g6'.keep ((heap_alloc_old _ _ (by rw [hsz]; omega)).trans (keep_setalloc 2 _ _ hR11)))
      have HQ : Hid (∀ v ob ob2, (rset (((w11.setCell ⟨R, 2, none⟩ v).alloc ob).alloc ob2) w.heap.size (.int .i64 63) (.int .i64 0) (.slice (some ⟨w11.heap.size + 1, 0, none⟩) 3 3)).cell? ⟨w.heap.size, 0, none⟩ = some (.int .i64 63) ∧ (rset (((w11.setCell ⟨R, 2, none⟩ v).alloc ob).alloc ob2) w.heap.size (.int .i64 63) (.int .i64 0) (.slice (some ⟨w11.heap.size + 1, 0, none⟩) 3 3)).cell? ⟨w.heap.size, 1, none⟩ = some (.int .i64 0) ∧ (rset (((w11.setCell ⟨R, 2, none⟩ v).alloc ob).alloc ob2) w.heap.size (.int .i64 63) (.int .i64 0) (.slice (some ⟨w11.heap.size + 1, 0, none⟩) 3 3)).cell? ⟨w.heap.size, 2, none⟩ = some (.slice (some ⟨w11.heap.size + 1, 0, none⟩) 3 3)) :=
       fun v ob ob2 => (((hS11.setR 2 v).alloc ob).alloc ob2).out (.tail _ (.tail _ (.head _))) _ _ _
      clear hr hst hf hS11 HS10 HP10 HE5
      obtain ⟨p', E', D, wr', bd, g1', g2', g3', hend⟩ := HFIN.out
      obtain ⟨c0, c1, c2, c3, c4, cf⟩ := g1'.cells
      have HEND := Lib.hid hend
      clear hend g1' HFIN
      go_wp2_with fail
      refine ⟨rfl, .agg #[.int .i64 63, .int .i64 0, .slice (some ⟨w11.heap.size + 1, 0, none⟩) 3 3], ?_, HEND.out⟩
      obtain ⟨q0, q1, q2⟩ := HQ.out (.int .i64 (D : Int)) (.cells #[.int .i64 o9, .int .i64 n9, .slice A9 c9 c9] 24) (.cells #[.int .i64 o, .int .i64 n, .slice A c c, .int .i64 o7, .int .i64 n7, .slice A7 c7 c7, .int .i64 o9, .int .i64 n9, .slice A9 c9 c9] 24)
      simp only [rset] at q0 q1 q2
      simp only [results, Tryz.results35]
      simp [go_sem, q0, q1, q2]
     ·have HE5 : Hid (r0 = .bad l2.length 2) := HE4.out.trans (want_other _ fun r e => hw ⟨r, e⟩)
      refine (pwantL_no R s 58 l2 d W8 HP8.out hs hd fun r e => hw ⟨r, e⟩).mono ?_
      rintro e w9 ⟨rfl, hp, hf⟩
      have hS9 := HS8.out.call hf
      obtain ⟨z0, z1, z2, zf⟩ := hS9.cells (.tail _ (.tail _ (.head _)))
      obtain ⟨v0, v1, v2, vf⟩ := hS9.cells (.tail _ (.head _))
      obtain ⟨q0, q1, q2⟩ := hS9.out (.tail _ (.tail _ (.head _))) (.int .i64 o) (.int .i64 n) (.slice A c c)
      have HEND := Lib.hid (hS9.endBad (.tail _ (.tail _ (.head _))) hp (o := o) (n := n) (A := A) (c := c))
      obtain ⟨p', d', g1', g2', g3', g4', g5'⟩ := hp
      obtain ⟨c0, c1, c2, c3, c4, cf⟩ := g5'.cells
      have HQ := Lib.hid (And.intro q0 (And.intro q1 q2))
      clear hf hS9 HS8 HP8 HE4 g1' g2' g3' g4' g5' q0 q1 q2
      go_wp2_with fail
      obtain ⟨q0, q1, q2⟩ := HQ.out
      refine ⟨rfl, .agg #[.int .i64 o, .int .i64 n, .slice A c c], ?_, ?_⟩
      ·simp only [results, Tryz.results35]
       simp [go_sem, q0, q1, q2]
      ·rw [HE5.out]; exact HEND.out
    ·have HE4 : Hid (r0 = .bad k j) := by show _ = _; rw [HE3.out, h1]; rfl
     obtain ⟨p', E, D, g1, g2, g3, g4, g5, g6⟩ := hp.dec
     obtain ⟨c0, c1, c2, c3, c4, cf⟩ := g2.cells
     have hS8 := (HS6.out.call hf).setvar 2 (.int .i64 (D : Int)) (.int .i64 o7) (.int .i64 n7) (.slice A7 c7 c7)
     have HS8 := Lib.hid hS8
     have HP8 : Hid (PBad ((w7.setCell ⟨R, 2, none⟩ (.int .i64 (D : Int))).alloc (.cells #[.int .i64 o7, .int .i64 n7, .slice A7 c7 c7] 24)) R s d (s.size - k : Nat) j) := g6.keep (keep_setalloc 2 _ _ hR7)
     obtain ⟨z0, z1, z2, zf⟩ := hS8.cells (.tail _ (.tail _ (.head _)))
     obtain ⟨v0, v1, v2, vf⟩ := hS8.cells (.tail _ (.head _))
     obtain ⟨q0, q1, q2⟩ := hS8.out (.tail _ (.tail _ (.head _))) (.int .i64 o) (.int .i64 n) (.slice A c c)
     have HEND := Lib.hid (hS8.endBad (.tail _ (.tail _ (.head _))) HP8.out (o := o) (n := n) (A := A) (c := c))
     have HQ := Lib.hid (And.intro q0 (And.intro q1 q2))
     clear hr hf hp h1 hS8 HE3 HS6 HP6 HP8 g6 q0 q1 q2
     go_wp2_with fail
     obtain ⟨q0, q1, q2⟩ := HQ.out
     refine ⟨rfl, .agg #[.int .i64 o, .int .i64 n, .slice A c c], ?_, ?_⟩
     ·simp only [results, Tryz.results35]
      simp [go_sem, q0, q1, q2]
     ·rw [HE4.out]; exact HEND.out
  ·have hno := fun y => headR_no (l := l1) (ops := [63]) (y := y) fun x r e hx => hmem ⟨r, by rw [e, List.mem_singleton.1 hx]⟩
   have b1 : (headR l1 == 63) = false := hno 63 (by simp) (by decide)
   have HE2 : Hid (r0 = .ok a l1) := HE.out.trans (sel_no fun x r e hx => hmem ⟨r, by rw [e, List.mem_singleton.1 hx]⟩)
   obtain ⟨q0, q1, q2⟩ := HS4.out.out (.tail _ (.head _)) (.int .i64 o) (.int .i64 n) (.slice A c c)
   have HEND := Lib.hid (HS4.out.endOk (.tail _ (.head _)) (.head _) HP4.out)
   clear hno hmem HE
   generalize headR l1 = cc at *
   go_wp2_with fail
   refine ⟨rfl, .agg #[.int .i64 o, .int .i64 n, .slice A c c], ?_, ?_⟩
   ·simp only [results, Tryz.results35]
    simp [go_sem, q0, q1, q2]
   ·rw [HE2.out]; exact HEND.out
 ·have HS3 := Lib.hid ((HS1.out.call hf).var (.int .i64 o) (.int .i64 n) (.slice A c c))
  have HP3 : Hid (PBad (w2.alloc (.cells #[.int .i64 o, .int .i64 n, .slice A c c] 24)) R s d (s.size - k : Nat) j) := hp.keep (heap_alloc_old _ _ hR2)
  have HE : Hid (r0 = .bad k j) := by show _ = _; rw [HR0.out, h1]; rfl
  obtain ⟨p1, d1, g1, g2, g3, g4, g5⟩ := hp
  obtain ⟨c0, c1, c2, c3, c4, cf⟩ := g5.cells
  clear hr hf h1 HR1 HR0 HS1 HP1 g1 g2 g3 g4 g5
  go_wp2_with fail
  refine (ppeekBad R s d _ _ _ HP3.out).mono ?_
  rintro e w4 ⟨⟨cc, rfl⟩, q, rfl⟩
  have HP4 : Hid (PBad ((w2.alloc (.cells #[.int .i64 o, .int .i64 n, .slice A c c] 24)).drewN q) R s d (s.size - k : Nat) j) := HP3.out.keep rfl
  have HS4 := Lib.hid (HS3.out.drewN q)
  clear HS3 HP3 hR2 c0 c1 c2 c3 c4 cf
  generalize ga : w2.heap.size = g at *
  generalize (w2.alloc (.cells #[.int .i64 o, .int .i64 n, .slice A c c] 24)).drewN q = W4 at *
  clear ga
  obtain ⟨z0, z1, z2, zf⟩ := HS4.out.cells (.tail _ (.head _))
  obtain ⟨v0, v1, v2, vf⟩ := HS4.out.cells (.head _)
  obtain ⟨p', d', g1, g2, g3, g4, g5⟩ := HP4.out
  obtain ⟨c0, c1, c2, c3, c4, cf⟩ := g5.cells
  have d0 : (j == 0) = false := beq_eq_false_iff_ne.2 g4
  obtain ⟨q0, q1, q2⟩ := HS4.out.out (.tail _ (.head _)) (.int .i64 o) (.int .i64 n) (.slice A c c)
  have HEND := Lib.hid (HS4.out.endBad (.tail _ (.head _)) HP4.out (o := o) (n := n) (A := A) (c := c))
  clear g1 g2 g3 g4 g5
  go_wp2_with fail
  refine ⟨rfl, .agg #[.int .i64 o, .int .i64 n, .slice A c c], ?_, ?_⟩
  ·simp only [results, Tryz.results35]
   simp [go_sem, q0, q1, q2]
  ·rw [HE.out]; exact HEND.out
end Go.Proofs.YtfndhfekbbbliaaGreatDoor

/-
  The reference's reader: one, where two stand in brackets. Conditions: the text takes at most 120 bytes, the depth is at most 20.
-/
namespace Go.Proofs.YtfndhfekbbbliaaGreatDoor
open Go.RowKit Go.ChangeShapes Go.WideShapes
set_option linter.unusedVariables false
set_option maxRecDepth 100000 in
set_option maxHeartbeats 32000000 in
theorem pone_two {W : Reads} {m : Nat} (hS : ∀ d, Short (W d)) (hW : PReadsLt 35 W m) (R : Nat) (s : ByteArray) (l r : List UInt8) (op : UInt8) (d : Nat) (w : World) (h : PL w R s l d) (hs : s.size ≤ 120) (hd : d ≤ 20) (hm : l.length ≤ m)
  (hl : (op = 109 ∧ l = 109 :: 105 :: 110 :: 40 :: r) ∨ (op = 77 ∧ l = 109 :: 97 :: 120 :: 40 :: r)) :
  Calls Tryz.prog 176 #[.pointer (some ⟨R, 0, none⟩)] w (PReads R s d w (deepRd d l.length (twoRd W op (d + 1) r))) := by
 obtain ⟨r0, hr0⟩ : ∃ r0, r0 = deepRd d l.length (twoRd W op (d + 1) r) := ⟨_, rfl⟩
 rw [← hr0]
 have HR0 := Lib.hid hr0
 have HS := Lib.hid hS
 have HW := Lib.hid hW
 have hlt := h.lt
 have HLT := Lib.hid hlt
 have HS1 := Lib.hid ((PSt.start hlt).var (.int .i64 0) (.int .i64 0) (.slice none 0 0))
 have HP1 : Hid (PL (w.alloc (.cells #[.int .i64 0, .int .i64 0, .slice none 0 0] 24)) R s l d) := h.keep (heap_alloc_old _ _ hlt)
 obtain ⟨wr1, hpa1⟩ := h.2.2
 obtain ⟨c0, c1, c2, c3, c4, cf⟩ := hpa1.cells
 have hrl : l.length = r.length + 4 := by rcases hl with ⟨_, rfl⟩ | ⟨_, rfl⟩ <;> rfl
 have HRM : Hid (r.length < m) := by show _ < _; omega
 have hll : l.length ≤ s.size := h.1
 have hop : op ∈ binOps := by rcases hl with ⟨rfl, _⟩ | ⟨rfl, _⟩ <;> decide
 have HOP := Lib.hid hop
 have hpre : (op = 109 ∧ l = 109 :: 105 :: 110 :: 40 :: r) ∨ (op = 77 ∧ l = 109 :: 97 :: 120 :: 40 :: r ∧ Lib.hasPrefix l (⟨#[109, 105, 110, 40]⟩ : ByteArray).data.toList = false) := by
  rcases hl with h | ⟨h1, h2⟩
  ·exact .inl h
  ·exact .inr ⟨h1, h2, by rw [h2]; simp [Lib.hasPrefix, List.isPrefixOf]⟩
 clear hr0 hS hW h hm hl hop
 obtain ⟨at_, hat⟩ : ∃ at_ : Nat, at_ = s.size - l.length := ⟨_, rfl⟩
 rw [← hat] at c1
 have HAT := Lib.hid hat
 clear hat hpa1 hrl hll
 go_enter Tryz.func176, Tryz.ntmps176
 rcases hpre with ⟨eop, hl⟩ | ⟨eop, hl, hno⟩
 case' inl =>
  have HHL := Lib.hid hl
  have HOPI : Hid ((op.toNat : Int) = 109) := by rw [eop]; rfl
  clear hl eop
  go_wp2_with fail
  refine (pisL_yes R s ⟨#[109, 105, 110, 40]⟩ l r d _ HP1.out hs (by show 4 ≤ 10; omega) HHL.out).mono ?_
  rintro e w2 ⟨rfl, hp, hf⟩
  have HS2 := Lib.hid (HS1.out.call hf)
  have HP2 := Lib.hid hp
  clear hp hf HS1 HP1 c0 c1 c2 c3 c4 cf HHL hlt
  go_wp2_with fail
 case' inr =>
  have HHL := Lib.hid hl
  have HOPI : Hid ((op.toNat : Int) = 77) := by rw [eop]; rfl
  clear hl eop
  go_wp2_with fail
  refine (pisL_no R s ⟨#[109, 105, 110, 40]⟩ l d _ HP1.out hs (by show 4 ≤ 10; omega) hno).mono ?_
  rintro e w1 ⟨rfl, hp, hf⟩
  have HS1b := Lib.hid (HS1.out.call hf)
  have HP1b := Lib.hid hp
  clear hp hf HS1 HP1 c0 c1 c2 c3 c4 cf hlt
  go_wp2_with fail
  refine (pisL_yes R s ⟨#[109, 97, 120, 40]⟩ l r d _ HP1b.out hs (by show 4 ≤ 10; omega) HHL.out).mono ?_
  rintro e w2 ⟨rfl, hp, hf⟩
  have HS2 := Lib.hid (HS1b.out.call hf)
  have HP2 := Lib.hid hp
  clear hp hf HS1b HP1b HHL hno
  go_wp2_with fail
 all_goals
  by_cases hd2 : d = 20
  ·subst hd2
   refine (pdownL_full R s r _ w2 HP2.out).mono ?_
   rintro e w3 ⟨rfl, hp, hf⟩
   have hS3 := HS2.out.call hf
   have HE : Hid (r0 = .bad l.length 4) := HR0.out
   have hp2 : PBad w3 R s 20 (s.size - l.length : Nat) 4 := by rw [← HAT.out]; exact hp
   have HEND := Lib.hid (hS3.endBad (.head _) hp2 (o := 0) (n := 0) (A := none) (c := 0))
   obtain ⟨z0, z1, z2, zf⟩ := hS3.cells (.head _)
   have HQ := Lib.hid (hS3.out (.head _) (.int .i64 0) (.int .i64 0) (.slice none 0 0))
   clear hp hf hp2 hS3 HS2 HP2 HR0
   go_wp2_with fail
   obtain ⟨q0, q1, q2⟩ := HQ.out
   refine ⟨rfl, .agg #[.int .i64 0, .int .i64 0, .slice none 0 0], ?_, ?_⟩
   ·simp only [results, Tryz.results176]
    simp [go_sem, q0, q1, q2]
   ·rw [HE.out]; exact HEND.out
  ·have hd3 : d < 20 := by omega
   refine (pdownL R d s r _ w2 HP2.out hd3).mono ?_
   rintro e w3 ⟨rfl, hp, hf⟩
   have HS3 := Lib.hid (HS2.out.call hf)
   have HP3 := Lib.hid hp
   obtain ⟨ra, hra⟩ : ∃ ra, ra = W (d + 1) r := ⟨_, rfl⟩
   have HE : Hid (r0 = ra.bind fun a l1 => wantRd 44 l1 fun l2 => (W (d + 1) l2).bind fun b l3 => wantRd 41 l3 fun l4 => .ok (.bin op a b) l4) := by show _ = _; rw [HR0.out, hra]; unfold deepRd twoRd; rw [if_neg hd2]
   have HRA := Lib.hid hra
   clear hp hf HS2 HP2 HR0 hra
   go_wp2_with fail
   refine (HW.out R s r (d + 1) w3 HP3.out hs (by omega) HRM.out).mono ?_
   rw [← HRA.out]
   intro e w4 hr
   obtain ⟨o, n, A, c, rfl, hf, hst⟩ := hr.form
   have hR4 := (HS3.out.call hf).lt'
   rcases hst with ⟨a, l1, h1, ht, hp⟩ | ⟨k, j, h1, hp⟩
   ·have HE2 : Hid (r0 = wantRd 44 l1 fun l2 => (W (d + 1) l2).bind fun b l3 => wantRd 41 l3 fun l4 => .ok (.bin op a b) l4) := by show _ = _; rw [HE.out, h1]; rfl
    have HL1 : Hid (l1.length < r.length) := HS.out (d + 1) r a l1 (by rw [← HRA.out]; exact h1)
    have HS5 := Lib.hid ((HS3.out.tree hf ht).var (.int .i64 o) (.int .i64 n) (.slice A c c))
    have HP5 : Hid (PL (w4.alloc (.cells #[.int .i64 o, .int .i64 n, .slice A c c] 24)) R s l1 (d + 1)) := hp.keep (heap_alloc_old _ _ hR4)
    obtain ⟨wr4, hpa⟩ := hp.2.2
    obtain ⟨c0, c1, c2, c3, c4, cf⟩ := hpa.cells
    clear hr hf hp h1 ht HE HS3 HP3 hpa HRA
    go_wp2_with fail
    generalize gb : w4.heap.size = g at *
    clear c0 c1 c2 c3 c4 cf
    generalize w4.alloc (.cells #[.int .i64 o, .int .i64 n, .slice A c c] 24) = W5 at *
    clear gb
    by_cases hw : ∃ l2, l1 = 44 :: l2
    ·obtain ⟨l2, rfl⟩ := hw
     refine (pwantL_yes R s 44 l2 (d + 1) W5 HP5.out hs).mono ?_
     rintro e w6 ⟨rfl, hp, hf⟩
     have HS6 := Lib.hid (HS5.out.call hf)
     have HP6 := Lib.hid hp
     obtain ⟨wr6, hpa⟩ := hp.2.2
     obtain ⟨c0, c1, c2, c3, c4, cf⟩ := hpa.cells
     obtain ⟨rb, hrb⟩ : ∃ rb, rb = W (d + 1) l2 := ⟨_, rfl⟩
     have HE3 : Hid (r0 = rb.bind fun b l3 => wantRd 41 l3 fun l4 => .ok (.bin op a b) l4) := by show _ = _; rw [HE2.out, hrb]; simp only [wantRd, if_true]
     have HRB := Lib.hid hrb
     clear hp hf HS5 HP5 hpa HE2 hrb
     go_wp2_with fail
     refine (HW.out R s l2 (d + 1) w6 HP6.out hs (by omega) (by have := HL1.out; have := HRM.out; simp only [List.length_cons] at *; omega)).mono ?_
     rw [← HRB.out]
     clear c0 c1 c2 c3 c4 cf
     intro e w7 hr
     obtain ⟨o7, n7, A7, c7, rfl, hf, hst⟩ := hr.form
     have hS7 := HS6.out.call hf
     have hR7 := hS7.lt'
     rcases hst with ⟨b, l3, h1, ht, hp⟩ | ⟨k, j, h1, hp⟩
     ·have HE4 : Hid (r0 = wantRd 41 l3 fun l4 => .ok (.bin op a b) l4) := by show _ = _; rw [HE3.out, h1]; rfl
      have HS8 := Lib.hid ((HS6.out.tree hf ht).var (.int .i64 o7) (.int .i64 n7) (.slice A7 c7 c7))
      have HP8 : Hid (PL (w7.alloc (.cells #[.int .i64 o7, .int .i64 n7, .slice A7 c7 c7] 24)) R s l3 (d + 1)) := hp.keep (heap_alloc_old _ _ hR7)
      obtain ⟨wr7, hpa⟩ := hp.2.2
      obtain ⟨c0, c1, c2, c3, c4, cf⟩ := hpa.cells
      clear hr hf hp h1 ht HE3 HS6 HP6 hpa HRB hS7
      go_wp2_with fail
      generalize gb : w7.heap.size = g2 at *
      clear c0 c1 c2 c3 c4 cf
      generalize w7.alloc (.cells #[.int .i64 o7, .int .i64 n7, .slice A7 c7 c7] 24) = W8 at *
      clear gb hR7
      have HC : Hid (Calls Tryz.prog 82 #[.pointer (some ⟨R, 0, none⟩), .string ⟨#[41]⟩] W8 fun e w9 => e = .returned (.tuple #[]) ∧ Hid (Frm (· = R) W8 w9) ∧
        Hid (∃ (p E D : Nat) (wr bd : Int), PAt w9 R s p E wr bd ∧ (E : Int) - 1 = (D : Int) ∧ wrap64 (D : Int) = (D : Int) ∧ ((∃ l4, r0 = .ok (.bin op a b) l4 ∧ PL (w9.setCell ⟨R, 2, none⟩ (.int .i64 (D : Int))) R s l4 d) ∨ (∃ k j, r0 = .bad k j ∧ PBad (w9.setCell ⟨R, 2, none⟩ (.int .i64 (D : Int))) R s d (s.size - k : Nat) j)))) := by
       show Calls _ _ _ _ _
       by_cases hw : ∃ l4, l3 = 41 :: l4
       ·obtain ⟨l4, rfl⟩ := hw
        refine (pwantL_yes R s 41 l4 (d + 1) W8 HP8.out hs).mono ?_
        rintro e w9 ⟨h1, hp, hf⟩
        obtain ⟨E, wr', g2, g3, g4, g5⟩ := hp.dec hd3
        exact ⟨h1, hf, _, E, d, wr', 0, g2, g3, g4, .inl ⟨l4, by rw [HE4.out]; simp only [wantRd, if_true], g5⟩⟩
       ·refine (pwantL_no R s 41 l3 (d + 1) W8 HP8.out hs (by omega) fun r e => hw ⟨r, e⟩).mono ?_
        rintro e w9 ⟨h1, hp, hf⟩
        obtain ⟨p', E, D, g1, g2, g3, g4, g5, g6⟩ := hp.dec
        exact ⟨h1, hf, p', E, D, _, _, g2, g4, g5, .inr ⟨_, _, HE4.out.trans (want_other _ fun r e => hw ⟨r, e⟩), g6⟩⟩
      refine HC.out.mono ?_
      rintro e w9 ⟨rfl, HF9, HX9⟩
      have hS9 := HS8.out.call HF9.out
      obtain ⟨p', E', D, wr', bd, g1', g2', g3', hx9⟩ := HX9.out
      have HX9b := Lib.hid hx9
      obtain ⟨c0, c1, c2, c3, c4, cf⟩ := g1'.cells
      have a0 := fun v => ((hS9.setR 2 v).cells (.tail _ (.head _))).1
      have a1 := fun v => ((hS9.setR 2 v).cells (.tail _ (.head _))).2.1
      have a2 := fun v => ((hS9.setR 2 v).cells (.tail _ (.head _))).2.2.1
      have b0 := fun v => ((hS9.setR 2 v).cells (.head _)).1
      have b1 := fun v => ((hS9.setR 2 v).cells (.head _)).2.1
      have b2 := fun v => ((hS9.setR 2 v).cells (.head _)).2.2.1
      have z0 := fun v ob => (((hS9.setR 2 v).alloc ob).cells (.tail _ (.tail _ (.head _)))).1
      have z1 := fun v ob => (((hS9.setR 2 v).alloc ob).cells (.tail _ (.tail _ (.head _)))).2.1
      have z2 := fun v ob => (((hS9.setR 2 v).alloc ob).cells (.tail _ (.tail _ (.head _)))).2.2.1
      have z3 := fun v ob => (((hS9.setR 2 v).alloc ob).cells (.tail _ (.tail _ (.head _)))).2.2.2
      have HQ : Hid (∀ v ob x y z, _ ∧ _ ∧ _) := fun v ob x y z => ((hS9.setR 2 v).alloc ob).out (.tail _ (.tail _ (.head _))) x y z
      have hsz : (w9.setCell ⟨R, 2, none⟩ (.int .i64 (D : Int))).heap.size = w9.heap.size := by simp
      have hS10 := (hS9.setR 2 (.int .i64 (D : Int))).two (.tail _ (.head _)) (.head _) HOP.out
      rw [hsz, HOPI.out] at hS10
      have HS10 := Lib.hid hS10
      have HLT9 := Lib.hid hS9.lt'
      clear HC HE4 HS8 HP8 HF9 HX9 hx9 hS9 hS10 hsz g1'
      go_wp2_with fail
      refine ⟨rfl, .agg #[.int .i64 (op.toNat : Int), .int .i64 0, .slice (some ⟨w9.heap.size, 0, none⟩) 2 2], ?_, ?_⟩
      all_goals rw [HOPI.out]
      rotate_left
      ·show PReads R s d w r0 _ (rset _ w.heap.size _ _ _)
       rcases HX9b.out with ⟨l4, e1, e2⟩ | ⟨k, j, e1, e2⟩
       ·rw [e1]
        exact HS10.out.endOk (.tail _ (.tail _ (.head _))) (.head _) (e2.keep (keep_setalloc 2 _ _ HLT9.out))
       ·rw [e1]
        exact HS10.out.endBad (.tail _ (.tail _ (.head _))) (e2.keep (keep_setalloc 2 _ _ HLT9.out))
      ·obtain ⟨q0, q1, q2⟩ := HQ.out (.int .i64 (D : Int)) (.cells #[.int .i64 o, .int .i64 n, .slice A c c, .int .i64 o7, .int .i64 n7, .slice A7 c7 c7] 24) (.int .i64 (op.toNat : Int)) (.int .i64 0) (.slice (some ⟨w9.heap.size, 0, none⟩) 2 2)
       rw [HOPI.out] at q0 q1 q2
       simp only [results, Tryz.results176]
       simp [go_sem, q0, q1, q2]
     ·have HE4 : Hid (r0 = .bad k j) := by show _ = _; rw [HE3.out, h1]; rfl
      obtain ⟨p', E, D, g1, g2, g3, g4, g5, g6⟩ := hp.dec
      obtain ⟨c0, c1, c2, c3, c4, cf⟩ := g2.cells
      have hS8 := hS7.setvar 2 (.int .i64 (D : Int)) (.int .i64 o7) (.int .i64 n7) (.slice A7 c7 c7)
      have hp8 : PBad ((w7.setCell ⟨R, 2, none⟩ (.int .i64 (D : Int))).alloc (.cells #[.int .i64 o7, .int .i64 n7, .slice A7 c7 c7] 24)) R s d (s.size - k : Nat) j := g6.keep (keep_setalloc 2 _ _ hR7)
      have hsz : ((w7.setCell ⟨R, 2, none⟩ (.int .i64 (D : Int))).alloc (.cells #[.int .i64 o7, .int .i64 n7, .slice A7 c7 c7] 24)).heap.size = w7.heap.size + 1 := by simp
      have HS8 := Lib.hid hS8
      have HP8 := Lib.hid hp8
      have HSZ := Lib.hid hsz
      have a0 := fun v ob => (((hS7.setR 2 v).alloc ob).cells (.head _)).1
      have a1 := fun v ob => (((hS7.setR 2 v).alloc ob).cells (.head _)).2.1
      have a2 := fun v ob => (((hS7.setR 2 v).alloc ob).cells (.head _)).2.2.1
      have z0 := fun v ob ob2 => ((((hS7.setR 2 v).alloc ob).alloc ob2).cells (.tail _ (.head _))).1
      have z1 := fun v ob ob2 => ((((hS7.setR 2 v).alloc ob).alloc ob2).cells (.tail _ (.head _))).2.1
      have z2 := fun v ob ob2 => ((((hS7.setR 2 v).alloc ob).alloc ob2).cells (.tail _ (.head _))).2.2.1
      have z3 := fun v ob ob2 => ((((hS7.setR 2 v).alloc ob).alloc ob2).cells (.tail _ (.head _))).2.2.2
      have HQ : Hid (∀ v ob ob2 x y z, _ ∧ _ ∧ _) := fun v ob ob2 x y z => (((hS7.setR 2 v).alloc ob).alloc ob2).out (.tail _ (.head _)) x y z
      clear hr hf hp h1 hS7 hS8 hp8 hsz HE3 HS6 HP6 g2 g6 HRB
      go_wp2_with fail
      refine ⟨rfl, .agg #[.int .i64 (op.toNat : Int), .int .i64 0, .slice (some ⟨w7.heap.size + 1, 0, none⟩) 2 2], ?_, ?_⟩
      all_goals rw [HOPI.out]
      rotate_left
      ·show PReads R s d w r0 _ (rset _ w.heap.size _ _ _)
       rw [HE4.out]
       exact (HS8.out.alloc _).endBad (.tail _ (.tail _ (.head _))) (HP8.out.keep (heap_alloc_old _ _ (by rw [HSZ.out]; omega)))
      ·obtain ⟨q0, q1, q2⟩ := HQ.out (.int .i64 (D : Int)) (.cells #[.int .i64 o7, .int .i64 n7, .slice A7 c7 c7] 24) (.cells #[.int .i64 o, .int .i64 n, .slice A c c, .int .i64 o7, .int .i64 n7, .slice A7 c7 c7] 24) (.int .i64 (op.toNat : Int)) (.int .i64 0) (.slice (some ⟨w7.heap.size + 1, 0, none⟩) 2 2)
       rw [HOPI.out] at q0 q1 q2
       simp only [results, Tryz.results176]
       simp [go_sem, q0, q1, q2]
    ·have HE3 : Hid (r0 = .bad l1.length 2) := HE2.out.trans (want_other _ fun r e => hw ⟨r, e⟩)
     refine (pwantL_no R s 44 l1 (d + 1) W5 HP5.out hs (by omega) fun r e => hw ⟨r, e⟩).mono ?_
     rintro e w6 ⟨rfl, hp, hf⟩
     have hS6 := HS5.out.call hf
     obtain ⟨z0, z1, z2, zf⟩ := hS6.cells (.tail _ (.head _))
     have HQ := Lib.hid (hS6.out (.tail _ (.head _)) (.int .i64 0) (.int .i64 0) (.slice none 0 0))
     have HEND := Lib.hid (hS6.endBad (.tail _ (.head _)) (hp.less (Nat.le_succ d)) (o := 0) (n := 0) (A := none) (c := 0))
     obtain ⟨p', d', g1', g2', g3', g4', g5'⟩ := hp
     obtain ⟨c0, c1, c2, c3, c4, cf⟩ := g5'.cells
     clear hf hS6 HS5 HP5 HE2 g1' g2' g3' g4' g5'
     go_wp2_with fail
     obtain ⟨q0, q1, q2⟩ := HQ.out
     refine ⟨rfl, .agg #[.int .i64 0, .int .i64 0, .slice none 0 0], ?_, ?_⟩
     ·simp only [results, Tryz.results176]
      simp [go_sem, q0, q1, q2]
     ·rw [HE3.out]; exact HEND.out
   ·have HE2 : Hid (r0 = .bad k j) := by show _ = _; rw [HE.out, h1]; rfl
    have hS5 := (HS3.out.call hf).var (.int .i64 o) (.int .i64 n) (.slice A c c)
    have hp5 : PBad (w4.alloc (.cells #[.int .i64 o, .int .i64 n, .slice A c c] 24)) R s (d + 1) (s.size - k : Nat) j := hp.keep (heap_alloc_old _ _ hR4)
    have HEND := Lib.hid (hS5.endBad (.tail _ (.head _)) (hp5.less (Nat.le_succ d)) (o := 0) (n := 0) (A := none) (c := 0))
    have HQ := Lib.hid (hS5.out (.tail _ (.head _)) (.int .i64 0) (.int .i64 0) (.slice none 0 0))
    obtain ⟨z0, z1, z2, zf⟩ := hS5.cells (.tail _ (.head _))
    obtain ⟨p', d', g1, g2, g3, g4, g5⟩ := hp
    obtain ⟨c0, c1, c2, c3, c4, cf⟩ := g5.cells
    have d0 : (j == 0) = false := beq_eq_false_iff_ne.2 g4
    clear hr hf h1 hS5 hp5 HE HS3 HP3 g1 g2 g3 g4 g5 HRA
    go_wp2_with fail
    obtain ⟨q0, q1, q2⟩ := HQ.out
    refine ⟨rfl, .agg #[.int .i64 0, .int .i64 0, .slice none 0 0], ?_, ?_⟩
    ·simp only [results, Tryz.results176]
     simp [go_sem, q0, q1, q2]
    ·rw [HE2.out]; exact HEND.out
end Go.Proofs.YtfndhfekbbbliaaGreatDoor

/-
  The reference's reader: one, where a name or a bracket stands. Conditions: the text takes at most 120 bytes, the depth is at most 20.
-/
namespace Go.Proofs.YtfndhfekbbbliaaGreatDoor
open Go.RowKit Go.ChangeShapes Go.WideShapes
set_option linter.unusedVariables false
theorem one_heads {l : List UInt8} (h : ∀ r, l ≠ 109 :: r) : Lib.hasPrefix l (⟨#[109, 105, 110, 40]⟩ : ByteArray).data.toList = false ∧ Lib.hasPrefix l (⟨#[109, 97, 120, 40]⟩ : ByteArray).data.toList = false := by
 cases l with
 | nil => exact ⟨rfl, rfl⟩
 | cons x r =>
  have : ¬ 109 = x := fun e => h r (e ▸ rfl)
  constructor <;> simp [Lib.hasPrefix, List.isPrefixOf, this]
set_option maxRecDepth 100000 in
set_option maxHeartbeats 16000000 in
theorem pone_name {W : Reads} (R : Nat) (s : ByteArray) (r : List UInt8) (x : Bool) (d : Nat) (w : World) (h : PL w R s ((if x then 110 else 115) :: r) d) (hs : s.size ≤ 120) (hd : d ≤ 20) :
  Calls Tryz.prog 176 #[.pointer (some ⟨R, 0, none⟩)] w (PReads R s d w (.ok (.nam x) r)) := by
 obtain ⟨c, hc⟩ : ∃ c : UInt8, c = if x then 110 else 115 := ⟨_, rfl⟩
 rw [← hc] at h
 have hc2 : (x = true ∧ (c.toNat : Int) = 110) ∨ (x = false ∧ (c.toNat : Int) = 115) := by cases x <;> simp [hc]
 have hno := one_heads (l := c :: r) fun r' e => by
  have e1 := (List.cons.inj e).1
  rw [hc] at e1; cases x <;> simp at e1
 obtain ⟨hn1, hn2⟩ := hno
 have hlt := h.lt
 have HLT := Lib.hid hlt
 have HS1 := Lib.hid ((PSt.start hlt).var (.int .i64 0) (.int .i64 0) (.slice none 0 0))
 have HP1 : Hid (PL (w.alloc (.cells #[.int .i64 0, .int .i64 0, .slice none 0 0] 24)) R s (c :: r) d) := h.keep (heap_alloc_old _ _ hlt)
 obtain ⟨wr1, hpa1⟩ := h.2.2
 obtain ⟨c0, c1, c2, c3, c4, cf⟩ := hpa1.cells
 have hlen : r.length + 1 ≤ s.size := by have := h.1; simpa using this
 have HC := Lib.hid hc2
 clear hpa1 h hc hc2
 go_enter Tryz.func176, Tryz.ntmps176
 go_wp2_with fail
 refine (pisL_no R s ⟨#[109, 105, 110, 40]⟩ (c :: r) d _ HP1.out hs (by show 4 ≤ 10; omega) hn1).mono ?_
 rintro e w1 ⟨rfl, hp, hf⟩
 have HS1b := Lib.hid (HS1.out.call hf)
 have HP1b := Lib.hid hp
 clear hp hf HS1 HP1 c0 c1 c2 c3 c4 cf hlt
 go_wp2_with fail
 refine (pisL_no R s ⟨#[109, 97, 120, 40]⟩ (c :: r) d _ HP1b.out hs (by show 4 ≤ 10; omega) hn2).mono ?_
 rintro e w2 ⟨rfl, hp, hf⟩
 have HS2 := Lib.hid (HS1b.out.call hf)
 have HP2 := Lib.hid hp
 clear hp hf HS1b HP1b hn1 hn2
 go_wp2_with fail
 refine (ppeekL R s (c :: r) d _ HP2.out).mono ?_
 rintro e w4 ⟨rfl, q, rfl⟩
 have HP4 : Hid (PL (w2.drewN q) R s (c :: r) d) := HP2.out.keep rfl
 have HS4 := Lib.hid (HS2.out.drewN q)
 clear HS2 HP2
 generalize w2.drewN q = W4 at *
 have HS5 := Lib.hid (HS4.out.setR 1 (.int .i64 (((s.size - (r.length + 1) : Nat) : Int) + 1)))
 have HP5 := Lib.hid HP4.out.next
 obtain ⟨z0, z1, z2, zf⟩ := HS5.out.cells (.head _)
 obtain ⟨wr, hpa⟩ := HP4.out.2.2
 have eh : headR (c :: r) = (c.toNat : Int) := rfl
 rw [eh]
 obtain ⟨ci, hci⟩ : ∃ ci : Int, ci = (c.toNat : Int) := ⟨_, rfl⟩
 rw [← hci] at HC ⊢
 obtain ⟨q0, q1, q2⟩ := HS5.out.out (.head _) (.int .i64 ci) (.int .i64 0) (.slice none 0 0)
 obtain ⟨e1, e2, e3, e4⟩ := HS5.out.res (.head _) (.int .i64 ci) (.int .i64 0) (.slice none 0 0)
 have HEND : Hid (PReads R s d w (.ok (.nam x) r) (.returned (.agg #[.int .i64 ci, .int .i64 0, .slice none 0 0])) (rset (W4.setCell ⟨R, 1, none⟩ (.int .i64 (((s.size - (r.length + 1) : Nat) : Int) + 1))) w.heap.size (.int .i64 ci) (.int .i64 0) (.slice none 0 0))) := by
  refine ⟨ci, 0, none, 0, rfl, ?_, HP5.out.keep e3, e1⟩
  rcases HC.out with ⟨rfl, rfl⟩ | ⟨rfl, rfl⟩
  ·exact .nam true
  ·exact .nam false
 obtain ⟨c0, c1, c2, c3, c4, cf⟩ := hpa.cells
 have hci2 : ci = 110 ∨ ci = 115 := HC.out.elim (fun h => .inl h.2) (fun h => .inr h.2)
 clear hpa HS4 HP4 HS5 HP5 e1 e2 e3 e4 hci eh HC
 rcases hci2 with rfl | rfl
 all_goals
  go_wp2_with fail
  refine ⟨rfl, .agg #[.int .i64 _, .int .i64 0, .slice none 0 0], ?_, HEND.out⟩
  simp only [results, Tryz.results176]
  simp [go_sem, q0, q1, q2]
set_option maxRecDepth 100000 in
set_option maxHeartbeats 16000000 in
theorem pone_brk {W : Reads} {m : Nat} (hW : PReadsLt 35 W m) (R : Nat) (s : ByteArray) (r : List UInt8) (d : Nat) (w : World) (h : PL w R s (40 :: r) d) (hs : s.size ≤ 120) (hd : d ≤ 20) (hm : r.length < m) :
  Calls Tryz.prog 176 #[.pointer (some ⟨R, 0, none⟩)] w (PReads R s d w (deepRd d (r.length + 1) ((W (d + 1) r).bind fun a l1 => wantRd 41 l1 fun l2 => .ok a l2))) := by
 obtain ⟨r0, hr0⟩ : ∃ r0, r0 = deepRd d (r.length + 1) ((W (d + 1) r).bind fun a l1 => wantRd 41 l1 fun l2 => .ok a l2) := ⟨_, rfl⟩
 rw [← hr0]
 have HR0 := Lib.hid hr0
 have HW := Lib.hid hW
 obtain ⟨hn1, hn2⟩ := one_heads (l := 40 :: r) fun r' e => by have e1 := (List.cons.inj e).1; simp at e1
 have hlt := h.lt
 have HLT := Lib.hid hlt
 have HM := Lib.hid hm
 have HS1 := Lib.hid ((PSt.start hlt).var (.int .i64 0) (.int .i64 0) (.slice none 0 0))
 have HP1 : Hid (PL (w.alloc (.cells #[.int .i64 0, .int .i64 0, .slice none 0 0] 24)) R s (40 :: r) d) := h.keep (heap_alloc_old _ _ hlt)
 obtain ⟨wr1, hpa1⟩ := h.2.2
 obtain ⟨c0, c1, c2, c3, c4, cf⟩ := hpa1.cells
 have hlen : r.length + 1 ≤ s.size := by have := h.1; simpa using this
 clear hpa1 h hr0 hW hm
 go_enter Tryz.func176, Tryz.ntmps176
 go_wp2_with fail
 refine (pisL_no R s ⟨#[109, 105, 110, 40]⟩ (40 :: r) d _ HP1.out hs (by show 4 ≤ 10; omega) hn1).mono ?_
 rintro e w1 ⟨rfl, hp, hf⟩
 have HS1b := Lib.hid (HS1.out.call hf)
 have HP1b := Lib.hid hp
 clear hp hf HS1 HP1 c0 c1 c2 c3 c4 cf hlt
 go_wp2_with fail
 refine (pisL_no R s ⟨#[109, 97, 120, 40]⟩ (40 :: r) d _ HP1b.out hs (by show 4 ≤ 10; omega) hn2).mono ?_
 rintro e w2 ⟨rfl, hp, hf⟩
 have HS2 := Lib.hid (HS1b.out.call hf)
 have HP2 := Lib.hid hp
 clear hp hf HS1b HP1b hn1 hn2
 go_wp2_with fail
 refine (ppeekL R s (40 :: r) d _ HP2.out).mono ?_
 rintro e w4 ⟨rfl, q, rfl⟩
 have HP4 : Hid (PL (w2.drewN q) R s (40 :: r) d) := HP2.out.keep rfl
 have HS4 := Lib.hid (HS2.out.drewN q)
 clear HS2 HP2
 generalize w2.drewN q = W4 at *
 have HS5 := Lib.hid (HS4.out.setR 1 (.int .i64 (((s.size - (r.length + 1) : Nat) : Int) + 1)))
 have HP5 := Lib.hid HP4.out.next
 obtain ⟨wr, hpa⟩ := HP4.out.2.2
 have eh : headR (40 :: r) = 40 := rfl
 rw [eh]
 obtain ⟨c0, c1, c2, c3, c4, cf⟩ := hpa.cells
 clear hpa HS4 HP4 eh
 go_wp2_with fail
 clear c0 c1 c2 c3 c4 cf
 generalize W4.setCell ⟨R, 1, none⟩ (.int .i64 (((s.size - (r.length + 1) : Nat) : Int) + 1)) = W5 at *
 by_cases hd2 : d = 20
 ·subst hd2
  refine (pdownL_full R s r _ W5 HP5.out).mono ?_
  rintro e w3 ⟨rfl, hp, hf⟩
  have hS3 := HS5.out.call hf
  have HE : Hid (r0 = .bad (r.length + 1) 4) := HR0.out
  have HEND := Lib.hid (hS3.endBad (.head _) hp (o := 0) (n := 0) (A := none) (c := 0))
  obtain ⟨z0, z1, z2, zf⟩ := hS3.cells (.head _)
  have HQ := Lib.hid (hS3.out (.head _) (.int .i64 0) (.int .i64 0) (.slice none 0 0))
  clear hp hf hS3 HS5 HP5 HR0
  go_wp2_with fail
  obtain ⟨q0, q1, q2⟩ := HQ.out
  refine ⟨rfl, .agg #[.int .i64 0, .int .i64 0, .slice none 0 0], ?_, ?_⟩
  ·simp only [results, Tryz.results176]
   simp [go_sem, q0, q1, q2]
  ·rw [HE.out]; exact HEND.out
 ·have hd3 : d < 20 := by omega
  refine (pdownL R d s r _ W5 HP5.out hd3).mono ?_
  rintro e w3 ⟨rfl, hp, hf⟩
  have HS3 := Lib.hid (HS5.out.call hf)
  have HP3 := Lib.hid hp
  obtain ⟨ra, hra⟩ : ∃ ra, ra = W (d + 1) r := ⟨_, rfl⟩
  have HE : Hid (r0 = ra.bind fun a l1 => wantRd 41 l1 fun l2 => .ok a l2) := by show _ = _; rw [HR0.out, hra]; unfold deepRd; rw [if_neg hd2]
  have HRA := Lib.hid hra
  clear hp hf HS5 HP5 HR0 hra
  go_wp2_with fail
  refine (HW.out R s r (d + 1) w3 HP3.out hs (by omega) HM.out).mono ?_
  rw [← HRA.out]
  intro e w4 hr
  obtain ⟨o, n, A, c, rfl, hf, hst⟩ := hr.form
  have hS4 := HS3.out.call hf
  have hR4 := hS4.lt'
  rcases hst with ⟨a, l1, h1, ht, hp⟩ | ⟨k, j, h1, hp⟩
  ·have HE2 : Hid (r0 = wantRd 41 l1 fun l2 => .ok a l2) := by show _ = _; rw [HE.out, h1]; rfl
   have HS5 := Lib.hid ((HS3.out.tree hf ht).var (.int .i64 o) (.int .i64 n) (.slice A c c))
   have HP5 : Hid (PL (w4.alloc (.cells #[.int .i64 o, .int .i64 n, .slice A c c] 24)) R s l1 (d + 1)) := hp.keep (heap_alloc_old _ _ hR4)
   obtain ⟨wr4, hpa⟩ := hp.2.2
   obtain ⟨c0, c1, c2, c3, c4, cf⟩ := hpa.cells
   clear hr hf hp h1 ht HE HS3 HP3 hpa HRA hS4
   go_wp2_with fail
   generalize gb : w4.heap.size = g at *
   clear c0 c1 c2 c3 c4 cf
   generalize w4.alloc (.cells #[.int .i64 o, .int .i64 n, .slice A c c] 24) = W6 at *
   clear gb hR4
   have HC : Hid (Calls Tryz.prog 82 #[.pointer (some ⟨R, 0, none⟩), .string ⟨#[41]⟩] W6 fun e w9 => e = .returned (.tuple #[]) ∧ Hid (Frm (· = R) W6 w9) ∧
     Hid (∃ (p E D : Nat) (wr bd : Int), PAt w9 R s p E wr bd ∧ (E : Int) - 1 = (D : Int) ∧ wrap64 (D : Int) = (D : Int) ∧ ((∃ l4, r0 = .ok a l4 ∧ PL (w9.setCell ⟨R, 2, none⟩ (.int .i64 (D : Int))) R s l4 d) ∨ (∃ k j, r0 = .bad k j ∧ PBad (w9.setCell ⟨R, 2, none⟩ (.int .i64 (D : Int))) R s d (s.size - k : Nat) j)))) := by
    show Calls _ _ _ _ _
    by_cases hw : ∃ l4, l1 = 41 :: l4
    ·obtain ⟨l4, rfl⟩ := hw
     refine (pwantL_yes R s 41 l4 (d + 1) W6 HP5.out hs).mono ?_
     rintro e w9 ⟨h1, hp, hf⟩
     obtain ⟨E, wr', g2, g3, g4, g5⟩ := hp.dec hd3
     exact ⟨h1, hf, _, E, d, wr', 0, g2, g3, g4, .inl ⟨l4, by rw [HE2.out]; simp only [wantRd, if_true], g5⟩⟩
    ·refine (pwantL_no R s 41 l1 (d + 1) W6 HP5.out hs (by omega) fun r e => hw ⟨r, e⟩).mono ?_
     rintro e w9 ⟨h1, hp, hf⟩
     obtain ⟨p', E, D, g1, g2, g3, g4, g5, g6⟩ := hp.dec
     exact ⟨h1, hf, p', E, D, _, _, g2, g4, g5, .inr ⟨_, _, HE2.out.trans (want_other _ fun r e => hw ⟨r, e⟩), g6⟩⟩
   refine HC.out.mono ?_
   rintro e w9 ⟨rfl, HF9, HX9⟩
   have hS9 := HS5.out.call HF9.out
   obtain ⟨p', E', D, wr', bd, g1', g2', g3', hx9⟩ := HX9.out
   have HX9b := Lib.hid hx9
   obtain ⟨c0, c1, c2, c3, c4, cf⟩ := g1'.cells
   have a0 := fun v => ((hS9.setR 2 v).cells (.head _)).1
   have a1 := fun v => ((hS9.setR 2 v).cells (.head _)).2.1
   have a2 := fun v => ((hS9.setR 2 v).cells (.head _)).2.2.1
   have z0 := fun v => ((hS9.setR 2 v).cells (.tail _ (.head _))).1
   have z1 := fun v => ((hS9.setR 2 v).cells (.tail _ (.head _))).2.1
   have z2 := fun v => ((hS9.setR 2 v).cells (.tail _ (.head _))).2.2.1
   have z3 := fun v => ((hS9.setR 2 v).cells (.tail _ (.head _))).2.2.2
   have hS10 := hS9.setR 2 (.int .i64 (D : Int))
   have HQ := Lib.hid (hS10.out (.tail _ (.head _)) (.int .i64 o) (.int .i64 n) (.slice A c c))
   have HS10 := Lib.hid hS10
   clear HC HE2 HS5 HP5 HF9 HX9 hx9 hS9 hS10 g1'
   go_wp2_with fail
   refine ⟨rfl, .agg #[.int .i64 o, .int .i64 n, .slice A c c], ?_, ?_⟩
   ·obtain ⟨q0, q1, q2⟩ := HQ.out
    simp only [results, Tryz.results176]
    simp [go_sem, q0, q1, q2]
   ·show PReads R s d w r0 _ (rset _ w.heap.size _ _ _)
    rcases HX9b.out with ⟨l4, e1, e2⟩ | ⟨k, j, e1, e2⟩
    ·rw [e1]
     exact HS10.out.endOk (.tail _ (.head _)) (.head _) e2
    ·rw [e1]
     exact HS10.out.endBad (.tail _ (.head _)) e2
  ·have HE2 : Hid (r0 = .bad k j) := by show _ = _; rw [HE.out, h1]; rfl
   obtain ⟨p', E, D, g1, g2, g3, g4, g5, g6⟩ := hp.dec
   obtain ⟨c0, c1, c2, c3, c4, cf⟩ := g2.cells
   have hS8 := hS4.setvar 2 (.int .i64 (D : Int)) (.int .i64 o) (.int .i64 n) (.slice A c c)
   have hp8 : PBad ((w4.setCell ⟨R, 2, none⟩ (.int .i64 (D : Int))).alloc (.cells #[.int .i64 o, .int .i64 n, .slice A c c] 24)) R s d (s.size - k : Nat) j := g6.keep (keep_setalloc 2 _ _ hR4)
   have HS8 := Lib.hid hS8
   have HP8 := Lib.hid hp8
   have z0 := fun v ob => (((hS4.setR 2 v).alloc ob).cells (.head _)).1
   have z1 := fun v ob => (((hS4.setR 2 v).alloc ob).cells (.head _)).2.1
   have z2 := fun v ob => (((hS4.setR 2 v).alloc ob).cells (.head _)).2.2.1
   have z3 := fun v ob => (((hS4.setR 2 v).alloc ob).cells (.head _)).2.2.2
   have HQ := Lib.hid (hS8.out (.tail _ (.head _)) (.int .i64 o) (.int .i64 n) (.slice A c c))
   clear hr hf hp h1 hS4 hS8 hp8 HE HS3 HP3 g2 g6 HRA
   go_wp2_with fail
   refine ⟨rfl, .agg #[.int .i64 o, .int .i64 n, .slice A c c], ?_, ?_⟩
   ·obtain ⟨q0, q1, q2⟩ := HQ.out
    simp only [results, Tryz.results176]
    simp [go_sem, q0, q1, q2]
   ·show PReads R s d w r0 _ (rset _ w.heap.size _ _ _)
    rw [HE2.out]
    exact HS8.out.endBad (.tail _ (.head _)) HP8.out
end Go.Proofs.YtfndhfekbbbliaaGreatDoor
