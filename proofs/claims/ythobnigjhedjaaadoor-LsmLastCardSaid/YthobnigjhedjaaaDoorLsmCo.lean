/-
  Package lsm: Compact, where nothing is dead. Conditions: a store as LsmPre says; no more than 900 lists.
-/
import Derived.Test.YthobnigjhedjaaaDoorLsmFl
namespace Go.Proofs.YthobnigjhedjaaaDoor
open Go.RowKit Go.ChangeShapes Go.WideShapes
open Go.Sort hiding Below
set_option linter.unusedVariables false

section
variable {w : World} {g bf : Nat} {A1 : Option Addr} {c1 n1 : Nat} {tvs : List Value} {A2 : Option Addr} {c2 n2 : Nat} {lvs : List Value} {limit : Nat} {F : EMap}
theorem LsmG.set2 (h : LsmG w g bf A1 c1 n1 tvs A2 c2 n2 lvs limit F) {A : Option Addr} {c n : Nat} {vs : List Value} (ho : OwnS w 70 1 A c n vs) (hA : blk A ≠ some g) : LsmG (w.setCell ⟨g, 2, none⟩ (.slice A n c)) g bf A c n vs A2 c2 n2 lvs limit F := by
  obtain ⟨n1, n2, n3, n4, n5, n6⟩ := h.no
  obtain ⟨h1, h2⟩ := field_store (i := 2) (row := none) h.obj (by simp) (World.grownBy.refl w none) (.slice A n c)
  exact ⟨by simpa using h1, h.fresh.keep (h2 bf h.fresh.lt (Ne.symm n1) (by simp)), ho.setFar hA _, h.lists.setFar n3 _⟩
theorem LsmG.set3 (h : LsmG w g bf A1 c1 n1 tvs A2 c2 n2 lvs limit F) {A : Option Addr} {c n : Nat} {vs : List Value} (ho : OwnS w 68 1 A c n vs) (hA : blk A ≠ some g) : LsmG (w.setCell ⟨g, 3, none⟩ (.slice A n c)) g bf A1 c1 n1 tvs A c n vs limit F := by
  obtain ⟨n1, n2, n3, n4, n5, n6⟩ := h.no
  obtain ⟨h1, h2⟩ := field_store (i := 3) (row := none) h.obj (by simp) (World.grownBy.refl w none) (.slice A n c)
  exact ⟨by simpa using h1, h.fresh.keep (h2 bf h.fresh.lt (Ne.symm n1) (by simp)), h.tabs.setFar n2 _, ho.setFar hA _⟩
end
def CompactPost (B : Nat) (w : World) (g limit : Nat) (F : EMap) (L : List (List Ent)) (e : Ending) (w' : World) : Prop :=
  e = .returned .nilIface ∧ (∃ L', Lsm B w' g limit [] L' ∧ LsmOk limit [] L' ∧ (∀ k, view [] L' k = view F L k) ∧ L'.length ≤ 1 ∧ ∀ x ∈ L'.flatten, x ∈ evals F ++ L.flatten) ∧ Below B w w'
set_option maxRecDepth 100000 in
set_option maxHeartbeats 2000000 in
theorem compact_any (B g limit : Nat) (F : EMap) (L : List (List Ent)) (w : World) (S : Lsm B w g limit F L) (hO : LsmOk limit F L) (hD : ∀ x ∈ evals F ++ L.flatten, x.dead = false) (hL : L.length ≤ 900) (hB : B ≤ w.heap.size) :
    Calls Tryd.prog 16 #[.pointer (some ⟨g, 0, none⟩)] w (CompactPost B w g limit F L) := by
  obtain ⟨bf, A1, c1, tvs, A2, c2, lvs, S⟩ := S
  have hP := hO.pre
  have hA := all_ok B g bf A1 c1 tvs A2 c2 lvs limit F L w S hP.keyed hP.sized (by have := hP.few; omega) (by omega) hP.lists
  have HS := Lib.hid S
  have HO := Lib.hid hO
  have HD := Lib.hid hD
  have HBW := Lib.hid hB
  clear S hP hB hO hD
  go_enter Tryd.func16, Tryd.ntmps16
  go_wp2_with fail
  refine hA.mono ?_
  rintro e w1 ⟨A, c, q, rfl, q1, q2, q3, q4, q5, q6⟩
  have hpm : q.Perm (allOf F L) := apart_ext q1 (all_apart F L) fun k => (q3 k).trans (view_all F L k).symm
  have HPM := Lib.hid hpm
  have HM := Lib.hid q4
  have HSL : Hid (SlA entE (EntRow w1) w1 A c q) := q5.more fun k hk => hk.2
  have hDF := edelete_ok A c q w1 HSL.out fun x hx => HD.out x (q4 x hx)
  have HB1 := Lib.hid q6
  have hcO := compact_ok HO.out hpm q2
  have HT := Lib.hid hcO.1
  have HOK := Lib.hid hcO.2
  have hle := q5.le
  clear hA q1 q2 q3 q4 q5 q6 hpm hcO
  go_wp2_with fail
  refine hDF.mono ?_
  rintro e w2 ⟨rfl, hb2⟩
  have HB2 : Hid (Below w.heap.size w w2) := HB1.out.trans (hb2.mono HB1.out.size)
  have HSL2 : Hid (SlA entE (EntRow w2) w2 A c q) := HSL.out.later hb2
  have hBU := build_any A c q w2 (HSL2.out.more fun k hk => hk.lt)
  clear hDF hb2 HSL HB1
  go_wp2_with fail
  refine hBU.mono ?_
  rintro e w3 ⟨⟨-, At, ct, rfl, -⟩ | ⟨hno, -⟩, hb3⟩
  · have HB3 : Hid (Below w.heap.size w w3) := HB2.out.trans (hb3.mono HB2.out.size)
    have HSL3 : Hid (SlA entE (EntRow w3) w3 A c q) := HSL2.out.later hb3
    have hS3 := HS.out.below HB3.out
    have hG3 := hS3.g
    obtain ⟨y0, y1, y2, y3⟩ := hS3.cells
    have hgl := block_lt hS3.obj
    have fz := hG3.fz
    obtain ⟨w4, hrun, hf4, hg4, hz4⟩ := MapAt.clear (P := Tryd.prog) (ty := 0) hG3.fresh Tryd.underlying75
    have hG4 := hG3.turn (F' := []) hg4 hf4
    have hg4' : g ≠ bf := hG3.no.1
    have x2 : w4.cell? ⟨g, 2, none⟩ = some (.slice A1 L.length c1) := hG4.cells.2.2.1
    have x3 : w4.cell? ⟨g, 3, none⟩ = some (.slice A2 L.length c2) := hG4.cells.2.2.2
    have fz4 := hG4.fz
    have hgl4 : g < w4.heap.size := block_lt hG4.obj
    have hG5 := hG4.set2 (OwnS.nil _ _ _) (by simp [blk])
    have hG6 := hG5.set3 (OwnS.nil _ _ _) (by simp [blk])
    have f2 := fz4 2
    have f3 := fz4 3
    have HB4 : Hid (Below B w w4) := (HB3.out.mono HBW.out).grown hg4 (Nat.le_trans HBW.out HB3.out.size) (fun k e => by injection e with e; have := HS.out.bb; omega)
    have HB6 : Hid (Below B w ((w4.setCell ⟨g, 2, none⟩ (.slice none 0 0)).setCell ⟨g, 3, none⟩ (.slice none 0 0))) := (HB4.out.setCell (p := ⟨g, 2, none⟩) HS.out.bg _).setCell (p := ⟨g, 3, none⟩) HS.out.bg _
    have HG6 := Lib.hid hG6
    have HG3 := Lib.hid hG3
    have HG4' := Lib.hid hg4
    clear hBU hb3 hS3 hG3 y0 y2 y3 fz hf4 hg4 hz4 hG4 hG5 hG6 fz4 hg4'
    by_cases hq : q = []
    · subst hq
      go_wp2_with fail
      go_ret
      have hG := HG6.out
      have hOK := HOK.out
      simp only [↓reduceIte] at hOK
      refine ⟨rfl, ⟨[], ⟨bf, none, 0, [], none, 0, [], ⟨hG.obj, hG.fresh, hG.tabs, nofun, hG.lists, LVals.nil _, HS.out.bg, HS.out.bb, nofun, nofun⟩⟩, hOK, fun k => ?_, by simp, nofun⟩, HB6.out⟩
      have := view_compact HPM.out k
      simpa using this
    · have hq0 : (0 : Int) < (q.length : Int) := by
        have : ¬ q.length = 0 := fun h => hq (List.eq_nil_of_length_eq_zero h)
        omega
      have HQ := Lib.hid hq
      obtain ⟨tn, htn⟩ : ∃ tn, tn = (tabB q).length := ⟨_, rfl⟩
      rw [← htn]
      clear htn hq
      go_wp2_with fail
      go_ret
      have hG := HG6.out
      obtain ⟨W6, hW6⟩ : ∃ W6, W6 = (w4.setCell ⟨g, 2, none⟩ (.slice none 0 0)).setCell ⟨g, 3, none⟩ (.slice none 0 0) := ⟨_, rfl⟩
      have hz6 : W6.heap.size = w4.heap.size := by rw [hW6, size_setCell, size_setCell]
      have hB6 := HB6.out
      rw [← hW6] at hG hB6 ⊢
      have hgl6 : g < W6.heap.size := by omega
      obtain ⟨h1, h2⟩ := field_store (i := 2) (row := none) hG.obj (by simp) (World.grownBy.refl W6 none) (.slice (some ⟨w4.heap.size, 0, none⟩) 1 1)
      obtain ⟨W7, hW7⟩ : ∃ W7, W7 = W6.setCell ⟨g, 2, none⟩ (.slice (some ⟨w4.heap.size, 0, none⟩) 1 1) := ⟨_, rfl⟩
      have hz7 : W7.heap.size = w4.heap.size := by rw [hW7, size_setCell, hz6]
      have hB7 : Below B w W7 := by rw [hW7]; exact hB6.setCell (p := ⟨g, 2, none⟩) HS.out.bg _
      rw [← hW7] at h1 h2 ⊢
      obtain ⟨h3, h4⟩ := field_store (i := 3) (row := none) h1 (by simp) (World.grownBy.refl W7 none) (.slice (some ⟨w4.heap.size + 1, 0, none⟩) 1 1)
      obtain ⟨W8, hW8⟩ : ∃ W8, W8 = W7.setCell ⟨g, 3, none⟩ (.slice (some ⟨w4.heap.size + 1, 0, none⟩) 1 1) := ⟨_, rfl⟩
      have hz8 : W8.heap.size = w4.heap.size := by rw [hW8, size_setCell, hz7]
      have hB8 : Below B w W8 := by rw [hW8]; exact hB7.setCell (p := ⟨g, 3, none⟩) HS.out.bg _
      rw [← hW8] at h3 h4 ⊢
      have hbf := hG.fresh.lt
      have hng := hG.no.1
      have a1 := heap_alloc_new W8 (.cells #[.slice At tn ct] 70)
      obtain ⟨W9, hW9⟩ : ∃ W9, W9 = W8.alloc (.cells #[.slice At tn ct] 70) := ⟨_, rfl⟩
      have hz9 : W9.heap.size = w4.heap.size + 1 := by rw [hW9]; simp [hz8]
      have k9 : ∀ k, k < W8.heap.size → W9.heap[k]? = W8.heap[k]? := fun k hk => by rw [hW9]; exact Below.heap_alloc _ _ _ hk
      have hB9 : Below B w W9 := by rw [hW9]; exact hB8.alloc (Nat.le_trans HBW.out hB8.size) _
      rw [← hW9] at a1 ⊢
      have a2 := heap_alloc_new W9 (.cells #[.slice A q.length c] 68)
      obtain ⟨W10, hW10⟩ : ∃ W10, W10 = W9.alloc (.cells #[.slice A q.length c] 68) := ⟨_, rfl⟩
      have k10 : ∀ k, k < W9.heap.size → W10.heap[k]? = W9.heap[k]? := fun k hk => by rw [hW10]; exact Below.heap_alloc _ _ _ hk
      have hB10 : Below B w W10 := by rw [hW10]; exact hB9.alloc (Nat.le_trans HBW.out hB9.size) _
      rw [← hW10] at a2 ⊢
      rw [hz8] at a1 k9
      rw [hz9] at a2 k10
      have hall : ∀ k, k < w4.heap.size → W10.heap[k]? = W8.heap[k]? := fun k hk => (k10 k (by omega)).trans (k9 k hk)
      have hW86 : ∀ k, k < w4.heap.size → k ≠ g → W8.heap[k]? = W6.heap[k]? := fun k hk hkg => (h4 k (by omega) hkg (by simp)).trans (h2 k (by omega) hkg (by simp))
      have hOK := HOK.out
      rw [if_neg HQ.out] at hOK
      have hwz := HB4.out.size
      have hz34 := HG4'.out.size
      have hrow : ∀ k, EntRow w3 k → W10.heap[k]? = w3.heap[k]? := fun k hk => by
        obtain ⟨n1, n2, n3, n4⟩ := hk.ne_obj HG3.out
        have hkl := hk.lt
        rw [hall k (by omega), hW86 k (by omega) n1, hW6, Below.heap_setCell _ _ _ _ (by simpa using n1), Below.heap_setCell _ _ _ _ (by simpa using n1)]
        exact HG4'.out.block k hkl (fun e => n2 (Option.some.inj e))
      have hV : LVals W10 [.slice A q.length c] [q] := (LVals.nil _).cons ((HSL3.out.keep hrow).more fun k hk => hk.kept (hrow k hk))
      have hw3 := HB3.out.size
      refine ⟨rfl, ⟨[q], ⟨bf, some ⟨w4.heap.size, 0, none⟩, 1, [.slice At tn ct], some ⟨w4.heap.size + 1, 0, none⟩, 1, [.slice A q.length c], ⟨(hall g (by omega)).trans (by simpa using h3), hG.fresh.keep ((hall bf (by omega)).trans (hW86 bf (by omega) (Ne.symm hng))), OwnS.lone ((k10 _ (by omega)).trans a1), fun u hu => by rw [List.mem_singleton.1 hu]; rfl, OwnS.lone a2, hV, HS.out.bg, HS.out.bb, fun k hk => ?_, fun k hk => ?_⟩⟩, hOK, fun k => ?_, by simp, fun x hx => ?_⟩, hB10⟩
      · simp [blk] at hk; have := HBW.out; omega
      · simp [blk] at hk; have := HBW.out; omega
      · have := view_compact HPM.out k
        rw [if_neg HQ.out] at this
        exact this
      · simp at hx; exact HM.out x hx
  · exact absurd HT.out hno
end Go.Proofs.YthobnigjhedjaaaDoor
