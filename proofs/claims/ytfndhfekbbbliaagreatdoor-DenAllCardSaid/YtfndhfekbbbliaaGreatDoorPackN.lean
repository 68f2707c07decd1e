/-
  Several texts of this claim in one, in build order; each begins with its own remark, which says what it proves and under which conditions.
-/
import Derived.Test.YtfndhfekbbbliaaGreatDoorPackM
import Derived.Lib.ItoaLen
import Derived.Deep.CutBlock
import Derived.Deep.LoopGhost
import Derived.Test.YtfndhfekbbbliaaGreatDoorPackJ
import Derived.Deep.RegionWith
import Derived.Deep.CutRange
import Derived.BigQuiet
import Derived.Test.YtfndhfekbbbliaaGreatDoorPackI

/-
  The reference's Apply. Conditions: the node is right; the key takes at most 40 bytes; the numbers are ints; the input is 0 to 3.
-/
namespace Go.Proofs.YtfndhfekbbbliaaGreatDoor
open Go.RowKit Go.ChangeShapes Go.WideShapes
set_option linter.unusedVariables false
theorem info_recR : (Tryz.prog.info? 44).map (fun i => (i.zero, i.size, i.bytes)) = some (some (.agg #[.string ByteArray.empty, .int .i64 0, .int .i64 0]), 3, 32) := by kernel_rfl
theorem passR_rep (r : Rec) : passR r = if 40 < r.key.size then [] else List.replicate 1 r := by unfold passR; split <;> rfl
structure AV (w : World) (n : Nod) (A0 : Option Addr) (c0 : Nat) (h : Hld) (r : Rec) (key' : ByteArray) (num' : Int) (wx : World) : Prop where
 bel : Below w.heap.size w wx
 nod : wx.heap[w.heap.size]? = some (.cells #[.int .i64 n.kind, .slice A0 n.from_.length c0, .string n.text, .int .i64 n.n] 40 (0, 0))
 hld : wx.heap[w.heap.size + 1]? = some (.cells #[.int .i64 h.node, .string h.key, .int .i64 h.a, .int .i64 h.b] 42 (0, 0))
 rec_ : wx.heap[w.heap.size + 2]? = some (.cells #[.string r.key, .int .i64 r.num, .int .i64 r.time] 44 (0, 0))
 res : wx.heap[w.heap.size + 3]? = some (.cells #[.int .i64 0, .string ⟨#[]⟩, .int .i64 0, .int .i64 0] 42 (0, 0))
 out : wx.heap[w.heap.size + 4]? = some (.cells #[.string key', .int .i64 num', .int .i64 r.time] 44 (0, 0))
theorem AV.lt {w : World} {n : Nod} {A0 : Option Addr} {c0 : Nat} {h : Hld} {r : Rec} {key' : ByteArray} {num' : Int} {wx : World} (v : AV w n A0 c0 h r key' num' wx) : w.heap.size + 4 < wx.heap.size := block_lt v.out
theorem AV.below {w : World} {n : Nod} {A0 : Option Addr} {c0 : Nat} {h : Hld} {r : Rec} {key' : ByteArray} {num' : Int} {wx wy : World} (v : AV w n A0 c0 h r key' num' wx) (hb : Below wx.heap.size wx wy) : AV w n A0 c0 h r key' num' wy := by
 have := v.lt
 exact ⟨v.bel.trans (hb.mono v.bel.size), (hb.block _ (by omega)).trans v.nod, (hb.block _ (by omega)).trans v.hld, (hb.block _ (by omega)).trans v.rec_, (hb.block _ (by omega)).trans v.res, (hb.block _ (by omega)).trans v.out⟩
theorem AV.setNum {w : World} {n : Nod} {A0 : Option Addr} {c0 : Nat} {h : Hld} {r : Rec} {key' : ByteArray} {num' : Int} {wx : World} (v : AV w n A0 c0 h r key' num' wx) (x : Int) : AV w n A0 c0 h r key' x (wx.setCell ⟨w.heap.size + 4, 1, none⟩ (.int .i64 x)) := by
 refine ⟨v.bel.setCell (by show w.heap.size ≤ w.heap.size + 4; omega) _, (Below.heap_setCell _ _ _ _ (by show _ ≠ _; simp)).trans v.nod, (Below.heap_setCell _ _ _ _ (by show _ ≠ _; simp)).trans v.hld, (Below.heap_setCell _ _ _ _ (by show _ ≠ _; simp)).trans v.rec_, (Below.heap_setCell _ _ _ _ (by show _ ≠ _; simp)).trans v.res, ?_⟩
 have := v.out
 simp [World.setCell, Array.getElem?_modify, this]
theorem AV.setKey {w : World} {n : Nod} {A0 : Option Addr} {c0 : Nat} {h : Hld} {r : Rec} {key' : ByteArray} {num' : Int} {wx : World} (v : AV w n A0 c0 h r key' num' wx) (x : ByteArray) : AV w n A0 c0 h r x num' (wx.setCell ⟨w.heap.size + 4, 0, none⟩ (.string x)) := by
 refine ⟨v.bel.setCell (by show w.heap.size ≤ w.heap.size + 4; omega) _, (Below.heap_setCell _ _ _ _ (by show _ ≠ _; simp)).trans v.nod, (Below.heap_setCell _ _ _ _ (by show _ ≠ _; simp)).trans v.hld, (Below.heap_setCell _ _ _ _ (by show _ ≠ _; simp)).trans v.rec_, (Below.heap_setCell _ _ _ _ (by show _ ≠ _; simp)).trans v.res, ?_⟩
 have := v.out
 simp [World.setCell, Array.getElem?_modify, this]
structure AVC (w : World) (n : Nod) (h : Hld) (r : Rec) (key' : ByteArray) (num' : Int) (wx : World) : Prop where
 n0 : wx.cell? ⟨w.heap.size, 0, none⟩ = some (.int .i64 n.kind)
 n2 : wx.cell? ⟨w.heap.size, 2, none⟩ = some (.string n.text)
 n3 : wx.cell? ⟨w.heap.size, 3, none⟩ = some (.int .i64 n.n)
 h2 : wx.cell? ⟨w.heap.size + 1, 2, none⟩ = some (.int .i64 h.a)
 h3 : wx.cell? ⟨w.heap.size + 1, 3, none⟩ = some (.int .i64 h.b)
 r0 : wx.cell? ⟨w.heap.size + 2, 0, none⟩ = some (.string r.key)
 r1 : wx.cell? ⟨w.heap.size + 2, 1, none⟩ = some (.int .i64 r.num)
 o0 : wx.cell? ⟨w.heap.size + 4, 0, none⟩ = some (.string key')
 o1 : wx.cell? ⟨w.heap.size + 4, 1, none⟩ = some (.int .i64 num')
 o2 : wx.cell? ⟨w.heap.size + 4, 2, none⟩ = some (.int .i64 r.time)
 of_ : ∀ i, wx.frozen? ⟨w.heap.size + 4, i, none⟩ = false
theorem AV.c {w : World} {n : Nod} {A0 : Option Addr} {c0 : Nat} {h : Hld} {r : Rec} {key' : ByteArray} {num' : Int} {wx : World} (v : AV w n A0 c0 h r key' num' wx) : AVC w n h r key' num' wx :=
 ⟨(cell_of_row wx _ 0 _ _ _ v.nod).trans rfl, (cell_of_row wx _ 2 _ _ _ v.nod).trans rfl, (cell_of_row wx _ 3 _ _ _ v.nod).trans rfl, (cell_of_row wx _ 2 _ _ _ v.hld).trans rfl, (cell_of_row wx _ 3 _ _ _ v.hld).trans rfl, (cell_of_row wx _ 0 _ _ _ v.rec_).trans rfl, (cell_of_row wx _ 1 _ _ _ v.rec_).trans rfl,
  (cell_of_row wx _ 0 _ _ _ v.out).trans rfl, (cell_of_row wx _ 1 _ _ _ v.out).trans rfl, (cell_of_row wx _ 2 _ _ _ v.out).trans rfl, fun i => by have := v.out; simp [World.frozen?] at this ⊢; simp [this]⟩
def hset (w : World) (k : Nat) (x y z u : Value) : World := (((w.setCell ⟨k, 0, none⟩ x).setCell ⟨k, 1, none⟩ y).setCell ⟨k, 2, none⟩ z).setCell ⟨k, 3, none⟩ u
theorem hset_put {w : World} {k : Nat} {a b c d : Value} {T : TypeId} (h : w.heap[k]? = some (.cells #[a, b, c, d] T (0, 0))) (x y z u : Value) : (hset w k x y z u).heap[k]? = some (.cells #[x, y, z, u] T (0, 0)) := by
 simp [hset, World.setCell, Array.getElem?_modify, h]
theorem hset_far (w : World) {k j : Nat} (h : j ≠ k) (x y z u : Value) : (hset w k x y z u).heap[j]? = w.heap[j]? := by
 unfold hset
 iterate 4 rw [Below.heap_setCell _ _ _ _ (by simpa using h)]
theorem hset_size (w : World) (k : Nat) (x y z u : Value) : (hset w k x y z u).heap.size = w.heap.size := by simp [hset]
def rrecCells (r : Rec) : List Value := [.string r.key, .int .i64 r.num, .int .i64 r.time]
theorem rown_recs {B : Nat} {w : World} {v : Value} {l : List Rec} (h : w.ownsRow B 44 3 v l.length (l.flatMap rrecCells)) (hx : ∀ r ∈ l, r.key.size ≤ maxLen ∧ I64 r.num ∧ I64 r.time) : ∃ A c, v = .slice A l.length c ∧ SlA recE (fun q => B ≤ q ∧ q < w.heap.size) w A c l := by
 obtain ⟨A, c, rfl, ho, hb⟩ := OwnS.of_row h
 exact ⟨A, c, rfl, ho.sl (E := recE) rrecCells (fun _ => rfl) rfl (fun k e => ⟨hb k e, OwnS.lt ho k e⟩) (fun r hr => ⟨rfl, hx r hr⟩)⟩
theorem rep_snoc {α : Type} (k : Nat) (x : α) (f : α → List Value) : (List.replicate (k + 1) x).flatMap f = (List.replicate k x).flatMap f ++ f x := by
 rw [List.replicate_succ', List.flatMap_append]; simp
structure Swt (w : World) (n : Nod) (A0 : Option Addr) (c0 : Nat) (h : Hld) (has : Bool) (r : Rec) (input : Int) (has' : Bool) (a' b' : Int) (M : Nat) (key' : ByteArray) (num' : Int) (wx : World) : Prop where
 av : AV w n A0 c0 h r key' num' wx
 eq : applyN n h has r input = ⟨if 40 < key'.size then [] else List.replicate M ⟨key', num', r.time⟩, if has' then ⟨0, r.key, a', b'⟩ else zeroH, has'⟩
 many : M ≤ 3
 size : key'.size ≤ 100
 num : I64s num'
set_option maxRecDepth 100000 in
set_option maxHeartbeats 16000000 in
theorem rapply_ok (n : Nod) (A0 : Option Addr) (c0 : Nat) (h : Hld) (has : Bool) (r : Rec) (input : Int) (w : World) (hk : r.key.size ≤ 40) (hrn : I64s r.num) (hrt : I64 r.time) (hha : I64s h.a) (hhb : I64s h.b) (hin : 0 ≤ input ∧ input ≤ 3) (h5 : n.kind = 5 → 0 ≤ n.n ∧ n.n ≤ 3) :
  Calls Tryz.prog 17 #[.agg #[.int .i64 n.kind, .slice A0 n.from_.length c0, .string n.text, .int .i64 n.n], .agg #[.int .i64 h.node, .string h.key, .int .i64 h.a, .int .i64 h.b], .bool has, .agg #[.string r.key, .int .i64 r.num, .int .i64 r.time], .int .i64 input] w fun e w' =>
   ∃ A c, e = .returned (.tuple #[.slice A (applyN n h has r input).out.length c, .agg #[.int .i64 (applyN n h has r input).held.node, .string (applyN n h has r input).held.key, .int .i64 (applyN n h has r input).held.a, .int .i64 (applyN n h has r input).held.b], .bool (applyN n h has r input).has]) ∧ SlA recE (fun q => w.heap.size ≤ q ∧ q < w'.heap.size) w' A c (applyN n h has r input).out ∧ Below w.heap.size w w' := by
 obtain ⟨W5, hW5⟩ : ∃ W5, W5 = ((((w.alloc (.cells #[.int .i64 n.kind, .slice A0 n.from_.length c0, .string n.text, .int .i64 n.n] 40)).alloc (.cells #[.int .i64 h.node, .string h.key, .int .i64 h.a, .int .i64 h.b] 42)).alloc (.cells #[.string r.key, .int .i64 r.num, .int .i64 r.time] 44)).alloc (.cells #[.int .i64 0, .string ⟨#[]⟩, .int .i64 0, .int .i64 0] 42)).alloc (.cells #[.string r.key, .int .i64 r.num, .int .i64 r.time] 44) := ⟨_, rfl⟩
 have hAV : AV w n A0 c0 h r r.key r.num W5 := by
  rw [hW5]
  have e : ∀ (W : World) (o : Obj) (k : Nat), W.heap.size = k → (W.alloc o).heap[k]? = some o := fun W o k hk => by rw [← hk]; exact heap_alloc_new W o
  refine ⟨(((((Below.refl _ _).alloc (Nat.le_refl _) _).alloc (by simp) _).alloc (by simp; omega) _).alloc (by simp; omega) _).alloc (by simp; omega) _, ?_, ?_, ?_, ?_, ?_⟩
  ·exact (heap_alloc_old _ _ (by simp; omega)).trans ((heap_alloc_old _ _ (by simp; omega)).trans ((heap_alloc_old _ _ (by simp; omega)).trans ((heap_alloc_old _ _ (by simp)).trans (heap_alloc_new _ _))))
  ·exact (heap_alloc_old _ _ (by simp)).trans ((heap_alloc_old _ _ (by simp)).trans ((heap_alloc_old _ _ (by simp)).trans (e _ _ _ (by simp))))
  ·exact (heap_alloc_old _ _ (by simp)).trans ((heap_alloc_old _ _ (by simp)).trans (e _ _ _ (by simp)))
  ·exact (heap_alloc_old _ _ (by simp)).trans (e _ _ _ (by simp))
  ·exact e _ _ _ (by simp)
 have HAV := Lib.hid hAV
 have HW5 := Lib.hid hW5
 have HIN := Lib.hid hin
 have HRN := Lib.hid hrn
 have HRT := Lib.hid hrt
 have HH := Lib.hid (And.intro hha hhb)
 have H5 := Lib.hid h5
 obtain ⟨sa, hsa⟩ : ∃ sa, sa = if has then h.a else 0 := ⟨_, rfl⟩
 obtain ⟨sb, hsb⟩ : ∃ sb, sb = if has then h.b else 0 := ⟨_, rfl⟩
 have HSA : Hid (sa = (begins h has r).a ∧ sb = (begins h has r).b ∧ begins h has r = ⟨0, r.key, sa, sb⟩ ∧ I64s sa ∧ I64s sb) := by
  rw [hsa, hsb]; unfold begins
  cases has with
  | true => exact ⟨rfl, rfl, rfl, hha, hhb⟩
  | false => exact ⟨rfl, rfl, rfl, ⟨by simp, by simp⟩, ⟨by simp, by simp⟩⟩
 clear hAV hW5 hin hrn hrt hha hhb h5
 go_enter Tryz.func17, Tryz.ntmps17
 go_upto_if 23 with (fail)
 go_cut [13, 14] from 24 to 27 (fun av bv wx => av = .int .i64 sa ∧ bv = .int .i64 sb ∧ Hid (wx = (((w.alloc (.cells #[.int .i64 n.kind, .slice A0 n.from_.length c0, .string n.text, .int .i64 n.n] 40)).alloc (.cells #[.int .i64 h.node, .string h.key, .int .i64 h.a, .int .i64 h.b] 42)).alloc (.cells #[.string r.key, .int .i64 r.num, .int .i64 r.time] 44)).alloc (.cells #[.int .i64 0, .string ⟨#[]⟩, .int .i64 0, .int .i64 0] 42)))
 case first =>
  have HSB := Lib.hid (And.intro hsa hsb)
  clear hsa hsb
  cases has with
  | true =>
   go_wp2_with fail
   go_meet
   case rel => exact ⟨by rw [HSB.out.1]; rfl, by rw [HSB.out.2]; rfl, rfl⟩
  | false =>
   go_wp2_with fail
   go_meet
   case rel => exact ⟨by rw [HSB.out.1]; rfl, by rw [HSB.out.2]; rfl, rfl⟩
 case rest =>
  obtain ⟨rfl, rfl, hwc⟩ := hcut
  have hwc2 := hwc.out
  clear hwc hsa hsb
  subst hwc2
  go_upto_region 9 with (fail)
  rw [← HW5.out]
  clear HW5
  obtain ⟨n0, n2, n3, x2, x3, r0, r1, o0, o1, o2, of_⟩ := HAV.out.c
  go_upto_block 0 with (fail)
  obtain ⟨kind, hkind⟩ : ∃ kind, kind = n.kind := ⟨_, rfl⟩
  rw [← hkind] at n0 ⊢
  have HK := Lib.hid hkind
  have HKS := Lib.hid hk
  clear hkind
  go_cut [2, 13, 14, 16] from 18 to 102 (fun hv av bv mv wx => ∃ (has' : Bool) (a' b' : Int) (M : Nat) (key' : ByteArray) (num' : Int), hv = .bool has' ∧ av = .int .i64 a' ∧ bv = .int .i64 b' ∧ mv = .int .i64 (M : Int) ∧ Hid (Swt w n A0 c0 h has r input has' a' b' M key' num' wx))
  case first =>
   by_cases hk2 : kind = 2
   ·have HAP : Hid (n.kind = 2) := by show _ = _; rw [← HK.out, hk2]
    have hs0 : ∀ k : Int, k = kind → k ≠ 2 → False := fun k h1 h2 => h2 (h1.trans hk2)
    clear hs0
    subst hk2
    have HE := Lib.hid (reval_ok n.text r.num 0 W5 HRN.out ⟨by omega, by omega⟩)
    go_wp2_with fail
    refine HE.out.mono ?_
    rintro e w1 ⟨rfl, hx, hb⟩
    have hav := HAV.out.below hb
    obtain ⟨n0, n2, n3, x2, x3, r0, r1, o0, o1, o2, of_⟩ := hav.c
    have HAV1 := Lib.hid hav
    have HX := Lib.hid hx
    obtain ⟨ev, hev⟩ : ∃ ev, ev = evalOf n.text r.num 0 := ⟨_, rfl⟩
    rw [← hev] at HX ⊢
    have HEV := Lib.hid hev
    clear hav hb hx HE hev
    go_wp2_with fail
    go_meet
    case rel =>
     refine ⟨has, sa, sb, 1, r.key, ev, rfl, rfl, rfl, rfl, HAV1.out.setNum ev, ?_, by omega, by have := HKS.out; omega, HX.out⟩
     unfold applyN; simp only [HAP.out]; rw [HSA.out.2.2.1, ← HEV.out]; simp [ends_, passR_rep]
   have e2 : (kind == 2) = false := by simp [hk2]
   by_cases hk3 : kind = 3
   ·have HAP : Hid (n.kind = 3) := by show _ = _; rw [← HK.out, hk3]
    have hs0 : ∀ k : Int, k = kind → k ≠ 3 → False := fun k h1 h2 => h2 (h1.trans hk3)
    clear hs0 e2
    subst hk3
    have HE := Lib.hid (reval_ok n.text r.num 0 W5 HRN.out ⟨by omega, by omega⟩)
    go_wp2_with fail
    refine HE.out.mono ?_
    rintro e w1 ⟨rfl, hx, hb⟩
    have hav := HAV.out.below hb
    obtain ⟨n0, n2, n3, x2, x3, r0, r1, o0, o1, o2, of_⟩ := hav.c
    have HAV1 := Lib.hid hav
    obtain ⟨ev, hev⟩ : ∃ ev, ev = evalOf n.text r.num 0 := ⟨_, rfl⟩
    rw [← hev]
    have HEV := Lib.hid hev
    clear hav hb hx HE hev
    by_cases hev0 : ev = 0
    ·subst hev0
     go_wp2_with fail
     go_meet
     case rel =>
      refine ⟨has, sa, sb, 0, r.key, r.num, rfl, rfl, rfl, rfl, HAV1.out, ?_, by omega, by have := HKS.out; omega, HRN.out⟩
      unfold applyN; simp only [HAP.out]; rw [HSA.out.2.2.1, ← HEV.out]; simp [ends_]
    ·have hne : (ev == 0) = false := by simp [hev0]
     have HNE := Lib.hid hev0
     clear hev0
     go_wp2_with fail
     go_meet
     case rel =>
      refine ⟨has, sa, sb, 1, r.key, r.num, rfl, rfl, rfl, rfl, HAV1.out, ?_, by omega, by have := HKS.out; omega, HRN.out⟩
      unfold applyN; simp only [HAP.out]; rw [HSA.out.2.2.1, ← HEV.out]; have := HNE.out; simp [ends_, passR_rep, this]
   have e3 : (kind == 3) = false := by simp [hk3]
   by_cases hk4 : kind = 4
   ·have HAP : Hid (n.kind = 4) := by show _ = _; rw [← HK.out, hk4]
    have hs0 : ∀ k : Int, k = kind → k ≠ 4 → False := fun k h1 h2 => h2 (h1.trans hk4)
    clear hs0 e2 e3
    subst hk4
    have HE := Lib.hid (reval_ok n.text r.num 0 W5 HRN.out ⟨by omega, by omega⟩)
    go_wp2_with fail
    refine HE.out.mono ?_
    rintro e w1 ⟨rfl, hx, hb⟩
    obtain ⟨ev, hev⟩ : ∃ ev, ev = evalOf n.text r.num 0 := ⟨_, rfl⟩
    rw [← hev] at hx ⊢
    have HEV := Lib.hid hev
    have hav := HAV.out.below hb
    have HD := Lib.hid (digits_ok ev w1 hx)
    obtain ⟨D, hD, hDs, hDl⟩ : ∃ D : ByteArray, D = ⟨(Lib.itoa ev).toArray⟩ ∧ D.size ≤ 21 ∧ D.data.toList = Lib.itoa ev := ⟨_, rfl, by show (Lib.itoa ev).toArray.size ≤ 21; simpa using Go.Lib.itoa_length_le ev hx.1 hx.2, by simp⟩
    rw [← hD] at HD
    have HDD := Lib.hid hD
    have HAV1 := Lib.hid hav
    clear hav hb hx HE hev hD hDl
    go_wp2_with fail
    refine HD.out.mono ?_
    rintro e w2 ⟨rfl, hb⟩
    have hav := HAV1.out.below hb
    obtain ⟨n0, n2, n3, x2, x3, r0, r1, o0, o1, o2, of_⟩ := hav.c
    have HAV2 := Lib.hid hav
    clear hav hb HD HAV1
    go_wp2_with fail
    go_meet
    case rel =>
     refine ⟨has, sa, sb, 1, r.key ++ ⟨#[47]⟩ ++ D, r.num, rfl, rfl, rfl, rfl, HAV2.out.setKey _, ?_, by omega, ?_, HRN.out⟩
     ·unfold applyN; simp only [HAP.out]; rw [HSA.out.2.2.1, ← HEV.out]
      have e : subKey r.key ev = r.key ++ ⟨#[47]⟩ ++ D := by unfold subKey; rw [← HDD.out, ByteArray.append_assoc]
      simp [ends_, passR_rep, e]
     ·have := HKS.out; rw [ByteArray.size_append, ByteArray.size_append]; have : (⟨#[47]⟩ : ByteArray).size = 1 := rfl; omega
   have e4 : (kind == 4) = false := by simp [hk4]
   by_cases hk5 : kind = 5
   ·have HAP : Hid (n.kind = 5) := by show _ = _; rw [← HK.out, hk5]
    have hs0 : ∀ k : Int, k = kind → k ≠ 5 → False := fun k h1 h2 => h2 (h1.trans hk5)
    clear hs0 e2 e3 e4
    subst hk5
    have h5 := H5.out HAP.out
    obtain ⟨M, hM⟩ : ∃ M : Nat, n.n = (M : Int) := ⟨n.n.toNat, by omega⟩
    have HM := Lib.hid hM
    clear h5
    rw [hM] at n3
    clear hM
    go_wp2_with fail
    go_meet
    case rel =>
     have hM3 := (H5.out HAP.out).2
     have hM := HM.out
     refine ⟨has, sa, sb, M, r.key, r.num, rfl, rfl, rfl, rfl, HAV.out, ?_, by omega, by have := HKS.out; omega, HRN.out⟩
     have hm : (min 3 n.n).toNat = M := by omega
     unfold applyN; simp only [HAP.out]; rw [HSA.out.2.2.1, hm]
     have hkk : ¬ 40 < r.key.size := by have := HKS.out; omega
     simp [ends_, passR, hkk, List.flatten_replicate_singleton]
   have e5 : (kind == 5) = false := by simp [hk5]
   by_cases hk6 : kind = 6
   ·have HAP : Hid (n.kind = 6) := by show _ = _; rw [← HK.out, hk6]
    have hs0 : ∀ k : Int, k = kind → k ≠ 6 → False := fun k h1 h2 => h2 (h1.trans hk6)
    clear hs0 e2 e3 e4 e5
    subst hk6
    have HD := Lib.hid (digits_ok input W5 ⟨by have := HIN.out; omega, by have := HIN.out; omega⟩)
    obtain ⟨D, hD, hDs⟩ : ∃ D : ByteArray, D = ⟨(Lib.itoa input).toArray⟩ ∧ D.size ≤ 21 := ⟨_, rfl, by show (Lib.itoa input).toArray.size ≤ 21; simpa using Go.Lib.itoa_length_le input (by have := HIN.out; omega) (by have := HIN.out; omega)⟩
    rw [← hD] at HD
    have HDD := Lib.hid hD
    clear hD
    go_wp2_with fail
    refine HD.out.mono ?_
    rintro e w2 ⟨rfl, hb⟩
    have hav := HAV.out.below hb
    obtain ⟨n0, n2, n3, x2, x3, r0, r1, o0, o1, o2, of_⟩ := hav.c
    have HAV2 := Lib.hid hav
    clear hav hb HD
    go_wp2_with fail
    go_meet
    case rel =>
     refine ⟨has, sa, sb, 1, D ++ ⟨#[58]⟩ ++ r.key, r.num, rfl, rfl, rfl, rfl, HAV2.out.setKey _, ?_, by omega, ?_, HRN.out⟩
     ·unfold applyN; simp only [HAP.out]; rw [HSA.out.2.2.1]
      have e : uniKey input r.key = D ++ ⟨#[58]⟩ ++ r.key := by unfold uniKey; rw [← HDD.out]
      simp [ends_, passR_rep, e]
     ·have := HKS.out; rw [ByteArray.size_append, ByteArray.size_append]; have : (⟨#[58]⟩ : ByteArray).size = 1 := rfl; omega
   have e6 : (kind == 6) = false := by simp [hk6]
   by_cases hk7 : kind = 7
   ·have HAP : Hid (n.kind = 7) := by show _ = _; rw [← HK.out, hk7]
    have hs0 : ∀ k : Int, k = kind → k ≠ 7 → False := fun k h1 h2 => h2 (h1.trans hk7)
    clear hs0 e2 e3 e4 e5 e6
    subst hk7
    have HE := Lib.hid (reval_ok n.text r.num sa W5 HRN.out HSA.out.2.2.2.1)
    go_wp2_with fail
    refine HE.out.mono ?_
    rintro e w1 ⟨rfl, hx, hb⟩
    have hav := HAV.out.below hb
    obtain ⟨n0, n2, n3, x2, x3, r0, r1, o0, o1, o2, of_⟩ := hav.c
    have HAV1 := Lib.hid hav
    have HX := Lib.hid hx
    obtain ⟨ev, hev⟩ : ∃ ev, ev = evalOf n.text r.num sa := ⟨_, rfl⟩
    rw [← hev] at HX ⊢
    have HEV := Lib.hid hev
    clear hav hb hx HE hev
    go_wp2_with fail
    go_meet
    case rel =>
     refine ⟨true, ev, sb, 1, r.key, ev, rfl, rfl, rfl, rfl, HAV1.out.setNum ev, ?_, by omega, by have := HKS.out; omega, HX.out⟩
     unfold applyN; simp only [HAP.out]; rw [HSA.out.2.2.1]; simp only; rw [← HEV.out]; simp [ends_, passR_rep]
   have e7 : (kind == 7) = false := by simp [hk7]
   by_cases hk8 : kind = 8
   ·have HAP : Hid (n.kind = 8) := by show _ = _; rw [← HK.out, hk8]
    have hs0 : ∀ k : Int, k = kind → k ≠ 8 → False := fun k h1 h2 => h2 (h1.trans hk8)
    clear hs0 e2 e3 e4 e5 e6 e7
    subst hk8
    obtain ⟨a1, ha1⟩ : ∃ a1, a1 = wrap64 (sa + 1) := ⟨_, rfl⟩
    obtain ⟨b1, hb1⟩ : ∃ b1, b1 = wrap64 (sb + r.num) := ⟨_, rfl⟩
    have HAB := Lib.hid (And.intro ha1 hb1)
    have ha2 := ha1.symm
    have hb2 := hb1.symm
    clear ha1 hb1
    by_cases hlt : a1 < n.n
    ·have d1 : decide (a1 < n.n) = true := decide_eq_true hlt
     have HLT := Lib.hid hlt
     clear hlt
     go_wp2_with fail
     go_meet
     case rel =>
      refine ⟨true, a1, b1, 0, r.key, r.num, rfl, by first | rfl | rw [ha2], by first | rfl | rw [hb2], rfl, HAV.out, ?_, by omega, by have := HKS.out; omega, HRN.out⟩
      unfold applyN; simp only [HAP.out]; rw [HSA.out.2.2.1]; simp only; rw [← HAB.out.1, ← HAB.out.2]; have := HLT.out; have hle : ¬ n.n ≤ a1 := by omega
      simp [ends_, hle]
    ·have d1 : decide (a1 < n.n) = false := decide_eq_false hlt
     have HLT := Lib.hid hlt
     clear hlt
     go_wp2_with fail
     go_meet
     case rel =>
      refine ⟨true, 0, 0, 1, r.key, b1, rfl, rfl, rfl, rfl, HAV.out.setNum b1, ?_, by omega, by have := HKS.out; omega, by rw [HAB.out.2]; exact wrap_i64s _⟩
      unfold applyN; simp only [HAP.out]; rw [HSA.out.2.2.1]; simp only; rw [← HAB.out.1, ← HAB.out.2]; have := HLT.out; have hle : n.n ≤ a1 := by omega
      simp [ends_, passR_rep, hle]
   have e8 : (kind == 8) = false := by simp [hk8]
   by_cases hk9 : kind = 9
   ·have HAP : Hid (n.kind = 9) := by show _ = _; rw [← HK.out, hk9]
    have hs0 : ∀ k : Int, k = kind → k ≠ 9 → False := fun k h1 h2 => h2 (h1.trans hk9)
    clear hs0 e2 e3 e4 e5 e6 e7 e8
    subst hk9
    cases has with
    | true =>
     go_wp2_with fail
     go_meet
     case rel =>
      refine ⟨true, 1, sb, 0, r.key, r.num, rfl, rfl, rfl, rfl, HAV.out, ?_, by omega, by have := HKS.out; omega, HRN.out⟩
      unfold applyN; simp only [HAP.out]; rw [HSA.out.2.2.1]; simp [ends_]
    | false =>
     go_wp2_with fail
     go_meet
     case rel =>
      refine ⟨true, 1, sb, 1, r.key, r.num, rfl, rfl, rfl, rfl, HAV.out, ?_, by omega, by have := HKS.out; omega, HRN.out⟩
      unfold applyN; simp only [HAP.out]; rw [HSA.out.2.2.1]; simp [ends_, passR_rep]
   have e9 : (kind == 9) = false := by simp [hk9]
   have HNK : Hid (kind ≠ 2 ∧ kind ≠ 3 ∧ kind ≠ 4 ∧ kind ≠ 5 ∧ kind ≠ 6 ∧ kind ≠ 7 ∧ kind ≠ 8 ∧ kind ≠ 9) := ⟨hk2, hk3, hk4, hk5, hk6, hk7, hk8, hk9⟩
   clear hk2 hk3 hk4 hk5 hk6 hk7 hk8 hk9
   go_wp2_with fail
   go_meet
   case rel =>
    refine ⟨has, sa, sb, 1, r.key, r.num, rfl, rfl, rfl, rfl, HAV.out, ?_, by omega, by have := HKS.out; omega, HRN.out⟩
    obtain ⟨g2, g3, g4, g5, g6, g7, g8, g9⟩ := HNK.out
    rw [HK.out] at g2 g3 g4 g5 g6 g7 g8 g9
    unfold applyN; simp only [if_neg g2, if_neg g3, if_neg g4, if_neg g5, if_neg g6, if_neg g7, if_neg g8, if_neg g9]; rw [HSA.out.2.2.1]; simp [ends_, passR_rep]
  case rest =>
   obtain ⟨has', a', b', M, key', num', rfl, rfl, rfl, rfl, HSW⟩ := hcut
   clear n0 n2 n3 x2 x3 r0 r1 o0 o1 o2 of_ HAV HSA HH H5 HK HKS
   obtain ⟨wl, hwl⟩ : ∃ wl, wl = wc := ⟨_, rfl⟩
   rw [← hwl] at HSW ⊢
   clear hwl
   have hM3 := HSW.out.many
   have hks := HSW.out.size
   have HRI : Hid (∀ r', r' = Rec.mk key' num' r.time → r'.key.size ≤ maxLen ∧ I64 r'.num ∧ I64 r'.time) := fun r' e => by
    subst e
    exact ⟨by show key'.size ≤ maxLen; unfold maxLen; omega, WalkArith.wf_i64 (by have := HSW.out.num; exact ⟨this.1, this.2⟩), HRT.out⟩
   obtain ⟨N, hN⟩ : ∃ N, N = if 40 < key'.size then 0 else M := ⟨_, rfl⟩
   have hNM : N ≤ M := by rw [hN]; split <;> omega
   have hNz : N < M → 40 < key'.size := fun hlt => by
    refine Classical.byContradiction fun h => ?_
    rw [if_neg h] at hN; omega
   have hN4 : 0 < N → key'.size ≤ 40 := fun hpos => by
    refine Classical.byContradiction fun h => ?_
    rw [if_pos (by omega)] at hN; omega
   have HEQ : Hid (applyN n h has r input = ⟨List.replicate N ⟨key', num', r.time⟩, if has' then ⟨0, r.key, a', b'⟩ else zeroH, has'⟩) := by
    show _ = _
    rw [HSW.out.eq, hN]
    split <;> rfl
   have HNZ := Lib.hid (And.intro hNz hN4)
   clear hN hNz hN4
   go_wp2_with fail
   go_loopg [21, 22] N (fun gk lv iv wx => ∃ k : Nat, k ≤ N ∧ gk = N - k ∧ iv = .int .i64 (k : Int) ∧ Hid (wx.ownsRow wl.heap.size 44 3 lv k ((List.replicate k (Rec.mk key' num' r.time)).flatMap rrecCells)) ∧ Hid (Below wl.heap.size wl wx))
   case atStart => exact ⟨0, Nat.zero_le _, rfl, rfl, World.ownsRow_nil _ _ _ _, Below.refl _ _⟩
   case round =>
    obtain ⟨k, hk2, hgk, rfl, HO, HB⟩ := hrel
    have hav := HSW.out.av.below HB.out
    have HAV := Lib.hid hav
    obtain ⟨n0, n2, n3, x2, x3, r0, r1, o0, o1, o2, of_⟩ := hav.c
    have hszl := hav.lt
    clear hav n0 n2 n3 x2 x3 r0 r1
    by_cases hlt : k < N
    ·have d1 : decide ((k : Int) < (M : Int)) = true := decide_eq_true (by omega)
     have hk40 := HNZ.out.2 (by omega)
     have d2 : decide ((key'.size : Int) ≤ 40) = true := decide_eq_true (by omega)
     have hlt2 : k < M := by omega
     go_wp2_with (at_builtin; refine wpList_push (w0 := wr) rfl _ _ 47 rfl wl.heap.size 44 _ 3 32 Tryz.underlying47 info_recR rfl (by decide) u21 k _ rfl HO.out [.string key', .int .i64 num', .int .i64 r.time] (by simp [Act.eval]) rfl ?_ ?_ ?_ HB.out.size HB.out (Nat.le_refl _) ?_)
     ·rintro u hu; simp only [List.mem_cons, List.not_mem_nil, or_false] at hu; rcases hu with rfl | rfl | rfl <;> rfl
     ·unfold maxLen; omega
     ·omega
     ·intro v1 w1 hown1 hg1 hb1 hat1
      have HO1 := Lib.hid hown1
      have HB1 := Lib.hid hb1
      clear hown1 hg1 hb1 hat1
      go_wp2_with fail
      go_roundg (N - (k + 1))
      case measure => omega
      case rel => exact ⟨k + 1, by omega, rfl, by first | rfl | (congr 1), by show World.ownsRow _ _ _ _ _ _ _; rw [rep_snoc]; exact HO1.out, HB1.out⟩
    ·obtain rfl : k = N := by omega
     obtain ⟨A, c, rfl, hsl⟩ := rown_recs (l := List.replicate k (Rec.mk key' num' r.time)) (by rw [List.length_replicate]; exact HO.out) (fun r' hr' => HRI.out r' (List.eq_of_mem_replicate hr'))
     have HSL := Lib.hid hsl
     have hcond : (k < M ∧ 40 < key'.size) ∨ ¬ k < M := by
      by_cases h : k < M
      ·exact .inl ⟨h, HNZ.out.1 h⟩
      ·exact .inr h
     have hlen : (List.replicate k (Rec.mk key' num' r.time)).length = k := List.length_replicate
     rw [hlen]
     clear hsl hlt hlen HO hNM
     go_upto_region 44 with (fail)
     go_cut [111] from 103 to 117 (fun bv wx => bv = .bool false ∧ wr = wx)
     case first =>
      rcases hcond with ⟨h1, h2⟩ | h1
      ·have d1 : decide ((k : Int) < (M : Int)) = true := decide_eq_true (by omega)
       have d2 : decide ((key'.size : Int) ≤ 40) = false := decide_eq_false (by omega)
       have d3 : ¬ key'.size ≤ 40 := by omega
       go_wp2_with fail
       go_meet
       case rel => exact ⟨by first | rfl | rw [d2], rfl⟩
      ·have d1 : decide ((k : Int) < (M : Int)) = false := decide_eq_false (by omega)
       go_wp2_with fail
       go_meet
       case rel => exact ⟨by first | rfl | rw [d1], rfl⟩
     case rest =>
      obtain ⟨rfl, rfl⟩ := hcut
      have hres := HAV.out.res
      have z0 : wr.cell? ⟨w.heap.size + 3, 0, none⟩ = some (.int .i64 0) := (cell_of_row wr _ 0 _ _ _ hres).trans rfl
      have z1 : wr.cell? ⟨w.heap.size + 3, 1, none⟩ = some (.string ⟨#[]⟩) := (cell_of_row wr _ 1 _ _ _ hres).trans rfl
      have z2 : wr.cell? ⟨w.heap.size + 3, 2, none⟩ = some (.int .i64 0) := (cell_of_row wr _ 2 _ _ _ hres).trans rfl
      have z3 : wr.cell? ⟨w.heap.size + 3, 3, none⟩ = some (.int .i64 0) := (cell_of_row wr _ 3 _ _ _ hres).trans rfl
      have zf : ∀ i, wr.frozen? ⟨w.heap.size + 3, i, none⟩ = false := fun i => by simp [World.frozen?, hres]
      have HRES := Lib.hid hres
      have HLL := Lib.hid HSW.out.av.lt
      have HEND : Hid (∀ x y z u, SlA recE (fun q => w.heap.size ≤ q ∧ q < (hset wr (w.heap.size + 3) x y z u).heap.size) (hset wr (w.heap.size + 3) x y z u) A c (List.replicate k (Rec.mk key' num' r.time)) ∧ Below w.heap.size w (hset wr (w.heap.size + 3) x y z u) ∧
        (hset wr (w.heap.size + 3) x y z u).cell? ⟨w.heap.size + 3, 0, none⟩ = some x ∧ (hset wr (w.heap.size + 3) x y z u).cell? ⟨w.heap.size + 3, 1, none⟩ = some y ∧ (hset wr (w.heap.size + 3) x y z u).cell? ⟨w.heap.size + 3, 2, none⟩ = some z ∧ (hset wr (w.heap.size + 3) x y z u).cell? ⟨w.heap.size + 3, 3, none⟩ = some u) := fun x y z u => by
       have hp := hset_put HRES.out x y z u
       have hl4 := HLL.out
       refine ⟨(HSL.out.keep fun q hq => hset_far _ (by have := hq.1; omega) _ _ _ _).more fun q hq => ⟨by have := hq.1; omega, by rw [hset_size]; exact hq.2⟩, ?_, (cell_of_row _ _ 0 _ _ _ hp).trans rfl, (cell_of_row _ _ 1 _ _ _ hp).trans rfl, (cell_of_row _ _ 2 _ _ _ hp).trans rfl, (cell_of_row _ _ 3 _ _ _ hp).trans rfl⟩
       exact (((HAV.out.bel.setCell (by show w.heap.size ≤ w.heap.size + 3; omega) _).setCell (by show w.heap.size ≤ w.heap.size + 3; omega) _).setCell (by show w.heap.size ≤ w.heap.size + 3; omega) _).setCell (by show w.heap.size ≤ w.heap.size + 3; omega) _
      clear hcond hres o0 o1 o2 of_ hszl hk2 hgk
      cases has' with
      | true =>
       go_wp2_with fail
       obtain ⟨s1, s2, q0, q1, q2, q3⟩ := HEND.out (.int .i64 0) (.string r.key) (.int .i64 a') (.int .i64 b')
       simp only [hset] at q0 q1 q2 q3
       refine ⟨rfl, .tuple #[.slice A k c, .agg #[.int .i64 0, .string r.key, .int .i64 a', .int .i64 b'], .bool true], ?_, ?_⟩
       ·simp only [results, Tryz.results17]
        simp [go_sem, q0, q1, q2, q3]
       ·rw [HEQ.out]
        exact ⟨A, c, by simp, s1, s2⟩
      | false =>
       go_wp2_with fail
       obtain ⟨s1, s2, q0, q1, q2, q3⟩ := HEND.out (.int .i64 0) (.string ⟨#[]⟩) (.int .i64 0) (.int .i64 0)
       simp only [hset] at q0 q1 q2 q3
       refine ⟨rfl, .tuple #[.slice A k c, .agg #[.int .i64 0, .string ⟨#[]⟩, .int .i64 0, .int .i64 0], .bool false], ?_, ?_⟩
       ·simp only [results, Tryz.results17]
        simp [go_sem, q0, q1, q2, q3]
       ·rw [HEQ.out]
        exact ⟨A, c, by simp [zeroH], s1, s2⟩
end Go.Proofs.YtfndhfekbbbliaaGreatDoor

/-
  The reference's All: what each node hands on, node by node; or that one hands on too much. Conditions: where the job and its data lie.
-/
namespace Go.Proofs.YtfndhfekbbbliaaGreatDoor
open Go.RowKit Go.ChangeShapes Go.WideShapes Go.Shelf
set_option linter.unusedVariables false
structure NodAt (J : List Nod) (nb : Nat) (n : Nod) (A' : Option Addr) (c' : Nat) (outs : List (List Rec)) (Ao : Option Addr) (co : Nat) (W1 : World) : Prop where
 nod : W1.heap[nb]? = some (.cells #[.int .i64 n.kind, .slice A' n.from_.length c', .string n.text, .int .i64 n.n] 40 (0, 0))
 fr : SlA (intE .i64) (· < W1.heap.size) W1 A' c' n.from_
 out : SlA (slE recE) (· < W1.heap.size) W1 Ao co outs
theorem NodAt.cells {J : List Nod} {nb : Nat} {n : Nod} {A' Ao : Option Addr} {c' co : Nat} {outs : List (List Rec)} {W1 wx : World} (h : NodAt J nb n A' c' outs Ao co W1) (hb : Below W1.heap.size W1 wx) :
  wx.cell? ⟨nb, 0, none⟩ = some (.int .i64 n.kind) ∧ wx.cell? ⟨nb, 1, none⟩ = some (.slice A' n.from_.length c') ∧ wx.cell? ⟨nb, 2, none⟩ = some (.string n.text) ∧ wx.cell? ⟨nb, 3, none⟩ = some (.int .i64 n.n) ∧ nb < W1.heap.size := by
 have hlt := block_lt h.nod
 have h1 := (hb.block nb hlt).trans h.nod
 exact ⟨(cell_of_row wx _ 0 _ _ _ h1).trans rfl, (cell_of_row wx _ 1 _ _ _ h1).trans rfl, (cell_of_row wx _ 2 _ _ _ h1).trans rfl, (cell_of_row wx _ 3 _ _ _ h1).trans rfl, hlt⟩
set_option maxRecDepth 100000 in
set_option maxHeartbeats 16000000 in
theorem rall_ok (F : Nat → Prop) (A : Option Addr) (c : Nat) (J : List Nod) (G : Nat → Prop) (Ad : Option Addr) (cd : Nat) (data : List (List Rec)) (w : World) (hl : SlA nodE F w A c J) (hF : ∀ k, F k → k < w.heap.size) (hd : SlA (slE recE) G w Ad cd data) (hG : ∀ k, G k → k < w.heap.size) :
  Calls Tryz.prog 73 #[.slice A J.length c, .slice Ad data.length cd] w (RAllPost J data w) := by
 have HC := Lib.hid (rdata_ok F A c J G Ad cd data w hl hF hd hG)
 by_cases h0 : denErr J data = 0
 ·obtain ⟨hJ, hlen, hdat⟩ := den_split h0
  have h12 := (job_parts hJ).1
  have HLEN := Lib.hid hlen
  have HDAT := Lib.hid hdat
  have H0 := Lib.hid h0
  have HJ := Lib.hid hJ
  have HL := Lib.hid hl
  have HD := Lib.hid hd
  have HF := Lib.hid hF
  have HG := Lib.hid hG
  have hdl := hd.le
  rw [h0] at HC
  clear h0 hJ hlen hdat hl hd hF hG
  go_enter Tryz.func73, Tryz.ntmps73
  go_wp2_with fail
  refine HC.out.mono ?_
  rintro e w1 ⟨rfl, b1⟩
  have HB1 := Lib.hid b1
  have HL1 : Hid (SlA nodE (· < w1.heap.size) w1 A c J) := (HL.out.keep fun k hk => b1.block k (HF.out k hk)).more fun k hk => Nat.lt_of_lt_of_le (HF.out k hk) b1.size
  have HD1 : Hid (SlA (slE recE) (· < w1.heap.size) w1 Ad cd data) := (HD.out.keep fun k hk => b1.block k (HG.out k hk)).more fun k hk => Nat.lt_of_lt_of_le (HG.out k hk) b1.size
  clear b1 HC HL HD HF HG
  go_wp2_with fail
  go_loopw [7, 8, 9] (fun ov sv iv wr => ∃ (i : Nat) (rows : List RowR) (Ao : Option Addr) (co : Nat), i ≤ J.length ∧ iv = .int .i64 i ∧ sv = .int .i64 ((allR data (J.take i)).src : Nat) ∧ ov = .slice Ao i co ∧ Hid (RowsAt w1.heap.size wr (.slice Ao i co) none rows) ∧ Hid (rows.length = i ∧ rows.map (·.1) = (allR data (J.take i)).outs) ∧ Hid (NoOver J (allR data (J.take i)).outs i) ∧ Hid (Below w1.heap.size w1 wr)) (fun _ _ iv _ => J.length - (intOf iv).toNat)
  case atStart => exact ⟨0, [], none, 0, Nat.zero_le _, rfl, rfl, rfl, RowsAt.nil _ _ _, ⟨rfl, rfl⟩, (fun j n l hj => by omega), Below.refl _ _⟩
  case round =>
   obtain ⟨i, rows, Ao, co, hi, rfl, rfl, rfl, HR, HRL, HNO, HB⟩ := hrel
   by_cases hlt : i < J.length
   ·have hNP := NodeP.of H0.out hlt HNO.out
    have hB0 := HB.out.size
    obtain ⟨b, off, A', c', rfl, hFb, x0, x1, x2, x3, _, _, _, hfr⟩ := (HL1.out.keep fun k hk => HB.out.block k hk).nod_ hlt
    have hbl : b < wr.heap.size := Nat.lt_of_lt_of_le hFb hB0
    have HNX : Hid (allR data (J.take (i + 1)) = stepR data (allR data (J.take i)) J[i]) := allR_next data J hlt
    have hsrcS : J[i].kind = 1 → (allR data (J.take i)).src < data.length := fun hk => hNP.src HLEN.out hk
    obtain ⟨sn, hsn⟩ : ∃ sn, sn = (allR data (J.take i)).src := ⟨_, rfl⟩
    obtain ⟨m0, hm0⟩ : ∃ m0, m0 = (if J[i].kind = 1 then data[(allR data (J.take i)).src]?.getD [] else []) := ⟨_, rfl⟩
    rw [← hm0] at hNP
    rw [← hsn] at hm0 hsrcS
    have HNP := Lib.hid hNP
    clear hNP hFb
    generalize J[i] = n at x0 x1 x2 x3 hfr HNX HNP hsrcS hm0
    obtain ⟨A9, c9, e9, hso⟩ := HR.out.sl
    rw [HRL.out.1] at e9
    injection e9 with e9 _ e10
    subst e9; subst e10
    rw [HRL.out.2] at hso
    obtain ⟨outs, houts⟩ : ∃ outs, outs = (allR data (J.take i)).outs := ⟨_, rfl⟩
    rw [← houts] at hso HNP HNO HRL
    obtain ⟨kind, from_, text, nn⟩ := n
    obtain ⟨W1, hW1⟩ : ∃ W1, W1 = wr.alloc (.cells #[.int .i64 kind, .slice A' from_.length c', .string text, .int .i64 nn] 40) := ⟨_, rfl⟩
    have hBW : Below wr.heap.size wr W1 := by rw [hW1]; exact (Below.refl _ _).alloc (Nat.le_refl _) _
    have hNA : NodAt J wr.heap.size ⟨kind, from_, text, nn⟩ A' c' outs Ao co W1 := by
     refine ⟨by rw [hW1]; exact heap_alloc_new _ _, (hfr.keep fun k hk => hBW.block k (Nat.lt_of_lt_of_le hk hB0)).more fun k hk => Nat.lt_of_lt_of_le (Nat.lt_of_lt_of_le hk hB0) hBW.size, (hso.keep fun k hk => hBW.block k hk).more fun k hk => Nat.lt_of_lt_of_le hk hBW.size⟩
    have hW1s : W1.heap.size = wr.heap.size + 1 := by rw [hW1]; simp
    have HW1S := Lib.hid hW1s
    have HBW := Lib.hid hBW
    have HRZ : Hid (∀ wz, Below W1.heap.size W1 wz → Below wr.heap.size wr wz) := fun wz h => hBW.trans (h.mono hBW.size)
    have HBR : Hid (∀ wz, Below W1.heap.size W1 wz → Below w1.heap.size w1 wz) := fun wz h => HB.out.trans ((HRZ.out wz h).mono hB0)
    have HBZ : Hid (∀ wz, Below W1.heap.size W1 wz → Below w.heap.size w wz) := fun wz h => HB1.out.trans ((HBR.out wz h).mono HB1.out.size)
    have HNA := Lib.hid hNA
    have HSN := Lib.hid hsn
    have HOUTS := Lib.hid houts
    have hf4 := HNP.out.four
    clear hfr hso hBW hNA hsn houts hW1s
    go_upto_region 10 with (fail)
    rw [← hW1]
    rw [show (allR data (J.take i)).src = sn from HSN.out.symm]
    clear x0 x1 x2 x3 hW1
    obtain ⟨nb, hnb⟩ : ∃ nb, nb = wr.heap.size := ⟨_, rfl⟩
    rw [← hnb] at HNA ⊢
    have HNB := Lib.hid hnb
    clear hnb
    obtain ⟨n0, n1, n2, n3, hnbl⟩ := HNA.out.cells (Below.refl _ _)
    simp only at n0 n1 n2 n3
    go_upto_if 39 with (fail)
    go_cut [8, 11] from 33 to 136 (fun sv mv wx => ∃ (s' : Nat) (Am : Option Addr) (ml cm : Nat), sv = .int .i64 (s' : Int) ∧ Hid (s' = if kind = 1 then sn + 1 else sn) ∧ mv = .slice Am ml cm ∧ Hid (wx.ownsRow W1.heap.size 44 3 (.slice Am ml cm) ml (m0.flatMap recCells)) ∧ ml ≤ 300 ∧ Hid (ml = m0.length) ∧ Hid (∀ r ∈ m0, RecOk r) ∧ Hid (Below W1.heap.size W1 wx))
    case first =>
     by_cases h1 : kind = 1
     ·subst h1
      have hs := hsrcS rfl
      have hBd : Below w1.heap.size w1 W1 := HB.out.trans (HBW.out.mono hB0)
      obtain ⟨bD, oD, A2, c2, rfl, hGb, z0, hr⟩ := (HD1.out.keep fun k hk => hBd.block k hk).sl_ hs
      have hcapd := HD1.out.1
      have hm1 : m0 = data[sn] := by rw [hm0, if_pos rfl, List.getElem?_eq_getElem hs]; rfl
      have hd3 := data_lens HDAT.out data[sn] (List.getElem_mem hs)
      rw [← hm1] at z0 hr hd3
      have HSRC := Lib.hid (src_recsA hr)
      have HFINE := Lib.hid (recs_fine hr)
      obtain ⟨mn, hmn⟩ : ∃ mn, mn = m0.length := ⟨_, rfl⟩
      rw [← hmn] at z0 hd3 HSRC
      have HMN := Lib.hid hmn
      clear hr hm1 hBd hmn hm0 hsrcS
      go_wp2_with (at_builtin; refine wpList_append_src (w := W1) rfl _ _ 47 47 rfl W1.heap.size 44 _ 3 32 Tryz.underlying47 info_recR2 rfl (by decide) (.slice none 0 0) 0 [] rfl (World.ownsRow_nil _ _ _ _) (.slice A2 mn c2) rfl mn (m0.flatMap recCells) HSRC.out ?_ ?_ (Nat.le_refl _) (Below.refl _ _) (Nat.le_refl _) ?_)
      ·unfold maxLen; omega
      ·omega
      ·intro v1 w2 hown1 hg1 hb1 hat1
       try simp only [Nat.zero_add, List.nil_append] at hown1
       obtain ⟨A3, c3, rfl, _, _⟩ := OwnS.of_row hown1
       have HO1 := Lib.hid hown1
       have HBB := Lib.hid hb1
       clear hown1 hg1 hb1 hat1
       go_wp2_with fail
       go_meet
       case rel => exact ⟨sn + 1, A3, mn, c3, by go_num, rfl, rfl, HO1, hd3, HMN, HFINE, HBB⟩
     ·have hm1 : m0 = [] := by rw [hm0, if_neg h1]
      have hk : (kind == 1) = false := by simp [h1]
      have dk : decide (kind = 1) = false := decide_eq_false h1
      have HM1 := Lib.hid hm1
      have HK1 := Lib.hid h1
      clear hm1 hm0 hsrcS h1
      go_wp2_with fail
      go_meet
      case rel => exact ⟨sn, none, 0, 0, rfl, (if_neg HK1.out).symm, rfl, (by rw [HM1.out]; exact World.ownsRow_nil _ _ _ _), by omega, (by rw [HM1.out]; rfl), (fun r hr => by rw [HM1.out] at hr; cases hr), Below.refl _ _⟩
    case rest =>
     obtain ⟨s', Am, ml, cm, rfl, HSP, rfl, HM, hml, HML, HFI, HBx⟩ := hcut
     have HIN : Hid (InAt W1.heap.size W1 _ ⟨kind, from_, text, nn⟩ m0 [] Am ml cm none 0 0) := InAt.start HM.out HML.out HBx.out HFI.out
     have HL0 : Hid (m0.length ≤ 300) := by show m0.length ≤ 300; rw [← HML.out]; exact hml
     have HMK : Hid (kind ≠ 1 → m0 = []) := fun h => by rw [hm0, if_neg h]
     clear HM HML HFI HBx n0 n1 n2 n3 hm0 hsrcS
     go_wp2_with fail
     go_loopw [11, 12, 13] (fun mv hv kv wx => ∃ (k ml hl cm ch : Nat) (Am Ah : Option Addr), k ≤ from_.length ∧ kv = .int .i64 k ∧ mv = .slice Am ml cm ∧ hv = .slice Ah hl ch ∧ Hid (InAt W1.heap.size W1 wx ⟨kind, from_, text, nn⟩ m0 (logR (from_.take k) outs 0) Am ml cm Ah hl ch) ∧ Hid ((logR (from_.take k) outs 0).length ≤ 2000 * k) ∧ (kind ≠ 10 → ml ≤ 2000)) (fun _ _ kv _ => from_.length - (intOf kv).toNat)
     case atStart => exact ⟨0, ml, 0, cm, 0, Am, none, Nat.zero_le _, rfl, rfl, rfl, HIN, (Nat.zero_le _), fun _ => by omega⟩
     case round =>
      obtain ⟨k, ml, hl, cm, ch, Am, Ah, hk, rfl, rfl, rfl, HIN, HCNT, hno⟩ := hrel
      obtain ⟨n0, n1, n2, n3, _⟩ := HNA.out.cells HIN.out.keep
      simp only at n0 n1 n2 n3
      by_cases hkl : k < from_.length
      ·obtain ⟨bf, of_, hA1, hbf, hcf, _⟩ := (HNA.out.fr.keep fun q hq => HIN.out.keep.block q hq).int_ hkl
       have hA2 : A' = some ⟨bf, of_, none⟩ := hA1
       subst hA2
       have hfcap : from_.length ≤ c' := HNA.out.fr.1
       have HLOG : Hid (logR (from_.take (k + 1)) outs 0 = logR (from_.take k) outs 0 ++ (outs[from_[k].toNat]?.getD []).map fun r => (k, r)) := logR_next from_ outs hkl
       obtain ⟨hf0, hfi⟩ := HNP.out.from_ from_[k] (List.getElem_mem hkl)
       have hsm : (outs[from_[k].toNat]?.getD []).length ≤ 2000 := HNP.out.small from_[k] (List.getElem_mem hkl)
       have HREST := Lib.hid (logR_rest from_ outs (k + 1))
       have hk1 : kind ≠ 1 := fun e => by
        have h := HNP.out.none1 e
        simp only at h
        rw [h] at hkl
        exact absurd hkl (Nat.not_lt_zero _)
       have hm00 : m0 = [] := HMK.out hk1
       have HK1 := Lib.hid hk1
       have HM00 := Lib.hid hm00
       clear hk1 hm00
       change _ = some (Value.int .i64 from_[k]) at hcf
       generalize from_[k] = f at hcf HLOG hf0 hfi hsm
       obtain ⟨fn, rfl⟩ : ∃ fn : Nat, f = fn := ⟨f.toNat, by omega⟩
       rw [Int.toNat_natCast] at hsm HLOG
       have hol : outs.length = i := by rw [← HRL.out.2, List.length_map, HRL.out.1]
       have hfn : fn < outs.length := by omega
       rw [List.getElem?_eq_getElem hfn, Option.getD_some] at hsm HLOG
       have HKO : Hid (KeysOk outs[fn]) := HNP.out.keys outs[fn] (List.getElem_mem hfn)
       obtain ⟨bo, oo, A2, c2, hAo, hbo, z0, hx⟩ := HNA.out.out.sl_ hfn
       have hco := HNA.out.out.1
       rw [hol] at hco
       subst hAo
       have z1 := (HIN.out.keep.cell (p := ⟨bo, oo + fn, none⟩) hbo).trans z0
       have hfn2 : fn < i := by omega
       have hK4 : k < 4 := by omega
       generalize outs[fn] = x at hsm HLOG HKO hx z0 z1
       clear z0 hfn hol
       have HX := Lib.hid hx
       have hxc := hx.1
       clear hx hbf hbo
       obtain ⟨lg, hlg⟩ : ∃ lg, lg = logR (from_.take k) outs 0 := ⟨_, rfl⟩
       rw [← hlg] at HLOG HIN HCNT
       have HLGE := Lib.hid hlg
       clear hlg
       go_wp2_with fail
       go_loopw [11, 12, 15] (fun mv hv jv wx => ∃ (j ml hl cm ch : Nat) (Am Ah : Option Addr), j ≤ x.length ∧ jv = .int .i64 j ∧ mv = .slice Am ml cm ∧ hv = .slice Ah hl ch ∧ Hid (InAt W1.heap.size W1 wx ⟨kind, from_, text, nn⟩ m0 (lg ++ (x.take j).map fun r => (k, r)) Am ml cm Ah hl ch) ∧ (kind ≠ 10 → ml ≤ 2000)) (fun _ _ jv _ => x.length - (intOf jv).toNat)
       case atStart => exact ⟨0, ml, hl, cm, ch, Am, Ah, Nat.zero_le _, rfl, rfl, rfl, (by show InAt _ _ _ _ _ _ _ _ _ _ _ _; rw [List.take_zero, List.map_nil, List.append_nil]; exact HIN.out), hno⟩
       case round =>
        clear HIN n0 n1 n2 n3 z1 hcf hno
        obtain ⟨j, ml, hl, cm, ch, Am, Ah, hj, rfl, rfl, rfl, HIN, hno⟩ := hrel
        by_cases hjl : j < x.length
        ·obtain ⟨n0, n1, n2, n3, _⟩ := HNA.out.cells HIN.out.keep
         simp only at n0 n1 n2 n3
         obtain ⟨bx, ox, hA2, hbx, r0, r1, r2, _⟩ := (HX.out.keep fun q hq => HIN.out.keep.block q hq).rec_ hjl
         subst hA2
         have hrok := recs_fine HX.out x[j] (List.getElem_mem hjl)
         have hrk := HKO.out x[j] (List.getElem_mem hjl)
         have HLN : Hid (lg ++ (x.take (j + 1)).map (fun r => (k, r)) = (lg ++ (x.take j).map fun r => (k, r)) ++ [(k, x[j])]) := by
          show _ = _
          rw [List.take_succ_eq_append_getElem hjl, List.map_append, List.append_assoc]; rfl
         have hlgl : (lg ++ (x.take j).map fun r => (k, r)).length ≤ 8000 := by
          have := HCNT.out
          rw [List.length_append, List.length_map, List.length_take]; omega
         have HRS : Hid (∃ t, lg ++ x.map (fun r => (k, r)) = (lg ++ (x.take (j + 1)).map fun r => (k, r)) ++ t) := ⟨(x.drop (j + 1)).map fun r => (k, r), by rw [List.append_assoc, ← List.map_append, List.take_append_drop]⟩
         generalize x[j] = r at r0 r1 r2 hrok hrk HLN
         obtain ⟨key, num, time⟩ := r
         simp only at r0 r1 r2 hrk
         rw [HLN.out] at HRS
         obtain ⟨log, hlog⟩ : ∃ log, log = lg ++ (x.take j).map fun r => (k, r) := ⟨_, rfl⟩
         rw [← hlog] at HIN HLN hlgl HRS
         have hbx1 : bx < wr.heap.size := Nat.lt_of_lt_of_le hbx HIN.out.keep.size
         have hnb1 : nb < wr.heap.size := Nat.lt_of_lt_of_le hnbl HIN.out.keep.size
         have hW1r := HIN.out.keep.size
         obtain ⟨hlm, hlh⟩ := HIN.out.len
         have hm0l : m0.length = 0 := by rw [HM00.out]; rfl
         have HROK := Lib.hid hrok
         have HOKM := Lib.hid HIN.out.heldOk
         have HHL := Lib.hid HIN.out.hlen
         have HEL := Lib.hid HIN.out.held
         obtain ⟨m, hm⟩ : ∃ m, m = (runLog ⟨kind, from_, text, nn⟩ log).1 := ⟨_, rfl⟩
         rw [← hm] at HOKM HHL HEL
         have HM := Lib.hid hm
         clear hrok hlog hm hbx
         go_wp2_with fail
         go_loopw [16, 17] (fun av tv wx => ∃ (t q : Nat) (at_ : Int), t ≤ hl ∧ tv = .int .i64 t ∧ av = .int .i64 at_ ∧ Hid (AtKeyN m key t at_) ∧ wx = wr.drewN q) (fun _ tv _ => hl - (intOf tv).toNat)
         case atStart => exact ⟨0, 0, -1, Nat.zero_le _, rfl, rfl, AtKeyN.zero m key, rfl⟩
         case round =>
          obtain ⟨t, q, at_, ht, rfl, rfl, HAT, rfl⟩ := hrel
          by_cases htl : t < hl
          ·obtain ⟨g, oh, rfl, hgb, hgl, hgc, hcell, _⟩ := own_cells HEL.out (by omega) (by decide)
           have htm : t < m.length := by rw [← HHL.out]; exact htl
           have hz := hcell _ _ (flat_get hC 4 (fun _ => rfl) m (List.getElem?_eq_getElem htm) (j := 1) (by decide))
           have hz1 : _ = some (Value.string m[t].2.key) := hz
           rw [HOKM.out.key m[t] (List.getElem_mem htm), ← Nat.add_assoc] at hz1
           have HHIT := Lib.hid (fun e => AtKeyN.hit (k := key) htm e)
           have HMISS := Lib.hid (fun e => HAT.out.miss (k := key) htm e)
           generalize m[t].1 = kk at hz1 HHIT HMISS
           clear hcell hz htm
           by_cases he : kk = key
           ·have hb2 : (kk.toList == key.toList) = true := by rw [he]; simp
            have HX1 := Lib.hid (HHIT.out he)
            clear HHIT HMISS HAT he
            go_upto_region 26 with (fail)
            go_quiet (fail)
            go_wp2_with fail
            go_roundw
            case rel => exact ⟨t + 1, _, (t : Int), by omega, by go_num, rfl, HX1, by first | rfl | exact World.drewN_drewN _ _ _⟩
            case measure => simp [intOf]; omega
           ·have hb2 : (kk.toList == key.toList) = false := str_neR he
            have HX1 := Lib.hid (HMISS.out he)
            clear HHIT HMISS HAT he
            go_upto_region 26 with (fail)
            go_quiet (fail)
            go_wp2_with fail
            go_roundw
            case rel => exact ⟨t + 1, _, at_, by omega, by go_num, rfl, HX1, by first | rfl | exact World.drewN_drewN _ _ _⟩
            case measure => simp [intOf]; omega
          ·have dt : decide (t < hl) = false := decide_eq_false htl
           have hat := HAT.out.all (by rw [← HHL.out]; omega) HOKM.out.nd
           have HA := Lib.hid hat
           clear HAT hat ht htl
           have hbd : Below wr.heap.size wr (wr.drewN q) := bdrewN (Below.refl _ _) q
           have HIN2 := Lib.hid (HIN.out.below hW1r hbd)
           have HEL2 := Lib.hid (own_keep HEL.out hbd)
           have r0d := (hbd.cell (p := ⟨bx, ox + j * 3, none⟩) hbx1).trans r0
           have r1d := (hbd.cell (p := ⟨bx, ox + j * 3 + 1, none⟩) hbx1).trans r1
           have r2d := (hbd.cell (p := ⟨bx, ox + j * 3 + 2, none⟩) hbx1).trans r2
           have n0d := (hbd.cell (p := ⟨nb, 0, none⟩) hnb1).trans n0
           have n1d := (hbd.cell (p := ⟨nb, 1, none⟩) hnb1).trans n1
           have n2d := (hbd.cell (p := ⟨nb, 2, none⟩) hnb1).trans n2
           have n3d := (hbd.cell (p := ⟨nb, 3, none⟩) hnb1).trans n3
           have hbx2 : bx < (wr.drewN q).heap.size := hbx1
           have hnb2 : nb < (wr.drewN q).heap.size := hnb1
           have hW1d : W1.heap.size ≤ (wr.drewN q).heap.size := hW1r
           clear hbd HIN HEL r0 r1 r2 n0 n1 n2 n3 hbx1 hnb1 hW1r
           generalize wr.drewN q = wd at HIN2 HEL2 r0d r1d r2d n0d n1d n2d n3d hbx2 hnb2 hW1d ⊢
           obtain ⟨W2, hW2⟩ : ∃ W2, W2 = wd.alloc (.cells #[.int .i64 0, .string ⟨#[]⟩, .int .i64 0, .int .i64 0] 42) := ⟨_, rfl⟩
           have hb2 : Below wd.heap.size wd W2 := by rw [hW2]; exact (Below.refl _ _).alloc (Nat.le_refl _) _
           have hh2 : W2.heap[wd.heap.size]? = some (.cells #[.int .i64 0, .string ⟨#[]⟩, .int .i64 0, .int .i64 0] 42 (0, 0)) := by rw [hW2]; exact heap_alloc_new wd _
           go_upto_region 29 with (fail)
           rw [← hW2]
           clear hW2
           obtain ⟨hb, hhb⟩ : ∃ hb, hb = wd.heap.size := ⟨_, rfl⟩
           rw [← hhb] at hbx2 hnb2 hW1d hb2 hh2 ⊢
           have HHBE := Lib.hid hhb
           clear hhb
           obtain ⟨hd, hhd⟩ : ∃ hd, hd = (pget m key).getD zeroH := ⟨_, rfl⟩
           obtain ⟨hs, hhs⟩ : ∃ hs, hs = (pget m key).isSome := ⟨_, rfl⟩
           have hdat : decide (0 ≤ at_) = hs := by
            rcases HA.out with ⟨e1, e2⟩ | ⟨a, v, b, e1, e2, e3⟩
            ·rw [hhs, pget_none e2, e1]; rfl
            ·rw [hhs, e1, pget_split e2, e3]; exact decide_eq_true (by omega)
           have HHS := Lib.hid hhs
           have HHD := Lib.hid hhd
           clear hhs
           have hhl2 := block_lt hh2
           have HH2 := Lib.hid hh2
           have HB2 := Lib.hid hb2
           go_upto_if 89 with (fail)
           go_cut [] from 67 to 132 (fun wx => Hid (Below hb wd wx ∧ wx.heap[hb]? = some (.cells #[.int .i64 hd.node, .string hd.key, .int .i64 hd.a, .int .i64 hd.b] 42 (0, 0))))
           case first =>
            rcases HA.out with ⟨e1, e2⟩ | ⟨a, v, b, e1, e2, e3⟩
            ·have hd0 : hd = zeroH := by rw [hhd, pget_none e2]; rfl
             have hs0 : hs = false := by rw [HHS.out, pget_none e2]; rfl
             have HX2 : Hid (Below hb wd W2 ∧ W2.heap[hb]? = some (.cells #[.int .i64 hd.node, .string hd.key, .int .i64 hd.a, .int .i64 hd.b] 42 (0, 0))) := ⟨hb2, by rw [hd0]; exact hh2⟩
             clear hhd e1 e2 hd0 hb2 hh2
             subst hs0
             go_wp2_with fail
             go_meet
             case rel => exact HX2
            ·have hs0 : hs = true := by rw [HHS.out, e1, pget_split e2]; rfl
             have hd1 : hd = v := by rw [hhd, e1, pget_split e2]; rfl
             subst hd1
             have hal : a.length < m.length := by rw [e1]; simp
             obtain ⟨g, oh, rfl, hgb, hgl, hgc, hcell, _⟩ := own_cells HEL2.out (by rw [HHL.out]; omega) (by decide)
             rw [← HHBE.out] at hgl
             have hmm : m[a.length]? = some (key, hd) := by rw [e1]; simp
             have z0 := (hb2.cell (p := ⟨g, oh + (a.length * 4 + 0), none⟩) hgl).trans (hcell _ _ (flat_get hC 4 (fun _ => rfl) m hmm (j := 0) (by decide)))
             have z1 := (hb2.cell (p := ⟨g, oh + (a.length * 4 + 1), none⟩) hgl).trans (hcell _ _ (flat_get hC 4 (fun _ => rfl) m hmm (j := 1) (by decide)))
             have z2 := (hb2.cell (p := ⟨g, oh + (a.length * 4 + 2), none⟩) hgl).trans (hcell _ _ (flat_get hC 4 (fun _ => rfl) m hmm (j := 2) (by decide)))
             have z3 := (hb2.cell (p := ⟨g, oh + (a.length * 4 + 3), none⟩) hgl).trans (hcell _ _ (flat_get hC 4 (fun _ => rfl) m hmm (j := 3) (by decide)))
             rw [Nat.add_zero] at z0
             rw [← Nat.add_assoc] at z1 z2 z3
             change _ = some (Value.int .i64 hd.node) at z0
             change _ = some (Value.string hd.key) at z1
             change _ = some (Value.int .i64 hd.a) at z2
             change _ = some (Value.int .i64 hd.b) at z3
             obtain ⟨al, hale⟩ : ∃ al, al = a.length := ⟨_, rfl⟩
             rw [← hale] at z0 z1 z2 z3 e3
             have hal2 : al < hl := by rw [HHL.out, hale]; exact hal
             subst e3
             have y0 : W2.cell? ⟨hb, 0, none⟩ = some (.int .i64 0) := (cell_of_row W2 _ 0 _ _ _ hh2).trans rfl
             have y1 : W2.cell? ⟨hb, 1, none⟩ = some (.string ⟨#[]⟩) := (cell_of_row W2 _ 1 _ _ _ hh2).trans rfl
             have y2 : W2.cell? ⟨hb, 2, none⟩ = some (.int .i64 0) := (cell_of_row W2 _ 2 _ _ _ hh2).trans rfl
             have y3 : W2.cell? ⟨hb, 3, none⟩ = some (.int .i64 0) := (cell_of_row W2 _ 3 _ _ _ hh2).trans rfl
             have yf : ∀ i, W2.frozen? ⟨hb, i, none⟩ = false := fun i => by simp [World.frozen?, hh2]
             have HX2 : Hid (Below hb wd (hset W2 hb (.int .i64 hd.node) (.string hd.key) (.int .i64 hd.a) (.int .i64 hd.b)) ∧ (hset W2 hb (.int .i64 hd.node) (.string hd.key) (.int .i64 hd.a) (.int .i64 hd.b)).heap[hb]? = some (.cells #[.int .i64 hd.node, .string hd.key, .int .i64 hd.a, .int .i64 hd.b] 42 (0, 0))) := by
              refine ⟨?_, hset_put hh2 _ _ _ _⟩
              exact (((hb2.setCell (p := ⟨hb, 0, none⟩) (Nat.le_refl _) _).setCell (p := ⟨hb, 1, none⟩) (Nat.le_refl _) _).setCell (p := ⟨hb, 2, none⟩) (Nat.le_refl _) _).setCell (p := ⟨hb, 3, none⟩) (Nat.le_refl _) _
             subst hs0
             have hcap4 : hl ≤ ch := hgc
             clear hhd e1 e2 hb2 hh2 hale hal hmm hcell hhl2 hgl
             go_wp2_with fail
             go_meet
             case rel => exact HX2
           case rest =>
            obtain ⟨wx, rfl⟩ : ∃ wx, wx = wc := ⟨_, rfl⟩
            obtain ⟨hb3, hh3⟩ := hcut.out
            have hhl3 := block_lt hh3
            have hbs3 : hb ≤ wx.heap.size := by rw [HHBE.out]; exact hb3.size
            have hW1x : W1.heap.size ≤ wx.heap.size := Nat.le_trans hW1d hbs3
            have hnb3 : nb < wx.heap.size := Nat.lt_of_lt_of_le hnb2 hbs3
            have n0' := (hb3.cell (p := ⟨nb, 0, none⟩) hnb2).trans n0d
            have n1' := (hb3.cell (p := ⟨nb, 1, none⟩) hnb2).trans n1d
            have n2' := (hb3.cell (p := ⟨nb, 2, none⟩) hnb2).trans n2d
            have n3' := (hb3.cell (p := ⟨nb, 3, none⟩) hnb2).trans n3d
            have r0' := (hb3.cell (p := ⟨bx, ox + j * 3, none⟩) hbx2).trans r0d
            have r1' := (hb3.cell (p := ⟨bx, ox + j * 3 + 1, none⟩) hbx2).trans r1d
            have r2' := (hb3.cell (p := ⟨bx, ox + j * 3 + 2, none⟩) hbx2).trans r2d
            have h0' : wx.cell? ⟨hb, 0, none⟩ = some (.int .i64 hd.node) := (cell_of_row wx _ 0 _ _ _ hh3).trans rfl
            have h1' : wx.cell? ⟨hb, 1, none⟩ = some (.string hd.key) := (cell_of_row wx _ 1 _ _ _ hh3).trans rfl
            have h2' : wx.cell? ⟨hb, 2, none⟩ = some (.int .i64 hd.a) := (cell_of_row wx _ 2 _ _ _ hh3).trans rfl
            have h3' : wx.cell? ⟨hb, 3, none⟩ = some (.int .i64 hd.b) := (cell_of_row wx _ 3 _ _ _ hh3).trans rfl
            have hgf : I64_ hd.a ∧ I64_ hd.b := by rw [HHD.out]; exact getD_fine HOKM.out key
            have hAP := rapply_ok ⟨kind, from_, text, nn⟩ (some ⟨bf, of_, none⟩) c' hd hs ⟨key, num, time⟩ (k : Int) wx.drew hrk (i64__of HROK.out.2.1) HROK.out.2.2 hgf.1 hgf.2 ⟨by omega, by omega⟩ HNP.out.copies
            obtain ⟨d, hde⟩ : ∃ d, d = applyN ⟨kind, from_, text, nn⟩ hd hs ⟨key, num, time⟩ (k : Int) := ⟨_, rfl⟩
            have hdid : didOf ⟨kind, from_, text, nn⟩ log k ⟨key, num, time⟩ = d := by rw [hde, HHD.out, HHS.out, HM.out]; rfl
            have hfine : HldFine ⟨key, num, time⟩ d := by rw [hde]; exact applyN_fine _ _ _ _ _ hgf (i64__of HROK.out.2.1)
            have hthree : d.out.length ≤ 3 := by rw [hde]; exact applyN_three _ _ _ _ _
            rw [← hde] at hAP
            have HAP := Lib.hid hAP
            have HDID := Lib.hid hdid
            have HFINE := Lib.hid hfine
            have HB3 := Lib.hid hb3
            have HH3 := Lib.hid hh3
            clear hAP hde hdid hfine hcut hb3 hh3 hgf hb2 hh2 HH2 HB2 hhd n0d n1d n2d n3d r0d r1d r2d hhl2
            obtain ⟨dout, ⟨vn, vk, va, vb⟩, dhas⟩ := d
            simp only at hthree HAP
            go_upto_region 31 with (fail)
            go_cut [19, 20] from 67 to 132 (fun gv bv wy => ∃ (Ag : Option Addr) (cg : Nat), gv = .slice Ag dout.length cg ∧ bv = .bool dhas ∧ Hid (Below hb wx wy) ∧ Hid (wy.heap[hb]? = some (.cells #[.int .i64 vn, .string vk, .int .i64 va, .int .i64 vb] 42 (0, 0))) ∧ Hid (SlA recE (fun q => hb < q ∧ q < wy.heap.size) wy Ag cg dout))
            case first =>
             have HNB3 := Lib.hid hnb3
             go_region_with (go_at_call 17; refine HAP.out.mono ?_; rintro e w4 ⟨Ag, cg, rfl, hs4, hb4⟩; have hh4 : w4.heap[hb]? = some (.cells #[.int .i64 hd.node, .string hd.key, .int .i64 hd.a, .int .i64 hd.b] 42 (0, 0)) := (hb4.block hb hhl3).trans HH3.out; have g0 : w4.cell? ⟨hb, 0, none⟩ = some (.int .i64 hd.node) := (cell_of_row w4 _ 0 _ _ _ hh4).trans rfl; have g1 : w4.cell? ⟨hb, 1, none⟩ = some (.string hd.key) := (cell_of_row w4 _ 1 _ _ _ hh4).trans rfl; have g2 : w4.cell? ⟨hb, 2, none⟩ = some (.int .i64 hd.a) := (cell_of_row w4 _ 2 _ _ _ hh4).trans rfl; have g3 : w4.cell? ⟨hb, 3, none⟩ = some (.int .i64 hd.b) := (cell_of_row w4 _ 3 _ _ _ hh4).trans rfl; have gf : ∀ i, w4.frozen? ⟨hb, i, none⟩ = false := (fun i => by simp [World.frozen?, hh4]); have HW4 : Hid (w4.heap[hb]? = some (.cells #[.int .i64 hd.node, .string hd.key, .int .i64 hd.a, .int .i64 hd.b] 42 (0, 0)) ∧ Below wx.heap.size wx w4 ∧ SlA recE (fun q => wx.heap.size ≤ q ∧ q < w4.heap.size) w4 Ag cg dout) := ⟨hh4, ⟨hb4.os, hb4.tape, hb4.output, hb4.size, hb4.block⟩, hs4⟩; clear hs4 hb4 hh4)
             all_goals
              have HX4 : Hid (Below hb wx (hset w4 hb (.int .i64 vn) (.string vk) (.int .i64 va) (.int .i64 vb)) ∧ (hset w4 hb (.int .i64 vn) (.string vk) (.int .i64 va) (.int .i64 vb)).heap[hb]? = some (.cells #[.int .i64 vn, .string vk, .int .i64 va, .int .i64 vb] 42 (0, 0)) ∧ SlA recE (fun q => hb < q ∧ q < (hset w4 hb (.int .i64 vn) (.string vk) (.int .i64 va) (.int .i64 vb)).heap.size) (hset w4 hb (.int .i64 vn) (.string vk) (.int .i64 va) (.int .i64 vb)) Ag cg dout) := by
               obtain ⟨k1, k2, k3⟩ := HW4.out
               refine ⟨?_, hset_put k1 _ _ _ _, ?_⟩
               ·exact ((((k2.mono (Nat.le_of_lt hhl3)).setCell (p := ⟨hb, 0, none⟩) (Nat.le_refl _) _).setCell (p := ⟨hb, 1, none⟩) (Nat.le_refl _) _).setCell (p := ⟨hb, 2, none⟩) (Nat.le_refl _) _).setCell (p := ⟨hb, 3, none⟩) (Nat.le_refl _) _
               ·exact (k3.keep fun q hq => hset_far w4 (by have := hq.1; omega) _ _ _ _).more fun q hq => ⟨by have := hq.1; omega, by rw [hset_size]; exact hq.2⟩
              go_wp2_with fail
              go_meet
              case rel => exact ⟨Ag, cg, rfl, rfl, HX4.out.1, HX4.out.2.1, HX4.out.2.2⟩
            case rest =>
             obtain ⟨wy, rfl⟩ : ∃ wy, wy = wc := ⟨_, rfl⟩
             obtain ⟨Ag, cg, rfl, rfl, HB4, HH4, HG4⟩ := hcut
             have hby : Below wd.heap.size wd wy := by rw [← HHBE.out]; exact HB3.out.trans HB4.out
             have hW1w : W1.heap.size ≤ wd.heap.size := by rw [← HHBE.out]; exact hW1d
             have HIN3 := Lib.hid (HIN2.out.below hW1w hby)
             have HEL3 := Lib.hid (own_keep HEL2.out hby)
             have hhl4 := block_lt HH4.out
             have hW1y : W1.heap.size ≤ wy.heap.size := Nat.le_trans hW1w hby.size
             have t0 : wy.cell? ⟨hb, 0, none⟩ = some (.int .i64 vn) := (cell_of_row wy _ 0 _ _ _ HH4.out).trans rfl
             have t1 : wy.cell? ⟨hb, 1, none⟩ = some (.string vk) := (cell_of_row wy _ 1 _ _ _ HH4.out).trans rfl
             have t2 : wy.cell? ⟨hb, 2, none⟩ = some (.int .i64 va) := (cell_of_row wy _ 2 _ _ _ HH4.out).trans rfl
             have t3 : wy.cell? ⟨hb, 3, none⟩ = some (.int .i64 vb) := (cell_of_row wy _ 3 _ _ _ HH4.out).trans rfl
             have HGB : Hid (∀ g off, Ah = some ⟨g, off, none⟩ → g < hb) := fun g off e => by rw [HHBE.out]; exact (HEL2.out.lt g (by rw [e]; rfl)).2
             clear n0' n1' n2' n3' r0' r1' r2' h0' h1' h2' h3' hby hW1w HAP HH3 HB3 HIN2 HEL2 hbs3 hW1x hnb3 hhl3
             go_upto_region 32 with (fail)
             go_cut [112] from 67 to 132 (fun bv wz => ∃ bc : Bool, bv = .bool bc ∧ Hid (bc = (dhas && hs)) ∧ wy = wz)
             case first =>
              cases dhas <;> cases hs <;> (go_wp2_with fail; go_meet; case rel => exact ⟨_, rfl, rfl, rfl⟩)
             case rest =>
              obtain ⟨bc, rfl, HBC, hw⟩ := hcut
              subst hw
              go_upto_if 112 with (fail)
              go_cut [12] from 67 to 132 (fun hv wz => ∃ (hl' ch' : Nat) (Ah' : Option Addr), hv = .slice Ah' hl' ch' ∧ Hid (wz.ownsRow W1.heap.size 42 4 (.slice Ah' hl' ch') hl' ((if dhas = true then pset m key ⟨vn, vk, va, vb⟩ else m).flatMap hC)) ∧ Hid (hl' = (if dhas = true then pset m key ⟨vn, vk, va, vb⟩ else m).length) ∧ Hid (wz.ownsRow W1.heap.size 44 3 (.slice Am ml cm) ml ((m0 ++ (runLog ⟨kind, from_, text, nn⟩ log).2).flatMap recCells)) ∧ Hid (Below W1.heap.size W1 wz) ∧ Hid (SlA recE (fun q => q < wz.heap.size) wz Ag cg dout))
              case first =>
               cases dhas with
               | false =>
                obtain rfl : bc = false := HBC.out
                have HX5 : Hid (SlA recE (fun q => q < wy.heap.size) wy Ag cg dout) := HG4.out.more fun q hq => hq.2
                have HLL : Hid (hl = m.length) := HHL
                clear t0 t1 t2 t3
                go_wp2_with fail
                go_meet
                case rel => exact ⟨hl, ch, Ah, rfl, HEL3, HLL, HIN3.out.mine, HIN3.out.keep, HX5⟩
               | true =>
                rcases HA.out with ⟨e1, e2⟩ | ⟨a, v, b9, e1, e2, e3⟩
                ·have hs0 : hs = false := by rw [HHS.out, pget_none e2]; rfl
                 obtain rfl : bc = false := by rw [HBC.out, hs0]; rfl
                 have HP1 : Hid (pset m key ⟨vn, vk, va, vb⟩ = m ++ [(key, ⟨vn, vk, va, vb⟩)]) := pset_none e2
                 subst hs0
                 clear e1 e2
                 go_wp2_with (at_builtin; refine wpList_push (w0 := wy) rfl _ _ 176 rfl W1.heap.size 42 _ 4 40 Tryz.underlying176 info_heldR rfl (by decide) (.slice Ah hl ch) hl _ rfl HEL3.out [.int .i64 vn, .string vk, .int .i64 va, .int .i64 vb] (by simp [Act.eval]) rfl ?_ ?_ ?_ hW1y HIN3.out.keep (Nat.le_refl _) ?_)
                 ·first | exact ⟨rfl, rfl, rfl, rfl⟩ | (rintro u hu; simp only [List.mem_cons, List.not_mem_nil, or_false] at hu; rcases hu with rfl | rfl | rfl | rfl <;> rfl)
                 ·unfold maxLen; omega
                 ·omega
                 ·intro v5 w5 hown5 hg5 hb5 hat5
                  have hmi5 := own_grown HIN3.out.mine hg5 fun q e e2 => own_apart HIN3.out.mine HEL3.out (by decide) q e e2
                  have hgo5 : SlA recE (fun q => q < w5.heap.size) w5 Ag cg dout := (HG4.out.keep fun q hq => hg5.block q hq.2 fun e => by
                   have h9 := (HEL3.out.lt q e.symm).1
                   cases Ah with
                   | none => cases e
                   | some ad =>
                    obtain ⟨g9, off9, e9, _⟩ := own_cells HEL3.out (by
                     rcases Nat.eq_zero_or_pos hl with h0 | h0
                     ·exfalso
                      have h8 := HEL3.out.2
                      rcases h8 with ⟨h8, _⟩ | ⟨g8, c8, _, h8, _, _, _, _, _, _⟩
                      ·cases h8
                      ·injection h8 with h8 _ _
                       injection h8 with h8
                       have h7 := HGB.out g8 0 (by rw [h8])
                       have h6 : q = g8 := by rw [h8] at e; injection e
                       have := hq.1
                       omega
                     ·exact h0) (by decide)
                    have h7 := HGB.out g9 off9 e9
                    have h6 : q = g9 := by injection e9 with e9; rw [e9] at e; injection e
                    have := hq.1
                    omega).more fun q hq => Nat.lt_of_lt_of_le hq.2 hg5.size
                  obtain ⟨A5, c5, rfl, _, _⟩ := OwnS.of_row hown5
                  have HO5 : Hid (w5.ownsRow W1.heap.size 42 4 (.slice A5 (hl + 1) c5) (hl + 1) ((pset m key ⟨vn, vk, va, vb⟩).flatMap hC)) := by
                   show World.ownsRow _ _ _ _ _ _ _
                   rw [HP1.out, List.flatMap_append]
                   exact hown5
                  have HL5 : Hid (hl + 1 = (pset m key ⟨vn, vk, va, vb⟩).length) := by
                   show _ = _
                   rw [HP1.out, List.length_append, HHL.out]; rfl
                  have HX5 := Lib.hid (And.intro hmi5 (And.intro hb5 hgo5))
                  clear hown5 hg5 hb5 hat5 hmi5 hgo5 t0 t1 t2 t3
                  go_wp2_with fail
                  go_meet
                  case rel => exact ⟨hl + 1, c5, A5, rfl, (by show World.ownsRow _ _ _ _ _ _ _; simp only [if_true]; exact HO5.out), (by show _ = _; simp only [if_true]; exact HL5.out), HX5.out.1, HX5.out.2.1, HX5.out.2.2⟩
                ·have hs0 : hs = true := by rw [HHS.out, e1, pget_split e2]; rfl
                 obtain rfl : bc = true := by rw [HBC.out, hs0]; rfl
                 have HP1 : Hid (pset m key ⟨vn, vk, va, vb⟩ = a ++ (key, ⟨vn, vk, va, vb⟩) :: b9) := by show _ = _; rw [e1]; exact pset_split e2
                 have hal : a.length < m.length := by rw [e1]; simp
                 have hal2 : a.length < hl := by rw [HHL.out]; exact hal
                 obtain ⟨g, oh, rfl, hgb, hgl, hgc, hcell, hfz⟩ := own_cells HEL3.out (by omega) (by decide)
                 have hghb : g < hb := HGB.out g oh rfl
                 have hmm : m[a.length]? = some (key, v) := by rw [e1]; simp
                 have z0 := hcell _ _ (flat_get hC 4 (fun _ => rfl) m hmm (j := 0) (by decide))
                 have z1 := hcell _ _ (flat_get hC 4 (fun _ => rfl) m hmm (j := 1) (by decide))
                 have z2 := hcell _ _ (flat_get hC 4 (fun _ => rfl) m hmm (j := 2) (by decide))
                 have z3 := hcell _ _ (flat_get hC 4 (fun _ => rfl) m hmm (j := 3) (by decide))
                 rw [Nat.add_zero] at z0
                 rw [← Nat.add_assoc] at z1 z2 z3
                 change _ = some (Value.int .i64 v.node) at z0
                 change _ = some (Value.string v.key) at z1
                 change _ = some (Value.int .i64 v.a) at z2
                 change _ = some (Value.int .i64 v.b) at z3
                 have hfl : (m.flatMap hC).length = m.length * 4 := hC_len m
                 have k1 := own_set HEL3.out (j := a.length * 4) (p := oh + a.length * 4) (by rw [hfl]; omega) rfl (.int .i64 vn)
                 have k2 := own_set k1 (j := a.length * 4 + 1) (p := oh + a.length * 4 + 1) (by rw [List.length_set, hfl]; omega) (by omega) (.string vk)
                 have k3 := own_set k2 (j := a.length * 4 + 2) (p := oh + a.length * 4 + 2) (by rw [List.length_set, List.length_set, hfl]; omega) (by omega) (.int .i64 va)
                 have k4 := own_set k3 (j := a.length * 4 + 3) (p := oh + a.length * 4 + 3) (by rw [List.length_set, List.length_set, List.length_set, hfl]; omega) (by omega) (.int .i64 vb)
                 have hne : Value.ownBlock (.slice Am ml cm) ≠ some g := fun e => own_apart HIN3.out.mine HEL3.out (by decide) g e rfl
                 have k5 := own_far (own_far (own_far (own_far HIN3.out.mine (p := ⟨g, oh + a.length * 4, none⟩) hne (.int .i64 vn)) (p := ⟨g, oh + a.length * 4 + 1, none⟩) hne (.string vk)) (p := ⟨g, oh + a.length * 4 + 2, none⟩) hne (.int .i64 va)) (p := ⟨g, oh + a.length * 4 + 3, none⟩) hne (.int .i64 vb)
                 have k6 := (((HIN3.out.keep.setCell (p := ⟨g, oh + a.length * 4, none⟩) hgb (.int .i64 vn)).setCell (p := ⟨g, oh + a.length * 4 + 1, none⟩) hgb (.string vk)).setCell (p := ⟨g, oh + a.length * 4 + 2, none⟩) hgb (.int .i64 va)).setCell (p := ⟨g, oh + a.length * 4 + 3, none⟩) hgb (.int .i64 vb)
                 have k7 : SlA recE (fun q => q < ((((wy.setCell ⟨g, oh + a.length * 4, none⟩ (.int .i64 vn)).setCell ⟨g, oh + a.length * 4 + 1, none⟩ (.string vk)).setCell ⟨g, oh + a.length * 4 + 2, none⟩ (.int .i64 va)).setCell ⟨g, oh + a.length * 4 + 3, none⟩ (.int .i64 vb)).heap.size) ((((wy.setCell ⟨g, oh + a.length * 4, none⟩ (.int .i64 vn)).setCell ⟨g, oh + a.length * 4 + 1, none⟩ (.string vk)).setCell ⟨g, oh + a.length * 4 + 2, none⟩ (.int .i64 va)).setCell ⟨g, oh + a.length * 4 + 3, none⟩ (.int .i64 vb)) Ag cg dout := by
                  refine (HG4.out.keep fun q hq => ?_).more fun q hq => by simp only [size_setCell]; exact hq.2
                  have h9 : q ≠ g := by have := hq.1; omega
                  iterate 4 rw [Below.heap_setCell _ _ _ _ (by simpa using h9)]
                 have hset : ((((m.flatMap hC).set (a.length * 4) (.int .i64 vn)).set (a.length * 4 + 1) (.string vk)).set (a.length * 4 + 2) (.int .i64 va)).set (a.length * 4 + 3) (.int .i64 vb) = (a ++ (key, (⟨vn, vk, va, vb⟩ : Hld)) :: b9).flatMap hC := by
                  rw [e1]; exact held_set a b9 key v ⟨vn, vk, va, vb⟩
                 rw [hset] at k4
                 have HK := Lib.hid (And.intro k4 (And.intro k5 (And.intro k6 k7)))
                 have HLN5 : Hid (hl = (a ++ (key, (⟨vn, vk, va, vb⟩ : Hld)) :: b9).length) := by
                  show _ = _
                  rw [HHL.out, e1]; simp
                 obtain ⟨al, hale⟩ : ∃ al, al = a.length := ⟨_, rfl⟩
                 rw [← hale] at z0 z1 z2 z3 e3 hal2 HK
                 subst e3
                 subst hs0
                 have hgy : Hid (g < wy.heap.size) := hgl
                 have hne2 : g ≠ hb := by omega
                 clear k1 k2 k3 k4 k5 k6 k7 hset hmm hcell hfl hale hal e1 e2 hne hgl hghb hgb
                 go_wp2_with fail
                 go_meet
                 case rel => exact ⟨hl, ch, some ⟨g, oh, none⟩, rfl, (by show World.ownsRow _ _ _ _ _ _ _; simp only [if_true]; rw [HP1.out]; exact HK.out.1), (by show _ = _; simp only [if_true]; rw [HP1.out]; exact HLN5.out), HK.out.2.1, HK.out.2.2.1, HK.out.2.2.2⟩
              case rest =>
               clear HEL3 t0 t1 t2 t3 hhl4 hW1y
               obtain ⟨wz, rfl⟩ : ∃ wz, wz = wc := ⟨_, rfl⟩
               obtain ⟨hl', ch', Ah', rfl, HE6, HL6, HM6, HK6, HG6⟩ := hcut
               have HSG := Lib.hid (src_recsA HG6.out)
               have HGF := Lib.hid (recs_fine HG6.out)
               have HRUN : Hid ((runLog ⟨kind, from_, text, nn⟩ (log ++ [(k, (⟨key, num, time⟩ : Rec))])).1 = (if dhas = true then pset m key ⟨vn, vk, va, vb⟩ else m) ∧ (runLog ⟨kind, from_, text, nn⟩ (log ++ [(k, (⟨key, num, time⟩ : Rec))])).2 = (runLog ⟨kind, from_, text, nn⟩ log).2 ++ dout) := by
                have h := run_did ⟨kind, from_, text, nn⟩ log k ⟨key, num, time⟩
                rw [HDID.out, ← HM.out] at h
                exact h
               have hW1z := HK6.out.size
               obtain ⟨gl, hgl⟩ : ∃ gl, gl = dout.length := ⟨_, rfl⟩
               rw [← hgl] at HSG hthree ⊢
               have HGL := Lib.hid hgl
               clear hgl
               go_wp2_with (at_builtin; refine wpList_append_src (w := wz) rfl _ _ 47 47 rfl W1.heap.size 44 _ 3 32 Tryz.underlying47 info_recR2 rfl (by decide) (.slice Am ml cm) ml _ rfl HM6.out (.slice Ag gl cg) rfl gl (dout.flatMap recCells) HSG.out ?_ ?_ hW1z HK6.out (Nat.le_refl _) ?_)
               ·unfold maxLen; omega
               ·omega
               ·intro v7 w7 hown7 hg7 hb7 hat7
                have hel7 := own_grown HE6.out hg7 fun q e e2 => own_apart HE6.out HM6.out (by decide) q e e2
                obtain ⟨A7, c7, rfl, _, _⟩ := OwnS.of_row hown7
                have hin7 : InAt W1.heap.size W1 w7 ⟨kind, from_, text, nn⟩ m0 (log ++ [(k, (⟨key, num, time⟩ : Rec))]) A7 (ml + gl) c7 Ah' hl' ch' := by
                 refine ⟨?_, ?_, ?_, ?_, hb7, ?_, ?_⟩
                 ·rw [HRUN.out.2]
                  have h9 := hown7
                  simp only [List.flatMap_append] at h9 ⊢
                  exact h9
                 ·rw [HRUN.out.1]; exact hel7
                 ·rw [HRUN.out.2, ← List.append_assoc, List.length_append, ← HIN3.out.mlen, HGL.out]
                 ·rw [HRUN.out.1]; exact HL6.out
                 ·rw [HRUN.out.2, ← List.append_assoc]
                  intro r hr
                  rcases List.mem_append.1 hr with hr | hr
                  ·exact HIN3.out.recs r hr
                  ·exact HGF.out r hr
                 ·intro p hp
                  rcases List.mem_append.1 hp with hp | hp
                  ·exact HIN3.out.log_ p hp
                  ·rw [List.mem_singleton.1 hp]; exact HROK.out
                have HIN7 := Lib.hid hin7
                obtain ⟨n0, _, _, _, _⟩ := HNA.out.cells hin7.keep
                simp only at n0
                have hml7 : ml + gl ≤ 24003 := by omega
                have HMLEN := Lib.hid hin7.mlen
                obtain ⟨m7, hm7⟩ : ∃ m7, m7 = ml + gl := ⟨_, rfl⟩
                rw [← hm7] at hml7 HIN7 HMLEN ⊢
                clear hown7 hg7 hb7 hat7 hel7 hin7 hm7 HE6 HL6 HM6 HK6 HG6 HSG HGF hW1z hno hlm
                by_cases hov : 2000 < m7
                ·have do_ : decide (2000 < m7) = true := decide_eq_true hov
                 by_cases h10 : kind = 10
                 ·have dk : (kind != 10) = false := by simp [h10]
                  have dk2 : decide (kind = 10) = true := decide_eq_true h10
                  have HK10 := Lib.hid h10
                  clear h10
                  go_wp2_with fail
                  go_roundw
                  case rel => exact ⟨j + 1, m7, hl', c7, ch', A7, Ah', by omega, by go_num, rfl, rfl, (by show InAt _ _ _ _ _ _ _ _ _ _ _ _; rw [HLN.out]; exact HIN7.out), fun h => absurd HK10.out h⟩
                  case measure => simp [intOf]; omega
                 ·have dk : (kind != 10) = true := by simp [h10]
                  have dk2 : decide (kind = 10) = false := decide_eq_false h10
                  have HOV : Hid (AllOver J data) := by
                   obtain ⟨t1, ht1⟩ := HRS.out
                   obtain ⟨t2, ht2⟩ := HREST.out
                   refine HNP.out.over (log := log ++ [(k, (⟨key, num, time⟩ : Rec))]) (t := t1 ++ t2) ?_ h10 (by rw [← HMLEN.out]; exact hov)
                   rw [ht2, HLOG.out, ht1, List.append_assoc]
                  have HB9 := Lib.hid (HBZ.out _ HIN7.out.keep)
                  clear h10
                  go_wp2_with fail
                  go_ret2
                  exact ⟨fun h => absurd H0.out h, fun _ _ => rfl, fun _ h => absurd HOV.out h, HB9.out⟩
                ·have do_ : decide (2000 < m7) = false := decide_eq_false hov
                 go_wp2_with fail
                 go_roundw
                 case rel => exact ⟨j + 1, m7, hl', c7, ch', A7, Ah', by omega, by go_num, rfl, rfl, (by show InAt _ _ _ _ _ _ _ _ _ _ _ _; rw [HLN.out]; exact HIN7.out), fun _ => by omega⟩
                 case measure => simp [intOf]; omega
        ·have dj : decide (j < x.length) = false := decide_eq_false hjl
         have hje : x.take j = x := List.take_of_length_le (by omega)
         have HIN8 : Hid (InAt W1.heap.size W1 wr ⟨kind, from_, text, nn⟩ m0 (logR (from_.take (k + 1)) outs 0) Am ml cm Ah hl ch) := by
          show InAt _ _ _ _ _ _ _ _ _ _ _ _
          rw [HLOG.out]
          have h := HIN.out
          rw [hje] at h
          exact h
         have HCN8 : Hid ((logR (from_.take (k + 1)) outs 0).length ≤ 2000 * (k + 1)) := by
          show _ ≤ _
          rw [HLOG.out, List.length_append, List.length_map]
          have := HCNT.out
          omega
         clear HIN hje hjl
         go_wp2_with fail
         go_roundw
         case rel => exact ⟨k + 1, ml, hl, cm, ch, Am, Ah, by omega, by go_num, rfl, rfl, HIN8, HCN8, hno⟩
         case measure => simp [intOf]; omega
      ·have dk : decide (k < from_.length) = false := decide_eq_false hkl
       have hke : from_.take k = from_ := List.take_of_length_le (by omega)
       rw [hke] at HIN
       have hro := HR.out.below (HRZ.out _ HIN.out.keep)
       have hrw := hro.own
       rw [HRL.out.1] at hrw
       have HRO := Lib.hid hro
       have HRW := Lib.hid hrw
       have hW1r := HIN.out.keep.size
       have hB9 := HBR.out _ HIN.out.keep
       have HB9 := Lib.hid hB9
       have hml8 := HIN.out.len.1
       have hll : (logR from_ outs 0).length ≤ 8000 := by
        have h := HCNT.out
        rw [hke] at h
        omega
       have hm0l : m0.length ≤ 300 := HL0.out
       clear hro hrw hke hkl hB9
       go_wp2_with (at_builtin; refine wpList_push (w0 := wr) rfl _ _ 71 rfl w1.heap.size 47 (.slice none 0 0) 1 24 Tryz.underlying71 info_rowsR rfl (by decide) (.slice Ao i co) i _ rfl HRW.out [.slice Am ml cm] (by simp [Act.eval]) rfl ?_ ?_ ?_ HB9.out.size HB9.out (Nat.le_refl _) ?_)
       ·intro u hu; rw [List.mem_singleton.1 hu]; rfl
       ·unfold maxLen; omega
       ·omega
       ·intro v9 w9 hown9 hg9 hb9 hat9
        obtain ⟨A8, c8, e8, ho8, hbl8⟩ := OwnS.of_row HIN.out.mine
        injection e8 with e8 _ e9
        subst e8; subst e9
        have hsl8 : SlA recE (fun q => q < wr.heap.size ∧ Value.ownBlock (.slice Ao i co) ≠ some q ∧ (none : Option Nat) ≠ some q) wr Am cm (m0 ++ (runLog ⟨kind, from_, text, nn⟩ (logR from_ outs 0)).2) := by
         refine own_recs ho8 HIN.out.mlen (fun q hq => ⟨ho8.lt q hq, fun e => ?_, nofun⟩) HIN.out.recs
         have h7 := (HR.out.own.lt q e).2
         have h6 := hbl8 q hq
         have h5 := HW1S.out
         rw [h5] at h6
         omega
        obtain ⟨A9, c9, rfl, _, _⟩ := OwnS.of_row hown9
        have hpush := HRO.out.push (o := (m0 ++ (runLog ⟨kind, from_, text, nn⟩ (logR from_ outs 0)).2, (Am, cm))) hg9 (by rw [HRL.out.1]; show World.ownsRow _ _ _ _ _ _ (_ ++ [Value.slice Am (m0 ++ (runLog ⟨kind, from_, text, nn⟩ (logR from_ outs 0)).2).length cm]); rw [← HIN.out.mlen]; exact hown9) hat9 hsl8
        have HP9 := Lib.hid hpush
        have HQ9 : Hid ((rows ++ [(m0 ++ (runLog ⟨kind, from_, text, nn⟩ (logR from_ outs 0)).2, (Am, cm))]).length = i + 1 ∧ (rows ++ [(m0 ++ (runLog ⟨kind, from_, text, nn⟩ (logR from_ outs 0)).2, (Am, cm))]).map (·.1) = (allR data (J.take (i + 1))).outs) := by
         refine ⟨by rw [List.length_append, HRL.out.1]; rfl, ?_⟩
         rw [List.map_append, HRL.out.2, HNX.out]
         show outs ++ [_] = (allR data (J.take i)).outs ++ [nodeR _ _ _]
         rw [← HOUTS.out, HNP.out.node]
        have HS9 : Hid ((allR data (J.take (i + 1))).src = s') := by
         show _ = _
         rw [HNX.out, HSP.out, HSN.out]; rfl
        have HN9 : Hid (NoOver J (allR data (J.take (i + 1))).outs (i + 1)) := by
         intro j n l hj hn hl hk
         rw [← HQ9.out.2, List.map_append, HRL.out.2] at hl
         have hol : outs.length = i := by rw [← HRL.out.2, List.length_map, HRL.out.1]
         rcases Nat.lt_or_ge j i with h | h
         ·rw [List.getElem?_append_left (by omega)] at hl
          exact HNO.out j n l h hn hl hk
         ·have hji : j = i := by omega
          subst hji
          rw [List.getElem?_append_right (by omega), hol, Nat.sub_self] at hl
          injection hl with hl
          rw [← hl]
          show (m0 ++ (runLog ⟨kind, from_, text, nn⟩ (logR from_ outs 0)).2).length ≤ 2000
          rw [← HIN.out.mlen]
          have h2 := HNP.out.here
          rw [hn] at h2
          injection h2 with h2
          exact hno (by rw [h2] at hk; exact hk)
        have HB10 := Lib.hid hb9
        clear hown9 hg9 hb9 hat9 hsl8 hpush ho8 hbl8
        go_wp2_with fail
        go_roundw
        case rel => exact ⟨i + 1, _, A9, c9, by omega, by go_num, by rw [HS9.out], rfl, HP9, HQ9, HN9, HB10⟩
        case measure => simp [intOf]; omega
   ·have di : decide (i < J.length) = false := decide_eq_false hlt
    have hie : i = J.length := by omega
    obtain ⟨A9, c9, e9, hso⟩ := HR.out.sl
    rw [HRL.out.1] at e9
    injection e9 with e9 _ e10
    subst e9; subst e10
    have hta : J.take i = J := List.take_of_length_le (by omega)
    rw [HRL.out.2, hta] at hso
    have HS9 := Lib.hid hso
    have HNV : Hid (¬ AllOver J data) := by
     rintro ⟨j, n, l, hj, hl, h2, h10⟩
     have h3 := HNO.out j n l (by rw [hie]; exact (List.getElem?_eq_some_iff.1 hj).1) hj (by rw [hta]; exact hl) h10
     omega
    have HB9 := Lib.hid (HB1.out.trans (HB.out.mono HB1.out.size))
    subst hie
    clear hso hta hlt
    go_wp2_with fail
    go_ret2
    exact ⟨fun h => absurd H0.out h, fun _ h => absurd h HNV.out, fun _ _ => ⟨Ao, co, rfl, HS9.out⟩, HB9.out⟩
 ·obtain ⟨je, hje⟩ : ∃ je, je = denErr J data := ⟨_, rfl⟩
  rw [← hje] at HC
  have hj0 : (je != 0) = true := by rw [hje]; simp [h0]
  have hj1 : decide (je = 0) = false := decide_eq_false (by rw [hje]; exact h0)
  have H0 := Lib.hid h0
  have HJE := Lib.hid hje
  clear h0 hje hl hF hd hG
  go_enter Tryz.func73, Tryz.ntmps73
  go_wp2_with fail
  refine HC.out.mono ?_
  rintro e w1 ⟨rfl, b1⟩
  have HB1 := Lib.hid b1
  clear b1 HC
  go_wp2_with fail
  go_ret2
  exact ⟨fun _ => by rw [← HJE.out]; rfl, fun h => absurd h H0.out, fun h => absurd h H0.out, HB1.out⟩
end Go.Proofs.YtfndhfekbbbliaaGreatDoor

/-
  Lines in their order, as the reference puts them together, plain. No condition: plain definitions and lemmas.
-/
namespace Go.Proofs.YtfndhfekbbbliaaGreatDoor
open Go.RowKit
open Go.Sort hiding Below
set_option linter.unusedVariables false
theorem kLess_irrefl (a : ByteArray) : ¬ kLess a a := List.lt_irrefl _
theorem kLess_trans {a b c : ByteArray} (h : kLess a b) (h' : kLess b c) : kLess a c := List.lt_trans h h'
theorem kLess_ne {a b : ByteArray} (h : kLess a b) : a ≠ b := fun e => by subst e; exact kLess_irrefl _ h
theorem kLess_tri {a b : ByteArray} (h1 : ¬ kLess a b) (h2 : a ≠ b) : kLess b a := by
 unfold kLess at *
 rcases Decidable.em (b.data.toList < a.data.toList) with h3 | h3
 ·exact h3
 ·have h4 := List.le_antisymm (List.not_lt.1 h3) (List.not_lt.1 h1)
  exact absurd (by
   cases a; cases b
   congr 1
   exact Array.toList_inj.1 h4) h2
instance (a b : ByteArray) : Decidable (kLess a b) := inferInstanceAs (Decidable (a.data.toList < b.data.toList))
theorem kLess_bytes (a b : ByteArray) : Op.bytesLess a.toList b.toList = decide (kLess a b) := by rw [bytesLess_eq, Lib.toList_data, Lib.toList_data]; rfl
theorem lines_of {l : List Rec} {out : List Lin} (hs : out.Pairwise fun a b => kLess a.key b.key) (hk : ∀ k, k ∈ out.map (·.key) ↔ ∃ r ∈ l, r.key = k) (hn : ∀ x ∈ out, x.nums = numsAt l x.key) : LinesGrp l out := by
 have hnd : (out.map (·.key)).Nodup := by
  rw [List.Nodup, List.pairwise_map]
  exact hs.imp fun {a b} h => kLess_ne h
 refine ⟨hnd, hk, hn, fun k => ?_, hs⟩
 by_cases hm : k ∈ out.map (·.key)
 ·obtain ⟨x, hx, rfl⟩ := List.mem_map.1 hm
  unfold numsOf
  rw [find_key hnd hx]
  exact hn x hx
 ·have h5 : numsAt l k = [] := numsAt_nil.2 fun r hr e => hm ((hk k).2 ⟨r, hr, e⟩)
  rw [h5]
  unfold numsOf
  rw [List.find?_eq_none.2 fun x hx he => hm (List.mem_map.2 ⟨x, hx, of_decide_eq_true he⟩)]
  rfl
structure LnOk (l : List Rec) (more : Option ByteArray) (q : List LineR) : Prop where
 sorted : (q.map (·.1)).Pairwise kLess
 keys : ∀ k, k ∈ q.map (·.1) ↔ more = some k ∨ ∃ r ∈ l, r.key = k
 nums : ∀ p ∈ q, p.2.xs = numsAt l p.1
theorem LnOk.nil : LnOk [] none [] := ⟨.nil, fun k => by simp, nofun⟩
theorem LnOk.hit {l : List Rec} {a b : List LineR} {p : LineR} (h : LnOk l none (a ++ p :: b)) : LnOk l (some p.1) (a ++ p :: b) :=
 ⟨h.sorted, fun k => ⟨fun hk => .inr (((h.keys k).1 hk).resolve_left nofun), fun hk => hk.elim (fun e => by injection e with e; rw [← e]; exact List.mem_map.2 ⟨p, by simp, rfl⟩) fun e => (h.keys k).2 (.inr e)⟩, h.nums⟩
theorem LnOk.add {l : List Rec} {a b : List LineR} {key : ByteArray} {row : RowI} (h : LnOk l none (a ++ b)) (ha : ∀ p ∈ a, kLess p.1 key) (hb : ∀ p ∈ b, kLess key p.1) (hr : row.xs = []) : LnOk l (some key) (a ++ (key, row) :: b) := by
 refine ⟨?_, fun k => ?_, fun p hp => ?_⟩
 ·have h1 := h.sorted
  rw [List.map_append, List.pairwise_append] at h1
  rw [List.map_append, List.map_cons, List.pairwise_append, List.pairwise_cons]
  refine ⟨h1.1, ⟨fun k hk => ?_, h1.2.1⟩, fun x hx y hy => ?_⟩
  ·obtain ⟨p, hp, rfl⟩ := List.mem_map.1 hk
   exact hb p hp
  ·rcases List.mem_cons.1 hy with rfl | hy
   ·obtain ⟨p, hp, rfl⟩ := List.mem_map.1 hx
    exact ha p hp
   ·exact h1.2.2 x hx y hy
 ·have h1 := h.keys k
  rw [List.map_append, List.mem_append] at h1 ⊢
  rw [List.map_cons, List.mem_cons]
  constructor
  ·rintro (h2 | h2 | h2)
   ·exact .inr ((h1.1 (.inl h2)).resolve_left nofun)
   ·exact .inl (by rw [h2])
   ·exact .inr ((h1.1 (.inr h2)).resolve_left nofun)
  ·rintro (h2 | h2)
   ·injection h2 with h2; exact .inr (.inl h2.symm)
   ·rcases h1.2 (.inr h2) with h3 | h3
    ·exact .inl h3
    ·exact .inr (.inr h3)
 ·rcases List.mem_append.1 hp with hp | hp
  ·exact h.nums p (List.mem_append.2 (.inl hp))
  ·rcases List.mem_cons.1 hp with rfl | hp
   ·show row.xs = numsAt l key
    rw [hr]
    refine (numsAt_nil.2 fun r hr' e => ?_).symm
    have h2 := (h.keys key).2 (.inr ⟨r, hr', e⟩)
    obtain ⟨p, hp, e2⟩ := List.mem_map.1 h2
    rcases List.mem_append.1 hp with hp | hp
    ·exact kLess_ne (ha p hp) e2
    ·exact kLess_ne (hb p hp) e2.symm
   ·exact h.nums p (List.mem_append.2 (.inr hp))
theorem LnOk.put {l : List Rec} {a b : List LineR} {r : Rec} {row row' : RowI} (h : LnOk l (some r.key) (a ++ (r.key, row) :: b)) (hr : row'.xs = row.xs ++ [r.num]) : LnOk (l ++ [r]) none (a ++ (r.key, row') :: b) := by
 have hm : ∀ x : RowI, (a ++ (r.key, x) :: b).map (·.1) = a.map (·.1) ++ r.key :: b.map (·.1) := fun x => by rw [List.map_append]; rfl
 have hs := h.sorted
 refine ⟨by rw [hm]; rw [hm] at hs; exact hs, fun k => ?_, fun p hp => ?_⟩
 ·have h1 := h.keys k
  rw [hm] at h1 ⊢
  rw [h1]
  constructor
  ·rintro (h2 | ⟨x, hx, e⟩)
   ·injection h2 with h2; exact .inr ⟨r, by simp, h2⟩
   ·exact .inr ⟨x, List.mem_append.2 (.inl hx), e⟩
  ·rintro (h2 | ⟨x, hx, e⟩)
   ·cases h2
   ·rcases List.mem_append.1 hx with hx | hx
    ·exact .inr ⟨x, hx, e⟩
    ·rw [List.mem_singleton.1 hx] at e; exact .inl (by rw [e])
 ·rw [hm, List.pairwise_append, List.pairwise_cons] at hs
  have other : ∀ q : LineR, q ∈ a ∨ q ∈ b → r.key ≠ q.1 := fun q hq e => by
   rcases hq with hq | hq
   ·exact kLess_ne (hs.2.2 q.1 (List.mem_map.2 ⟨q, hq, rfl⟩) r.key List.mem_cons_self) e.symm
   ·exact kLess_ne (hs.2.1.1 q.1 (List.mem_map.2 ⟨q, hq, rfl⟩)) e
  rcases List.mem_append.1 hp with hp | hp
  ·rw [numsAt_snoc, if_neg (other p (.inl hp)), List.append_nil]
   exact h.nums p (List.mem_append.2 (.inl hp))
  ·rcases List.mem_cons.1 hp with rfl | hp
   ·show row'.xs = _
    rw [numsAt_snoc, if_pos rfl, hr]
    congr 1
    exact h.nums (r.key, row) (by simp)
   ·rw [numsAt_snoc, if_neg (other p (.inr hp)), List.append_nil]
    exact h.nums p (List.mem_append.2 (.inr (List.mem_cons_of_mem _ hp)))
theorem LnOk.grp {l : List Rec} {q : List LineR} (h : LnOk l none q) : LinesGrp l (q.map linOf) := by
 have hm : (q.map linOf).map (·.key) = q.map (·.1) := by rw [List.map_map]; rfl
 refine lines_of ?_ (fun k => ?_) fun x hx => ?_
 ·have := h.sorted
  rw [← hm] at this
  exact List.pairwise_map.1 this
 ·rw [hm, h.keys k]
  exact ⟨fun h => h.resolve_left nofun, .inr⟩
 ·obtain ⟨p, hp, rfl⟩ := List.mem_map.1 hx
  exact h.nums p hp
theorem after_all {q : List LineR} (hs : (q.map (·.1)).Pairwise kLess) {k : Nat} (hk : k < q.length) {key : ByteArray} (h : kLess key q[k].1) : ∀ p ∈ q.drop k, kLess key p.1 := fun p hp => by
 rw [List.drop_eq_getElem_cons hk] at hp
 rcases List.mem_cons.1 hp with rfl | hp
 ·exact h
 ·refine kLess_trans h ?_
  obtain ⟨j, hj, rfl⟩ := List.mem_iff_getElem.1 hp
  rw [List.pairwise_map, List.pairwise_iff_getElem] at hs
  rw [List.getElem_drop]
  exact hs k (k + 1 + j) hk (by rw [List.length_drop] at hj; omega) (by omega)
end Go.Proofs.YtfndhfekbbbliaaGreatDoor

/-
  Lines as the reference puts them together, in memory: a row of lines of one's own, each with a row of numbers of one's own. No condition: definitions and lemmas.
-/
namespace Go.Proofs.YtfndhfekbbbliaaGreatDoor
open Go.RowKit Go.ChangeShapes Go.WideShapes
set_option linter.unusedVariables false
def rowO (p : LineR) : ORow := ⟨3, 1, p.2.A, p.2.cap, p.2.xs.length, p.2.xs.flatMap intC⟩
structure LnAt (B : Nat) (w : World) (A : Option Addr) (cap : Nat) (q : List LineR) : Prop where
 own : OwnS w 178 2 A cap q.length (q.flatMap lineCells)
 base : ∀ k, blk A = some k → B ≤ k
 rows : Forest w (q.map rowO)
 rbase : ∀ k, forF (q.map rowO) k → B ≤ k
theorem LnAt.nil (B : Nat) (w : World) : LnAt B w none 0 [] := ⟨OwnS.nil _ _ _, nofun, Forest.nil _, fun k h => by obtain ⟨r, hr, _⟩ := h; cases hr⟩
theorem LnAt.below {B : Nat} {w w' : World} {A : Option Addr} {cap : Nat} {q : List LineR} (h : LnAt B w A cap q) (hb : Below w.heap.size w w') : LnAt B w' A cap q :=
 ⟨h.own.keep fun k hk => hb.block k (h.own.lt k hk), h.base, h.rows.below hb, h.rbase⟩
theorem LnAt.add {B : Nat} {w w' : World} {A A' : Option Addr} {cap cap' : Nat} {a b : List LineR} (h : LnAt B w A cap (a ++ b)) (hb : Below w.heap.size w w') (hB : B ≤ w.heap.size) (key : ByteArray)
  (hown : OwnS w' 178 2 A' cap' (a ++ (key, noRow) :: b).length ((a ++ (key, noRow) :: b).flatMap lineCells)) (hbase : ∀ k, blk A' = some k → w.heap.size ≤ k) : LnAt B w' A' cap' (a ++ (key, noRow) :: b) := by
 have hm : (a ++ (key, noRow) :: b).map rowO = a.map rowO ++ ⟨3, 1, none, 0, 0, []⟩ :: b.map rowO := by rw [List.map_append]; rfl
 refine ⟨hown, fun k hk => Nat.le_trans hB (hbase k hk), ?_, fun k hk => ?_⟩
 ·rw [hm]
  have h1 := h.rows.below hb
  rw [List.map_append] at h1
  exact (h1.addNil 3 1).perm List.perm_middle.symm
 ·rw [hm] at hk
  obtain ⟨r, hr, e⟩ := hk
  rcases List.mem_append.1 hr with hr | hr
  ·exact h.rbase k ⟨r, by rw [List.map_append]; exact List.mem_append.2 (.inl hr), e⟩
  ·rcases List.mem_cons.1 hr with rfl | hr
   ·cases e
   ·exact h.rbase k ⟨r, by rw [List.map_append]; exact List.mem_append.2 (.inr hr), e⟩
theorem lines_set (a b : List LineR) (key : ByteArray) (row row' : RowI) : ((a ++ (key, row) :: b).flatMap lineCells).set (a.length * 2 + 1) (.slice row'.A row'.xs.length row'.cap) = (a ++ (key, row') :: b).flatMap lineCells := by
 rw [List.flatMap_append, List.flatMap_append]
 have hl : (a.flatMap lineCells).length = a.length * 2 := by
  induction a with
  | nil => rfl
  | cons x a ih => rw [List.flatMap_cons, List.length_append, ih, List.length_cons]; show 2 + _ = _; omega
 rw [List.set_append_right _ _ (by omega), hl, Nat.add_sub_cancel_left]
 rfl
theorem LnAt.put {B : Nat} {w w1 : World} {g off cap cap' : Nat} {a b : List LineR} {key : ByteArray} {row : RowI} {A' : Option Addr} {x : Int} (h : LnAt B w (some ⟨g, off, none⟩) cap (a ++ (key, row) :: b)) (hB : B ≤ w.heap.size)
  (hown : OwnS w1 3 1 A' cap' (row.xs.length + 1) (row.xs.flatMap intC ++ [.int .i64 x])) (hg : w.grownBy w1 (blk row.A)) (hat : blk A' = blk row.A ∨ ∃ k, blk A' = some k ∧ w.heap.size ≤ k) {j : Nat} (hj : j = off + a.length * 2 + 1) :
  LnAt B (w1.setCell ⟨g, j, none⟩ (.slice A' (row.xs.length + 1) cap')) (some ⟨g, off, none⟩) cap (a ++ (key, ⟨A', cap', row.xs ++ [x]⟩) :: b) := by
 subst hj
 have hrow : OwnS w 3 1 row.A row.cap row.xs.length (row.xs.flatMap intC) := h.rows.at_ (rowO (key, row)) (List.mem_map.2 ⟨_, by simp, rfl⟩)
 have hap := h.own.apart hrow (by decide)
 have hgA : blk row.A ≠ some g := fun e => hap g rfl e
 have hgA' : blk A' ≠ some g := fun e => by
  rcases hat with h1 | ⟨k, h1, h2⟩
  ·exact hgA (h1 ▸ e)
  ·rw [h1] at e; injection e with e
   have := h.own.lt g rfl; omega
 have ho1 : OwnS w1 178 2 (some ⟨g, off, none⟩) cap (a ++ (key, row) :: b).length ((a ++ (key, row) :: b).flatMap lineCells) := h.own.grown hg fun k hk e => by injection hk with hk; subst hk; exact hgA e
 have hfl : ((a ++ (key, row) :: b).flatMap lineCells).length = (a ++ (key, row) :: b).length * 2 := h.own.1
 have hlen : (a ++ (key, (⟨A', cap', row.xs ++ [x]⟩ : RowI)) :: b).length = (a ++ (key, row) :: b).length := by simp
 have hm : ∀ r : RowI, (a ++ (key, r) :: b).map rowO = a.map rowO ++ rowO (key, r) :: b.map rowO := fun r => by rw [List.map_append]; rfl
 have hown' : OwnS w1 3 1 A' cap' (row.xs ++ [x]).length ((row.xs ++ [x]).flatMap intC) := by
  rw [List.length_append, List.flatMap_append]; exact hown
 have hr0 := h.rows
 rw [hm] at hr0
 have hr1 : Forest w1 (a.map rowO ++ rowO (key, ⟨A', cap', row.xs ++ [x]⟩) :: b.map rowO) := hr0.turnMid (r' := rowO (key, ⟨A', cap', row.xs ++ [x]⟩)) hown' hg (hat.imp_right .inr)
 refine ⟨?_, h.base, ?_, fun k hk => ?_⟩
 ·have h5 := ho1.setAt (j := a.length * 2 + 1) (by rw [hfl]; simp; omega) (.slice A' (row.xs.length + 1) cap')
  rw [show off + (a.length * 2 + 1) = off + a.length * 2 + 1 from by omega] at h5
  rw [hlen]
  have h6 := lines_set a b key row ⟨A', cap', row.xs ++ [x]⟩
  rw [show (row.xs ++ [x]).length = row.xs.length + 1 from by simp] at h6
  rw [← h6]
  exact h5
 ·rw [hm]
  refine hr1.keep fun k hk => Below.heap_setCell _ _ _ _ fun e => ?_
  have e2 : k = g := e
  subst e2
  obtain ⟨s, hs, es⟩ := hk
  have hs1 := hr1.at_ s hs
  have hty : s.e = 3 := by
   rcases List.mem_append.1 hs with hs | hs
   ·obtain ⟨p, _, rfl⟩ := List.mem_map.1 hs; rfl
   ·rcases List.mem_cons.1 hs with rfl | hs
    ·rfl
    ·obtain ⟨p, _, rfl⟩ := List.mem_map.1 hs; rfl
  exact ho1.apart hs1 (by rw [hty]; decide) k rfl es
 ·rw [hm] at hk
  rcases forF_mid (w := w) (r := rowO (key, row)) (hat.imp_right .inr) hk with h1 | h1
  ·exact h.rbase k (by rw [hm]; exact h1)
  ·omega
theorem LnAt.lines {B : Nat} {w : World} {A : Option Addr} {cap : Nat} {q : List LineR} {l : List Rec} (h : LnAt B w A cap q) (ho : LnOk l none q) (hr : ∀ r ∈ l, RecOk r) : SlA linE (fun k => B ≤ k ∧ k < w.heap.size) w A cap (q.map linOf) := by
 have h1 : SlA linC (fun k => B ≤ k ∧ k < w.heap.size) w A cap q := OwnS.sl (E := linC) lineCells (fun _ => rfl) h.own rfl (fun k e => ⟨h.base k e, h.own.lt k e⟩) (fun x _ => rfl)
 refine linC_lin h1 fun p hp => ⟨?_, ?_, fun k hk => ⟨?_, ?_⟩, fun x hx => ?_⟩
 ·obtain ⟨r, hr', e⟩ := ((ho.keys p.1).1 (List.mem_map.2 ⟨p, hp, rfl⟩)).resolve_left nofun
  rw [← e]; exact (hr r hr').1
 ·exact h.rows.at_ (rowO p) (List.mem_map.2 ⟨p, hp, rfl⟩)
 ·exact h.rbase k ⟨rowO p, List.mem_map.2 ⟨p, hp, rfl⟩, hk⟩
 ·exact h.rows.lt k ⟨rowO p, List.mem_map.2 ⟨p, hp, rfl⟩, hk⟩
 ·rw [ho.nums p hp] at hx
  obtain ⟨r, hr', rfl⟩ := List.mem_map.1 hx
  exact (hr r (List.mem_filter.1 hr').1).2.1
end Go.Proofs.YtfndhfekbbbliaaGreatDoor
