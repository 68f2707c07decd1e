/-
  Several texts of this claim in one, in build order; each begins with its own remark, which says what it proves and under which conditions.
-/
import Derived.Test.YtfndhfekbbbliaaGreatDoorPackG
import Derived.Deep.CutRange
import Derived.Test.YtfndhfekbbbliaaGreatDoorPackF
import Derived.Test.YtfndhfekbbbliaaGreatDoorPackA
import Derived.Shelf.SlSortCmp.NoneTotal
import Derived.Sort.Walk0
import Derived.WalkLawsBesides
import Derived.Outline
import Derived.Test.YtfndhfekbbbliaaGreatDoorPackE
import Derived.Test.YtfndhfekbbbliaaGreatDoorPackD

/-
  Package den: what a record makes at a node that is no Sink, given what hand does one level below. Conditions: the flow lies in memory ('FlowAt'), there is room for lines.
-/
namespace Go.Proofs.YtfndhfekbbbliaaGreatDoor
open Go.RowKit Go.ChangeShapes Go.WideShapes Go.Shelf
set_option linter.unusedVariables false
def HandPost (C : FlowC) (o : Option Flw) (w : World) (e : Ending) (w' : World) : Prop :=
 Flows C.B w w' ∧ (∀ f', o = some f' → e = .returned .nilIface ∧ ∃ L', FlowAt C L' w' f') ∧ (o = none → e = .returned fullV)
def HandAt (C : FlowC) (k : Nat) : Prop := ∀ (i : Nat) (r : Rec) (L : List (List (ByteArray × RowI))) (f : Flw) (w : World), i < C.J.length → C.J.length ≤ i + k → FlowR r → FlowAt C L w f → Env C.B w → C.B ≤ w.heap.size → Room C.J.length 0 f →
 Calls Tryz.prog 76 #[.pointer (some ⟨C.g, 0, none⟩), .int .i64 (i : Int), recV r] w (HandPost C (handF C.J C.U k i r f) w)
theorem FlowAt.stateLook {C : FlowC} {L : List (List (ByteArray × RowI))} {W : World} {f : Flw} (h : FlowAt C L W f) {u : Nat} {m : List (ByteArray × Hld)} (hm : f.st[u]? = some m) {k : ByteArray} (hk : k.size ≤ maxLen) (W' : World) (hs : ∀ k, k < W.heap.size → W'.heap[k]? = W.heap[k]?) :
  (Instr.lookup 139 (.map (some (C.sb u))) (.string k) true).run Tryz.prog W' = .ok (.tuple #[hldV ((pget m k).getD zeroH), .bool (pget m k).isSome]) W' := by
 have h1 : SMapAt W' (C.sb u) (m.map hp) := (h.st u m hm).keep (hs _ (h.st u m hm).lt)
 have := h1.get (P := Tryz.prog) (t := 139) Tryz.underlying9 Tryz.underlying139 (z := hldV zeroH) (by kernel_rfl) hk true
 rw [fgetD_hp, fhas_hp] at this
 exact this
theorem FlowAt.oldOk {C : FlowC} {L : List (List (ByteArray × RowI))} {W : World} {f : Flw} (h : FlowAt C L W f) {u : Nat} {m : List (ByteArray × Hld)} (hm : f.st[u]? = some m) (k : ByteArray) : I64 ((pget m k).getD zeroH).a ∧ I64 ((pget m k).getD zeroH).b := by
 by_cases hk : k ∈ pkeys m
 ·obtain ⟨a, v, b, e, ha⟩ := split_pkey hk
  rw [e, pget_split ha]
  exact h.stOk m (List.mem_of_getElem? hm) (k, v) (by rw [e]; simp)
 ·rw [pget_none hk]; exact ⟨i64_zero, i64_zero⟩
theorem FlowAt.statePut {C : FlowC} (hC : C.Ok) {L : List (List (ByteArray × RowI))} {W : World} {f : Flw} (h : FlowAt C L W f) {u : Nat} (hu : u < C.J.length) {k : ByteArray} (hk : k.size ≤ maxLen) {v : Hld} (hv : I64 v.a ∧ I64 v.b) :
  ∃ w2, (Instr.mapUpdate 139 (.map (some (C.sb u))) (.string k) (hldV v)).run Tryz.prog W = .ok () w2 ∧ FlowAt C L w2 { f with st := f.st.modify u fun m => pset m k v } ∧ Flows C.B W w2 := by
 obtain ⟨m, hm⟩ : ∃ m, f.st[u]? = some m := ⟨_, List.getElem?_eq_getElem (by rw [h.stn]; exact hu)⟩
 obtain ⟨w2, hrun, hm2, hg2, _⟩ := (h.st u m hm).set (P := Tryz.prog) (t := 139) Tryz.underlying9 Tryz.underlying139 hk (hldV v)
 refine ⟨w2, hrun, FlowAt.state hC h hm hv hm2 hg2, Flows.grown hg2 fun q hq => ?_⟩
 injection hq with hq
 subst hq
 obtain ⟨es, c, hb, _⟩ := h.st u m hm
 exact ⟨hC.sb u hu, .inl ⟨es, c, hb⟩⟩
theorem FlowAt.drew {C : FlowC} {L : List (List (ByteArray × RowI))} {w : World} {f : Flw} (h : FlowAt C L w f) (hB : C.B ≤ w.heap.size) : FlowAt C L w.drew f := h.keep (fun _ _ => rfl) hB
theorem OwnS.flows {B : Nat} {w w' : World} {e : TypeId} {size cap n : Nat} {A : Option Addr} {xs : List Value} (h : OwnS w e size A cap n xs) (hf : Flows B w w') (he : e ≠ 3) : OwnS w' e size A cap n xs := by
 refine h.keep fun k hk => ?_
 obtain ⟨_, _, _, h4⟩ := h
 rcases h4 with ⟨rfl, _⟩ | ⟨g, off, cur, rfl, hh, _⟩
 ·cases hk
 ·injection hk with hk; subst hk; exact (hf.cells hh he).trans hh.symm
def outsF (C : FlowC) (k u : Nat) (xs : List Rec) (f : Flw) : Option Flw := xs.foldlM (fun f x => handF C.J C.U k u x f) f
theorem outsF_take (C : FlowC) (k u : Nat) (xs : List Rec) (f : Flw) {j : Nat} (hj : j < xs.length) : outsF C k u (xs.take (j + 1)) f = (outsF C k u (xs.take j) f).bind fun g => handF C.J C.U k u xs[j] g := by
 unfold outsF
 rw [List.take_succ_eq_append_getElem hj, List.foldlM_append]
 show _ >>= _ = _ >>= _
 congr 1
 funext g
 rw [List.foldlM_cons]
 show (handF C.J C.U k u xs[j] g >>= fun s' => some s') = _
 cases handF C.J C.U k u xs[j] g <;> rfl
theorem outsF_stop (C : FlowC) (k u : Nat) (xs : List Rec) (f : Flw) {j : Nat} (h : outsF C k u (xs.take j) f = none) : outsF C k u xs f = none := by
 unfold outsF at h ⊢
 have e : xs = xs.take j ++ xs.drop j := (List.take_append_drop j xs).symm
 rw [e, List.foldlM_append, h]
 rfl
theorem outsF_room {C : FlowC} (hU : C.U = usesAll C.J) (hJ : jobErr C.J = 0) {k u : Nat} {xs : List Rec} {f f' : Flw} (h : Room C.J.length 0 f) (e : outsF C k u xs f = some f') : Room C.J.length 0 f' :=
 foldM_room (g := fun x f => handF C.J C.U k u x f) (fun x f f' h e => by rw [hU] at e; exact hand_room hJ k 0 u x f f' h e) xs f f' h e
set_option maxRecDepth 100000 in
set_option maxHeartbeats 2000000 in
theorem dget_node (C : FlowC) (hC : C.Ok) (hJ : jobErr C.J = 0) (hU : C.U = usesAll C.J) (k : Nat) (hH : HandAt C k) (L : List (List (ByteArray × RowI))) (f : Flw) (w : World) (u : Nat) (r : Rec) (x : Nat) (hx : x ≤ 12) (hF : FlowAt C L w f) (hE : Env C.B w) (hB : C.B ≤ w.heap.size) (hr : FlowR r) (n : Nod) (hn : C.J[u]? = some n) (hk : n.kind ≠ 10) (hku : C.J.length ≤ u + k) (hroom : Room C.J.length 0 f) :
  Calls Tryz.prog 111 #[.pointer (some ⟨C.g, 0, none⟩), .int .i64 (u : Int), recV r, .int .i64 (x : Int)] w (HandPost C (getF C.J (handF C.J C.U k) u r x f) w) := by
 obtain ⟨hu, he⟩ := List.getElem?_eq_some_iff.1 hn
 obtain ⟨b, off, A', c', hAj, hFb, x0, x1, x2, x3, htx, hki, hni, _⟩ := hF.job.nod_ hu
 rw [he] at x0 x1 x2 x3 htx hki hni
 obtain ⟨m, hm⟩ : ∃ m, f.st[u]? = some m := ⟨_, List.getElem?_eq_getElem (by rw [hF.stn]; exact hu)⟩
 obtain ⟨old, hold⟩ : ∃ old, old = pget m r.key := ⟨_, rfl⟩
 obtain ⟨d, hd⟩ : ∃ d, d = applyN n (old.getD zeroH) old.isSome r x := ⟨_, rfl⟩
 obtain ⟨f1, hf1⟩ : ∃ f1 : Flw, f1 = (if d.has = true then { f with st := f.st.modify u fun m => pset m r.key d.held } else f) := ⟨_, rfl⟩
 have HG : Hid (getF C.J (handF C.J C.U k) u r x f = outsF C k u d.out f1) := by
  show _ = _
  unfold getF
  rw [hn]
  simp only
  rw [if_neg hk, hm, Option.getD_some, ← hold, ← hd, ← hf1]
  rfl
 have hio := hF.oldOk hm r.key
 rw [← hold] at hio
 have HD := Lib.hid (applyN_ok n (old.getD zeroH) old.isSome r x hr hio)
 rw [← hd] at HD
 have hp := hF.parts hu
 obtain ⟨o0, o1, o2, o3, o4, o5, o6, _⟩ := hp
 rw [hAj] at o0
 have hcj := hF.job.1
 have hgl : C.g < w.heap.size := cell_lt o0
 have hbs : C.bs < w.heap.size := cell_lt o5
 have hbb : b < w.heap.size := by omega
 have hkq : (n.kind == 10) = false := beq_eq_false_iff_ne.2 hk
 have HROOM := Lib.hid hroom
 have HBW := Lib.hid hB
 have HF := Lib.hid hF
 have HR := Lib.hid hr
 have HE := Lib.hid hE
 have HH := Lib.hid hH
 have HM := Lib.hid hm
 have HOLD := Lib.hid hold
 have HF1 := Lib.hid hf1
 have HDE := Lib.hid hd
 have HNB := Lib.hid (And.intro htx (And.intro hki (And.intro hni hio)))
 clear hF hroom hn he hr hE hH hm hold hf1 hd htx hki hni hio
 obtain ⟨kind, from_, text, nn⟩ := n
 simp only at hk hkq x0 x1 x2 x3
 obtain ⟨key, num, time⟩ := r
 show Calls _ _ #[_, _, .agg #[.string key, .int .i64 num, .int .i64 time], _] w _
 go_enter Tryz.func111, Tryz.ntmps111
 go_upto_region 5 with (fail)
 obtain ⟨W2, hW2⟩ : ∃ W2, W2 = (w.alloc (.cells #[.string key, .int .i64 num, .int .i64 time] 44)).alloc (.cells #[.int .i64 kind, .slice A' from_.length c', .string text, .int .i64 nn] 40) := ⟨_, rfl⟩
 have hB2 : Below w.heap.size w W2 := by rw [hW2]; exact ((Below.refl _ _).alloc (Nat.le_refl _) _).alloc (by simp) _
 have hrb : W2.heap[w.heap.size]? = some (.cells #[.string key, .int .i64 num, .int .i64 time] 44 (0, 0)) := by rw [hW2]; exact (heap_alloc_old _ _ (by simp)).trans (heap_alloc_new _ _)
 have hnb : W2.heap[w.heap.size + 1]? = some (.cells #[.int .i64 kind, .slice A' from_.length c', .string text, .int .i64 nn] 40 (0, 0)) := by
  rw [hW2, ← show (w.alloc (.cells #[.string key, .int .i64 num, .int .i64 time] 44)).heap.size = w.heap.size + 1 from by simp]; exact heap_alloc_new _ _
 have hF2 := HF.out.below hB2 hB
 have hz2 := hB2.size
 have hp := hF2.parts hu
 clear o0 o1 o2 o3 o4 o5 o6 x0 x1 x2 x3
 obtain ⟨_, _, o2, _, _, o5, _, _⟩ := hp
 have r0 : W2.cell? ⟨w.heap.size, 0, none⟩ = some (.string key) := (cell_of_row W2 _ 0 _ _ _ hrb).trans rfl
 have hrl := block_lt hrb
 have hnl := block_lt hnb
 have HFL : Hid (Flows C.B w W2) := Flows.ofBelow hB2
 have HRB := Lib.hid hrb
 have HNBL := Lib.hid hnb
 have HFW := Lib.hid hF2
 have hks : key.size ≤ maxLen := HR.out.ok.1
 have l0 := hF2.stateLook HM.out hks
 rw [← HOLD.out] at l0
 have hv0 : Hid (hldV (old.getD zeroH) = .agg #[.int .i64 (old.getD zeroH).node, .string (old.getD zeroH).key, .int .i64 (old.getD zeroH).a, .int .i64 (old.getD zeroH).b]) := rfl
 rw [hv0.out] at l0
 have HOV : Hid (old.getD zeroH = ⟨(old.getD zeroH).node, (old.getD zeroH).key, (old.getD zeroH).a, (old.getD zeroH).b⟩) := rfl
 rw [← hW2]
 clear hW2 hB2 hF2 HF hrb hnb hFb hbb hAj hv0
 generalize w.heap.size = wz at hgl hbs hB hz2 r0 hrl hnl HRB HNBL ⊢
 obtain ⟨og, hog⟩ : ∃ og, og = old.getD zeroH := ⟨_, rfl⟩
 obtain ⟨oi, hoi⟩ : ∃ oi, oi = old.isSome := ⟨_, rfl⟩
 rw [← hog, ← hoi] at l0 HDE
 rw [← hog] at HNB HOV
 have HOG := Lib.hid hog
 have HOI := Lib.hid hoi
 clear hog hoi
 obtain ⟨hn', hkk, ha', hb'⟩ := og
 simp only at l0
 have hgl2 : C.g < W2.heap.size := by omega
 have hbs2 : C.bs < W2.heap.size := by omega
 have l1 := l0 W2 (fun _ _ => rfl)
 have l2 := l0 W2.drew (fun _ _ => rfl)
 have l3 := l0 (W2.alloc (.cells #[.int .i64 0, .string ⟨#[]⟩, .int .i64 0, .int .i64 0] 42)).drew (fun k hk => Below.heap_alloc _ _ _ hk)
 clear l0
 go_cut [10, 11] from 49 to 61 (fun pv bv wx => pv = .pointer (some ⟨W2.heap.size, 0, none⟩) ∧ bv = .bool oi ∧ wx = (W2.alloc (.cells #[.int .i64 hn', .string hkk, .int .i64 ha', .int .i64 hb'] 42)).drew)
 case first =>
  go_region_held3 (fun W => W.cell? ⟨C.g, 2, none⟩ = some (.slice (some ⟨C.bs, 0, none⟩) C.J.length C.cs) ∧ W.cell? ⟨C.bs, u, none⟩ = some (.map (some (C.sb u))) ∧ W.cell? ⟨wz, 0, none⟩ = some (.string key)) (first | exact ⟨o2, o5, r0⟩ | exact ⟨(World.cell?_of_block (Below.heap_alloc W2 _ _ hgl2)).trans o2, (World.cell?_of_block (Below.heap_alloc W2 _ _ hbs2)).trans o5, (World.cell?_of_block (Below.heap_alloc W2 _ _ hrl)).trans r0⟩ | go_keep) (fail)
  all_goals
   go_wp2_with fail
   go_meet
   case rel => exact ⟨rfl, rfl, rfl⟩
 case rest =>
  obtain ⟨rfl, rfl, rfl⟩ := hcut
  clear l1 l2 l3 o2 o5 r0
  obtain ⟨W3, hW3⟩ : ∃ W3, W3 = (W2.alloc (.cells #[.int .i64 hn', .string hkk, .int .i64 ha', .int .i64 hb'] 42)).drew := ⟨_, rfl⟩
  have hB3 : Below W2.heap.size W2 W3 := by rw [hW3]; exact ((Below.refl _ _).alloc (Nat.le_refl _) _).drew
  have hhb : W3.heap[W2.heap.size]? = some (.cells #[.int .i64 hn', .string hkk, .int .i64 ha', .int .i64 hb'] 42 (0, 0)) := by rw [hW3]; exact heap_alloc_new W2 _
  have hrb3 := (hB3.block _ hrl).trans HRB.out
  have hnb3 := (hB3.block _ hnl).trans HNBL.out
  have r0 : W3.cell? ⟨wz, 0, none⟩ = some (.string key) := (cell_of_row W3 _ 0 _ _ _ hrb3).trans rfl
  have r1 : W3.cell? ⟨wz, 1, none⟩ = some (.int .i64 num) := (cell_of_row W3 _ 1 _ _ _ hrb3).trans rfl
  have r2 : W3.cell? ⟨wz, 2, none⟩ = some (.int .i64 time) := (cell_of_row W3 _ 2 _ _ _ hrb3).trans rfl
  have n0 : W3.cell? ⟨wz + 1, 0, none⟩ = some (.int .i64 kind) := (cell_of_row W3 _ 0 _ _ _ hnb3).trans rfl
  have n1 : W3.cell? ⟨wz + 1, 1, none⟩ = some (.slice A' from_.length c') := (cell_of_row W3 _ 1 _ _ _ hnb3).trans rfl
  have n2 : W3.cell? ⟨wz + 1, 2, none⟩ = some (.string text) := (cell_of_row W3 _ 2 _ _ _ hnb3).trans rfl
  have n3 : W3.cell? ⟨wz + 1, 3, none⟩ = some (.int .i64 nn) := (cell_of_row W3 _ 3 _ _ _ hnb3).trans rfl
  have h0 : W3.cell? ⟨W2.heap.size, 0, none⟩ = some (.int .i64 hn') := (cell_of_row W3 _ 0 _ _ _ hhb).trans rfl
  have h1 : W3.cell? ⟨W2.heap.size, 1, none⟩ = some (.string hkk) := (cell_of_row W3 _ 1 _ _ _ hhb).trans rfl
  have h2 : W3.cell? ⟨W2.heap.size, 2, none⟩ = some (.int .i64 ha') := (cell_of_row W3 _ 2 _ _ _ hhb).trans rfl
  have h3 : W3.cell? ⟨W2.heap.size, 3, none⟩ = some (.int .i64 hb') := (cell_of_row W3 _ 3 _ _ _ hhb).trans rfl
  have hE3 := HE.out W3 ((HFL.out.trans (Flows.ofBelow hB3)).below HBW.out)
  obtain ⟨htx, hki, hni, hio⟩ := HNB.out
  have hAP := dapply_ok ⟨kind, from_, text, nn⟩ A' c' ⟨hn', hkk, ha', hb'⟩ oi ⟨key, num, time⟩ x W3 hE3.1 hE3.2 htx hni HR.out hio ⟨by omega, by omega⟩
  rw [← HDE.out] at hAP
  have HAP := Lib.hid hAP
  have HHB := Lib.hid hhb
  have HB3 := Lib.hid hB3
  have hhl := block_lt hhb
  clear hAP hE3 htx hki hni hio hhb hrb3 hnb3
  rw [← hW3]
  clear hW3 hB3 HNBL
  go_wp2_with fail
  refine HAP.out.mono ?_
  rintro e W4 ⟨A, c, rfl, ho, hbl, hb4⟩
  have hnew : Below W2.heap.size W2 W4 := HB3.out.trans (hb4.mono HB3.out.size)
  have hhb4 := (hb4.block _ hhl).trans HHB.out
  obtain ⟨out, ⟨vn, vk, va, vb⟩, has⟩ := d
  have g0 : W4.cell? ⟨W2.heap.size, 0, none⟩ = some (.int .i64 hn') := (cell_of_row W4 _ 0 _ _ _ hhb4).trans rfl
  have g1 : W4.cell? ⟨W2.heap.size, 1, none⟩ = some (.string hkk) := (cell_of_row W4 _ 1 _ _ _ hhb4).trans rfl
  have g2 : W4.cell? ⟨W2.heap.size, 2, none⟩ = some (.int .i64 ha') := (cell_of_row W4 _ 2 _ _ _ hhb4).trans rfl
  have g3 : W4.cell? ⟨W2.heap.size, 3, none⟩ = some (.int .i64 hb') := (cell_of_row W4 _ 3 _ _ _ hhb4).trans rfl
  have gf : ∀ i, W4.frozen? ⟨W2.heap.size, i, none⟩ = false := fun i => by simp [World.frozen?, hhb4]
  obtain ⟨W5, hW5⟩ : ∃ W5, W5 = ((((W4.setCell ⟨W2.heap.size, 0, none⟩ (.int .i64 vn)).setCell ⟨W2.heap.size, 1, none⟩ (.string vk)).setCell ⟨W2.heap.size, 2, none⟩ (.int .i64 va)).setCell ⟨W2.heap.size, 3, none⟩ (.int .i64 vb)) := ⟨_, rfl⟩
  have hB5 : Below W2.heap.size W2 W5 := by
   rw [hW5]
   exact (((hnew.setCell (p := ⟨W2.heap.size, 0, none⟩) (Nat.le_refl _) _).setCell (p := ⟨W2.heap.size, 1, none⟩) (Nat.le_refl _) _).setCell (p := ⟨W2.heap.size, 2, none⟩) (Nat.le_refl _) _).setCell (p := ⟨W2.heap.size, 3, none⟩) (Nat.le_refl _) _
  have hh5 : W5.heap[W2.heap.size]? = some (.cells #[.int .i64 vn, .string vk, .int .i64 va, .int .i64 vb] 42 (0, 0)) := by
   rw [hW5]
   simp [World.setCell, Array.getElem?_modify, hhb4]
  have ho5 : OwnS W5 44 3 A c out.length (out.flatMap recCells) := by
   have hne : ∀ i, blk A ≠ some (⟨W2.heap.size, i, none⟩ : Addr).block := fun i e => by have := hbl _ e; simp at this; omega
   rw [hW5]
   exact (((ho.setFar (hne 0) _).setFar (hne 1) _).setFar (hne 2) _).setFar (hne 3) _
  have hrb5 := (hB5.block _ hrl).trans HRB.out
  have hF5 := HFW.out.below hB5 (by have := HFL.out.size; have := HBW.out; omega)
  have HO5 := Lib.hid ho5
  have HF5 := Lib.hid hF5
  have HFL5 := Lib.hid (HFL.out.trans (Flows.ofBelow hB5))
  have HRB5 := Lib.hid hrb5
  have HH5 := Lib.hid hh5
  obtain ⟨_, _, o2, _, _, o5, _, _⟩ := hF5.parts hu
  have r0' : W5.cell? ⟨wz, 0, none⟩ = some (.string key) := (cell_of_row W5 _ 0 _ _ _ hrb5).trans rfl
  have e0 : W5.cell? ⟨W2.heap.size, 0, none⟩ = some (.int .i64 vn) := (cell_of_row W5 _ 0 _ _ _ hh5).trans rfl
  have e1 : W5.cell? ⟨W2.heap.size, 1, none⟩ = some (.string vk) := (cell_of_row W5 _ 1 _ _ _ hh5).trans rfl
  have e2 : W5.cell? ⟨W2.heap.size, 2, none⟩ = some (.int .i64 va) := (cell_of_row W5 _ 2 _ _ _ hh5).trans rfl
  have e3 : W5.cell? ⟨W2.heap.size, 3, none⟩ = some (.int .i64 vb) := (cell_of_row W5 _ 3 _ _ _ hh5).trans rfl
  unfold hldV
  clear ho hbl hb4 hnew hhb4 hB5 hh5 ho5 hrb5 hF5 HAP HHB HB3 HRB HFW r0 r1 r2 n0 n1 n2 n3 h0 h1 h2 h3
  go_upto_region 7 with (fail)
  rw [← hW5]
  clear hW5 g0 g1 g2 g3 gf
  go_upto_if 72 with (fail)
  go_cut [] from 73 to 82 (fun wx => ∃ L', Hid (FlowAt C L' wx f1) ∧ Hid (OwnS wx 44 3 A c out.length (out.flatMap recCells)) ∧ Hid (Flows C.B w wx))
  case first =>
   cases has with
   | true =>
    have hBW5 : C.B ≤ W5.heap.size := by have := HFL5.out.size; have := HBW.out; omega
    obtain ⟨w6, hrun, hF6, hfl6⟩ := (HF5.out.drew hBW5).statePut hC hu hks (v := ⟨vn, vk, va, vb⟩) HD.out.2
    simp only [hldV] at hrun
    have hf1 : f1 = { f with st := f.st.modify u fun m => pset m key ⟨vn, vk, va, vb⟩ } := by rw [HF1.out]; rfl
    rw [← hf1] at hF6
    obtain ⟨_, _, q2, _, _, q5, _, _⟩ := hF6.parts hu
    have hfl6' : Flows C.B W5 w6 := (Flows.ofBelow (Below.refl _ _).drew).trans hfl6
    have q0 : w6.cell? ⟨wz, 0, none⟩ = some (.string key) := (cell_of_row w6 _ 0 _ _ _ (hfl6'.cells HRB5.out (by decide))).trans rfl
    have s6 := hfl6'.cells HH5.out (by decide)
    have q6 : w6.cell? ⟨W2.heap.size, 0, none⟩ = some (.int .i64 vn) := (cell_of_row w6 _ 0 _ _ _ s6).trans rfl
    have q7 : w6.cell? ⟨W2.heap.size, 1, none⟩ = some (.string vk) := (cell_of_row w6 _ 1 _ _ _ s6).trans rfl
    have q8 : w6.cell? ⟨W2.heap.size, 2, none⟩ = some (.int .i64 va) := (cell_of_row w6 _ 2 _ _ _ s6).trans rfl
    have q9 : w6.cell? ⟨W2.heap.size, 3, none⟩ = some (.int .i64 vb) := (cell_of_row w6 _ 3 _ _ _ s6).trans rfl
    have HX : Hid (FlowAt C L w6 f1 ∧ OwnS w6 44 3 A c out.length (out.flatMap recCells) ∧ Flows C.B w w6) := ⟨hF6, HO5.out.flows hfl6' (by decide), HFL5.out.trans hfl6'⟩
    clear hF6 hfl6 hfl6' hf1 s6
    go_wp2_with fail
    go_region_held3 (fun W => W.cell? ⟨C.g, 2, none⟩ = some (.slice (some ⟨C.bs, 0, none⟩) C.J.length C.cs) ∧ W.cell? ⟨C.bs, u, none⟩ = some (.map (some (C.sb u))) ∧ W.cell? ⟨wz, 0, none⟩ = some (.string key) ∧ W.cell? ⟨W2.heap.size, 0, none⟩ = some (.int .i64 vn) ∧ W.cell? ⟨W2.heap.size, 1, none⟩ = some (.string vk) ∧ W.cell? ⟨W2.heap.size, 2, none⟩ = some (.int .i64 va) ∧ W.cell? ⟨W2.heap.size, 3, none⟩ = some (.int .i64 vb)) (first | exact ⟨o2, o5, r0', e0, e1, e2, e3⟩ | exact ⟨q2, q5, q0, q6, q7, q8, q9⟩) (fail)
    all_goals
     go_wp2_with fail
     go_meet
     case rel => exact ⟨L, HX.out.1, HX.out.2.1, HX.out.2.2⟩
   | false =>
    have hf1 : f1 = f := by rw [HF1.out]; rfl
    have HF6 : Hid (FlowAt C L W5 f1) := by rw [hf1]; exact HF5
    clear hf1
    go_wp2_with fail
    go_meet
    case rel => exact ⟨L, HF6, HO5, HFL5⟩
  case rest =>
   obtain ⟨L6, HF6, HO6, HFL6⟩ := hcut
   have HR1 : Hid (Room C.J.length 0 f1) := by
    show Room _ _ _
    rw [HF1.out]
    split
    ·exact HROOM.out.state _
    ·exact HROOM.out
   clear HF5 HO5 HFL5 HRB5 HH5 o2 o5 r0' e0 e1 e2 e3 HFL
   go_wp2_with fail
   go_loopw [85] (fun jv wr => ∃ (j : Nat) (L' : List (List (ByteArray × RowI))) (fj : Flw), j ≤ out.length ∧ jv = .int .i64 j ∧ Hid (outsF C k u (out.take j) f1 = some fj) ∧ Hid (FlowAt C L' wr fj) ∧ Hid (OwnS wr 44 3 A c out.length (out.flatMap recCells)) ∧ Hid (Flows C.B w wr)) (fun jv _ => out.length - (intOf jv).toNat)
   case atStart => exact ⟨0, L6, f1, Nat.zero_le _, rfl, rfl, HF6, HO6, HFL6⟩
   case round =>
    clear HF6 HO6 HFL6
    obtain ⟨j, L', fj, hj, rfl, HS, HFj, HOj, HFLj⟩ := hrel
    by_cases hlt : j < out.length
    ·have hsl := own_recs (F := fun _ => True) HOj.out rfl (fun _ _ => trivial) (fun x hx => (HD.out.1 x hx).ok)
     obtain ⟨b2, off2, hA2, _, y0, y1, y2, _⟩ := hsl.rec_ hlt
     have hcap := hsl.1
     have hle := hsl.le
     have HR2 := Lib.hid (HD.out.1 _ (List.getElem_mem hlt))
     have HNX := Lib.hid (outsF_take C k u out f1 hlt)
     clear hsl
     generalize out[j] = r2 at y0 y1 y2 HR2 HNX
     obtain ⟨key2, num2, time2⟩ := r2
     simp only at y0 y1 y2
     subst hA2
     go_wp2_with fail
     refine (HH.out u ⟨key2, num2, time2⟩ L' fj _ hu hku HR2.out (HFj.out.below ((Below.refl _ _).alloc (Nat.le_refl _) _) (by have := HFLj.out.size; have := HBW.out; omega)) (HE.out.flows ((HFLj.out.trans (Flows.ofBelow ((Below.refl _ _).alloc (Nat.le_refl _) _))).below HBW.out)) (by have := HFLj.out.size; have := HBW.out; simp; omega) (outsF_room hU hJ HR1.out HS.out)).mono ?_
     rintro e w7 ⟨hfl7, hsome, hnone⟩
     have hFL7 : Flows C.B w w7 := (HFLj.out.trans (Flows.ofBelow ((Below.refl _ _).alloc (Nat.le_refl _) _))).trans hfl7
     have hO7 := (HOj.out.keep (w' := wr.alloc (.cells #[.string key2, .int .i64 num2, .int .i64 time2] 44)) (fun q hq => Below.heap_alloc _ _ _ (HOj.out.lt q hq))).flows hfl7 (by decide)
     rw [HS.out] at HNX
     have hnx : outsF C k u (out.take (j + 1)) f1 = handF C.J C.U k u ⟨key2, num2, time2⟩ fj := HNX.out
     cases hres : handF C.J C.U k u ⟨key2, num2, time2⟩ fj with
     | none =>
      rw [hnone hres]
      rw [hres] at hnx
      have HN := Lib.hid (outsF_stop C k u out f1 hnx)
      have HF7 := Lib.hid hFL7
      clear hnx hres hsome hnone hfl7 hFL7 hO7 HOj HFLj HFj HNX HS
      unfold fullV
      go_wp2_with fail
      go_ret
      refine ⟨HF7.out, fun f' h => ?_, fun _ => rfl⟩
      have h2 : outsF C k u out f1 = some f' := HG.out.symm.trans h
      rw [HN.out] at h2; cases h2
     | some f2 =>
      obtain ⟨he, L2, hF2⟩ := hsome f2 hres
      subst he
      rw [hres] at hnx
      have HS2 := Lib.hid hnx
      have HF2 := Lib.hid hF2
      have HO2 := Lib.hid hO7
      have HFL2 := Lib.hid hFL7
      clear hnx hres hsome hnone hfl7 hFL7 hO7 HOj HFLj HFj HNX HS hF2
      go_wp2_with fail
      go_roundw
      case rel => exact ⟨j + 1, L2, f2, by omega, by go_num, HS2, HF2, HO2, HFL2⟩
      case measure => simp [intOf]; omega
    ·have dj : decide (j < out.length) = false := decide_eq_false hlt
     have HS2 : Hid (outsF C k u out f1 = some fj) := by
      have h := HS.out
      rw [List.take_of_length_le (by omega)] at h
      exact h
     clear HS hj hlt
     go_wp2_with fail
     go_ret
     refine ⟨HFLj.out, fun f' h => ?_, fun h => ?_⟩
     ·have h2 : outsF C k u out f1 = some f' := HG.out.symm.trans h
      rw [HS2.out] at h2; injection h2 with h2
      exact ⟨rfl, L', h2 ▸ HFj.out⟩
     ·have h2 : outsF C k u out f1 = none := HG.out.symm.trans h
      rw [HS2.out] at h2; cases h2
end Go.Proofs.YtfndhfekbbbliaaGreatDoor

/-
  Package den: the contract of hand, by induction on how many nodes follow. Conditions: the flow lies in memory ('FlowAt'), the job is right, there is room for lines.
-/
namespace Go.Proofs.YtfndhfekbbbliaaGreatDoor
open Go.RowKit Go.ChangeShapes Go.WideShapes Go.Shelf
set_option linter.unusedVariables false
theorem dget_ok (C : FlowC) (hC : C.Ok) (hJ : jobErr C.J = 0) (hU : C.U = usesAll C.J) (k : Nat) (hH : HandAt C k) (L : List (List (ByteArray × RowI))) (f : Flw) (w : World) (u : Nat) (r : Rec) (x : Nat) (hx : x ≤ 12) (hF : FlowAt C L w f) (hE : Env C.B w) (hB : C.B ≤ w.heap.size) (hr : FlowR r) (hu : u < C.J.length) (hku : C.J.length ≤ u + k) (hroom : Room C.J.length 1 f) :
  Calls Tryz.prog 111 #[.pointer (some ⟨C.g, 0, none⟩), .int .i64 (u : Int), recV r, .int .i64 (x : Int)] w (HandPost C (getF C.J (handF C.J C.U k) u r x f) w) := by
 have hn : C.J[u]? = some C.J[u] := List.getElem?_eq_getElem hu
 by_cases hk : C.J[u].kind = 10
 ·refine (dget_sink C hC L f w u r x hF hB (job_parts hJ).1 hr C.J[u] hn hk hroom).mono ?_
  rintro e w' ⟨rfl, ⟨L', hF'⟩, hfl⟩
  refine ⟨hfl, fun f' h => ⟨rfl, L', ?_⟩, fun h => ?_⟩
  ·unfold getF at h
   rw [hn] at h
   simp only at h
   rw [if_pos hk] at h
   injection h with h
   rw [← h]; exact hF'
  ·unfold getF at h
   rw [hn] at h
   simp only at h
   rw [if_pos hk] at h
   cases h
 ·exact dget_node C hC hJ hU k hH L f w u r x hx hF hE hB hr C.J[u] hn hk hku (hroom.less (Nat.zero_le _))
def preT (u : Nat) (fr : List Int) (i : Int) (x : Nat) : List (Nat × Nat) := ((fr.zipIdx.take x).filter fun p => p.1 == i).map fun p => (u, p.2)
def oneT (J : List Nod) (i : Int) (y : Int) : List (Nat × Nat) := ((((J[y.toNat]?.map (·.from_)).getD []).zipIdx).filter fun p => p.1 == i).map fun p => (y.toNat, p.2)
def allT (J : List Nod) (us : List Int) (i : Int) (a : Nat) : List (Nat × Nat) := (us.take a).flatMap (oneT J i)
theorem targets_all (J : List Nod) (i : Nat) {us : List Int} (hus : (usesAll J)[i]? = some us) : targets J (usesAll J) i = allT J us i us.length := by
 unfold targets allT
 rw [hus, List.take_length]
 rfl
theorem preT_zero (u : Nat) (fr : List Int) (i : Int) : preT u fr i 0 = [] := by simp [preT]
theorem preT_succ (u : Nat) (fr : List Int) (i : Int) {x : Nat} (hx : x < fr.length) : preT u fr i (x + 1) = preT u fr i x ++ (if fr[x] == i then [(u, x)] else []) := by
 unfold preT
 have hl : x < fr.zipIdx.length := by rw [List.length_zipIdx]; exact hx
 rw [List.take_succ_eq_append_getElem hl, List.filter_append, List.map_append]
 congr 1
 rw [List.getElem_zipIdx, Nat.zero_add]
 by_cases h : (fr[x] == i) = true
 ·rw [if_pos h, List.filter_cons_of_pos (by exact h)]; rfl
 ·rw [if_neg h, List.filter_cons_of_neg (by exact h)]; rfl
theorem preT_all {J : List Nod} {u : Nat} {n : Nod} (hn : J[u]? = some n) (i : Int) : preT u n.from_ i n.from_.length = oneT J i (u : Int) := by
 unfold preT oneT
 rw [List.take_of_length_le (by rw [List.length_zipIdx]; exact Nat.le_refl _), Int.toNat_natCast, hn]
 rfl
theorem allT_succ (J : List Nod) (us : List Int) (i : Int) {a : Nat} (ha : a < us.length) : allT J us i (a + 1) = allT J us i a ++ oneT J i us[a] := by
 unfold allT
 rw [List.take_succ_eq_append_getElem ha, List.flatMap_append]
 simp
theorem allT_len (J : List Nod) (us : List Int) (i : Int) (a : Nat) : (allT J us i a).length ≤ (allT J us i us.length).length := by
 unfold allT
 rw [List.take_length]
 conv => rhs; rw [← List.take_append_drop a us]
 rw [List.flatMap_append, List.length_append]
 omega
theorem preT_len (u : Nat) (fr : List Int) (i : Int) (x : Nat) : (preT u fr i x).length ≤ (preT u fr i fr.length).length := by
 unfold preT
 rw [List.take_of_length_le (l := fr.zipIdx) (i := fr.length) (by rw [List.length_zipIdx]; exact Nat.le_refl _), List.length_map, List.length_map]
 conv => rhs; rw [← List.take_append_drop x fr.zipIdx]
 rw [List.filter_append, List.length_append]
 omega
def handsF (C : FlowC) (k : Nat) (r : Rec) (ts : List (Nat × Nat)) (f : Flw) : Option Flw := ts.foldlM (fun f p => getF C.J (handF C.J C.U k) p.1 r p.2 f) f
theorem handsF_app (C : FlowC) (k : Nat) (r : Rec) (a b : List (Nat × Nat)) (f : Flw) : handsF C k r (a ++ b) f = (handsF C k r a f).bind (handsF C k r b) := by
 unfold handsF
 rw [List.foldlM_append]
 rfl
theorem handsF_stop {C : FlowC} {k : Nat} {r : Rec} {a : List (Nat × Nat)} (b : List (Nat × Nat)) {f : Flw} (h : handsF C k r a f = none) : handsF C k r (a ++ b) f = none := by
 rw [handsF_app, h]; rfl
theorem handsF_one (C : FlowC) (k : Nat) (r : Rec) (p : Nat × Nat) (f : Flw) : handsF C k r [p] f = getF C.J (handF C.J C.U k) p.1 r p.2 f := by
 unfold handsF
 rw [List.foldlM_cons]
 cases getF C.J (handF C.J C.U k) p.1 r p.2 f <;> rfl
theorem handsF_room {C : FlowC} (hU : C.U = usesAll C.J) (hJ : jobErr C.J = 0) {k : Nat} {r : Rec} {ts : List (Nat × Nat)} {s : Nat} {f f' : Flw} (h : Room C.J.length (s + ts.length) f) (e : handsF C k r ts f = some f') : Room C.J.length s f' :=
 foldM_room1 (g := fun (p : Nat × Nat) f => getF C.J (handF C.J C.U k) p.1 r p.2 f) (fun s p f f' h e => get_room (fun s u x f f' h e => by rw [hU] at e; exact hand_room hJ k s u x f f' h e) s p.1 r p.2 f f' h e) ts s f f' h e
set_option maxRecDepth 100000 in
set_option maxHeartbeats 2000000 in
theorem dhand_step (C : FlowC) (hC : C.Ok) (hJ : jobErr C.J = 0) (hU0 : C.U = usesAll C.J) (k : Nat) (hH : HandAt C k) : HandAt C (k + 1) := by
 intro i r L f w hi hik hr hF hE hB hroom
 have HU := Lib.hid hU0
 clear hU0
 obtain ⟨c, hc⟩ : ∃ c, f.gv[i]? = some c := ⟨_, List.getElem?_eq_getElem (by rw [hF.gvn]; exact hi)⟩
 have hc0 := hroom.2.2.2 c (List.mem_of_getElem? hc)
 have hc2 := hroom.1.2 c (List.mem_of_getElem? hc)
 obtain ⟨us, hus⟩ : ∃ us, C.U[i]? = some us := ⟨_, by rw [HU.out]; unfold usesAll; rw [List.getElem?_map, List.getElem?_range hi]; rfl⟩
 have husl : i < C.U.length := get?_lt hus
 have huse : us = usesOf C.J (i : Int) := by
  rw [HU.out] at hus; unfold usesAll at hus
  rw [List.getElem?_map, List.getElem?_range hi] at hus
  injection hus with hus; exact hus.symm
 have HT : Hid (targets C.J C.U i = allT C.J us i us.length) := by show _ = _; rw [HU.out]; exact targets_all C.J i (by rw [← HU.out]; exact hus)
 have HHF : Hid (handF C.J C.U (k + 1) i r f = if 2000 < c + 1 then none else handsF C k r (allT C.J us i us.length) (bump i f)) := by
  show _ = _
  have hbu : bump i f = { f with gv := f.gv.set i (c + 1) } := by unfold bump; rw [hc]; rfl
  rw [← HT.out, hbu]
  unfold handF
  rw [hc]
  rfl
 have HMEM : Hid (∀ a (ha : a < us.length), ∃ u n, us[a] = ((u : Nat) : Int) ∧ C.J[u]? = some n ∧ i < u ∧ u < C.J.length ∧ n.from_.length ≤ 4) := fun a ha => by
  obtain ⟨u, n, e, hn, hc⟩ := uses_mem (J := C.J) (f := (i : Int)) (by rw [← huse]; exact List.getElem_mem ha)
  obtain ⟨hu, he⟩ := List.getElem?_eq_some_iff.1 hn
  have := job_from hJ hu (i : Int) (by rw [he]; rw [List.contains_iff_mem] at hc; exact hc)
  exact ⟨u, n, e, hn, by omega, hu, from_four hJ hn⟩
 have hp := hF.parts hi
 obtain ⟨o0, o1, o2, o3, o4, o5, o6, fz⟩ := hp
 have hgc := gv_cell hF hc
 have hgl : C.g < w.heap.size := cell_lt o0
 have hbgl : C.bg < w.heap.size := cell_lt hgc
 have HF := Lib.hid hF
 have HR := Lib.hid hr
 have HE := Lib.hid hE
 have HH := Lib.hid hH
 have HROOM := Lib.hid hroom
 have HC := Lib.hid hc
 have HBW := Lib.hid hB
 have HUS := Lib.hid hus
 have hw1 : IntKind.i64.wrap (c + 1) = c + 1 := IntWalk.i64_in _ (by omega)
 have hgb : C.g ≠ C.bg := fun e => by
  have h1 := hF.obj; rw [e, hF.gv] at h1; injection h1 with h1; injection h1 with _ h1; exact absurd h1 (by decide)
 clear hF hr hE hH hroom hc hus huse o2 o4 o5 o6
 obtain ⟨key, num, time⟩ := r
 show Calls _ _ #[_, _, .agg #[.string key, .int .i64 num, .int .i64 time]] w _
 go_enter Tryz.func76, Tryz.ntmps76
 go_upto_region 2 with (fail)
 obtain ⟨W2, hW2⟩ : ∃ W2, W2 = (w.setCell ⟨C.bg, i, none⟩ (.int .i64 (c + 1))).alloc (.cells #[.string key, .int .i64 num, .int .i64 time] 44) := ⟨_, rfl⟩
 have hszs : (w.setCell ⟨C.bg, i, none⟩ (.int .i64 (c + 1))).heap.size = w.heap.size := size_setCell _ _ _
 have hF2 : FlowAt C L W2 (bump i f) := by rw [hW2]; exact (FlowAt.bump hC HF.out HC.out).below ((Below.refl _ _).alloc (Nat.le_refl _) _) (by rw [hszs]; exact hB)
 have hrb : W2.heap[w.heap.size]? = some (.cells #[.string key, .int .i64 num, .int .i64 time] 44 (0, 0)) := by
  rw [hW2, ← hszs]; exact heap_alloc_new _ _
 have hfl2 : Flows C.B w W2 := by
  rw [hW2]
  exact ((Flows.refl C.B w).setCell (p := ⟨C.bg, i, none⟩) (.inl ⟨hC.bg, .inr ⟨_, HF.out.gv⟩⟩) _).trans (Flows.ofBelow ((Below.refl _ _).alloc (Nat.le_refl _) _))
 have HFL := Lib.hid hfl2
 have HF2 := Lib.hid hF2
 have HRB := Lib.hid hrb
 obtain ⟨p0, p1, p2, p3, _, _, _, _⟩ := hF2.parts hi
 have hc2' : W2.cell? ⟨C.bg, i, none⟩ = some (.int .i64 (c + 1)) := gv_cell hF2 (c := c + 1) (by
  show (f.gv.set i ((f.gv[i]?.getD 0) + 1))[i]? = _
  rw [HC.out, Option.getD_some, List.getElem?_set_self (get?_lt HC.out)])
 have hsl := hF2.uses.sl_ husl
 obtain ⟨bu, offu, Au', cu', hAu, hbul, hcu, hsu⟩ := hsl
 have hcap1 := hF2.uses.1
 have hcap2 := hsu.1
 have hle2 := hsu.le
 have hUi : C.U[i] = us := (List.getElem?_eq_some_iff.1 HUS.out).2
 rw [hUi] at hcu hsu hcap2 hle2
 rw [hAu] at p1
 have HSU := Lib.hid hsu
 rw [← hW2]
 clear hW2 hF2 hrb hfl2 hsu hszs o0 o1 o3 fz hgc hUi hAu HUS HF
 generalize w.heap.size = wz at hgl hbgl hB HRB ⊢
 by_cases hfull : 2000 < c + 1
 ·have df : decide (2000 < c + 1) = true := decide_eq_true hfull
  have HN : Hid (handF C.J C.U (k + 1) i ⟨key, num, time⟩ f = none) := by show _ = _; rw [HHF.out, if_pos hfull]
  go_wp2_with fail
  go_ret
  refine ⟨HFL.out, fun f' h => ?_, fun _ => rfl⟩
  rw [HN.out] at h; cases h
 ·have df : decide (2000 < c + 1) = false := decide_eq_false hfull
  have HN : Hid (handF C.J C.U (k + 1) i ⟨key, num, time⟩ f = handsF C k ⟨key, num, time⟩ (allT C.J us i us.length) (bump i f)) := by show _ = _; rw [HHF.out, if_neg hfull]
  have HR48 : Hid (Room C.J.length 48 (bump i f)) := by
   have h := HROOM.out.bump (i := i) (c := c) HC.out (by omega)
   exact h
  have HT48 : Hid ((allT C.J us i us.length).length ≤ 48) := by show _ ≤ _; rw [← HT.out, HU.out]; exact targets_le hJ hi
  have hB2 : C.B ≤ W2.heap.size := by have := HFL.out.size; have := HBW.out; omega
  have hzl := block_lt HRB.out
  clear HROOM HHF HC hc0 hc2 hw1
  go_wp2_with fail
  clear p0 p3 hc2'
  go_loopw [39] (fun av wr => ∃ (a : Nat) (L' : List (List (ByteArray × RowI))) (fa : Flw), a ≤ us.length ∧ av = .int .i64 a ∧ Hid (handsF C k ⟨key, num, time⟩ (allT C.J us i a) (bump i f) = some fa) ∧ Hid (FlowAt C L' wr fa) ∧ Hid (Flows C.B W2 wr)) (fun av _ => us.length - (intOf av).toNat)
  case atStart => exact ⟨0, L, bump i f, Nat.zero_le _, rfl, rfl, HF2, Flows.refl _ _⟩
  case round =>
   obtain ⟨a, L', fa, ha, rfl, HS, HFa, HFLa⟩ := hrel
   by_cases hlt : a < us.length
   ·obtain ⟨u, n, hea, hn, hiu, hu, h4⟩ := HMEM.out a hlt
    obtain ⟨hu', he⟩ := List.getElem?_eq_some_iff.1 hn
    obtain ⟨bq, oq, rfl, _, cq, _⟩ := (HFLa.out.sl hB2 HSU.out).int_ hlt
    rw [hea] at cq
    obtain ⟨b, off, A3, c3, hAj, hFb, _, x1, _, _, _, _, _, hfr⟩ := HF2.out.job.nod_ hu
    rw [he] at x1 hfr
    have hcap3 := HF2.out.job.1
    have hcap4 := hfr.1
    have hle4 := hfr.le
    have HFR := Lib.hid hfr
    have y1 := ((HFLa.out.below hB2).cell (p := ⟨b, off + u * 4 + 1, none⟩) hFb).trans x1
    have hpa := HFa.out.parts hu
    obtain ⟨z0, _⟩ := hpa
    rw [hAj] at z0
    have HPA := Lib.hid (preT_all hn (i : Int))
    have HAS := Lib.hid (allT_succ C.J us i hlt)
    rw [hea] at HAS
    obtain ⟨kind, fr, text, nn⟩ := n
    simp only at x1 y1 hcap4 hle4 h4 HPA HFR
    clear hn he x1 hfr
    go_wp2_with fail
    go_loopw [52] (fun xv wx => ∃ (x : Nat) (L' : List (List (ByteArray × RowI))) (fx : Flw), x ≤ fr.length ∧ xv = .int .i64 x ∧ Hid (handsF C k ⟨key, num, time⟩ (allT C.J us i a ++ preT u fr i x) (bump i f) = some fx) ∧ Hid (FlowAt C L' wx fx) ∧ Hid (Flows C.B W2 wx)) (fun xv _ => fr.length - (intOf xv).toNat)
    case atStart => exact ⟨0, L', fa, Nat.zero_le _, rfl, by show _ = _; rw [preT_zero, List.append_nil]; exact HS.out, HFa, HFLa⟩
    case round =>
     clear y1 z0 cq HS HFa HFLa
     obtain ⟨x, Lx, fx, hx, rfl, HS, HFx, HFLx⟩ := hrel
     by_cases hlx : x < fr.length
     ·obtain ⟨bf, of_, rfl, _, cf, _⟩ := (HFLx.out.sl hB2 HFR.out).int_ hlx
      have HPS := Lib.hid (preT_succ u fr i hlx)
      have HLN : Hid ((allT C.J us i a ++ preT u fr i (x + 1)).length ≤ 48) := by
       show _ ≤ _
       rw [List.length_append]
       have h1 := preT_len u fr i (x + 1)
       rw [HPA.out] at h1
       have h2 := allT_len C.J us i (a + 1)
       rw [HAS.out, List.length_append] at h2
       have := HT48.out
       omega
      generalize fr[x] = v at cf HPS
      cases hv : (v == (i : Int)) with
      | true =>
       have hv1 : v = (i : Int) := by simpa using hv
       have hv2 : (v != (i : Int)) = false := by simp [hv1]
       rw [hv, if_pos rfl] at HPS
       have hrz := HFLx.out.cells HRB.out (by decide)
       have r0 : wr.cell? ⟨wz, 0, none⟩ = some (.string key) := (cell_of_row wr _ 0 _ _ _ hrz).trans rfl
       have r1 : wr.cell? ⟨wz, 1, none⟩ = some (.int .i64 num) := (cell_of_row wr _ 1 _ _ _ hrz).trans rfl
       have r2 : wr.cell? ⟨wz, 2, none⟩ = some (.int .i64 time) := (cell_of_row wr _ 2 _ _ _ hrz).trans rfl
       have HG := Lib.hid (dget_ok C hC hJ HU.out k HH.out Lx fx wr u ⟨key, num, time⟩ x (by omega) HFx.out (HE.out.flows ((HFL.out.trans HFLx.out).below HBW.out)) (by have := HFLx.out.size; omega) HR.out hu (by omega)
        (handsF_room HU.out hJ (s := 1) (HR48.out.less (by
         have := HLN.out
         rw [HPS.out, List.length_append, List.length_append, List.length_singleton] at this
         rw [List.length_append]; omega)) HS.out))
       have HNX : Hid (handsF C k ⟨key, num, time⟩ (allT C.J us i a ++ preT u fr i (x + 1)) (bump i f) = getF C.J (handF C.J C.U k) u ⟨key, num, time⟩ x fx) := by
        show _ = _
        rw [HPS.out, ← List.append_assoc, handsF_app, HS.out]
        show handsF C k _ [(u, x)] fx = _
        rw [handsF_one]
       clear hrz
       go_wp2_with fail
       refine HG.out.mono ?_
       rintro e w7 ⟨hfl7, hsome, hnone⟩
       have HFL7 := Lib.hid (HFLx.out.trans hfl7)
       cases hres : getF C.J (handF C.J C.U k) u ⟨key, num, time⟩ x fx with
       | none =>
        rw [hnone hres]
        have HN9 : Hid (handF C.J C.U (k + 1) i ⟨key, num, time⟩ f = none) := by
         show _ = _
         have h1 : handsF C k ⟨key, num, time⟩ (allT C.J us i (a + 1)) (bump i f) = none := by
          rw [HAS.out, ← HPA.out]
          have e : preT u fr i fr.length = preT u fr i (x + 1) ++ (preT u fr i fr.length).drop (preT u fr i (x + 1)).length := by
           have hpre : preT u fr i (x + 1) <+: preT u fr i fr.length := by
            unfold preT
            rw [List.take_of_length_le (l := fr.zipIdx) (i := fr.length) (by rw [List.length_zipIdx]; exact Nat.le_refl _)]
            exact ((List.take_prefix (x + 1) fr.zipIdx).filter _).map _
           obtain ⟨t, ht⟩ := hpre
           rw [← ht, List.drop_left]
          rw [e, ← List.append_assoc]
          exact handsF_stop _ (by rw [HNX.out, hres])
         rw [HN.out]
         have e2 : allT C.J us i us.length = allT C.J us i (a + 1) ++ (us.drop (a + 1)).flatMap (oneT C.J i) := by
          unfold allT
          rw [List.take_length, ← List.flatMap_append, List.take_append_drop]
         rw [e2]
         exact handsF_stop _ h1
        have HF7 := Lib.hid (HFL.out.trans HFL7.out)
        clear hres hsome hnone hfl7 HFL7 HNX HS HFx HFLx HG HN HT HT48 HPA HAS HPS HLN
        unfold fullV
        go_wp2_with fail
        go_ret
        refine ⟨HF7.out, fun f' h => ?_, fun _ => rfl⟩
        rw [HN9.out] at h; cases h
       | some f2 =>
        obtain ⟨he, L2, hF2'⟩ := hsome f2 hres
        subst he
        have HS2 : Hid (handsF C k ⟨key, num, time⟩ (allT C.J us i a ++ preT u fr i (x + 1)) (bump i f) = some f2) := by show _ = _; rw [HNX.out, hres]
        have HF3 := Lib.hid hF2'
        clear hres hsome hnone hfl7 hF2' HNX HS HFx HFLx HG r0 r1 r2 cf
        go_wp2_with fail
        go_roundw
        case rel => exact ⟨x + 1, L2, f2, by omega, by go_num, HS2, HF3, HFL7⟩
        case measure => simp [intOf]; omega
      | false =>
       have hv1 : ¬ v = (i : Int) := by simpa using hv
       have hv2 : (v != (i : Int)) = true := by simp [hv1]
       rw [hv] at HPS
       have HS2 : Hid (handsF C k ⟨key, num, time⟩ (allT C.J us i a ++ preT u fr i (x + 1)) (bump i f) = some fx) := by
        show _ = _
        rw [HPS.out]
        simp only [Bool.false_eq_true, if_false, List.append_nil]
        exact HS.out
       clear HS HPS
       go_wp2_with fail
       go_roundw
       case rel => exact ⟨x + 1, Lx, fx, by omega, by go_num, HS2, HFx, HFLx⟩
       case measure => simp [intOf]; omega
     ·have dx : decide (x < fr.length) = false := decide_eq_false hlx
      have HS2 : Hid (handsF C k ⟨key, num, time⟩ (allT C.J us i (a + 1)) (bump i f) = some fx) := by
       show _ = _
       rw [HAS.out, ← HPA.out, show fr.length = x from by omega]; exact HS.out
      clear HS HAS HPA hx hlx
      go_wp2_with fail
      refine ⟨⟨a + 1, Lx, fx, by omega, by go_num, HS2, HFx, HFLx⟩, ?_⟩
      simp [intOf]; omega
   ·have da : decide (a < us.length) = false := decide_eq_false hlt
    have HS2 : Hid (handF C.J C.U (k + 1) i ⟨key, num, time⟩ f = some fa) := by
     show _ = _
     rw [HN.out, show us.length = a from by omega]; exact HS.out
    clear HS HN HT HT48 HMEM ha hlt
    go_wp2_with fail
    go_ret
    refine ⟨HFL.out.trans HFLa.out, fun f' h => ?_, fun h => ?_⟩
    ·rw [HS2.out] at h; injection h with h
     exact ⟨rfl, L', h ▸ HFa.out⟩
    ·rw [HS2.out] at h; cases h
theorem dhand_ok (C : FlowC) (hC : C.Ok) (hJ : jobErr C.J = 0) (hU : C.U = usesAll C.J) : ∀ k, HandAt C k := by
 intro k
 induction k with
 | zero => intro i r L f w h1 h2; omega
 | succ k ih => exact dhand_step C hC hJ hU k ih
end Go.Proofs.YtfndhfekbbbliaaGreatDoor

/-
  Package den: a flow as All makes it, node by node (printed by denmake.py). No condition: definitions and lemmas.
-/
namespace Go.Proofs.YtfndhfekbbbliaaGreatDoor
open Go.RowKit Go.ChangeShapes Go.WideShapes
set_option linter.unusedVariables false
def mv (b : Nat) : Value := .map (some b)
structure MkAt (B : Nat) (W4 : World) (n : Nat) (vJ vU : Value) (wr : World) (sl ll : List Nat) (vs vl : Value) : Prop where
 obj : wr.heap[B + 1]? = some (.cells #[vJ, vU, vs, .slice (some ⟨B, 0, none⟩) n n, vl] 137 (0, 0))
 gv : wr.heap[B]? = some (.cells ((List.replicate n (0 : Int)).flatMap intC).toArray 3 (0, 0))
 rs : wr.ownsRow B 139 1 vs sl.length (sl.map mv)
 rl : wr.ownsRow B 140 1 vl ll.length (ll.map mv)
 ms : ∀ b, b ∈ sl ∨ b ∈ ll → B ≤ b ∧ SMapAt wr b []
 nd : (sl ++ ll).Nodup
 bel : Below B W4 wr
theorem ownsRow_keep {w w' : World} {base : Nat} {e : TypeId} {size n : Nat} {v : Value} {xs : List Value} (h : w.ownsRow base e size v n xs) (hk : ∀ k, v.ownBlock = some k → w'.heap[k]? = w.heap[k]?) : w'.ownsRow base e size v n xs := by
 obtain ⟨h1, h2⟩ := h
 refine ⟨h1, ?_⟩
 rcases h2 with h2 | ⟨g, cap, cur, rfl, hb, hh, r⟩
 ·exact .inl h2
 ·exact .inr ⟨g, cap, cur, rfl, hb, (hk g rfl).trans hh, r⟩
theorem madeCells_int (n : Nat) : madeCells #[.int .i64 0] n = ((List.replicate n (0 : Int)).flatMap intC).toArray := by
 apply Array.ext'
 rw [toList_madeCells_one]
 induction n with
 | zero => rfl
 | succ n ih => rw [List.replicate_succ, List.replicate_succ, List.flatMap_cons, ih]; rfl
theorem MkAt.start {W4 : World} {n : Nat} {vJ vU : Value} : MkAt W4.heap.size W4 n vJ vU ((W4.alloc (.cells (madeCells #[.int .i64 0] n) 3)).alloc (.cells #[vJ, vU, .slice none 0 0, .slice (some ⟨W4.heap.size, 0, none⟩) n n, .slice none 0 0] 137)) [] [] (.slice none 0 0) (.slice none 0 0) := by
 refine ⟨?_, ?_, World.ownsRow_nil _ _ _ _, World.ownsRow_nil _ _ _ _, by simp, by simp, ((Below.refl _ _).alloc (Nat.le_refl _) _).alloc (by simp) _⟩
 ·rw [← show (W4.alloc (.cells (madeCells #[.int .i64 0] n) 3)).heap.size = W4.heap.size + 1 from by simp]; exact heap_alloc_new _ _
 ·rw [← madeCells_int]; exact (heap_alloc_old _ _ (by simp)).trans (heap_alloc_new _ _)
theorem MkAt.addS {B : Nat} {W4 : World} {n : Nat} {vJ vU : Value} {wr : World} {sl ll : List Nat} {vs vl : Value} (h : MkAt B W4 n vJ vU wr sl ll vs vl) {v' : Value} {w' : World}
  (hown : w'.ownsRow B 139 1 v' (sl.length + 1) (sl.map mv ++ [mv wr.heap.size])) (hg : (wr.alloc (.map #[] 0)).grownBy w' vs.ownBlock) (hat : v'.ownBlock = vs.ownBlock ∨ ∃ g, v'.ownBlock = some g ∧ wr.heap.size < g) :
  w'.heap[B + 1]? = some (.cells #[vJ, vU, vs, .slice (some ⟨B, 0, none⟩) n n, vl] 137 (0, 0)) ∧ MkAt B W4 n vJ vU (w'.setCell ⟨B + 1, 2, none⟩ v') (sl ++ [wr.heap.size]) ll v' vl := by
 have hlt := block_lt h.obj
 have hsz : (wr.alloc (.map #[] 0)).heap.size = wr.heap.size + 1 := by simp
 have hkind : ∀ k, vs.ownBlock = some k → k < wr.heap.size ∧ ∃ cur, wr.heap[k]? = some (.cells cur 139 (0, 0)) := fun k hk => by
  rcases ownBlock_cases h.rs with e | ⟨g, cur, e, hgl, hh⟩
  ·rw [e] at hk; cases hk
  ·rw [e] at hk; injection hk with hk; subst hk; exact ⟨hgl, cur, hh⟩
 have hold : ∀ k, k < wr.heap.size → vs.ownBlock ≠ some k → w'.heap[k]? = wr.heap[k]? := fun k hk hne => (hg.block k (by rw [hsz]; omega) (fun e => hne e.symm)).trans (heap_alloc_old _ _ hk)
 have hcell : ∀ (k : Nat) (cs : Array Value) (t : TypeId) (fr : Nat × Nat), wr.heap[k]? = some (.cells cs t fr) → t ≠ 139 → w'.heap[k]? = some (.cells cs t fr) := fun k cs t fr hk ht => (hold k (block_lt hk) (fun e => by
  obtain ⟨_, cur, hc⟩ := hkind k e
  rw [hk] at hc; injection hc with hc; injection hc with _ hc; exact ht hc)).trans hk
 have hmap : ∀ b, SMapAt wr b [] → w'.heap[b]? = wr.heap[b]? := fun b hb => hold b hb.lt (fun e => by
  obtain ⟨_, cur, hc⟩ := hkind b e
  exact hb.not_cells hc)
 have hset : ∀ k, k ≠ B + 1 → (w'.setCell ⟨B + 1, 2, none⟩ v').heap[k]? = w'.heap[k]? := fun k hk => Below.heap_setCell _ _ _ _ (by simpa using hk)
 have hobj := hcell _ _ _ _ h.obj (by decide)
 have hnb : v'.ownBlock ≠ some (B + 1) := fun e => by
  rcases hat with e2 | ⟨g, e2, hg2⟩
  ·rw [e2] at e
   obtain ⟨_, cur, hc⟩ := hkind _ e
   rw [h.obj] at hc; injection hc with hc; injection hc with _ hc; exact absurd hc (by decide)
  ·rw [e2] at e; injection e with e; omega
 have hne2 : ∀ k, vl.ownBlock = some k → k ≠ B + 1 ∧ w'.heap[k]? = wr.heap[k]? := fun k hk => by
  rcases ownBlock_cases h.rl with e | ⟨g, cur, e, hgl, hh⟩
  ·rw [e] at hk; cases hk
  ·rw [e] at hk; injection hk with hk; subst hk
   refine ⟨fun e2 => ?_, (hcell _ _ _ _ hh (by decide)).trans hh.symm⟩
   rw [e2, h.obj] at hh; injection hh with hh; injection hh with _ hh; exact absurd hh (by decide)
 have hnew : SMapAt w' wr.heap.size [] := (SMapAt.made wr).keep (hg.block _ (by rw [hsz]; omega) (fun e => by have := (hkind _ e.symm).1; omega))
 have hmne : ∀ b, SMapAt w' b [] → b ≠ B + 1 := fun b hb e => by rw [e] at hb; exact hb.not_cells hobj
 refine ⟨hobj, ?_, (hset B (by omega)).trans (hcell _ _ _ _ h.gv (by decide)), by rw [List.length_append, List.map_append]; exact ownsRow_keep hown fun k hk => hset k (fun e => hnb (e ▸ hk)), ownsRow_keep h.rl fun k hk => (hset k (hne2 k hk).1).trans (hne2 k hk).2, fun b hb => ?_, ?_, ?_⟩
 ·simp [World.setCell, Array.getElem?_modify, hobj]
 ·have hcase : b = wr.heap.size ∨ (b ∈ sl ∨ b ∈ ll) := by
   rcases hb with hb | hb
   ·rcases List.mem_append.1 hb with hb | hb
    ·exact .inr (.inl hb)
    ·exact .inl (List.mem_singleton.1 hb)
   ·exact .inr (.inr hb)
  rcases hcase with e | hb2
  ·subst e
   exact ⟨by omega, hnew.keep (hset _ (hmne _ hnew))⟩
  ·obtain ⟨h1, h2⟩ := h.ms b hb2
   have h3 : SMapAt w' b [] := h2.keep (hmap b h2)
   exact ⟨h1, h3.keep (hset _ (hmne _ h3))⟩
 ·have hfresh : wr.heap.size ∉ sl ++ ll := fun hm => by
   have := (h.ms _ (List.mem_append.1 hm)).2.lt
   omega
  rw [List.append_assoc]
  exact (List.perm_middle (l₁ := sl) (a := wr.heap.size) (l₂ := ll)).nodup_iff.2 (List.nodup_cons.2 ⟨hfresh, h.nd⟩)
 ·refine Below.setCell ?_ (by show B ≤ B + 1; omega) v'
  exact (h.bel.alloc (by omega) _).grown hg (by rw [hsz]; omega) (fun k hk => by rcases h.rs.2 with ⟨e, _⟩ | ⟨g, cap, cur, e, hb, _⟩; rw [e] at hk; cases hk; rw [e] at hk; injection hk with hk; subst hk; exact hb)
theorem MkAt.addL {B : Nat} {W4 : World} {n : Nat} {vJ vU : Value} {wr : World} {sl ll : List Nat} {vs vl : Value} (h : MkAt B W4 n vJ vU wr sl ll vs vl) {v' : Value} {w' : World}
  (hown : w'.ownsRow B 140 1 v' (ll.length + 1) (ll.map mv ++ [mv wr.heap.size])) (hg : (wr.alloc (.map #[] 0)).grownBy w' vl.ownBlock) (hat : v'.ownBlock = vl.ownBlock ∨ ∃ g, v'.ownBlock = some g ∧ wr.heap.size < g) :
  w'.heap[B + 1]? = some (.cells #[vJ, vU, vs, .slice (some ⟨B, 0, none⟩) n n, vl] 137 (0, 0)) ∧ MkAt B W4 n vJ vU (w'.setCell ⟨B + 1, 4, none⟩ v') sl (ll ++ [wr.heap.size]) vs v' := by
 have hlt := block_lt h.obj
 have hsz : (wr.alloc (.map #[] 0)).heap.size = wr.heap.size + 1 := by simp
 have hkind : ∀ k, vl.ownBlock = some k → k < wr.heap.size ∧ ∃ cur, wr.heap[k]? = some (.cells cur 140 (0, 0)) := fun k hk => by
  rcases ownBlock_cases h.rl with e | ⟨g, cur, e, hgl, hh⟩
  ·rw [e] at hk; cases hk
  ·rw [e] at hk; injection hk with hk; subst hk; exact ⟨hgl, cur, hh⟩
 have hold : ∀ k, k < wr.heap.size → vl.ownBlock ≠ some k → w'.heap[k]? = wr.heap[k]? := fun k hk hne => (hg.block k (by rw [hsz]; omega) (fun e => hne e.symm)).trans (heap_alloc_old _ _ hk)
 have hcell : ∀ (k : Nat) (cs : Array Value) (t : TypeId) (fr : Nat × Nat), wr.heap[k]? = some (.cells cs t fr) → t ≠ 140 → w'.heap[k]? = some (.cells cs t fr) := fun k cs t fr hk ht => (hold k (block_lt hk) (fun e => by
  obtain ⟨_, cur, hc⟩ := hkind k e
  rw [hk] at hc; injection hc with hc; injection hc with _ hc; exact ht hc)).trans hk
 have hmap : ∀ b, SMapAt wr b [] → w'.heap[b]? = wr.heap[b]? := fun b hb => hold b hb.lt (fun e => by
  obtain ⟨_, cur, hc⟩ := hkind b e
  exact hb.not_cells hc)
 have hset : ∀ k, k ≠ B + 1 → (w'.setCell ⟨B + 1, 4, none⟩ v').heap[k]? = w'.heap[k]? := fun k hk => Below.heap_setCell _ _ _ _ (by simpa using hk)
 have hobj := hcell _ _ _ _ h.obj (by decide)
 have hnb : v'.ownBlock ≠ some (B + 1) := fun e => by
  rcases hat with e2 | ⟨g, e2, hg2⟩
  ·rw [e2] at e
   obtain ⟨_, cur, hc⟩ := hkind _ e
   rw [h.obj] at hc; injection hc with hc; injection hc with _ hc; exact absurd hc (by decide)
  ·rw [e2] at e; injection e with e; omega
 have hne2 : ∀ k, vs.ownBlock = some k → k ≠ B + 1 ∧ w'.heap[k]? = wr.heap[k]? := fun k hk => by
  rcases ownBlock_cases h.rs with e | ⟨g, cur, e, hgl, hh⟩
  ·rw [e] at hk; cases hk
  ·rw [e] at hk; injection hk with hk; subst hk
   refine ⟨fun e2 => ?_, (hcell _ _ _ _ hh (by decide)).trans hh.symm⟩
   rw [e2, h.obj] at hh; injection hh with hh; injection hh with _ hh; exact absurd hh (by decide)
 have hnew : SMapAt w' wr.heap.size [] := (SMapAt.made wr).keep (hg.block _ (by rw [hsz]; omega) (fun e => by have := (hkind _ e.symm).1; omega))
 have hmne : ∀ b, SMapAt w' b [] → b ≠ B + 1 := fun b hb e => by rw [e] at hb; exact hb.not_cells hobj
 refine ⟨hobj, ?_, (hset B (by omega)).trans (hcell _ _ _ _ h.gv (by decide)), ownsRow_keep h.rs fun k hk => (hset k (hne2 k hk).1).trans (hne2 k hk).2, by rw [List.length_append, List.map_append]; exact ownsRow_keep hown fun k hk => hset k (fun e => hnb (e ▸ hk)), fun b hb => ?_, ?_, ?_⟩
 ·simp [World.setCell, Array.getElem?_modify, hobj]
 ·have hcase : b = wr.heap.size ∨ (b ∈ sl ∨ b ∈ ll) := by
   rcases hb with hb | hb
   ·exact .inr (.inl hb)
   ·rcases List.mem_append.1 hb with hb | hb
    ·exact .inr (.inr hb)
    ·exact .inl (List.mem_singleton.1 hb)
  rcases hcase with e | hb2
  ·subst e
   exact ⟨by omega, hnew.keep (hset _ (hmne _ hnew))⟩
  ·obtain ⟨h1, h2⟩ := h.ms b hb2
   have h3 : SMapAt w' b [] := h2.keep (hmap b h2)
   exact ⟨h1, h3.keep (hset _ (hmne _ h3))⟩
 ·have hfresh : wr.heap.size ∉ sl ++ ll := fun hm => by
   have := (h.ms _ (List.mem_append.1 hm)).2.lt
   omega
  rw [← List.append_assoc]
  exact (List.perm_append_comm (l₁ := sl ++ ll) (l₂ := [wr.heap.size])).nodup_iff.2 (List.nodup_cons.2 ⟨hfresh, h.nd⟩)
 ·refine Below.setCell ?_ (by show B ≤ B + 1; omega) v'
  exact (h.bel.alloc (by omega) _).grown hg (by rw [hsz]; omega) (fun k hk => by rcases h.rl.2 with ⟨e, _⟩ | ⟨g, cap, cur, e, hb, _⟩; rw [e] at hk; cases hk; rw [e] at hk; injection hk with hk; subst hk; exact hb)
theorem getD_at (l : List Nat) {i : Nat} (hi : i < l.length) : l.getD i 0 = l[i] := by rw [List.getD_eq_getElem?_getD, List.getElem?_eq_getElem hi]; rfl
theorem nodup_at {l : List Nat} (h : l.Nodup) {i j : Nat} (hi : i < l.length) (hj : j < l.length) (e : l.getD i 0 = l.getD j 0) : i = j := by
 rw [getD_at l hi, getD_at l hj] at e
 exact (List.getElem_inj h).1 e
def mkC (B : Nat) (J : List Nod) (U : List (List Int)) (Aj : Option Addr) (cj : Nat) (Au : Option Addr) (cu : Nat) (bs cs bl cl : Nat) (sl ll : List Nat) : FlowC := ⟨B, B + 1, J, U, Aj, cj, Au, cu, bs, cs, B, bl, cl, fun i => sl.getD i 0, fun i => ll.getD i 0⟩
theorem MkAt.flow {B : Nat} {W4 : World} {J : List Nod} {U : List (List Int)} {Aj Au : Option Addr} {cj cu : Nat} {wr : World} {sl ll : List Nat} {vs vl : Value} (h : MkAt B W4 J.length (.slice Aj J.length cj) (.slice Au U.length cu) wr sl ll vs vl) (hB : B = W4.heap.size)
  (hs : sl.length = J.length) (hl : ll.length = J.length) (hpos : 0 < J.length) (hJ : SlA nodE (· < B) W4 Aj cj J) (hU : SlA (slE (intE .i64)) (· < B) W4 Au cu U) :
  ∃ bs cs bl cl, (mkC B J U Aj cj Au cu bs cs bl cl sl ll).Ok ∧ FlowAt (mkC B J U Aj cj Au cu bs cs bl cl sl ll) (List.replicate J.length []) wr (flow0 J.length) := by
 obtain ⟨hs1, hs2⟩ := h.rs
 obtain ⟨hl1, hl2⟩ := h.rl
 rcases hs2 with ⟨_, h0⟩ | ⟨bs, cs, curs, rfl, _, hhs, _, _, hcs, hts⟩
 ·omega
 rcases hl2 with ⟨_, h0⟩ | ⟨bl, cl, curl, rfl, _, hhl, _, _, hcl, htl⟩
 ·omega
 have hnd := List.nodup_append.1 h.nd
 have hcell : ∀ (cur : Array Value) (l : List Nat), cur.toList.take (l.length * 1) = l.map mv → ∀ i, i < l.length → cur[i]? = some (.map (some (l.getD i 0))) := fun cur l e i hi => by
  have h1 : (cur.toList.take (l.length * 1))[i]? = (l.map mv)[i]? := by rw [e]
  rw [List.getElem?_take, if_pos (by omega), List.getElem?_map, List.getElem?_eq_getElem hi] at h1
  rw [getD_at l hi]
  simpa [mv] using h1
 have hmem : ∀ (l : List Nat) (i : Nat), i < l.length → l.getD i 0 ∈ l := fun l i hi => by rw [getD_at l hi]; exact List.getElem_mem hi
 have hlt : Same (· < B) W4 wr := fun k hk => h.bel.block k hk
 refine ⟨bs, cs, bl, cl, ⟨Nat.le_refl _, fun i hi => ?_, fun i hi => ?_, fun i j hi hj e => ?_, fun i j hi hj e => ?_, fun i j hi hj e => ?_⟩, ?_⟩
 ·exact (h.ms _ (.inl (hmem sl i (by rw [hs]; exact hi)))).1
 ·exact (h.ms _ (.inr (hmem ll i (by rw [hl]; exact hi)))).1
 ·exact nodup_at hnd.1 (by rw [hs]; exact hi) (by rw [hs]; exact hj) e
 ·exact nodup_at hnd.2.1 (by rw [hl]; exact hi) (by rw [hl]; exact hj) e
 ·exact hnd.2.2 _ (hmem sl i (by rw [hs]; exact hi)) _ (hmem ll j (by rw [hl]; exact hj)) e
 ·have hrep : ∀ {α : Type} (i : Nat) (m : List α), (List.replicate J.length ([] : List α))[i]? = some m → i < J.length ∧ m = [] := fun i m hm => by
   rw [List.getElem?_replicate] at hm
   split at hm
   ·rename_i hi; injection hm with hm; exact ⟨hi, hm.symm⟩
   ·cases hm
  refine ⟨by have := h.obj; rw [hs, hl] at this; exact this, hJ.keep hlt, hU.keep hlt, ⟨curs, hhs, fun i hi => hcell curs sl hts i (by rw [hs]; exact hi)⟩, ⟨curl, hhl, fun i hi => hcell curl ll htl i (by rw [hl]; exact hi)⟩, h.gv, by simp [flow0, mkC], by simp [flow0, mkC], fun i m hm => ?_, by simp [mkC], by simp [flow0], fun i m hm => ?_, fun i m p hm hp => ?_, fun i j m m' p q k hm hm' hp => ?_, fun m hm p hp => ?_, fun m hm p hp => ?_⟩
  ·obtain ⟨hi, rfl⟩ := hrep i m hm
   exact (h.ms _ (.inl (hmem sl i (by rw [hs]; exact hi)))).2
  ·obtain ⟨hi, rfl⟩ := hrep i m hm
   exact (h.ms _ (.inr (hmem ll i (by rw [hl]; exact hi)))).2
  ·obtain ⟨_, rfl⟩ := hrep i m hm; cases hp
  ·obtain ⟨_, rfl⟩ := hrep i m hm; cases hp
  ·rw [List.eq_of_mem_replicate (show m ∈ List.replicate _ _ from hm)] at hp; cases hp
  ·rw [List.eq_of_mem_replicate (show m ∈ List.replicate _ _ from hm)] at hp; cases hp
end Go.Proofs.YtfndhfekbbbliaaGreatDoor

/-
  slices.SortFunc at structs, over any program: what an owned row holds behind it; and contracts of cmp.Compare at int and string, and of cmp.Or at two ints. Condition: fewer than 2^62 elements.
-/
namespace Go.Proofs.YtfndhfekbbbliaaGreatDoor
open Go.RowKit Go.ChangeShapes Go.WideShapes Go.Shelf
open Go.Sort hiding Below
set_option linter.unusedVariables false
theorem grow_of_below {W w' : World} (hb : Below W.heap.size W w') (hd : W.drawn ≤ w'.drawn) : ∃ q os', w' = grow (W.drewN q) os' := by
 refine ⟨w'.drawn - W.drawn, w'.heap.extract W.heap.size w'.heap.size, ?_⟩
 have hh : w'.heap = W.heap ++ w'.heap.extract W.heap.size w'.heap.size := by
  apply Array.ext_getElem?
  intro i
  rw [Array.getElem?_append]
  split
  ·rename_i h; exact hb.block i h
  ·rename_i h
   rw [Array.getElem?_extract]
   have hs := hb.size
   split
   ·congr 1; omega
   ·rw [Array.getElem?_eq_none (by omega)]
 obtain ⟨h', t', d', o', u'⟩ := w'
 have e1 := hb.os; have e2 := hb.tape; have e3 := hb.output
 simp only at e1 e2 e3 hd hh
 unfold grow
 have e4 : (W.drewN (d' - W.drawn)).drawn = d' := by show W.drawn + (d' - W.drawn) = d'; omega
 subst e1; subst e2; subst e3
 congr 1
 exact e4.symm
def CmpOk {α : Type} (P : Program) (g : Nat) (enc : α → List Value) (cf : α → α → Int) : Prop := ∀ (x y : α) (W : World),
 Calls P g #[.agg (enc x).toArray, .agg (enc y).toArray] W fun e w' => e = .returned (.int .i64 (cf x y)) ∧ Below W.heap.size W w' ∧ W.drawn ≤ w'.drawn
section
variable {P : Program} {ρ : Ren} {α : Type} [Inhabited α]
theorem flatK_toList (enc : α → List Value) (k : Nat) (hk : ∀ x, (enc x).length = k) (hk0 : 0 < k) (d : Array α) : (flatK enc k d).toList = d.toList.flatMap enc := by
 have key : ∀ l : List α, (l.flatMap enc).length = l.length * k := fun l => by
  induction l with
  | nil => simp
  | cons x l ih => rw [List.flatMap_cons, List.length_append, hk, ih, List.length_cons, Nat.succ_mul, Nat.add_comm]
 have hl : (d.toList.flatMap enc).length = d.size * k := by rw [key, Array.length_toList]
 apply List.ext_getElem?
 intro t
 by_cases ht : t < d.size * k
 ·have h1 : t / k < d.toList.length := by rw [Array.length_toList]; exact Nat.div_lt_of_lt_mul (by rw [Nat.mul_comm]; exact ht)
  have h2 := flat_get enc k hk d.toList (i := t / k) (j := t % k) (List.getElem?_eq_getElem h1) (Nat.mod_lt _ hk0)
  rw [Nat.div_add_mod'] at h2
  rw [h2, Array.getElem?_toList, Array.getElem?_eq_getElem (by rw [size_flatK]; exact ht)]
  have h3 := get_flatK enc k d t ht
  rw [getElem!_pos _ _ (by rw [size_flatK]; exact ht)] at h3
  have h4 : d[t / k]! = d.toList[t / k] := by rw [getElem!_pos _ _ (by simpa using h1)]; simp
  rw [h3, h4, getElem!_pos _ _ (by rw [hk]; exact Nat.mod_lt _ hk0), List.getElem?_eq_getElem (by rw [hk]; exact Nat.mod_lt _ hk0)]
 ·rw [List.getElem?_eq_none (by rw [Array.length_toList, size_flatK]; omega), List.getElem?_eq_none (by rw [hl]; omega)]
theorem sort_any (L : SlLaysF0.n6 P ρ) (k : Nat) (hk0 : 0 < k) (aE : ∀ w, (isAgg (ρ.t 24)).run P w = .ok true w) (zE : ∀ w, (Go.sizeOf (ρ.t 24)).run P w = .ok k w) (enc : α → List Value) (hk : ∀ x, (enc x).length = k) (h1 : ∀ x, ∀ v ∈ enc x, v.oneCell' = true)
  (cf : α → α → Int) (hO : SWO (ltOf cf)) (g : Nat) (eg : ∀ args w, (callFunc g args).run P w = .ok (.enter g args) w) (hc : CmpOk P g enc cf) (e : TypeId) (A : Option Addr) (cap : Nat) (l : List α) (w : World)
  (ho : OwnS w e k A cap l.length (l.flatMap enc)) (hsz : l.length < 4611686018427387904) :
  Calls P (ρ.f 6) #[.slice A l.length cap, .func (.func g) #[] #[]] w fun e' w' => e' = .returned (.tuple #[]) ∧ ∃ l' : List α, l'.Perm l ∧ l'.Pairwise (fun a b => ltOf cf b a = false) ∧ OwnS w' e k A cap l.length (l'.flatMap enc) ∧ w.grownBy w' (blk A) := by
 by_cases h0 : l = []
 ·subst h0
  refine (AnyF.slices_SortFunc_none L A cap _ w).mono fun e' w' ⟨he, hw⟩ => ?_
  subst hw
  exact ⟨he, [], List.Perm.refl _, .nil, ho, ⟨rfl, rfl, rfl, Nat.le_refl _, fun _ _ _ => rfl⟩⟩
 ·obtain ⟨gb, off, rfl, hlt, hcells⟩ := ho.head (List.length_pos_iff.2 h0) hk0
  obtain ⟨hol, hoc, hom, hor⟩ := ho
  rcases hor with ⟨hA, _⟩ | ⟨g', off', cur, hA, hh, hcs, hr⟩
  ·cases hA
  ·injection hA with hA; injection hA with hA1 hA2; subst hA1; subst hA2
   have hF : (flatK enc k l.toArray).toList = l.flatMap enc := flatK_toList enc k hk hk0 l.toArray
   have hsF : (flatK enc k l.toArray).size = l.length * k := by rw [size_flatK]; simp
   have hH : HoldsK enc k w gb off l.toArray := by
    intro j hj
    have hjl : j < (l.flatMap enc).length := by rw [← hF, Array.length_toList]; exact hj
    refine ⟨?_, ?_⟩
    ·have h2 := hcells j ((l.flatMap enc)[j]) (List.getElem?_eq_getElem hjl)
     rw [h2, getElem!_pos (flatK enc k l.toArray) j hj]
     simp only [id]
     congr 1
     rw [← Array.getElem_toList]
     simp only [hF]
    ·simp [World.frozen?, hh]
   have hcl : CmpLays P g #[] enc k cf gb off l.toArray.size w := fun m os dk _ x y => (hc x y _).mono fun e' w' ⟨he, hb, hd⟩ => ⟨he, grow_of_below hb hd⟩
   have hcon := AnyQ.slices_SortFunc L k aE zE enc hk h1 cf hO g #[] gb off cap l.toArray w eg hcl hH hlt (by simpa using hsz)
   rw [List.size_toArray] at hcon
   refine hcon.mono fun e' w' ⟨he, d', n, os, hp, hs, hw⟩ => ⟨he, d'.toList, ?_, ?_, ?_, ?_⟩
   ·have h2 := hp.2.2
    have hds : d'.size = l.length := by rw [hp.1]; simp
    have e1 : d'.extract 0 l.length = d' := by rw [← hds]; simp
    have e2 : l.toArray.extract 0 l.length = l.toArray := by
     have := @Array.extract_size _ l.toArray
     rwa [List.size_toArray] at this
    rw [e1, e2] at h2
    exact h2
   ·rw [List.pairwise_iff_getElem]
    intro i j hi hj hij
    have hds : d'.size = l.length := by rw [hp.1]; simp
    have h2 := hs i j (Nat.zero_le _) hij (by rw [← hds]; simpa using hj)
    rw [getElem!_pos _ _ (by simpa using hj), getElem!_pos _ _ (by simpa using hi)] at h2
    simpa using h2
   ·have hds : d'.size = l.length := by rw [hp.1]; simp
    have hF' : (flatK enc k d').toList = d'.toList.flatMap enc := flatK_toList enc k hk hk0 d'
    have hsF' : (flatK enc k d').size = l.length * k := by rw [size_flatK, hds]
    have hw2 : w'.heap[gb]? = some (.cells (putCells id off (flatK enc k d') cur) e (0, 0)) := by
     rw [hw]
     unfold sortWorldK putRowK putRow
     rw [heap_grow_old _ _ (by simp [mapBlock]; exact hlt)]
     simp [mapBlock, Array.getElem?_modify, hh, onCells]
    refine ⟨by rw [← hF', Array.length_toList, hsF'], hoc, hom, .inr ⟨gb, off, _, rfl, hw2, by simp [putCells]; exact hcs, ?_⟩⟩
    intro j u hj
    rw [← hF', Array.getElem?_toList] at hj
    have hjl : j < (flatK enc k d').size := (Array.getElem?_eq_some_iff.1 hj).1
    have hjc : off + j < cur.size := by
     have : l.length * k ≤ cap * k := Nat.mul_le_mul_right _ hoc
     omega
    unfold putCells
    rw [Array.getElem?_mapIdx, Array.getElem?_eq_getElem hjc]
    simp only [Option.map_some]
    rw [if_pos ⟨by omega, by omega⟩, Nat.add_sub_cancel_left, getElem!_pos (flatK enc k d') j hjl]
    rw [Array.getElem?_eq_getElem hjl] at hj
    exact hj
   ·rw [hw]
    unfold sortWorldK putRowK putRow
    refine ⟨rfl, rfl, rfl, by simp [mapBlock, grow], fun i hi hne => ?_⟩
    rw [heap_grow_old _ _ (by simp [mapBlock]; exact hi)]
    have : gb ≠ i := fun e => hne (by rw [e]; rfl)
    simp [mapBlock, Array.getElem?_modify, this]
end
end Go.Proofs.YtfndhfekbbbliaaGreatDoor

/-
  Words of my own: several owned rows at once, no two in one block ('Forest'), and what becomes of them where one is turned. No condition: plain definitions and lemmas over any program.
-/
namespace Go.Proofs.YtfndhfekbbbliaaGreatDoor
open Go.RowKit Go.ChangeShapes Go.WideShapes
set_option linter.unusedVariables false
structure ORow where
 e : TypeId
 size : Nat
 A : Option Addr
 cap : Nat
 n : Nat
 xs : List Value
def ORow.At (r : ORow) (w : World) : Prop := OwnS w r.e r.size r.A r.cap r.n r.xs
def Sep (a b : Option Addr) : Prop := ∀ k, blk a = some k → blk b ≠ some k
theorem Sep.symm {a b : Option Addr} (h : Sep a b) : Sep b a := fun k hb ha => h k ha hb
theorem Sep.none_left (b : Option Addr) : Sep none b := fun k h => by cases h
structure Forest (w : World) (rs : List ORow) : Prop where
 at_ : ∀ r ∈ rs, r.At w
 sep : rs.Pairwise fun r s => Sep r.A s.A
def forF (rs : List ORow) (k : Nat) : Prop := ∃ r ∈ rs, blk r.A = some k
theorem Forest.nil (w : World) : Forest w [] := ⟨nofun, .nil⟩
theorem Forest.lt {w : World} {rs : List ORow} (h : Forest w rs) : ∀ k, forF rs k → k < w.heap.size := by
 rintro k ⟨r, hr, e⟩
 exact (h.at_ r hr).lt k e
theorem Forest.perm {w : World} {rs ss : List ORow} (h : Forest w rs) (hp : rs.Perm ss) : Forest w ss :=
 ⟨fun r hr => h.at_ r (hp.mem_iff.2 hr), (hp.pairwise_iff (fun {_ _} h => h.symm)).1 h.sep⟩
theorem Forest.addNil {w : World} {rs : List ORow} (h : Forest w rs) (e : TypeId) (size : Nat) : Forest w (⟨e, size, none, 0, 0, []⟩ :: rs) :=
 ⟨fun r hr => by
  rcases List.mem_cons.1 hr with rfl | hr
  ·exact OwnS.nil w e size
  ·exact h.at_ r hr, List.pairwise_cons.2 ⟨fun s _ => Sep.none_left _, h.sep⟩⟩
theorem Forest.keep {w w' : World} {rs : List ORow} (h : Forest w rs) (hs : ∀ k, forF rs k → w'.heap[k]? = w.heap[k]?) : Forest w' rs :=
 ⟨fun r hr => (h.at_ r hr).keep fun k hk => hs k ⟨r, hr, hk⟩, h.sep⟩
theorem Forest.below {w w' : World} {rs : List ORow} (h : Forest w rs) (hb : Below w.heap.size w w') : Forest w' rs := h.keep fun k hk => hb.block k (h.lt k hk)
theorem Forest.turn {w w' : World} {r r' : ORow} {rs : List ORow} (h : Forest w (r :: rs)) (hr : r'.At w') (hg : w.grownBy w' (blk r.A)) (hat : blk r'.A = blk r.A ∨ blk r'.A = none ∨ ∃ k, blk r'.A = some k ∧ w.heap.size ≤ k) : Forest w' (r' :: rs) := by
 have hs := (List.pairwise_cons.1 h.sep)
 refine ⟨fun s hs' => ?_, List.pairwise_cons.2 ⟨fun s hs' k e e2 => ?_, hs.2⟩⟩
 ·rcases List.mem_cons.1 hs' with rfl | hs'
  ·exact hr
  ·exact (h.at_ s (List.mem_cons_of_mem _ hs')).grown hg fun k hk e => hs.1 s hs' k e hk
 ·rcases hat with e1 | e1 | ⟨j, e1, hj⟩
  ·exact hs.1 s hs' k (e1 ▸ e) e2
  ·rw [e1] at e; cases e
  ·rw [e1] at e; injection e with e
   have := (h.at_ s (List.mem_cons_of_mem _ hs')).lt k e2
   omega
theorem forF_turn {w : World} {r r' : ORow} {rs : List ORow} {k : Nat} (hat : blk r'.A = blk r.A ∨ blk r'.A = none ∨ ∃ k, blk r'.A = some k ∧ w.heap.size ≤ k) (h : forF (r' :: rs) k) : forF (r :: rs) k ∨ w.heap.size ≤ k := by
 obtain ⟨s, hs, e⟩ := h
 rcases List.mem_cons.1 hs with rfl | hs
 ·rcases hat with e1 | e1 | ⟨j, e1, hj⟩
  ·exact .inl ⟨r, List.mem_cons_self, e1 ▸ e⟩
  ·rw [e1] at e; cases e
  ·rw [e1] at e; injection e with e; omega
 ·exact .inl ⟨s, List.mem_cons_of_mem _ hs, e⟩
theorem forF_perm {rs ss : List ORow} (hp : rs.Perm ss) {k : Nat} (h : forF rs k) : forF ss k := by
 obtain ⟨r, hr, e⟩ := h
 exact ⟨r, hp.mem_iff.1 hr, e⟩
theorem Forest.turnMid {w w' : World} {r r' : ORow} {pre post : List ORow} (h : Forest w (pre ++ r :: post)) (hr : r'.At w') (hg : w.grownBy w' (blk r.A)) (hat : blk r'.A = blk r.A ∨ blk r'.A = none ∨ ∃ k, blk r'.A = some k ∧ w.heap.size ≤ k) : Forest w' (pre ++ r' :: post) :=
 ((h.perm List.perm_middle).turn hr hg hat).perm List.perm_middle.symm
theorem forF_mid {w : World} {r r' : ORow} {pre post : List ORow} {k : Nat} (hat : blk r'.A = blk r.A ∨ blk r'.A = none ∨ ∃ k, blk r'.A = some k ∧ w.heap.size ≤ k) (h : forF (pre ++ r' :: post) k) : forF (pre ++ r :: post) k ∨ w.heap.size ≤ k :=
 (forF_turn hat (forF_perm List.perm_middle h)).imp_left (forF_perm List.perm_middle.symm)
theorem wpList_push_S {P : Program} {ops : Array Oper} {rest : List Oper} {o : Oper} {a : Act} {Q : Exit → Act → World → Prop} {w0 : World} (hgd : o.guard = none) (s x : Operand) (t : TypeId)
  (ho : o.op = .call { callee := .builtin .append, args := #[s, x], argTypes := #[t, t] })
  (e : TypeId) (z : Value) (size bytes : Nat) (ht : P.underlying t = some (.slice e))
  (hinfo : (P.info? e).map (fun i => (i.zero, i.size, i.bytes)) = some (some z, size, bytes)) (hzs : z.cells.size = size) (hsz : 0 < size)
  (A : Option Addr) (cap n : Nat) (xs : List Value) (hs : a.eval s = .slice A n cap) (hown : OwnS w0 e size A cap n xs) (news : List Value) (hx : a.eval x = .slice (some ⟨w0.heap.size, 0, none⟩) 1 1) (hl : news.length = size) (h1 : ∀ u ∈ news, u.oneCell' = true)
  (h63 : n + 1 ≤ maxLen) (hbytes : (n + 1) * bytes ≤ 140737488355328)
  (h : ∀ A' cap' w', OwnS w' e size A' cap' (n + 1) (xs ++ news) → w0.grownBy w' (blk A) → (blk A' = blk A ∨ ∃ k, blk A' = some k ∧ w0.heap.size ≤ k) → wpList P ops Q rest (a.put o.dst (.slice A' (n + 1) cap')) w') :
  wpList P ops Q (o :: rest) a (w0.alloc (.cells news.toArray e)) := by
 refine wpList_plain hgd fun K hK => ?_
 obtain ⟨A', cap', w', hr, h2, h3, h5⟩ := run_push_S (P := P) w0 t o.type e z size bytes ht hinfo hzs hsz A cap n xs hown news hl h1 h63 hbytes
 unfold Oper.wp execOp
 simp only [ho, resolve, invoke, builtin, Sem.run_bind, Sem.run_pure, Result.andThen_ok, List.map_toArray, List.map_cons, List.map_nil, hs, hx, hr]
 exact hK _ _ (h A' cap' w' h2 h3 h5)
end Go.Proofs.YtfndhfekbbbliaaGreatDoor

/-
  Package den: the contract of Lines. Condition: fewer than 10^9 keys.
-/
namespace Go.Proofs.YtfndhfekbbbliaaGreatDoor
open Go.RowKit
open Go.Sort hiding Below
set_option linter.unusedVariables false
abbrev LineR := ByteArray × RowI
instance : Inhabited RowI := ⟨noRow⟩
def lineCells (p : LineR) : List Value := [.string p.1, .slice p.2.A p.2.xs.length p.2.cap]
def lineCf (p q : LineR) : Int := if ltStr p.1.data.toList q.1.data.toList then -1 else 1
set_option maxRecDepth 100000 in
theorem lineCmp : CmpOk Tryz.prog 113 lineCells lineCf := by
 intro x y W
 obtain ⟨xk, xA, xc, xs⟩ := x
 obtain ⟨yk, yA, yc, ys⟩ := y
 show Calls _ _ #[.agg #[.string xk, .slice xA xs.length xc], .agg #[.string yk, .slice yA ys.length yc]] W fun e w' => e = .returned (.int .i64 (if ltStr xk.data.toList yk.data.toList then -1 else 1)) ∧ _
 have hlt : Op.bytesLess xk.toList yk.toList = ltStr xk.data.toList yk.data.toList := by rw [bytesLess_eq, Lib.toList_data, Lib.toList_data]; rfl
 cases hb : ltStr xk.data.toList yk.data.toList with
 | true =>
  rw [hb] at hlt
  clear hb
  go_enter Tryz.func113, Tryz.ntmps113
  go_wp2_with fail
  go_ret
  exact ⟨rfl, ((Below.refl _ _).alloc (Nat.le_refl _) _).alloc (by simp) _, Nat.le_refl _⟩
 | false =>
  rw [hb] at hlt
  clear hb
  go_enter Tryz.func113, Tryz.ntmps113
  go_wp2_with fail
  go_ret
  exact ⟨rfl, ((Below.refl _ _).alloc (Nat.le_refl _) _).alloc (by simp) _, Nat.le_refl _⟩
theorem lineLt (p q : LineR) : ltOf lineCf p q = ltStr p.1.data.toList q.1.data.toList := by
 unfold ltOf lineCf
 cases ltStr p.1.data.toList q.1.data.toList <;> rfl
theorem lineSwo : SWO (ltOf lineCf) where
 irrefl x := by rw [lineLt]; exact swo_ltStr.irrefl _
 trans x y z h1 h2 := by rw [lineLt] at *; exact swo_ltStr.trans _ _ _ h1 h2
 ntrans x y z h1 h2 := by rw [lineLt] at *; exact swo_ltStr.ntrans _ _ _ h1 h2
def linC : Elt LineR where
 sz := 2
 bulk := fun _ => 0
 R := fun _ _ cs r => cs = lineCells r
 len := fun _ _ _ _ h => by rw [h]; rfl
 keep := fun _ _ _ _ _ h _ => h
 more := fun _ _ _ _ _ h _ => h
theorem info_line : (Tryz.prog.info? 178).map (fun i => (i.zero, i.size, i.bytes)) = some (some (.agg #[.string ByteArray.empty, .slice none 0 0]), 2, 40) := by kernel_rfl
theorem range_ne_own {isK : Value → Prop} {w : World} {b r : Nat} {m todo : List (Value × Value)} {e : TypeId} {size cap n : Nat} {A : Option Addr} {xs : List Value} (h : RangeAt isK w b r m todo) (ho : OwnS w e size A cap n xs) : blk A ≠ some r ∧ blk A ≠ some b := by
 obtain ⟨es, clock, since, seen, c0, hb, _, _, _, hr, _⟩ := h
 rcases ho.2.2.2 with ⟨rfl, _⟩ | ⟨g, off, cur, rfl, hh, _⟩
 ·exact ⟨by simp [blk], by simp [blk]⟩
 ·refine ⟨fun e => ?_, fun e => ?_⟩
  ·injection e with e; subst e; rw [hh] at hr; cases hr
  ·injection e with e; subst e; rw [hh] at hb; cases hb
def lpv (p : LineR) : Value × Value := fv (lp p)
def LinesPost (w : World) (ps : List LineR) (e : Ending) (w' : World) : Prop := ∃ A' c' q, e = .returned (.slice A' (List.length q) c') ∧ q.Perm ps ∧ q.Pairwise (fun a b => kLess a.1 b.1) ∧ SlA linC (fun k => w.heap.size ≤ k ∧ k < w'.heap.size) w' A' c' q ∧ Below w.heap.size w w'
theorem strict_of {q : List LineR} (hn : (pkeys q).Nodup) (h : q.Pairwise fun a b => ltOf lineCf b a = false) : q.Pairwise fun a b => kLess a.1 b.1 := by
 unfold pkeys at hn
 rw [List.Nodup, List.pairwise_map] at hn
 refine (h.and hn).imp fun {a b} hab => ?_
 obtain ⟨h1, h2⟩ := hab
 rw [lineLt] at h1
 simp only [ltStr, decide_eq_false_iff_not, List.not_lt] at h1
 unfold kLess
 rcases Decidable.em (a.1.data.toList < b.1.data.toList) with h3 | h3
 ·exact h3
 ·have h4 := List.le_antisymm h1 (List.not_lt.1 h3)
  exact absurd (by
   cases ha : a.1; cases hb : b.1
   rw [ha, hb] at h4
   congr 1
   exact Array.toList_inj.1 h4) h2
set_option maxRecDepth 100000 in
set_option maxHeartbeats 2000000 in
theorem lines_any (b : Nat) (ps : List LineR) (w : World) (h : SMapAt w b (ps.map lp)) (hn : ps.length ≤ 1000000000) :
  Calls Tryz.prog 77 #[.map (some b)] w (LinesPost w ps) := by
 have hmap : MapAt IsStrK w b (ps.map lpv) := by unfold SMapAt at h; rw [List.map_map] at h; exact h
 have HND : Hid ((pkeys ps).Nodup) := by
  have := h.nodup
  unfold skeys at this
  rw [List.map_map] at this
  exact this
 have HM := Lib.hid hmap
 have hbl := h.lt
 clear h hmap
 go_enter Tryz.func77, Tryz.ntmps77
 go_wp2_with (at_range; refine wpList_range_M _ rfl _ 140 rfl 9 38 IsStrK Tryz.underlying140 b _ rfl HM.out ?_)
 intro w1 hrg hg1 hz1
 have HR := Lib.hid hrg
 have HB := Lib.hid (show Below w.heap.size w w1 from ⟨hg1.os, hg1.tape, hg1.output, hg1.size, fun k hk => hg1.block k hk (by simp)⟩)
 clear hrg hg1 hz1 HM
 go_wp2_with fail
 try go_frame
 go_loopg [3] (ps.length) (fun gk ov wr => ∃ (ds ts : List LineR) (A : Option Addr) (cap : Nat), gk = ts.length ∧ ds.length + ts.length = ps.length ∧ Hid ((ds ++ ts).Perm ps) ∧ ov = .slice A ds.length cap ∧ Hid (RangeAt IsStrK wr b w.heap.size (ps.map lpv) (ts.map lpv)) ∧
  Hid (OwnS wr 178 2 A cap ds.length (ds.flatMap lineCells)) ∧ Hid (∀ k, blk A = some k → w.heap.size ≤ k) ∧ Hid (Below w.heap.size w wr))
 case atStart => exact ⟨[], ps, none, 0, rfl, by simp, List.Perm.refl _, rfl, HR, OwnS.nil _ _ _, (by intro k e; cases e), HB⟩
 case round =>
  clear HR HB
  obtain ⟨ds, ts, A, cap, hgk, hlen, HP, rfl, HR, HW, HA, HB⟩ := hrel
  have HGK := Lib.hid hgk
  clear hgk
  go_wp2_with (at_next; refine wpList_next_M _ rfl _ rfl IsStrK b w.heap.size _ _ rfl HR.out ?_ ?_)
  ·intro h0
   have hts : ts = [] := by simpa using h0
   subst hts
   have hdl : ds.length = ps.length := by simpa using hlen
   have HPD : Hid (ds.Perm ps) := by have := HP.out; rwa [List.append_nil] at this
   have hcon := sort_any Tryz.sort_Line 2 (by decide) Tryz.isAgg178 Tryz.sizeOf178 lineCells (fun _ => rfl) (fun x v hv => by simp [lineCells] at hv; rcases hv with rfl | rfl <;> rfl) lineCf lineSwo 113
    (enters_of Tryz.func113 (by kernel_rfl) rfl) lineCmp 178 A cap ds wr HW.out (by omega)
   change Calls Tryz.prog 112 _ _ _ at hcon
   have HCON := Lib.hid hcon
   clear h0 hdl hcon hlen
   go_wp2_with fail
   refine HCON.out.mono ?_
   rintro e w3 ⟨rfl, q, hq1, hq2, hq3, hq4⟩
   have HQ1 := Lib.hid hq1
   have HQ2 := Lib.hid hq2
   have HQ3 := Lib.hid hq3
   have HQ4 := Lib.hid hq4
   clear hq1 hq2 hq3 hq4 HCON
   go_wp2_with fail
   go_ret
   have hql : ds.length = q.length := HQ1.out.length_eq.symm
   have hqp := HQ1.out.trans HPD.out
   refine ⟨A, cap, q, by rw [← hql]; rfl, hqp, strict_of ((hqp.map (fun p : LineR => p.1)).nodup_iff.2 (show (List.map (fun p : LineR => p.1) ps).Nodup from HND.out)) HQ2.out, ?_, ?_⟩
   ·have ho := HQ3.out
    exact OwnS.sl (E := linC) lineCells (fun _ => rfl) ho hql (fun k e => ⟨HA.out k e, ho.lt k e⟩) (fun x _ => rfl)
   ·exact HB.out.grown HQ4.out (by have := HB.out.size; omega) HA.out
  ·intro t1 t2 key v w2 htodo hrg2 hg2 hz2 hen
   obtain ⟨s1, s2, hs, hs1, hs2⟩ := List.map_eq_append_iff.1 htodo
   obtain ⟨x, s3, hs', hx, hs3⟩ := List.map_eq_cons_iff.1 hs2
   subst hs'
   subst hs
   obtain ⟨pk, pA, pc, px⟩ := x
   have hkey : key = .string pk := by have := congrArg Prod.fst hx; exact this.symm
   have hval : v = .slice pA px.length pc := by have := congrArg Prod.snd hx; exact this.symm
   subst hkey
   subst hval
   have hne := range_ne_own HR.out HW.out
   have hW2 : OwnS w2 178 2 A cap ds.length (ds.flatMap lineCells) := HW.out.grown hg2 (fun k e e2 => hne.1 (e2 ▸ e))
   have hB2 : Below w.heap.size w w2 := HB.out.grown hg2 (by have := HB.out.size; omega) (fun k e => by injection e with e; omega)
   have HW2 := Lib.hid hW2
   have HB2 := Lib.hid hB2
   have hR2 : RangeAt IsStrK w2 b w.heap.size (ps.map lpv) ((s1 ++ s3).map lpv) := by rw [List.map_append, hs1, hs3]; exact hrg2
   have HR2 := Lib.hid hR2
   have hne2 := range_ne_own hR2 hW2
   have hlen1 : ds.length + (s1.length + (s3.length + 1)) = ps.length := by simpa using hlen
   have HNE := Lib.hid hne2
   have hP2 : ((ds ++ [((pk, ⟨pA, pc, px⟩) : LineR)]) ++ (s1 ++ s3)).Perm ps := by
    refine List.Perm.trans ?_ HP.out
    rw [List.append_assoc]
    refine List.Perm.append_left ds ?_
    simpa using (List.perm_middle (l₁ := s1) (a := ((pk, ⟨pA, pc, px⟩) : LineR)) (l₂ := s3)).symm
   have HP2 := Lib.hid hP2
   clear htodo hrg2 hg2 hz2 hs1 hs2 hs3 hx hne hW2 hB2 hR2 hne2 hlen hP2 HP HR HW HB
   go_wp2_with (at_builtin; refine wpList_push_S (w0 := w2) rfl (.tmp 13) (.tmp 17) 130 rfl 178 _ 2 40 Tryz.underlying130 info_line rfl (by decide) A cap ds.length _ rfl HW2.out (lineCells (pk, ⟨pA, pc, px⟩)) rfl rfl (by simp [lineCells, Value.oneCell']) (by unfold maxLen; omega) (by omega) ?_)
   intro A' cap' w3 hown hg hat
   have hR3 := HR2.out.keep (hg.block b HR2.out.map.lt (fun e => HNE.out.2 e.symm)) (hg.block _ HR2.out.lt (fun e => HNE.out.1 e.symm))
   have hB3 := HB2.out.grown hg (by have := HB2.out.size; omega) HA.out
   have hA3 : ∀ k, blk A' = some k → w.heap.size ≤ k := fun k e => by
    rcases hat with h1 | ⟨j, h1, h2⟩
    ·exact HA.out k (h1 ▸ e)
    ·rw [h1] at e; injection e with e; subst e; exact Nat.le_trans HB2.out.size h2
   have HR3 := Lib.hid hR3
   have HB3 := Lib.hid hB3
   have HA3 := Lib.hid hA3
   have HW3 : Hid (OwnS w3 178 2 A' cap' (ds ++ [((pk, ⟨pA, pc, px⟩) : LineR)]).length ((ds ++ [((pk, ⟨pA, pc, px⟩) : LineR)]).flatMap lineCells)) := by
    show OwnS _ _ _ _ _ _ _
    simpa [List.flatMap_append] using hown
   clear hown hg hat hR3 hB3 hA3 HW2 HB2 HR2 HA hen
   go_wp2_with fail
   go_roundg ((s1 ++ s3).length)
   case measure => have := HGK.out; simp at this ⊢; omega
   case rel => exact ⟨ds ++ [((pk, ⟨pA, pc, px⟩) : LineR)], s1 ++ s3, A', cap', rfl, by simp; omega, HP2, by simp, HR3, HW3, HA3, HB3⟩
end Go.Proofs.YtfndhfekbbbliaaGreatDoor

/-
  Package den: the contract of Check. Conditions: where the job and the data lie; the two variables of Atoi's errors hold errors.
-/
namespace Go.Proofs.YtfndhfekbbbliaaGreatDoor
open Go.RowKit Go.Shelf
set_option linter.unusedVariables false
theorem sources_ok (F : Nat → Prop) (A : Option Addr) (c : Nat) (l : List Nod) (w : World) (hl : SlA nodE F w A c l) (hF : ∀ k, F k → k < w.heap.size) (hv : ErrVars w) :
  Calls Tryz.prog 25 #[.slice A l.length c] w (OfPost l 1 w) := by
 have HO := Lib.hid (of_ok F A c l 1 w hl hF hv)
 clear hl hv
 go_enter Tryz.func25, Tryz.ntmps25
 go_wp2_with fail
 refine HO.out.mono ?_
 rintro e w2 ⟨h1, h2, h3⟩
 have H3 := Lib.hid h3
 by_cases h0 : jobErr l = 0
 ·obtain ⟨A', c', rfl, hs⟩ := h1 h0
  have HS := Lib.hid hs
  have H0 := Lib.hid h0
  clear h1 h2 h3 hs h0 HO
  go_wp2_with fail
  go_ret2
  exact ⟨fun _ => ⟨A', c', rfl, HS.out⟩, fun h => absurd H0.out h, H3.out⟩
 ·have e0 := h2 h0
  subst e0
  obtain ⟨je, hje⟩ : ∃ je, je = jobErr l := ⟨_, rfl⟩
  have HJE := Lib.hid hje
  have H0 := Lib.hid h0
  rw [← hje]
  clear h1 h2 h3 h0 HO hje
  unfold errV
  go_wp2_with fail
  go_ret2
  exact ⟨fun h => absurd h H0.out, fun _ => by rw [← HJE.out]; rfl, H3.out⟩
theorem sinks_ok (F : Nat → Prop) (A : Option Addr) (c : Nat) (l : List Nod) (w : World) (hl : SlA nodE F w A c l) (hF : ∀ k, F k → k < w.heap.size) (hv : ErrVars w) :
  Calls Tryz.prog 26 #[.slice A l.length c] w (OfPost l 10 w) := by
 have HO := Lib.hid (of_ok F A c l 10 w hl hF hv)
 clear hl hv
 go_enter Tryz.func26, Tryz.ntmps26
 go_wp2_with fail
 refine HO.out.mono ?_
 rintro e w2 ⟨h1, h2, h3⟩
 have H3 := Lib.hid h3
 by_cases h0 : jobErr l = 0
 ·obtain ⟨A', c', rfl, hs⟩ := h1 h0
  have HS := Lib.hid hs
  have H0 := Lib.hid h0
  clear h1 h2 h3 hs h0 HO
  go_wp2_with fail
  go_ret2
  exact ⟨fun _ => ⟨A', c', rfl, HS.out⟩, fun h => absurd H0.out h, H3.out⟩
 ·have e0 := h2 h0
  subst e0
  obtain ⟨je, hje⟩ : ∃ je, je = jobErr l := ⟨_, rfl⟩
  have HJE := Lib.hid hje
  have H0 := Lib.hid h0
  rw [← hje]
  clear h1 h2 h3 h0 HO hje
  unfold errV
  go_wp2_with fail
  go_ret2
  exact ⟨fun h => absurd h H0.out, fun _ => by rw [← HJE.out]; rfl, H3.out⟩
theorem data_drop (data : List (List Rec)) {j : Nat} (hj : j < data.length) : dataErr (data.drop j) = if 300 < data[j].length then 4 else if data[j].any recErr = true then 1 else dataErr (data.drop (j + 1)) := by
 rw [List.drop_eq_getElem_cons hj]; rfl
theorem any_take (d : List Rec) {j : Nat} (hj : j < d.length) : (d.take (j + 1)).any recErr = ((d.take j).any recErr || recErr d[j]) := by
 rw [List.take_succ_eq_append_getElem hj, List.any_append]
 simp
theorem any_of (d : List Rec) {j : Nat} (hj : j < d.length) (h : recErr d[j] = true) : d.any recErr = true := List.any_eq_true.2 ⟨_, List.getElem_mem hj, h⟩
set_option maxRecDepth 100000 in
set_option maxHeartbeats 2000000 in
theorem dcheck_ok (F : Nat → Prop) (A : Option Addr) (c : Nat) (l : List Nod) (G : Nat → Prop) (Ad : Option Addr) (cd : Nat) (data : List (List Rec)) (w : World) (hl : SlA nodE F w A c l) (hF : ∀ k, F k → k < w.heap.size) (hd : SlA (slE recE) G w Ad cd data) (hG : ∀ k, G k → k < w.heap.size) (hv : ErrVars w) :
  Calls Tryz.prog 75 #[.slice A l.length c, .slice Ad data.length cd] w fun e w' => e = .returned (errJ (denErr l data)) ∧ Below w.heap.size w w' := by
 have HO := Lib.hid (sources_ok F A c l w hl hF hv)
 have HD := Lib.hid hd
 have HG := Lib.hid hG
 have hle := hd.le
 clear hl hd hv hG
 go_enter Tryz.func75, Tryz.ntmps75
 go_wp2_with fail
 refine HO.out.mono ?_
 rintro e w2 ⟨h1, h2, h3⟩
 have H3 := Lib.hid h3
 by_cases h0 : jobErr l = 0
 ·obtain ⟨A', c', rfl, hs⟩ := h1 h0
  have hl2 := hs.le
  have HE : Hid (denErr l data = if data.length ≠ (ofKind l 1).length then 3 else dataErr data) := by show _ = _; unfold denErr; rw [if_neg (by simpa using h0)]
  obtain ⟨sn, hsn⟩ : ∃ sn, sn = (ofKind l 1).length := ⟨_, rfl⟩
  rw [← hsn] at hl2 HE ⊢
  have HD2 := Lib.hid (HD.out.keep (fun k hk => H3.out.block k (HG.out k hk)))
  have hz := h3.size
  clear h1 h2 h3 hs h0 HO hsn
  by_cases hn : data.length = sn
  ·subst hn
   rw [if_neg (by simp)] at HE
   have dn : (data.length != data.length) = false := by simp
   go_wp2_with fail
   go_loopw [27] (fun jv wr => ∃ j : Nat, j ≤ data.length ∧ jv = .int .i64 j ∧ Hid (dataErr data = dataErr (data.drop j)) ∧ Hid (Below w2.heap.size w2 wr)) (fun jv _ => data.length - (intOf jv).toNat)
   case atStart => exact ⟨0, Nat.zero_le _, rfl, rfl, Below.refl _ _⟩
   case round =>
    obtain ⟨j, hj, rfl, HJ, HB⟩ := hrel
    by_cases hlt : j < data.length
    ·obtain ⟨b, off, A2, c2, rfl, hGb, x0, hr⟩ := (HD2.out.keep (w' := wr) (fun k hk => HB.out.block k (Nat.lt_of_lt_of_le (HG.out k hk) hz))).sl_ hlt
     have HDR := Lib.hid (data_drop data hlt)
     generalize data[j] = d at x0 hr HDR
     have hdl := hr.le
     have hcap := hr.1
     have HR := Lib.hid hr
     clear hr
     by_cases h300 : 300 < d.length
     ·have d3 : decide (300 < d.length) = true := decide_eq_true h300
      have HX : Hid (denErr l data = 4) := by show _ = _; rw [HE.out, HJ.out, HDR.out, if_pos h300]
      have HB9 := Lib.hid (H3.out.trans (HB.out.mono hz))
      clear HDR HJ HE
      go_wp2_with fail
      go_ret
      exact ⟨by rw [HX.out]; rfl, HB9.out⟩
     ·have d3 : decide (300 < d.length) = false := decide_eq_false h300
      rw [if_neg h300] at HDR
      go_wp2_with fail
      go_loopw [37] (fun kv wx => ∃ k : Nat, k ≤ d.length ∧ kv = .int .i64 k ∧ Hid ((d.take k).any recErr = false) ∧ Hid (Below w2.heap.size w2 wx)) (fun kv _ => d.length - (intOf kv).toNat)
      case atStart => exact ⟨0, Nat.zero_le _, rfl, rfl, HB⟩
      case round =>
       obtain ⟨k, hk, rfl, HK, HBx⟩ := hrel
       by_cases hlk : k < d.length
       ·obtain ⟨b3, off3, rfl, hG3, y0, y1, y2, _⟩ := (HR.out.keep (fun q hq => (HBx.out.block q (Nat.lt_of_lt_of_le (HG.out q hq) hz)).trans (HB.out.block q (Nat.lt_of_lt_of_le (HG.out q hq) hz)).symm)).rec_ hlk
        have HAT := Lib.hid (any_take d hlk)
        have HAO := Lib.hid (any_of d hlk)
        have hb3 : b3 < wr.heap.size := cell_lt y0
        have HB9 : ∀ o : Obj, Hid (Below w.heap.size w (wr.alloc o)) := fun o => H3.out.trans ((HBx.out.mono hz).trans ((Below.refl _ _).alloc (by have := HBx.out.size; omega) _))
        have HB8 : ∀ o : Obj, Hid (Below w2.heap.size w2 (wr.alloc o)) := fun o => HBx.out.alloc HBx.out.size _
        generalize d[k] = r at y0 y1 y2 HAT HAO
        obtain ⟨key, num, time⟩ := r
        simp only at y0 y1 y2
        obtain ⟨q, hq⟩ : ∃ q, q = recErr ⟨key, num, time⟩ := ⟨_, rfl⟩
        rw [← hq] at HAT HAO
        have hq2 : q = (decide (40 < key.size) || decide (time < 0) || decide (1000000 < time)) := hq
        cases q with
        | true =>
         have HX : Hid (denErr l data = 1) := by show _ = _; rw [HE.out, HJ.out, HDR.out, if_pos (HAO.out rfl)]
         clear HAT HAO HJ HE HDR hq HB
         cases p1 : decide (40 < key.size) with
         | true =>
          have p1' : decide ((40 : Int) < (key.size : Int)) = true := decide_eq_true (by have := of_decide_eq_true p1; omega)
          clear hq2
          go_wp2_with fail
          go_ret
          exact ⟨by rw [HX.out]; rfl, (HB9 _).out⟩
         | false =>
          have p1' : decide ((40 : Int) < (key.size : Int)) = false := decide_eq_false (by have := of_decide_eq_false p1; omega)
          cases p2 : decide (time < 0) with
          | true =>
           clear hq2
           go_wp2_with fail
           go_ret
           exact ⟨by rw [HX.out]; rfl, (HB9 _).out⟩
          | false =>
           rw [p1, p2] at hq2
           have p3 : decide (1000000 < time) = true := hq2.symm
           clear hq2
           go_wp2_with fail
           go_ret
           exact ⟨by rw [HX.out]; rfl, (HB9 _).out⟩
        | false =>
         have hq3 := hq2.symm
         rw [Bool.or_eq_false_iff, Bool.or_eq_false_iff] at hq3
         obtain ⟨⟨p1, p2⟩, p3⟩ := hq3
         have p1' : decide ((40 : Int) < (key.size : Int)) = false := decide_eq_false (by have := of_decide_eq_false p1; omega)
         have HK2 : Hid ((d.take (k + 1)).any recErr = false) := by show _ = _; rw [HAT.out, HK.out]; rfl
         clear hq hq2 HAT HAO
         go_wp2_with fail
         go_roundw
         case rel => exact ⟨k + 1, by omega, by go_num, HK2, HB8 _⟩
         case measure => simp [intOf]; omega
       ·have dk : decide (k < d.length) = false := decide_eq_false hlk
        have HJ2 : Hid (dataErr data = dataErr (data.drop (j + 1))) := by
         show _ = _
         have h := HK.out
         rw [List.take_of_length_le (by omega)] at h
         rw [HJ.out, HDR.out, if_neg (by rw [h]; simp)]
        clear HJ HDR HK hk hlk
        go_wp2_with fail
        refine ⟨⟨j + 1, by omega, by go_num, HJ2, HBx⟩, ?_⟩
        simp [intOf]; omega
    ·have dj : decide (j < data.length) = false := decide_eq_false hlt
     have HX : Hid (denErr l data = 0) := by show _ = _; rw [HE.out, HJ.out, show j = data.length from by omega, List.drop_length]; rfl
     have HB9 := Lib.hid (H3.out.trans (HB.out.mono hz))
     clear HJ HE hj hlt
     go_wp2_with fail
     go_ret
     exact ⟨by rw [HX.out]; rfl, HB9.out⟩
  ·have dn : (data.length != sn) = true := by simp [hn]
   have dn2 : decide (data.length = sn) = false := decide_eq_false hn
   have HX : Hid (denErr l data = 3) := by show _ = _; rw [HE.out, if_pos hn]
   clear HE
   go_wp2_with fail
   go_ret
   exact ⟨by rw [HX.out]; rfl, H3.out⟩
 ·have e0 := h2 h0
  subst e0
  have HX : Hid (denErr l data = jobErr l) := by show _ = _; unfold denErr; rw [if_pos h0]
  obtain ⟨je, hje⟩ : ∃ je, je = jobErr l := ⟨_, rfl⟩
  have HJE := Lib.hid hje
  have H0 := Lib.hid h0
  rw [← hje]
  clear h1 h2 h3 h0 HO hje
  unfold errV
  go_wp2_with fail
  go_ret
  exact ⟨by rw [HX.out]; unfold errJ; rw [if_neg H0.out, ← HJE.out]; rfl, H3.out⟩
end Go.Proofs.YtfndhfekbbbliaaGreatDoor
