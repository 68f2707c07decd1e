/-
  Several texts of this claim in one, in build order; each begins with its own remark, which says what it proves and under which conditions.
-/
import Derived.Test.YtfndhfekbbbliaaGreatDoorPackH
import Derived.Test.YtfndhfekbbbliaaGreatDoorPackE
import Derived.Deep.CutRange
import Derived.Test.YtfndhfekbbbliaaGreatDoorPackD
import Derived.Lib.ItoaLen
import Derived.ProofKit
import Derived.Test.YtfndhfekbbbliaaGreatDoorPackC
import Derived.Test.YtfndhfekbbbliaaGreatDoorPackF
import Derived.Test.YtfndhfekbbbliaaGreatDoorPackA

/-
  Package den: the contract of All. Conditions: where the job and the data lie; the two variables of Atoi's errors hold errors, the table of powers of ten stands.
-/
namespace Go.Proofs.YtfndhfekbbbliaaGreatDoor
open Go.RowKit Go.ChangeShapes Go.WideShapes Go.Shelf
set_option linter.unusedVariables false
def AllPost (J : List Nod) (data : List (List Rec)) (w : World) (e : Ending) (w' : World) : Prop :=
 (denErr J data ≠ 0 → e = .returned (.tuple #[.slice none 0 0, errV (denErr J data)])) ∧
 (denErr J data = 0 → flowAll J data = none → e = .returned (.tuple #[.slice none 0 0, errV 4])) ∧
 (denErr J data = 0 → ∀ f, flowAll J data = some f → ∃ A' c' out, e = .returned (.tuple #[.slice A' (List.length out) c', .nilIface]) ∧ AllOf J f out ∧ SlA (slE linE) (fun k => w.heap.size ≤ k ∧ k < w'.heap.size) w' A' c' out) ∧ Below w.heap.size w w'
theorem data_ok : ∀ {data : List (List Rec)}, dataErr data = 0 → ∀ d ∈ data, d.length ≤ 300 ∧ ∀ r ∈ d, recErr r = false
 | [], _, d, hd => by cases hd
 | x :: l, h, d, hd => by
  unfold dataErr at h
  split at h
  ·cases h
  ·split at h
   ·cases h
   ·rename_i h1 h2
    rcases List.mem_cons.1 hd with rfl | hd
    ·refine ⟨by omega, fun r hr => ?_⟩
     cases e : recErr r with
     | false => rfl
     | true => exact absurd (List.any_eq_true.2 ⟨r, hr, e⟩) h2
    ·exact data_ok h d hd
theorem den_parts {J : List Nod} {data : List (List Rec)} (h : denErr J data = 0) : jobErr J = 0 ∧ data.length = (ofKind J 1).length ∧ dataErr data = 0 := by
 unfold denErr at h
 split at h
 ·rename_i h1; exact absurd h h1
 ·split at h
  ·cases h
  ·rename_i h1 h2
   exact ⟨by simpa using h1, by simpa using h2, h⟩
theorem recErr_no {r : Rec} (h : recErr r = false) : r.key.size ≤ 40 := by
 unfold recErr at h
 rw [Bool.or_eq_false_iff, Bool.or_eq_false_iff] at h
 have := of_decide_eq_false h.1.1
 omega
def feedsF (J : List Nod) (ps : List (Int × List Rec)) (f : Flw) : Option Flw := ps.foldlM (fun f p => feedF J p.1 p.2 f) f
def handsD (J : List Nod) (s : Nat) (d : List Rec) (f : Flw) : Option Flw := d.foldlM (fun f r => handF J (usesAll J) J.length s r f) f
theorem foldM_next {α : Type} (g : α → Flw → Option Flw) (l : List α) (f : Flw) {k : Nat} (hk : k < l.length) : (l.take (k + 1)).foldlM (fun f a => g a f) f = ((l.take k).foldlM (fun f a => g a f) f).bind (g l[k]) := by
 rw [List.take_succ_eq_append_getElem hk, List.foldlM_append]
 show _ >>= _ = _ >>= _
 congr 1
 funext x
 rw [List.foldlM_cons]
 cases g l[k] x <;> rfl
theorem foldM_stop {α : Type} (g : α → Flw → Option Flw) (l : List α) (f : Flw) {k : Nat} (h : (l.take k).foldlM (fun f a => g a f) f = none) : l.foldlM (fun f a => g a f) f = none := by
 have e : l = l.take k ++ l.drop k := (List.take_append_drop k l).symm
 rw [e, List.foldlM_append, h]; rfl
theorem handsD_room {J : List Nod} (hJ : jobErr J = 0) {s : Nat} {d : List Rec} {f f' : Flw} (h : Room J.length 0 f) (e : handsD J s d f = some f') : Room J.length 0 f' :=
 foldM_room (g := fun r f => handF J (usesAll J) J.length s r f) (fun r f f' h e => hand_room hJ J.length 0 s r f f' h e) d f f' h e
theorem feedsF_room {J : List Nod} (hJ : jobErr J = 0) {ps : List (Int × List Rec)} {f f' : Flw} (h : Room J.length 0 f) (e : feedsF J ps f = some f') : Room J.length 0 f' :=
 foldM_room (g := fun (p : Int × List Rec) f => feedF J p.1 p.2 f) (fun p f f' h e => handsD_room hJ h e) ps f f' h e
theorem room_zero (n : Nat) : Room n 0 (flow0 n) := by
 refine ⟨⟨by simp [flow0], fun c hc => ?_⟩, ?_, fun m hm => ?_, fun c hc => ?_⟩
 ·have := List.eq_of_mem_replicate (show c ∈ List.replicate _ _ from hc); omega
 ·have h : ∀ n, (List.replicate n (0 : Int)).sum = 0 := fun n => by
   induction n with
   | zero => rfl
   | succ n ih => rw [List.replicate_succ, List.sum_cons, ih]; rfl
  show _ ≤ 48 * (List.replicate n (0 : Int)).sum
  rw [h]; simp
 ·have h : ∀ n, (List.replicate n (0 : Int)).sum = 0 := fun n => by
   induction n with
   | zero => rfl
   | succ n ih => rw [List.replicate_succ, List.sum_cons, ih]; rfl
  rw [List.eq_of_mem_replicate (show m ∈ List.replicate _ _ from hm)]
  refine ⟨?_, nofun⟩
  show _ ≤ 48 * (List.replicate n (0 : Int)).sum
  rw [h]; simp
 ·have := List.eq_of_mem_replicate (show c ∈ List.replicate _ _ from hc); omega
theorem info_state : (Tryz.prog.info? 139).map (fun i => (i.zero, i.size, i.bytes)) = some (some (.map none), 1, 8) := by kernel_rfl
theorem info_lmap : (Tryz.prog.info? 140).map (fun i => (i.zero, i.size, i.bytes)) = some (some (.map none), 1, 8) := by kernel_rfl
theorem info_lines : (Tryz.prog.info? 130).map (fun i => (i.zero, i.size, i.bytes)) = some (some (.slice none 0 0), 1, 24) := by kernel_rfl
abbrev OutL := Option Addr × Nat × List LineR
def outCell (o : OutL) : List Value := [.slice o.1 o.2.2.length o.2.1]
def linOf (p : LineR) : Lin := ⟨p.1, p.2.xs⟩
theorem linC_lin {F : Nat → Prop} {w : World} {A : Option Addr} {c : Nat} {q : List LineR} (h : SlA linC F w A c q) (hq : ∀ p ∈ q, p.1.size ≤ maxLen ∧ p.2.At w ∧ (∀ k, blk p.2.A = some k → F k) ∧ ∀ x ∈ p.2.xs, I64 x) : SlA linE F w A c (q.map linOf) := by
 obtain ⟨h1, h2, h3⟩ := h
 refine ⟨by simpa using h1, h2, fun i x hx => ?_⟩
 rw [List.getElem?_map] at hx
 cases hp : q[i]? with
 | none => rw [hp] at hx; cases hx
 | some p =>
  rw [hp] at hx
  injection hx with hx
  subst hx
  obtain ⟨b, off, cs, e, hb, hc, hr⟩ := h3 i p hp
  obtain ⟨q1, q2, q3, q4⟩ := hq p (List.mem_of_getElem? hp)
  refine ⟨b, off, cs, e, hb, hc, .slice p.2.A p.2.xs.length p.2.cap, hr, q1, p.2.A, p.2.cap, rfl, ?_⟩
  exact OwnS.sl (E := intE .i64) intC (fun _ => rfl) q2 rfl q3 (fun x hx => ⟨rfl, q4 x hx⟩)
structure OutsAt (J : List Nod) (L : List (List LineR)) (B : Nat) (Ao : Option Addr) (w : World) (outs : List OutL) : Prop where
 at_ : ∀ (i : Nat) (o : OutL) (s : Int), outs[i]? = some o → (ofKind J 10)[i]? = some s → ∃ m, L[s.toNat]? = some m ∧ o.2.2.Perm m ∧ o.2.2.Pairwise (fun a b => kLess a.1 b.1) ∧ SlA linC (fun q => B ≤ q ∧ q < w.heap.size ∧ blk Ao ≠ some q) w o.1 o.2.1 o.2.2
theorem OutsAt.add {J : List Nod} {L : List (List LineR)} {B : Nat} {Ao : Option Addr} {w w7 w8 : World} {outs : List OutL} (h : OutsAt J L B Ao w outs) (hB : B ≤ w.heap.size) (hlt : ∀ q, blk Ao = some q → q < w.heap.size) (hb : Below w.heap.size w w7) {A8 : Option Addr} (hg : w7.grownBy w8 (blk Ao)) (hat : blk A8 = blk Ao ∨ ∃ k, blk A8 = some k ∧ w7.heap.size ≤ k)
  {o : OutL} {s : Int} {m : List LineR} (hs : (ofKind J 10)[outs.length]? = some s) (hm : L[s.toNat]? = some m) (h1 : o.2.2.Perm m) (h2 : o.2.2.Pairwise fun a b => kLess a.1 b.1) (h3 : SlA linC (fun k => w.heap.size ≤ k ∧ k < w7.heap.size) w7 o.1 o.2.1 o.2.2) : OutsAt J L B A8 w8 (outs ++ [o]) := by
 have hz := hb.size
 have hz8 := hg.size
 have hne8 : ∀ q, q < w7.heap.size → blk Ao ≠ some q → blk A8 ≠ some q := fun q hq hne e => by
  rcases hat with e2 | ⟨k, e2, hk⟩
  ·exact hne (e2 ▸ e)
  ·rw [e2] at e; injection e with e; omega
 refine ⟨fun i o' s' ho hs' => ?_⟩
 rcases Nat.lt_or_ge i outs.length with hi | hi
 ·rw [List.getElem?_append_left hi] at ho
  obtain ⟨m', k1, k2, k3, k4⟩ := h.at_ i o' s' ho hs'
  refine ⟨m', k1, k2, k3, (k4.keep fun q hq => ?_).more fun q hq => ⟨hq.1, by have := hq.2.1; omega, hne8 q (by have := hq.2.1; omega) hq.2.2⟩⟩
  exact (hg.block q (by have := hq.2.1; omega) (fun e => hq.2.2 e.symm)).trans (hb.block q hq.2.1)
 ·have hil : i < (outs ++ [o]).length := (List.getElem?_eq_some_iff.1 ho).1
  have hie : i = outs.length := by rw [List.length_append, List.length_singleton] at hil; omega
  subst hie
  rw [List.getElem?_append_right (Nat.le_refl _), Nat.sub_self] at ho
  injection ho with ho
  subst ho
  rw [hs] at hs'; injection hs' with hs'; subst hs'
  have hnn : ∀ q, w.heap.size ≤ q → blk Ao ≠ some q := fun q hq e => by have := hlt q e; omega
  exact ⟨m, hm, h1, h2, (h3.keep fun q hq => hg.block q hq.2 (fun e => hnn q hq.1 e.symm)).more fun q hq => ⟨by have := hq.1; omega, by have := hq.2; omega, hne8 q hq.2 (hnn q hq.1)⟩⟩
theorem outs_sl {J : List Nod} {C : FlowC} {L : List (List LineR)} {f : Flw} {B : Nat} {Ao : Option Addr} {co : Nat} {w w' : World} {outs : List OutL} (hF : FlowAt C L w' f) (hCB : w.heap.size ≤ C.B) (hB : C.B ≤ B) (h : OutsAt J L B Ao w' outs) (ho : OwnS w' 130 1 Ao co outs.length (outs.flatMap outCell)) (hA : ∀ q, blk Ao = some q → B ≤ q) (hn : outs.length = (ofKind J 10).length) :
  AllOf J f (outs.map fun o => o.2.2.map linOf) ∧ SlA (slE linE) (fun k => w.heap.size ≤ k ∧ k < w'.heap.size) w' Ao co (outs.map fun o => o.2.2.map linOf) := by
 have hall : ∀ (i : Nat) (o : OutL), outs[i]? = some o → ∃ (s : Int) (m : List LineR), (ofKind J 10)[i]? = some s ∧ L[s.toNat]? = some m ∧ o.2.2.Perm m ∧ o.2.2.Pairwise (fun a b => kLess a.1 b.1) ∧ SlA linC (fun q => B ≤ q ∧ q < w'.heap.size ∧ blk Ao ≠ some q) w' o.1 o.2.1 o.2.2 := fun i o ho => by
  have hi := get?_lt ho
  obtain ⟨m, k⟩ := h.at_ i o _ ho (List.getElem?_eq_getElem (by omega))
  exact ⟨_, m, List.getElem?_eq_getElem (by omega), k⟩
 refine ⟨⟨by rw [List.length_map]; exact hn, fun i s out hs hout => ?_⟩, ?_⟩
 ·rw [List.getElem?_map] at hout
  cases ho' : outs[i]? with
  | none => rw [ho'] at hout; cases hout
  | some o =>
   rw [ho'] at hout
   injection hout with hout
   subst hout
   obtain ⟨s', m, k1, k2, k3, k4, _⟩ := hall i o ho'
   rw [hs] at k1; injection k1 with k1; subst k1
   rw [hF.ln, List.getElem?_map, k2]
   refine ⟨?_, ?_⟩
   ·show (o.2.2.map linOf).Perm ((m.map lxs).map fun p => (⟨p.1, p.2⟩ : Lin))
    rw [List.map_map]
    exact k3.map linOf
   ·exact List.pairwise_map.2 k4
 ·obtain ⟨h1, h2, h3, h4⟩ := ho
  refine ⟨by rw [List.length_map]; exact h2, h3, fun i x hx => ?_⟩
  rw [List.getElem?_map] at hx
  cases ho' : outs[i]? with
  | none => rw [ho'] at hx; cases hx
  | some o =>
   rw [ho'] at hx
   injection hx with hx
   subst hx
   have hi := get?_lt ho'
   obtain ⟨s', m, _, k2, k3, _, k5⟩ := hall i o ho'
   rcases h4 with ⟨rfl, h0⟩ | ⟨g, off, cur, rfl, hh, hc, hr⟩
   ·omega
   ·have hgl := block_lt hh
    have hgB := hA g rfl
    refine ⟨g, off, outCell o, rfl, ⟨by omega, hgl⟩, fun j u hj => ?_, _, rfl, o.1, o.2.1, by rw [List.length_map], ?_⟩
    ·have hj0 : j = 0 := by
      have := (List.getElem?_eq_some_iff.1 hj).1
      simp [outCell] at this; exact this
     subst hj0
     rw [cell_of_row w' g _ cur _ (0, 0) hh]
     have h5 := hr i u (by
      have h6 := flat_get outCell 1 (fun _ => rfl) outs ho' (j := 0) (by decide)
      rw [Nat.mul_one, Nat.add_zero] at h6
      rw [h6]; exact hj)
     simpa [slE] using h5
    ·refine linC_lin (k5.more fun q hq => ⟨by have := hq.1; omega, hq.2.1⟩) fun p hp => ?_
     have hpm : p ∈ m := k3.mem_iff.1 hp
     obtain ⟨r1, r2⟩ := hF.rows _ m p k2 hpm
     have hsm := hF.lmap _ m k2
     refine ⟨hsm.key_le (List.mem_map.2 ⟨lp p, List.mem_map.2 ⟨p, hpm, rfl⟩, rfl⟩), r1, fun k hk => ⟨by have := (r2 k hk).1; omega, OwnS.lt r1 k hk⟩, fun x hx => ?_⟩
     exact hF.lnOk (m.map lxs) (by rw [hF.ln]; exact List.mem_map.2 ⟨m, List.mem_of_getElem? k2, rfl⟩) (lxs p) (List.mem_map.2 ⟨p, hpm, rfl⟩) x hx
set_option maxRecDepth 100000 in
set_option maxHeartbeats 4000000 in
theorem dall_ok (F : Nat → Prop) (A : Option Addr) (c : Nat) (J : List Nod) (G : Nat → Prop) (Ad : Option Addr) (cd : Nat) (data : List (List Rec)) (w : World) (hl : SlA nodE F w A c J) (hF : ∀ k, F k → k < w.heap.size) (hd : SlA (slE recE) G w Ad cd data) (hG : ∀ k, G k → k < w.heap.size) (hv : ErrVars w) (hT : PowTab w) :
  Calls Tryz.prog 33 #[.slice A J.length c, .slice Ad data.length cd] w (AllPost J data w) := by
 have HC := Lib.hid (dcheck_ok F A c J G Ad cd data w hl hF hd hG hv)
 by_cases h0 : denErr J data = 0
 ·obtain ⟨hJ, hlen, hdat⟩ := den_parts h0
  have HJ := Lib.hid hJ
  have HDAT := Lib.hid hdat
  have HLEN := Lib.hid hlen
  have H0 := Lib.hid h0
  rw [show errJ (denErr J data) = .nilIface from by rw [h0]; rfl] at HC
  have HL := Lib.hid hl
  have HD := Lib.hid hd
  have HF := Lib.hid hF
  have HG := Lib.hid hG
  have HV := Lib.hid hv
  have HT := Lib.hid hT
  have h12 := (job_parts hJ).1
  have hle := hl.le
  have hpos : 0 < J.length := by
   have := (job_parts hJ).2.2.1
   rcases Nat.eq_zero_or_pos J.length with h | h
   ·rw [List.eq_nil_of_length_eq_zero h] at this; cases this
   ·exact h
  have hdle := hd.le
  clear hl hd hv hT h0 hJ hdat hlen hF hG
  go_enter Tryz.func33, Tryz.ntmps33
  go_wp2_with fail
  refine HC.out.mono ?_
  rintro e w1 ⟨rfl, hb1⟩
  have HL1 := Lib.hid (HL.out.keep (fun k hk => hb1.block k (HF.out k hk)))
  have HB1 := Lib.hid hb1
  clear hb1 HC
  go_wp2_with fail
  refine (uses_ok F A c J w1 HL1.out (fun k hk => Nat.lt_of_lt_of_le (HF.out k hk) HB1.out.size) (HV.out.below HB1.out)).mono ?_
  rintro e w2 ⟨hu1, _, hb2⟩
  obtain ⟨Au, cu, rfl, hsu⟩ := hu1 HJ.out
  have HU := Lib.hid hsu
  have HB2 := Lib.hid (HB1.out.trans (hb2.mono HB1.out.size))
  clear hu1 hsu hb2 HL1
  go_wp2_with fail
  refine (sources_ok F A c J w2 (HL.out.keep (fun k hk => HB2.out.block k (HF.out k hk))) (fun k hk => Nat.lt_of_lt_of_le (HF.out k hk) HB2.out.size) (HV.out.below HB2.out)).mono ?_
  rintro e w3 ⟨hs1, _, hb3⟩
  obtain ⟨As, cs, rfl, hss⟩ := hs1 HJ.out
  have HS := Lib.hid hss
  have HU3 := Lib.hid (HU.out.keep (fun k hk => hb3.block k hk))
  have HB3 := Lib.hid (HB2.out.trans (hb3.mono HB2.out.size))
  have hz3 := hb3.size
  clear hs1 hss hb3 HU
  go_wp2_with fail
  refine (sinks_ok F A c J w3 (HL.out.keep (fun k hk => HB3.out.block k (HF.out k hk))) (fun k hk => Nat.lt_of_lt_of_le (HF.out k hk) HB3.out.size) (HV.out.below HB3.out)).mono ?_
  rintro e w4 ⟨hk1, _, hb4⟩
  obtain ⟨Ak, ck, rfl, hks⟩ := hk1 HJ.out
  have HK4 := Lib.hid (hks.more (F' := (· < w4.heap.size)) fun k hk => hk.2)
  have hz4 := hb4.size
  have HS4 := Lib.hid ((HS.out.keep (fun k hk => hb4.block k hk.2)).more (F' := (· < w4.heap.size)) fun k hk => by have := hk.2; omega)
  have HU4 := Lib.hid ((HU3.out.keep (fun k hk => hb4.block k (by omega))).more (F' := (· < w4.heap.size)) fun k hk => by omega)
  have HB4 := Lib.hid (HB3.out.trans (hb4.mono HB3.out.size))
  have hzw := HB4.out.size
  have HL4 := Lib.hid ((HL.out.keep (fun k hk => HB4.out.block k (HF.out k hk))).more (F' := (· < w4.heap.size)) fun k hk => by have := HF.out k hk; omega)
  have HD4 := Lib.hid ((HD.out.keep (fun k hk => HB4.out.block k (HG.out k hk))).more (F' := (· < w4.heap.size)) fun k hk => by have := HG.out k hk; omega)
  have HENV : Hid (Env w4.heap.size w4) := fun w' hw' => ⟨HV.out.below (HB4.out.trans (hw'.mono hzw)), HT.out.below (HB4.out.trans (hw'.mono hzw))⟩
  have hmk : ∀ u : World, (Instr.makeSlice 38 (.int .i64 (J.length : Int)) (.int .i64 (J.length : Int))).run Tryz.prog u = .ok (.slice (some ⟨u.heap.size, 0, none⟩) J.length J.length) (u.alloc (.cells (madeCells #[.int .i64 0] J.length) 3)) := fun u =>
   run_make_row' (P := Tryz.prog) 38 3 (.int .i64 0) 8 Tryz.underlying38 info_int rfl .i64 .i64 J.length (by omega) (by omega) u
  have hmm := @run_makeMap Tryz.prog
  clear hk1 hks hb4 HS HU3 HB3 HB2 HB1 HL HD HV HT HF HG
  go_wp2_with fail
  clear hmk
  go_loopw [52] (fun kv wr => ∃ (k : Nat) (sl ll : List Nat) (vs vl : Value), k ≤ J.length ∧ kv = .int .i64 k ∧ sl.length = k ∧ ll.length = k ∧ Hid (MkAt w4.heap.size w4 J.length (.slice A J.length c) (.slice Au J.length cu) wr sl ll vs vl)) (fun kv _ => J.length - (intOf kv).toNat)
  case atStart => exact ⟨0, [], [], _, _, Nat.zero_le _, rfl, rfl, rfl, MkAt.start⟩
  case round =>
   obtain ⟨k, sl, ll, vs, vl, hk, rfl, hsl, hll, HM⟩ := hrel
   have c2 : wr.cell? ⟨w4.heap.size + 1, 2, none⟩ = some vs := (cell_of_row wr _ 2 _ _ _ HM.out.obj).trans rfl
   have c4 : wr.cell? ⟨w4.heap.size + 1, 4, none⟩ = some vl := (cell_of_row wr _ 4 _ _ _ HM.out.obj).trans rfl
   have hgl := block_lt HM.out.obj
   by_cases hlt : k < J.length
   ·have HO : Hid ((wr.alloc (.map #[] 0)).ownsRow w4.heap.size 139 1 vs k (sl.map mv)) := by
     have h := ownsRow_keep (w' := wr.alloc (.map #[] 0)) HM.out.rs (fun q hq => Below.heap_alloc _ _ _ (HM.out.rs.lt q hq).2)
     rw [hsl] at h; exact h
    have HB0 := Lib.hid (HM.out.bel.alloc (by omega : w4.heap.size ≤ wr.heap.size) (.map #[] 0))
    go_wp2_with (at_builtin; refine wpList_push (w0 := wr.alloc (.map #[] 0)) rfl _ _ 134 rfl w4.heap.size 139 (.map none) 1 8 Tryz.underlying134 info_state rfl (by decide) vs k _ rfl HO.out [mv wr.heap.size] (by simp [Act.eval]) rfl ?_ ?_ ?_ HB0.out.size HB0.out (Nat.le_refl _) ?_)
    ·rintro u hu; simp at hu; subst hu; rfl
    ·unfold maxLen; omega
    ·omega
    ·intro v8 w8 hown8 hg8 hb8 hat8
     obtain ⟨ho8, hM8⟩ := HM.out.addS (by rw [hsl]; exact hown8) hg8 (hat8.imp_right fun ⟨g, e, h⟩ => ⟨g, e, Nat.lt_of_lt_of_le (by simp) h⟩)
     have hf8 : w8.frozen? ⟨w4.heap.size + 1, 2, none⟩ = false := by simp [World.frozen?, ho8]
     have d2 : w8.cell? ⟨w4.heap.size + 1, 2, none⟩ = some vs := (cell_of_row w8 _ 2 _ _ _ ho8).trans rfl
     have HM8 := Lib.hid hM8
     obtain ⟨g8, cap8, rfl, _, _⟩ := hown8.form (by omega)
     clear hown8 hg8 hb8 hat8 hM8 HO HB0 HM c2 c4
     obtain ⟨W9, HW9⟩ : ∃ W9, Hid (W9 = w8.setCell ⟨w4.heap.size + 1, 2, none⟩ (.slice (some ⟨g8, 0, none⟩) (k + 1) cap8)) := ⟨_, rfl⟩
     rw [← HW9.out] at HM8
     have c4 : W9.cell? ⟨w4.heap.size + 1, 4, none⟩ = some vl := (cell_of_row W9 _ 4 _ _ _ HM8.out.obj).trans rfl
     have hgl9 := block_lt HM8.out.obj
     have HO : Hid ((W9.alloc (.map #[] 0)).ownsRow w4.heap.size 140 1 vl k (ll.map mv)) := by
      have h := ownsRow_keep (w' := W9.alloc (.map #[] 0)) HM8.out.rl (fun q hq => Below.heap_alloc _ _ _ (HM8.out.rl.lt q hq).2)
      rw [hll] at h; exact h
     have HB0 := Lib.hid (HM8.out.bel.alloc (by omega : w4.heap.size ≤ W9.heap.size) (.map #[] 0))
     go_upto_region 11 with (fail)
     rw [← HW9.out]
     clear HW9 ho8 hf8 d2
     go_wp2_with (at_builtin; refine wpList_push (w0 := W9.alloc (.map #[] 0)) rfl _ _ 135 rfl w4.heap.size 140 (.map none) 1 8 Tryz.underlying135 info_lmap rfl (by decide) vl k _ rfl HO.out [mv W9.heap.size] (by simp [Act.eval]) rfl ?_ ?_ ?_ HB0.out.size HB0.out (Nat.le_refl _) ?_)
     ·rintro u hu; simp at hu; subst hu; rfl
     ·unfold maxLen; omega
     ·omega
     ·intro v10 w10 hown10 hg10 hb10 hat10
      obtain ⟨ho10, hM10⟩ := HM8.out.addL (by rw [hll]; exact hown10) hg10 (hat10.imp_right fun ⟨g, e, h⟩ => ⟨g, e, Nat.lt_of_lt_of_le (by simp) h⟩)
      have hf10 : w10.frozen? ⟨w4.heap.size + 1, 4, none⟩ = false := by simp [World.frozen?, ho10]
      have d4 : w10.cell? ⟨w4.heap.size + 1, 4, none⟩ = some vl := (cell_of_row w10 _ 4 _ _ _ ho10).trans rfl
      have HM10 := Lib.hid hM10
      obtain ⟨g10, cap10, rfl, _, _⟩ := hown10.form (by omega)
      clear hown10 hg10 hb10 hat10 hM10 HO HB0 HM8 c4
      go_wp2_with fail
      refine ⟨⟨k + 1, _, _, _, _, by omega, by go_num, ?_, ?_, HM10⟩, ?_⟩
      ·rw [List.length_append, hsl]; rfl
      ·rw [List.length_append, hll]; rfl
      ·simp [intOf]; omega
   ·have dk : decide (k < J.length) = false := decide_eq_false hlt
    clear hmm c2 c4
    obtain ⟨w5, h5⟩ : ∃ w5, w5 = wr := ⟨_, rfl⟩
    subst h5
    have hul : (usesAll J).length = J.length := by unfold usesAll; simp
    have hM : MkAt w4.heap.size w4 J.length (.slice A J.length c) (.slice Au (usesAll J).length cu) w5 sl ll vs vl := by rw [hul]; exact HM.out
    obtain ⟨bs, cs', bl, cl, hC, hF0⟩ := hM.flow rfl (by omega) (by omega) hpos HL4.out HU4.out
    have hh := dhand_ok _ hC HJ.out rfl J.length
    have HHAND : Hid (∀ (s : Nat) (r : Rec) (L : List (List (ByteArray × RowI))) (f : Flw) (W : World), s < J.length → FlowR r → FlowAt (mkC w4.heap.size J (usesAll J) A c Au cu bs cs' bl cl sl ll) L W f → Env w4.heap.size W → w4.heap.size ≤ W.heap.size → Room J.length 0 f →
      Calls Tryz.prog 76 #[.pointer (some ⟨w4.heap.size + 1, 0, none⟩), .int .i64 (s : Int), recV r] W fun e w' => Flows w4.heap.size W w' ∧ (∀ f', handF J (usesAll J) J.length s r f = some f' → e = .returned .nilIface ∧ ∃ L', FlowAt (mkC w4.heap.size J (usesAll J) A c Au cu bs cs' bl cl sl ll) L' w' f') ∧ (handF J (usesAll J) J.length s r f = none → e = .returned fullV)) :=
     fun s r L f W h1 h2 h3 h4 h5 h6 => hh s r L f W h1 (Nat.le_add_left _ _) h2 h3 h4 h5 h6
    have HCF : Hid ((mkC w4.heap.size J (usesAll J) A c Au cu bs cs' bl cl sl ll).B = w4.heap.size ∧ (mkC w4.heap.size J (usesAll J) A c Au cu bs cs' bl cl sl ll).g = w4.heap.size + 1 ∧ (mkC w4.heap.size J (usesAll J) A c Au cu bs cs' bl cl sl ll).J = J) := ⟨rfl, rfl, rfl⟩
    have HF0 := Lib.hid hF0
    have HC := Lib.hid hC
    have HB5 := Lib.hid HM.out.bel
    clear hh hM HM hul hF0 hC
    generalize mkC w4.heap.size J (usesAll J) A c Au cu bs cs' bl cl sl ll = C at HHAND HCF HF0 HC
    have hz5 := HB5.out.size
    clear hsl hll hk hlt
    go_wp2_with fail
    have hos := HS4.out.le
    go_loopw [77] (fun kv wx => ∃ (k : Nat) (L : List (List (ByteArray × RowI))) (fk : Flw), k ≤ (ofKind J 1).length ∧ kv = .int .i64 k ∧ Hid (feedsF J (((ofKind J 1).zip data).take k) (flow0 J.length) = some fk) ∧ Hid (FlowAt C L wx fk) ∧ Hid (Flows w4.heap.size w5 wx)) (fun kv _ => (ofKind J 1).length - (intOf kv).toNat)
    case atStart => exact ⟨0, _, _, Nat.zero_le _, rfl, rfl, HF0, Flows.refl _ _⟩
    case round =>
     clear HF0
     obtain ⟨k, L, fk, hk, rfl, HK, HFk, HFL⟩ := hrel
     have hbx := HB5.out.trans (HFL.out.below hz5)
     by_cases hlt : k < (ofKind J 1).length
     ·obtain ⟨b1, o1, rfl, _, d1, _⟩ := (HS4.out.keep (w' := wr) (fun q hq => hbx.block q hq)).int_ hlt
      obtain ⟨s, n, hsn, hn, _⟩ := kind_mem (List.getElem_mem hlt)
      rw [hsn] at d1
      have hsl := get?_lt hn
      have hdk : k < data.length := by rw [HLEN.out]; exact hlt
      have hcap1 := HS4.out.1
      obtain ⟨b2, o2, A6, c6, rfl, _, d2, hd6⟩ := (HD4.out.keep (w' := wr) (fun q hq => hbx.block q hq)).sl_ hdk
      have hcap2 := HD4.out.1
      have hdm : data[k] ∈ data := List.getElem_mem hdk
      have HZ : Hid (((ofKind J 1).zip data).length = (ofKind J 1).length) := by show _ = _; rw [List.length_zip, HLEN.out, Nat.min_self]
      have HNX : Hid (feedsF J (((ofKind J 1).zip data).take (k + 1)) (flow0 J.length) = feedF J (s : Int) data[k] fk) := by
       show _ = _
       have h := foldM_next (fun (p : Int × List Rec) f => feedF J p.1 p.2 f) ((ofKind J 1).zip data) (flow0 J.length) (k := k) (by rw [HZ.out]; exact hlt)
       have h2 : (((ofKind J 1).zip data).take k).foldlM (fun f (p : Int × List Rec) => feedF J p.1 p.2 f) (flow0 J.length) = some fk := HK.out
       rw [h2] at h
       refine h.trans ?_
       show feedF J (((ofKind J 1).zip data)[k]'_).1 (((ofKind J 1).zip data)[k]'_).2 fk = _
       rw [List.getElem_zip]
       simp only
       rw [hsn]
      obtain ⟨h300, hrec⟩ := data_ok HDAT.out _ hdm
      have HROOM := Lib.hid (feedsF_room HJ.out (room_zero J.length) HK.out)
      have HREC := Lib.hid hrec
      have HD6 := Lib.hid hd6
      clear hrec hd6 hdm hsn hn hbx
      generalize data[k] = d at d2 h300 HREC HD6 HNX
      have hcap6 := HD6.out.1
      have hle6 := HD6.out.le
      have HWR : Hid (SlA recE (· < w4.heap.size) w4 A6 c6 d) := HD6.out.keep (fun q hq => ((HB5.out.trans (HFL.out.below hz5)).block q hq).symm)
      clear HD6
      go_wp2_with fail
      go_loopw [87] (fun jv wx => ∃ (j : Nat) (L : List (List (ByteArray × RowI))) (fj : Flw), j ≤ d.length ∧ jv = .int .i64 j ∧ Hid (handsD J s (d.take j) fk = some fj) ∧ Hid (FlowAt C L wx fj) ∧ Hid (Flows w4.heap.size w5 wx)) (fun jv _ => d.length - (intOf jv).toNat)
      case atStart => exact ⟨0, L, fk, Nat.zero_le _, rfl, rfl, HFk, HFL⟩
      case round =>
       clear HFk HFL d1 d2
       obtain ⟨j, L', fj, hj, rfl, HS, HFj, HFLj⟩ := hrel
       have hbx := HB5.out.trans (HFLj.out.below hz5)
       by_cases hlj : j < d.length
       ·obtain ⟨b3, o3, rfl, _, y0, y1, y2, hy1, hy2, hy3⟩ := (HWR.out.keep (w' := wr) (fun q hq => hbx.block q hq)).rec_ hlj
        have HFR : Hid (FlowR d[j]) := ⟨recErr_no (HREC.out _ (List.getElem_mem hlj)), hy2, hy3⟩
        have HN2 : Hid (handsD J s (d.take (j + 1)) fk = handF J (usesAll J) J.length s d[j] fj) := by
         show _ = _
         have h := foldM_next (fun r f => handF J (usesAll J) J.length s r f) d fk hlj
         have h2 : (d.take j).foldlM (fun f r => handF J (usesAll J) J.length s r f) fk = some fj := HS.out
         rw [h2] at h
         exact h
        have HRM := Lib.hid (handsD_room HJ.out HROOM.out HS.out)
        clear hy1 hy2 hy3
        generalize d[j] = r2 at y0 y1 y2 HFR HN2
        obtain ⟨key2, num2, time2⟩ := r2
        simp only at y0 y1 y2
        have hzr := HFLj.out.size
        have HFLa : Hid (Flows w4.heap.size w5 (wr.alloc (.cells #[.string key2, .int .i64 num2, .int .i64 time2] 44))) := HFLj.out.trans (Flows.ofBelow ((Below.refl _ _).alloc (Nat.le_refl _) _))
        have HCALL := Lib.hid (HHAND.out s ⟨key2, num2, time2⟩ L' fj (wr.alloc (.cells #[.string key2, .int .i64 num2, .int .i64 time2] 44)) hsl HFR.out (HFj.out.below ((Below.refl _ _).alloc (Nat.le_refl _) _) (by rw [HCF.out.1]; omega)) (HENV.out.flows (HB5.out.trans (HFLa.out.below hz5))) (by simp; omega) HRM.out)
        clear hbx HFj HFLj
        go_wp2_with fail
        refine HCALL.out.mono ?_
        rintro e w7 ⟨hfl7, hsome, hnone⟩
        have HFL7 := Lib.hid (HFLa.out.trans hfl7)
        cases hres : handF J (usesAll J) J.length s ⟨key2, num2, time2⟩ fj with
        | none =>
         rw [hnone hres]
         have HNO : Hid (flowAll J data = none) := by
          show _ = _
          have h1 : handsD J s (d.take (j + 1)) fk = none := by rw [HN2.out, hres]
          have h2 : feedF J (s : Int) d fk = none := foldM_stop (fun r f => handF J (usesAll J) J.length s r f) d fk h1
          exact foldM_stop (fun (p : Int × List Rec) f => feedF J p.1 p.2 f) ((ofKind J 1).zip data) (flow0 J.length) (k := k + 1) (by have := HNX.out; rw [h2] at this; exact this)
         have HBX := Lib.hid (HB4.out.trans ((HB5.out.trans (HFL7.out.below hz5)).mono hzw))
         clear hres hsome hnone hfl7 HFL7 HFLa HCALL HS HN2 HNX HK HHAND HREC
         unfold fullV
         go_wp2_with fail
         go_ret2
         refine ⟨fun h => absurd H0.out h, fun _ _ => rfl, fun _ f hf => ?_, HBX.out⟩
         rw [HNO.out] at hf; cases hf
        | some f2 =>
         obtain ⟨he, L2, hF2⟩ := hsome f2 hres
         subst he
         have HS2 : Hid (handsD J s (d.take (j + 1)) fk = some f2) := by show _ = _; rw [HN2.out, hres]
         have HF2 := Lib.hid hF2
         clear hres hsome hnone hfl7 HFLa HCALL HS HN2 hF2 y0 y1 y2
         go_wp2_with fail
         go_roundw
         case rel => exact ⟨j + 1, L2, f2, by omega, by go_num, HS2, HF2, HFL7⟩
         case measure => simp [intOf]; omega
       ·have dj : decide (j < d.length) = false := decide_eq_false hlj
        have HK2 : Hid (feedsF J (((ofKind J 1).zip data).take (k + 1)) (flow0 J.length) = some fj) := by
         show _ = _
         rw [HNX.out]
         have h := HS.out
         rw [List.take_of_length_le (by omega)] at h
         exact h
        clear HS HNX hj hlj
        go_wp2_with fail
        refine ⟨⟨k + 1, L', fj, by omega, by go_num, HK2, HFj, HFLj⟩, ?_⟩
        simp [intOf]; omega
     ·have dk : decide (k < (ofKind J 1).length) = false := decide_eq_false hlt
      have HALL : Hid (flowAll J data = some fk) := by
       show _ = _
       have h := HK.out
       rw [List.take_of_length_le (by rw [List.length_zip]; omega)] at h
       exact h
      have HROOM := Lib.hid (feedsF_room HJ.out (room_zero J.length) HK.out)
      obtain ⟨w6, h6⟩ : ∃ w6, w6 = wr := ⟨_, rfl⟩
      subst h6
      have HB6 := Lib.hid hbx
      have hz6 := hbx.size
      clear HK hbx HFL hk hlt HHAND
      have hok := HK4.out.le
      have hok12 : (ofKind J 10).length ≤ 12 := Nat.le_trans (of_len J 10) h12
      go_wp2_with fail
      go_loopw [19, 102] (fun ov kv wx => ∃ (k : Nat) (Ao : Option Addr) (co : Nat) (outs : List OutL), k ≤ (ofKind J 10).length ∧ kv = .int .i64 k ∧ ov = .slice Ao k co ∧ outs.length = k ∧ Hid (OwnS wx 130 1 Ao co k (outs.flatMap outCell)) ∧ Hid (OutsAt J L w6.heap.size Ao wx outs) ∧ Hid (∀ q, blk Ao = some q → w6.heap.size ≤ q) ∧ Hid (Below w6.heap.size w6 wx)) (fun _ kv _ => (ofKind J 10).length - (intOf kv).toNat)
      case atStart => exact ⟨0, none, 0, [], Nat.zero_le _, rfl, rfl, rfl, OwnS.nil _ _ _, ⟨nofun⟩, nofun, Below.refl _ _⟩
      case round =>
       obtain ⟨k, Ao, co, outs, hk, rfl, rfl, hol, HO, HOUT, HA, HB⟩ := hrel
       have HFr := Lib.hid (HFk.out.below HB.out (by rw [HCF.out.1]; omega))
       have hzr := HB.out.size
       by_cases hlt : k < (ofKind J 10).length
       ·obtain ⟨b1, o1, rfl, _, d1, _⟩ := (HK4.out.keep (w' := wr) (fun q hq => (HB6.out.trans (HB.out.mono hz6)).block q hq)).int_ hlt
        obtain ⟨s, n, hsn, hn, _⟩ := kind_mem (List.getElem_mem hlt)
        rw [hsn] at d1
        have hsl := get?_lt hn
        have hcapk := HK4.out.1
        obtain ⟨_, _, _, _, p4, _, p6, _⟩ := HFr.out.parts (i := s) (by rw [HCF.out.2.2]; exact hsl)
        rw [HCF.out.2.1, HCF.out.2.2] at p4
        obtain ⟨m, hm⟩ : ∃ m, L[s]? = some m := ⟨_, List.getElem?_eq_getElem (by rw [HFr.out.Ln, HCF.out.2.2]; exact hsl)⟩
        have hml : m.length ≤ 2000000 := by
         have h := HROOM.out.keys h12 (m := m.map lxs) (by rw [HFr.out.ln]; exact List.mem_map.2 ⟨m, List.mem_of_getElem? hm, rfl⟩)
         rwa [List.length_map] at h
        have HLN := Lib.hid (lines_any (C.lb s) m wr (HFr.out.lmap s m hm) (by omega))
        have HM := Lib.hid hm
        have HSN : Hid ((ofKind J 10)[k]? = some (s : Int)) := by show _ = _; rw [List.getElem?_eq_getElem hlt, hsn]
        clear hm hsn hn
        go_wp2_with fail
        refine HLN.out.mono ?_
        rintro e w7 ⟨A', c', q, rfl, hq1, hq2, hq3, hb7⟩
        have HO7 := Lib.hid (HO.out.keep (fun j hj => hb7.block j (HO.out.lt j hj)))
        have HB7 := Lib.hid hb7
        have HQ := Lib.hid (And.intro hq1 (And.intro hq2 hq3))
        have hqs := hq3.le
        clear hq1 hq2 hq3 hb7 HLN d1 p4 p6
        go_wp2_with (at_builtin; refine wpList_push_S (w0 := w7) rfl _ _ 72 rfl 130 (.slice none 0 0) 1 24 Tryz.underlying72 info_lines rfl (by decide) Ao co k _ rfl HO7.out (outCell (A', c', q)) rfl rfl (by simp [outCell, Value.oneCell']) (by unfold maxLen; omega) (by omega) ?_)
        intro A8 c8 w8 hown8 hg8 hat8
        have HOUT8 : Hid (OutsAt J L w6.heap.size A8 w8 (outs ++ [(A', c', q)])) := HOUT.out.add hzr (fun j hj => HO.out.lt j hj) HB7.out hg8 hat8 (s := (s : Int)) (m := m) (by rw [hol]; exact HSN.out) (by rw [Int.toNat_natCast]; exact HM.out) HQ.out.1 HQ.out.2.1 HQ.out.2.2
        have HO8 : Hid (OwnS w8 130 1 A8 c8 (k + 1) ((outs ++ [((A', c', q) : OutL)]).flatMap outCell)) := by
         show OwnS _ _ _ _ _ _ _
         rw [List.flatMap_append]
         have : ([((A', c', q) : OutL)].flatMap outCell) = outCell (A', c', q) := by simp
         rw [this]; exact hown8
        have hz7 := HB7.out.size
        have HA8 : Hid (∀ j, blk A8 = some j → w6.heap.size ≤ j) := fun j hj => by
         rcases hat8 with e | ⟨j', e, h⟩
         ·exact HA.out j (e ▸ hj)
         ·rw [e] at hj; injection hj with hj; omega
        have HB8 : Hid (Below w6.heap.size w6 w8) := (HB.out.trans (HB7.out.mono hzr)).grown hg8 (by omega) HA.out
        clear hown8 hg8 hat8 HO7 HO HOUT HA HB HB7 HQ HM HFr
        go_wp2_with fail
        go_roundw
        case rel => exact ⟨k + 1, A8, c8, outs ++ [((A', c', q) : OutL)], by omega, by go_num, rfl, by rw [List.length_append, hol]; rfl, HO8, HOUT8, HA8, HB8⟩
        case measure => simp [intOf]; omega
       ·have dk : decide (k < (ofKind J 10).length) = false := decide_eq_false hlt
        have hke : k = (ofKind J 10).length := by omega
        have HRES := Lib.hid (outs_sl (w := w) HFr.out (by rw [HCF.out.1]; exact hzw) (by rw [HCF.out.1]; exact hz6) HOUT.out (by rw [hol]; exact HO.out) HA.out (by rw [hol]; exact hke))
        have HBX := Lib.hid (HB4.out.trans ((HB6.out.trans (HB.out.mono hz6)).mono hzw))
        have HOL := Lib.hid hol
        clear hke HO HOUT HA HB HFr hk hlt hol
        go_wp2_with fail
        go_ret2
        refine ⟨fun h => absurd H0.out h, fun _ h => ?_, fun _ f hf => ?_, HBX.out⟩
        ·rw [HALL.out] at h; cases h
        ·rw [HALL.out] at hf; injection hf with hf; subst hf
         exact ⟨Ao, co, _, by rw [List.length_map, HOL.out]; rfl, HRES.out.1, HRES.out.2⟩
 ·have H0 := Lib.hid h0
  rw [show errJ (denErr J data) = errV (denErr J data) from by unfold errJ; rw [if_neg h0]] at HC
  obtain ⟨je, hje⟩ : ∃ je, je = denErr J data := ⟨_, rfl⟩
  have HJE := Lib.hid hje
  rw [← hje] at HC
  clear hl hd hv hT h0 hje
  go_enter Tryz.func33, Tryz.ntmps33
  go_wp2_with fail
  refine HC.out.mono ?_
  rintro e w1 ⟨rfl, hb1⟩
  have HB1 := Lib.hid hb1
  clear hb1
  unfold errV
  go_wp2_with fail
  go_ret2
  exact ⟨fun _ => by rw [← HJE.out]; rfl, fun h => absurd h H0.out, fun h => absurd h H0.out, HB1.out⟩
end Go.Proofs.YtfndhfekbbbliaaGreatDoor

/-
  Package den, plain: what a node makes, key by key; lines as groups of records; a chain of one node between a Source and a Sink. No condition: plain definitions and lemmas.
-/
namespace Go.Proofs.YtfndhfekbbbliaaGreatDoor
open Go.RowKit
set_option linter.unusedVariables false
theorem pget_cons {α : Type} (p : ByteArray × α) (m : List (ByteArray × α)) (k : ByteArray) : pget (p :: m) k = if p.1 = k then some p.2 else pget m k := by
 unfold pget
 rw [List.find?_cons]
 by_cases e : p.1 = k
 ·rw [if_pos e, decide_eq_true e]; rfl
 ·rw [if_neg e, decide_eq_false e]
theorem pget_pset {α : Type} (m : List (ByteArray × α)) (k j : ByteArray) (v : α) : pget (pset m k v) j = if k = j then some v else pget m j := by
 induction m with
 | nil => simp only [pset]; rw [pget_cons]
 | cons p m ih =>
  simp only [pset]
  by_cases e : p.1 = k
  ·rw [if_pos e, pget_cons, pget_cons]
   by_cases e2 : k = j
   ·rw [if_pos e2, if_pos e2]
   ·rw [if_neg e2, if_neg e2, if_neg (fun h => e2 (e.symm.trans h))]
  ·rw [if_neg e, pget_cons, pget_cons, ih]
   by_cases e3 : p.1 = j
   ·rw [if_pos e3, if_pos e3, if_neg (fun h => e (e3.trans h.symm))]
   ·rw [if_neg e3, if_neg e3]
theorem pkeys_pset {α : Type} (m : List (ByteArray × α)) (k j : ByteArray) (v : α) : j ∈ pkeys (pset m k v) ↔ j = k ∨ j ∈ pkeys m := by
 induction m with
 | nil => simp [pset, pkeys]
 | cons p m ih =>
  simp only [pset]
  by_cases e : p.1 = k
  ·rw [if_pos e]
   simp only [pkeys, List.map_cons, List.mem_cons]
   constructor
   ·rintro (h | h)
    ·exact .inl h
    ·exact .inr (.inr h)
   ·rintro (h | h | h)
    ·exact .inl h
    ·exact .inl (h.trans e)
    ·exact .inr h
  ·rw [if_neg e]
   have ih' : j ∈ (pset m k v).map (·.1) ↔ j = k ∨ j ∈ m.map (·.1) := ih
   simp only [pkeys, List.map_cons, List.mem_cons, ih']
   constructor
   ·rintro (h | h | h)
    ·exact .inr (.inl h)
    ·exact .inl h
    ·exact .inr (.inr h)
   ·rintro (h | h | h)
    ·exact .inr (.inl h)
    ·exact .inl h
    ·exact .inr (.inr h)
theorem pkeys_nodup {α : Type} {m : List (ByteArray × α)} (h : (pkeys m).Nodup) (k : ByteArray) (v : α) : (pkeys (pset m k v)).Nodup := by
 induction m with
 | nil => simp [pset, pkeys]
 | cons p m ih =>
  obtain ⟨h1, h2⟩ := List.nodup_cons.1 (show (p.1 :: pkeys m).Nodup from h)
  simp only [pset]
  by_cases e : p.1 = k
  ·rw [if_pos e]; exact List.nodup_cons.2 ⟨e ▸ h1, h2⟩
  ·rw [if_neg e]
   refine List.nodup_cons.2 ⟨fun hm => ?_, ih h2⟩
   rcases (pkeys_pset m k p.1 v).1 hm with h3 | h3
   ·exact e h3
   ·exact h1 h3
def numsAt (l : List Rec) (k : ByteArray) : List Int := (l.filter fun r => decide (r.key = k)).map (·.num)
def grp (l : List Rec) : List (ByteArray × List Int) := l.foldl addLine []
theorem grp_snoc (l : List Rec) (r : Rec) : grp (l ++ [r]) = addLine (grp l) r := by unfold grp; rw [List.foldl_append]; rfl
theorem numsAt_snoc (l : List Rec) (r : Rec) (k : ByteArray) : numsAt (l ++ [r]) k = numsAt l k ++ if r.key = k then [r.num] else [] := by
 unfold numsAt
 rw [List.filter_append, List.map_append]
 by_cases h : r.key = k
 ·simp [h]
 ·simp [h]
theorem snoc_ind {α : Type} {P : List α → Prop} (h0 : P []) (h1 : ∀ l a, P l → P (l ++ [a])) : ∀ l, P l := by
 have h : ∀ (r l : List α), P l → P (l ++ r) := by
  intro r
  induction r with
  | nil => intro l h; simpa using h
  | cons a r ih => intro l h; have := ih (l ++ [a]) (h1 l a h); simpa using this
 intro l
 have := h l [] h0
 simpa using this
theorem numsAt_nil {l : List Rec} {k : ByteArray} : numsAt l k = [] ↔ ∀ r ∈ l, r.key ≠ k := by
 unfold numsAt
 rw [List.map_eq_nil_iff, List.filter_eq_nil_iff]
 constructor
 ·intro h r hr e; exact h r hr (decide_eq_true e)
 ·intro h r hr e; exact h r hr (of_decide_eq_true e)
theorem grp_get (l : List Rec) (k : ByteArray) : (pget (grp l) k).getD [] = numsAt l k ∧ ((pget (grp l) k).isSome = true ↔ ∃ r ∈ l, r.key = k) := by
 revert k
 refine snoc_ind (P := fun l => ∀ k, (pget (grp l) k).getD [] = numsAt l k ∧ ((pget (grp l) k).isSome = true ↔ ∃ r ∈ l, r.key = k)) ?_ ?_ l
 ·intro k; exact ⟨rfl, by simp [grp, pget]⟩
 ·intro l r ih k
  rw [grp_snoc]
  unfold addLine
  rw [pget_pset, numsAt_snoc]
  obtain ⟨i1, i2⟩ := ih k
  by_cases h : r.key = k
  ·rw [if_pos h, if_pos h]
   refine ⟨by rw [← i1, h]; rfl, by simp [h]⟩
  ·rw [if_neg h, if_neg h, List.append_nil]
   refine ⟨i1, i2.trans ⟨fun ⟨r', h1, h2⟩ => ⟨r', List.mem_append.2 (.inl h1), h2⟩, fun ⟨r', h1, h2⟩ => ?_⟩⟩
   rcases List.mem_append.1 h1 with h1 | h1
   ·exact ⟨r', h1, h2⟩
   ·rw [List.mem_singleton.1 h1] at h2; exact absurd h2 h
theorem grp_keys (l : List Rec) : (pkeys (grp l)).Nodup ∧ ∀ k, k ∈ pkeys (grp l) ↔ ∃ r ∈ l, r.key = k := by
 refine snoc_ind (P := fun l => (pkeys (grp l)).Nodup ∧ ∀ k, k ∈ pkeys (grp l) ↔ ∃ r ∈ l, r.key = k) ?_ ?_ l
 ·exact ⟨by simp [grp, pkeys], fun k => by simp [grp, pkeys]⟩
 ·intro l r ⟨i1, i2⟩
  rw [grp_snoc]
  unfold addLine
  refine ⟨pkeys_nodup i1 _ _, fun k => ?_⟩
  rw [pkeys_pset, i2]
  constructor
  ·rintro (h | ⟨r', h1, h2⟩)
   ·exact ⟨r, by simp, h.symm⟩
   ·exact ⟨r', List.mem_append.2 (.inl h1), h2⟩
  ·rintro ⟨r', h1, h2⟩
   rcases List.mem_append.1 h1 with h1 | h1
   ·exact .inr ⟨r', h1, h2⟩
   ·rw [List.mem_singleton.1 h1] at h2; exact .inl h2.symm
def numsOf (out : List Lin) (k : ByteArray) : List Int := ((out.find? fun x => decide (x.key = k)).map (·.nums)).getD []
theorem find_key {out : List Lin} (hn : (out.map (·.key)).Nodup) {x : Lin} (hx : x ∈ out) : out.find? (fun y => decide (y.key = x.key)) = some x := by
 induction out with
 | nil => cases hx
 | cons y l ih =>
  obtain ⟨h1, h2⟩ := List.nodup_cons.1 (show (y.key :: l.map (·.key)).Nodup from hn)
  rw [List.find?_cons]
  by_cases e : y.key = x.key
  ·rw [decide_eq_true e]
   rcases List.mem_cons.1 hx with h | h
   ·rw [h]
   ·exact absurd (List.mem_map.2 ⟨x, h, e.symm⟩) h1
  ·rw [decide_eq_false e]
   rcases List.mem_cons.1 hx with h | h
   ·rw [h] at e; exact absurd rfl e
   ·exact ih h2 h
structure LinesGrp (l : List Rec) (out : List Lin) : Prop where
 nd : (out.map (·.key)).Nodup
 keys : ∀ k, k ∈ out.map (·.key) ↔ ∃ r ∈ l, r.key = k
 nums : ∀ x ∈ out, x.nums = numsAt l x.key
 of : ∀ k, numsOf out k = numsAt l k
 sorted : out.Pairwise fun a b => kLess a.key b.key
theorem lines_grp {l : List Rec} {out : List Lin} (h : LinesOf (grp l) out) : LinesGrp l out := by
 obtain ⟨hp, hs⟩ := h
 obtain ⟨g1, g2⟩ := grp_keys l
 have hk : (out.map (·.key)).Perm (pkeys (grp l)) := by
  have := hp.map (·.key)
  rw [List.map_map] at this
  exact this
 have hnd := hk.nodup_iff.2 g1
 have hnums : ∀ x ∈ out, x.nums = numsAt l x.key := fun x hx => by
  obtain ⟨p, hp1, hp2⟩ := List.mem_map.1 (hp.mem_iff.1 hx)
  rw [← hp2]
  obtain ⟨a, b, e⟩ := List.append_of_mem hp1
  have ha : p.1 ∉ pkeys a := fun hm => by
   have h3 := g1
   rw [e] at h3
   unfold pkeys at h3 hm
   rw [List.map_append, List.map_cons] at h3
   exact (List.nodup_append.1 h3).2.2 _ hm _ List.mem_cons_self rfl
  have h4 := (grp_get l p.1).1
  rw [e, show p = (p.1, p.2) from rfl, pget_split ha] at h4
  exact h4
 refine ⟨hnd, fun k => (hk.mem_iff).trans (g2 k), hnums, fun k => ?_, hs⟩
 by_cases hm : k ∈ out.map (·.key)
 ·obtain ⟨x, hx, rfl⟩ := List.mem_map.1 hm
  unfold numsOf
  rw [find_key hnd hx]
  exact hnums x hx
 ·have h5 : numsAt l k = [] := numsAt_nil.2 fun r hr e => hm ((hk.mem_iff.trans (g2 k)).2 ⟨r, hr, e⟩)
  rw [h5]
  unfold numsOf
  rw [List.find?_eq_none.2 fun x hx he => hm (List.mem_map.2 ⟨x, hx, of_decide_eq_true he⟩)]
  rfl
theorem LinesGrp.same {l l' : List Rec} {a b : List Lin} (ha : LinesGrp l a) (hb : LinesGrp l' b) (h : ∀ k, numsAt l k = numsAt l' k) : a = b := by
 have hk : ∀ k, (∃ r ∈ l, r.key = k) ↔ ∃ r ∈ l', r.key = k := fun k => by
  have h1 : (∃ r ∈ l, r.key = k) ↔ numsAt l k ≠ [] := ⟨fun ⟨r, hr, e⟩ h0 => numsAt_nil.1 h0 r hr e, fun h0 => Classical.byContradiction fun hn => h0 (numsAt_nil.2 fun r hr e => hn ⟨r, hr, e⟩)⟩
  have h2 : (∃ r ∈ l', r.key = k) ↔ numsAt l' k ≠ [] := ⟨fun ⟨r, hr, e⟩ h0 => numsAt_nil.1 h0 r hr e, fun h0 => Classical.byContradiction fun hn => h0 (numsAt_nil.2 fun r hr e => hn ⟨r, hr, e⟩)⟩
  rw [h1, h2, h k]
 have hp : (a.map (·.key)).Perm (b.map (·.key)) := (List.perm_ext_iff_of_nodup ha.nd hb.nd).2 fun k => (ha.keys k).trans ((hk k).trans (hb.keys k).symm)
 have hmem : a.Perm b := by
  have na : a.Nodup := (List.pairwise_map.1 ha.nd).imp fun h e => h (by rw [e])
  have nb : b.Nodup := (List.pairwise_map.1 hb.nd).imp fun h e => h (by rw [e])
  have sub : ∀ {l l' : List Rec} {a b : List Lin}, LinesGrp l a → LinesGrp l' b → (∀ k, numsAt l k = numsAt l' k) → (a.map (·.key)).Perm (b.map (·.key)) → ∀ x ∈ a, x ∈ b := fun ha hb h hp x hx => by
   obtain ⟨y, hy, e⟩ := List.mem_map.1 (hp.mem_iff.1 (List.mem_map.2 ⟨x, hx, rfl⟩))
   have h1 : y.nums = x.nums := by rw [hb.nums y hy, ha.nums x hx, e, h]
   have : x = y := by cases x; cases y; simp only at e h1; rw [e, h1]
   rw [this]; exact hy
  exact (List.perm_ext_iff_of_nodup na nb).2 fun x => ⟨sub ha hb h hp x, sub hb ha (fun k => (h k).symm) hp.symm x⟩
 exact hmem.eq_of_pairwise (le := fun a b => kLess a.key b.key) (fun x y _ _ h1 h2 => absurd (List.lt_trans h1 h2) (List.lt_irrefl _)) ha.sorted hb.sorted
theorem passR_key {r x : Rec} (h : x ∈ passR r) : x = r := by
 unfold passR at h
 split at h
 ·cases h
 ·exact List.mem_singleton.1 h
def OutIn (Q : Rec → Prop) (d : Did) : Prop := ∀ x ∈ d.out, Q x
theorem OutIn.ends {Q : Rec → Prop} {l : List Rec} {h : Hld} {has : Bool} (hl : ∀ x ∈ l, Q x) : OutIn Q (ends_ l h has) := hl
theorem applyN_key {n : Nod} (h4 : n.kind ≠ 4) (h6 : n.kind ≠ 6) (h : Hld) (has : Bool) (r : Rec) (input : Int) : OutIn (fun x => x.key = r.key) (applyN n h has r input) := by
 have hp : ∀ q : Rec, q.key = r.key → ∀ x ∈ passR q, x.key = r.key := fun q hq x hx => by rw [passR_key hx]; exact hq
 unfold applyN
 simp only
 split
 ·exact OutIn.ends (hp _ rfl)
 split
 ·refine OutIn.ends ?_
  split
  ·nofun
  ·exact hp _ rfl
 split
 ·refine OutIn.ends fun x hx => ?_
  obtain ⟨l, hl, hx⟩ := List.mem_flatten.1 hx
  rw [List.eq_of_mem_replicate hl] at hx
  exact hp _ rfl x hx
 split
 ·exact OutIn.ends (hp _ rfl)
 split
 ·split
  ·exact OutIn.ends (hp _ rfl)
  ·exact OutIn.ends nofun
 split
 ·refine OutIn.ends ?_
  split
  ·nofun
  ·exact hp _ rfl
 ·exact OutIn.ends (hp _ rfl)
def atKey (k : ByteArray) (l : List (Nat × Rec)) : List (Nat × Rec) := l.filter fun p => decide (p.2.key = k)
def recsAt (k : ByteArray) (l : List Rec) : List Rec := l.filter fun r => decide (r.key = k)
theorem numsAt_recs (l : List Rec) (k : ByteArray) : numsAt l k = (recsAt k l).map (·.num) := rfl
theorem run_key {n : Nod} (h4 : n.kind ≠ 4) (h6 : n.kind ≠ 6) (k : ByteArray) (log : List (Nat × Rec)) : recsAt k (runLog n log).2 = (runLog n (atKey k log)).2 ∧ pget (runLog n log).1 k = pget (runLog n (atKey k log)).1 k := by
 refine snoc_ind (P := fun log => recsAt k (runLog n log).2 = (runLog n (atKey k log)).2 ∧ pget (runLog n log).1 k = pget (runLog n (atKey k log)).1 k) ⟨rfl, rfl⟩ ?_ log
 intro log p ⟨i1, i2⟩
 have e1 : runLog n (log ++ [p]) = stepLog n (runLog n log) p := by unfold runLog; rw [List.foldl_append]; rfl
 rw [e1]
 by_cases h : p.2.key = k
 ·have e2 : atKey k (log ++ [p]) = atKey k log ++ [p] := by unfold atKey; rw [List.filter_append]; simp [h]
  have e3 : runLog n (atKey k log ++ [p]) = stepLog n (runLog n (atKey k log)) p := by unfold runLog; rw [List.foldl_append]; rfl
  rw [e2, e3]
  unfold stepLog
  rw [h, ← i2]
  simp only
  constructor
  ·have e4 : ∀ (a b : List Rec), recsAt k (a ++ b) = recsAt k a ++ recsAt k b := fun a b => by unfold recsAt; rw [List.filter_append]
   rw [e4, i1]
   congr 1
   exact List.filter_eq_self.2 fun x hx => decide_eq_true ((applyN_key h4 h6 _ _ _ _ x hx).trans h)
  ·split
   ·rw [pget_pset, pget_pset, if_pos rfl, if_pos rfl]
   ·exact i2
 ·have e2 : atKey k (log ++ [p]) = atKey k log := by unfold atKey; rw [List.filter_append]; simp [h]
  rw [e2]
  unfold stepLog
  simp only
  constructor
  ·have e4 : ∀ (a b : List Rec), recsAt k (a ++ b) = recsAt k a ++ recsAt k b := fun a b => by unfold recsAt; rw [List.filter_append]
   rw [e4, i1]
   have : recsAt k (applyN n ((pget (runLog n log).1 p.2.key).getD zeroH) (pget (runLog n log).1 p.2.key).isSome p.2 p.1).out = [] := List.filter_eq_nil_iff.2 fun x hx he => h (((applyN_key h4 h6 _ _ _ _ x hx).symm).trans (of_decide_eq_true he))
   rw [this, List.append_nil]
  ·split
   ·rw [pget_pset, if_neg h]; exact i2
   ·exact i2
theorem applyN_three (n : Nod) (h : Hld) (has : Bool) (r : Rec) (input : Int) : (applyN n h has r input).out.length ≤ 3 := by
 have hp : ∀ r, (passR r).length ≤ 1 := fun r => by unfold passR; split <;> simp
 unfold applyN
 simp only
 split
 ·exact Nat.le_trans (hp _) (by omega)
 split
 ·show (if _ then _ else _ : List Rec).length ≤ 3
  split
  ·simp
  ·exact Nat.le_trans (hp _) (by omega)
 split
 ·exact Nat.le_trans (hp _) (by omega)
 split
 ·have : ∀ m : Nat, ((List.replicate m (passR r)).flatten).length ≤ m := fun m => by
   induction m with
   | zero => simp
   | succ m ih => rw [List.replicate_succ, List.flatten_cons, List.length_append]; have := hp r; omega
  exact Nat.le_trans (this _) (by omega)
 split
 ·exact Nat.le_trans (hp _) (by omega)
 split
 ·exact Nat.le_trans (hp _) (by omega)
 split
 ·split
  ·exact Nat.le_trans (hp _) (by omega)
  ·exact Nat.zero_le _
 split
 ·show (if _ then _ else _ : List Rec).length ≤ 3
  split
  ·simp
  ·exact Nat.le_trans (hp _) (by omega)
 ·exact Nat.le_trans (hp _) (by omega)
theorem run_three (n : Nod) (log : List (Nat × Rec)) : (runLog n log).2.length ≤ 3 * log.length := by
 refine snoc_ind (P := fun log => (runLog n log).2.length ≤ 3 * log.length) (Nat.zero_le _) ?_ log
 intro log p ih
 have e1 : runLog n (log ++ [p]) = stepLog n (runLog n log) p := by unfold runLog; rw [List.foldl_append]; rfl
 rw [e1]
 unfold stepLog
 simp only
 rw [List.length_append, List.length_append, List.length_singleton]
 have := applyN_three n ((pget (runLog n log).1 p.2.key).getD zeroH) (pget (runLog n log).1 p.2.key).isSome p.2 p.1
 omega
def logOf (d : List Rec) : List (Nat × Rec) := d.map fun r => (0, r)
theorem single_log {J : List Nod} {S : Sim} (h : AllRight J S) {u : Nat} {n : Nod} (hn : J[u]? = some n) {p : Nat} (hf : n.from_ = [(p : Int)]) : S.M u = logOf (S.H p) := by
 obtain ⟨_, h2, h3⟩ := h
 have ht := (h2 u n hn).2.2
 have hb := h3 u 0 p ⟨n, hn, by rw [hf]; rfl⟩
 rw [← hb]
 unfold byIn logOf
 have hall : ∀ q ∈ S.M u, q.1 = 0 := fun q hq => by have := ht q hq; rw [hf] at this; simp at this; exact this
 rw [List.filter_eq_self.2 fun q hq => by simp [hall q hq], List.map_map]
 conv => lhs; rw [← List.map_id (S.M u)]
 exact List.map_congr_left fun q hq => by
  obtain ⟨a, b⟩ := q
  have := hall _ hq
  simp only at this
  rw [this]; rfl
theorem single_out {J : List Nod} {S : Sim} (h : AllRight J S) {u : Nat} {n : Nod} (hn : J[u]? = some n) (h10 : n.kind ≠ 10) (h1 : n.kind ≠ 1) {p : Nat} (hf : n.from_ = [(p : Int)]) : S.H u = (runLog n (logOf (S.H p))).2 := by
 rw [← single_log h hn hf]
 exact ((h.2.1 u n hn).2.1 h10 h1).2
theorem sink_out {J : List Nod} {S : Sim} (h : AllRight J S) {u : Nat} {n : Nod} (hn : J[u]? = some n) (h10 : n.kind = 10) {p : Nat} (hf : n.from_ = [(p : Int)]) : S.f.ln[u]? = some (grp (S.H p)) ∧ S.H u = [] := by
 obtain ⟨h1, h2⟩ := (h.2.1 u n hn).1 h10
 rw [single_log h hn hf] at h1
 unfold logOf at h1
 rw [List.map_map] at h1
 have e : (S.H p).map ((fun x => x.2) ∘ fun r => ((0 : Nat), r)) = S.H p := by
  conv => rhs; rw [← List.map_id (S.H p)]
  rfl
 rw [e] at h1
 exact ⟨h1, h2⟩
theorem flow_ok {J : List Nod} {S : Sim} (h : AllRight J S) (hc : ∀ v, v < J.length → (S.H v).length ≤ 2000) : Okf J.length S.f := by
 refine ⟨h.1.gv, fun c hc' => ?_⟩
 obtain ⟨v, hv⟩ := List.getElem?_of_mem hc'
 have hvl : v < J.length := by rw [← h.1.gv]; exact (List.getElem?_eq_some_iff.1 hv).1
 rw [h.1.counts v hvl] at hv
 injection hv with hv
 have := hc v hvl
 omega
end Go.Proofs.YtfndhfekbbbliaaGreatDoor

/-
  Package den, plain: what single nodes make of records, key by key. No condition: plain definitions and lemmas.
-/
namespace Go.Proofs.YtfndhfekbbbliaaGreatDoor
open Go.RowKit
set_option linter.unusedVariables false
theorem logOf_snoc (l : List Rec) (r : Rec) : logOf (l ++ [r]) = logOf l ++ [(0, r)] := by unfold logOf; rw [List.map_append]; rfl
theorem runLog_snoc (n : Nod) (log : List (Nat × Rec)) (p : Nat × Rec) : runLog n (log ++ [p]) = stepLog n (runLog n log) p := by unfold runLog; rw [List.foldl_append]; rfl
theorem atKey_log (k : ByteArray) (d : List Rec) : atKey k (logOf d) = logOf (recsAt k d) := by
 unfold atKey logOf recsAt
 rw [List.filter_map]
 rfl
def KeysOk (d : List Rec) : Prop := ∀ r ∈ d, r.key.size ≤ 40
theorem KeysOk.snoc {d : List Rec} {r : Rec} (h : KeysOk (d ++ [r])) : KeysOk d ∧ r.key.size ≤ 40 := ⟨fun x hx => h x (List.mem_append.2 (.inl hx)), h r (List.mem_append.2 (.inr List.mem_cons_self))⟩
theorem passR_one {r : Rec} (h : r.key.size ≤ 40) : passR r = [r] := by unfold passR; rw [if_neg (by omega)]
end Go.Proofs.YtfndhfekbbbliaaGreatDoor

/-
  Package den, plain: what a Union makes of what comes by its inputs; a job of two Sources put together. No condition: plain definitions and lemmas.
-/
namespace Go.Proofs.YtfndhfekbbbliaaGreatDoor
open Go.RowKit
set_option linter.unusedVariables false
theorem ba_append_inj {a b c d : ByteArray} (hs : a.size = c.size) (h : a ++ b = c ++ d) : a = c ∧ b = d := by
 have h1 : (a ++ b).data.toList = (c ++ d).data.toList := by rw [h]
 rw [ByteArray.data_append, ByteArray.data_append, Array.toList_append, Array.toList_append] at h1
 obtain ⟨e1, e2⟩ := List.append_inj h1 (by rw [Array.length_toList, Array.length_toList]; exact hs)
 cases a; cases b; cases c; cases d
 exact ⟨by congr 1; exact Array.toList_inj.1 e1, by congr 1; exact Array.toList_inj.1 e2⟩
def uniPre (j : Nat) : ByteArray := ⟨#[UInt8.ofNat (48 + j), 58]⟩
theorem uniKey_pre {j : Nat} (hj : j < 4) (k : ByteArray) : uniKey (j : Int) k = uniPre j ++ k := by
 have h : (⟨(Lib.itoa (j : Int)).toArray⟩ : ByteArray) ++ ⟨#[58]⟩ = uniPre j := by
  have hc : j = 0 ∨ j = 1 ∨ j = 2 ∨ j = 3 := by omega
  rcases hc with rfl | rfl | rfl | rfl
  ·decide +kernel
  ·decide +kernel
  ·decide +kernel
  ·decide +kernel
 unfold uniKey
 rw [h]
theorem uniPre_size (j : Nat) : (uniPre j).size = 2 := rfl
theorem uniPre_inj {i j : Nat} (hi : i < 4) (hj : j < 4) (h : uniPre i = uniPre j) : i = j := by
 have hc : i = 0 ∨ i = 1 ∨ i = 2 ∨ i = 3 := by omega
 have hd : j = 0 ∨ j = 1 ∨ j = 2 ∨ j = 3 := by omega
 rcases hc with rfl | rfl | rfl | rfl <;> rcases hd with rfl | rfl | rfl | rfl <;> first | rfl | (exact absurd h (by decide))
theorem uniKey_inj {i j : Nat} (hi : i < 4) (hj : j < 4) {a b : ByteArray} (h : uniKey (i : Int) a = uniKey (j : Int) b) : i = j ∧ a = b := by
 rw [uniKey_pre hi, uniKey_pre hj] at h
 obtain ⟨h1, h2⟩ := ba_append_inj (by rw [uniPre_size, uniPre_size]) h
 exact ⟨uniPre_inj hi hj h1, h2⟩
theorem uniKey_size {j : Nat} (hj : j < 4) (k : ByteArray) : (uniKey (j : Int) k).size = k.size + 2 := by
 rw [uniKey_pre hj, ByteArray.size_append, uniPre_size]; omega
def uniR (p : Nat × Rec) : List Rec := passR { p.2 with key := uniKey (p.1 : Int) p.2.key }
theorem run_union (fr : List Int) (text : ByteArray) (m : Int) (log : List (Nat × Rec)) : (runLog ⟨6, fr, text, m⟩ log).2 = log.flatMap uniR ∧ (runLog ⟨6, fr, text, m⟩ log).1 = [] := by
 refine snoc_ind (P := fun log => (runLog ⟨6, fr, text, m⟩ log).2 = log.flatMap uniR ∧ (runLog ⟨6, fr, text, m⟩ log).1 = []) ⟨rfl, rfl⟩ ?_ log
 intro log p ⟨i1, i2⟩
 rw [runLog_snoc]
 unfold stepLog
 simp only
 rw [i1, i2]
 refine ⟨?_, rfl⟩
 rw [List.flatMap_append]
 congr 1
 simp only [List.flatMap_cons, List.flatMap_nil, List.append_nil]
 rfl
def TagsUnder (n : Nat) (log : List (Nat × Rec)) : Prop := ∀ p ∈ log, p.1 < n
theorem uni_at {log : List (Nat × Rec)} (ht : TagsUnder 4 log) {j : Nat} (hj : j < 4) (k : ByteArray) (hs : k.size + 2 ≤ 40) : recsAt (uniKey (j : Int) k) (log.flatMap uniR) = (recsAt k (byIn j log)).map fun r => { r with key := uniKey (j : Int) r.key } := by
 induction log with
 | nil => rfl
 | cons p log ih =>
  have ih' := ih fun q hq => ht q (List.mem_cons_of_mem _ hq)
  have hp := ht p List.mem_cons_self
  unfold recsAt byIn at ih' ⊢
  rw [List.flatMap_cons, List.filter_append, ih', List.filter_cons]
  by_cases e : p.1 = j
  ·rw [if_pos (by simp [e]), List.map_cons, List.filter_cons]
   by_cases ek : p.2.key = k
   ·rw [if_pos (by simp [ek]), List.map_cons]
    unfold uniR
    rw [passR_one (by show (uniKey (p.1 : Int) p.2.key).size ≤ 40; rw [uniKey_size hp, ek]; exact hs)]
    rw [List.filter_cons, if_pos (by simp [e, ek])]
    simp [e]
   ·rw [if_neg (by simp [ek])]
    have : (uniR p).filter (fun r => decide (r.key = uniKey (j : Int) k)) = [] := List.filter_eq_nil_iff.2 fun x hx he => by
     rw [passR_key hx] at he
     exact ek (uniKey_inj hp hj (of_decide_eq_true he)).2
    rw [this]; rfl
  ·rw [if_neg (by simp [e])]
   have : (uniR p).filter (fun r => decide (r.key = uniKey (j : Int) k)) = [] := List.filter_eq_nil_iff.2 fun x hx he => by
    rw [passR_key hx] at he
    exact e (uniKey_inj hp hj (of_decide_eq_true he)).1
   rw [this]; rfl
theorem uni_keys {log : List (Nat × Rec)} (ht : TagsUnder 4 log) (k : ByteArray) : (∃ r ∈ log.flatMap uniR, r.key = k) ↔ ∃ p ∈ log, p.2.key.size + 2 ≤ 40 ∧ uniKey (p.1 : Int) p.2.key = k := by
 constructor
 ·rintro ⟨r, hr, e⟩
  obtain ⟨p, hp, hr⟩ := List.mem_flatMap.1 hr
  have h1 := passR_key hr
  refine ⟨p, hp, ?_, by rw [← e, h1]⟩
  unfold uniR passR at hr
  split at hr
  ·cases hr
  ·rename_i h2
   have h3 : ¬ 40 < (uniKey (p.1 : Int) p.2.key).size := h2
   rw [uniKey_size (ht p hp)] at h3
   omega
 ·rintro ⟨p, hp, hs, e⟩
  refine ⟨{ p.2 with key := uniKey (p.1 : Int) p.2.key }, List.mem_flatMap.2 ⟨p, hp, ?_⟩, e⟩
  unfold uniR
  rw [passR_one (by show (uniKey (p.1 : Int) p.2.key).size ≤ 40; rw [uniKey_size (ht p hp)]; exact hs)]
  exact List.mem_singleton.2 rfl
end Go.Proofs.YtfndhfekbbbliaaGreatDoor

/-
  Package den, plain: key by key, what each node hands on of the first is the beginning of what it hands on of all. No condition: plain definitions and lemmas.
-/
namespace Go.Proofs.YtfndhfekbbbliaaGreatDoor
open Go.RowKit
set_option linter.unusedVariables false
def Pre (a b : List Rec) : Prop := ∀ k, recsAt k a <+: recsAt k b
theorem Pre.refl (a : List Rec) : Pre a a := fun _ => List.prefix_refl _
theorem recsAt_app (k : ByteArray) (a b : List Rec) : recsAt k (a ++ b) = recsAt k a ++ recsAt k b := by unfold recsAt; rw [List.filter_append]
theorem run_more (n : Nod) (a b : List (Nat × Rec)) : (runLog n a).2 <+: (runLog n (a ++ b)).2 := by
 refine snoc_ind (P := fun b => (runLog n a).2 <+: (runLog n (a ++ b)).2) (by rw [List.append_nil]; exact List.prefix_refl _) ?_ b
 intro b p ih
 rw [← List.append_assoc, runLog_snoc]
 exact ih.trans (List.prefix_append _ _)
theorem log_more {a b : List Rec} (h : a <+: b) : ∃ c, logOf b = logOf a ++ c := by
 obtain ⟨c, rfl⟩ := h
 exact ⟨logOf c, by unfold logOf; rw [List.map_append]⟩
theorem pre_keep {n : Nod} (h4 : n.kind ≠ 4) (h6 : n.kind ≠ 6) {a b : List Rec} (h : Pre a b) : Pre (runLog n (logOf a)).2 (runLog n (logOf b)).2 := fun k => by
 rw [(run_key h4 h6 k (logOf a)).1, (run_key h4 h6 k (logOf b)).1, atKey_log, atKey_log]
 obtain ⟨c, hc⟩ := log_more (h k)
 rw [hc]
 exact run_more n _ _
theorem recsAt_nil {k : ByteArray} {l : List Rec} (h : recsAt k l ≠ []) : ∃ r ∈ l, r.key = k := by
 obtain ⟨r, hr⟩ := List.exists_mem_of_ne_nil _ h
 obtain ⟨h1, h2⟩ := List.mem_filter.1 hr
 exact ⟨r, h1, of_decide_eq_true h2⟩
theorem pre_turn {g : Rec → List Rec} (hg : ∀ r r' x x', x ∈ g r → x' ∈ g r' → x.key = x'.key → r.key = r'.key) {a b : List Rec} (h : Pre a b) : Pre (a.flatMap g) (b.flatMap g) := fun k => by
 by_cases he : recsAt k (a.flatMap g) = []
 ·rw [he]; exact List.nil_prefix
 ·obtain ⟨x, hx, hxk⟩ := recsAt_nil he
  obtain ⟨r, hr, hxr⟩ := List.mem_flatMap.1 hx
  have only : ∀ l : List Rec, recsAt k (l.flatMap g) = recsAt k ((recsAt r.key l).flatMap g) := fun l => by
   induction l with
   | nil => rfl
   | cons y l ih =>
    rw [List.flatMap_cons, recsAt_app, ih]
    by_cases hy : y.key = r.key
    ·rw [show recsAt r.key (y :: l) = y :: recsAt r.key l from List.filter_cons_of_pos (by simp [hy]), List.flatMap_cons, recsAt_app]
    ·rw [show recsAt r.key (y :: l) = recsAt r.key l from List.filter_cons_of_neg (by simp [hy])]
     rw [show recsAt k (g y) = [] from List.filter_eq_nil_iff.2 fun z hz e => hy (hg _ _ _ _ hz hxr ((of_decide_eq_true e).trans hxk.symm))]
     rfl
  rw [only a, only b]
  obtain ⟨c, hc⟩ := h r.key
  rw [← hc, List.flatMap_append, recsAt_app]
  exact List.prefix_append _ _
theorem last_cut {a b s t : List UInt8} (h : a ++ 47 :: s = b ++ 47 :: t) (hs : (47 : UInt8) ∉ s) (ht : (47 : UInt8) ∉ t) : a = b := by
 induction a generalizing b with
 | nil =>
  cases b with
  | nil => rfl
  | cons y b =>
   injection h with h1 h2
   exact absurd (by rw [h2]; simp) hs
 | cons x a ih =>
  cases b with
  | nil =>
   injection h with h1 h2
   exact absurd (by rw [← h2]; simp) ht
  | cons y b =>
   injection h with h1 h2
   rw [h1, ih h2]
theorem itoa_slash (n : Int) : (47 : UInt8) ∉ Lib.itoa n := fun h => by
 have hd : ∀ u, (47 : UInt8) ∉ Lib.decDigits u := fun u hu => absurd (dec_digs u 47 hu) (by decide)
 unfold Lib.itoa at h
 split at h
 ·rcases List.mem_cons.1 h with h | h
  ·exact absurd h (by decide)
  ·exact hd _ h
 ·exact hd _ h
theorem subKey_list (k : ByteArray) (n : Int) : (subKey k n).data.toList = k.data.toList ++ 47 :: Lib.itoa n := by
 unfold subKey
 rw [ByteArray.data_append, ByteArray.data_append, Array.toList_append, Array.toList_append]
 rfl
theorem subKey_inj {a b : ByteArray} {m n : Int} (h : subKey a m = subKey b n) : a = b := by
 have h1 : (subKey a m).data.toList = (subKey b n).data.toList := by rw [h]
 rw [subKey_list, subKey_list] at h1
 have h2 := last_cut h1 (itoa_slash m) (itoa_slash n)
 cases a; cases b
 congr 1
 exact Array.toList_inj.1 h2
def subR (t : ByteArray) (r : Rec) : List Rec := passR { r with key := subKey r.key (evalOf t r.num 0) }
theorem run_sub (fr : List Int) (t : ByteArray) (m : Int) (d : List Rec) : (runLog ⟨4, fr, t, m⟩ (logOf d)).2 = d.flatMap (subR t) := by
 refine snoc_ind (P := fun d => (runLog ⟨4, fr, t, m⟩ (logOf d)).2 = d.flatMap (subR t)) rfl ?_ d
 intro d r ih
 rw [logOf_snoc, runLog_snoc, List.flatMap_append]
 show (runLog _ (logOf d)).2 ++ subR t r = _
 rw [ih]; simp
theorem pre_sub {n : Nod} (h4 : n.kind = 4) {a b : List Rec} (h : Pre a b) : Pre (runLog n (logOf a)).2 (runLog n (logOf b)).2 := by
 obtain ⟨kd, fr, t, m⟩ := n
 simp only at h4
 subst h4
 rw [run_sub, run_sub]
 refine pre_turn (fun r r' x x' hx hx' e => ?_) h
 rw [passR_key hx, passR_key hx'] at e
 exact subKey_inj e
theorem pre_union {la lb : List (Nat × Rec)} (ha : TagsUnder 4 la) (hb : TagsUnder 4 lb) (h : ∀ j, j < 4 → Pre (byIn j la) (byIn j lb)) : Pre (la.flatMap uniR) (lb.flatMap uniR) := fun k => by
 by_cases he : recsAt k (la.flatMap uniR) = []
 ·rw [he]; exact List.nil_prefix
 ·obtain ⟨x, hx, hxk⟩ := recsAt_nil he
  obtain ⟨p, hp, hs, e⟩ := (uni_keys ha k).1 ⟨x, hx, hxk⟩
  have hpj := ha p hp
  rw [← e, uni_at ha hpj _ hs, uni_at hb hpj _ hs]
  exact (h p.1 hpj p.2.key).map _
theorem pre_len : ∀ (m : Nat) (a b : List Rec), a.length ≤ m → (∀ k, (recsAt k a).length ≤ (recsAt k b).length) → a.length ≤ b.length := by
 intro m
 induction m with
 | zero => intro a b hm _; omega
 | succ m ih =>
  intro a b hm h
  cases a with
  | nil => exact Nat.zero_le _
  | cons r a =>
   have part : ∀ l : List Rec, l.length = (recsAt r.key l).length + (l.filter fun x => !decide (x.key = r.key)).length := fun l => by
    induction l with
    | nil => rfl
    | cons y l ih =>
     unfold recsAt at ih ⊢
     rw [List.length_cons, ih]
     by_cases hy : y.key = r.key
     ·rw [List.filter_cons_of_pos (by simp [hy]), List.filter_cons_of_neg (by simp [hy]), List.length_cons]; omega
     ·rw [List.filter_cons_of_neg (by simp [hy]), List.filter_cons_of_pos (by simp [hy]), List.length_cons]; omega
   have rest : ∀ (k : ByteArray) (l : List Rec), recsAt k (l.filter fun x => !decide (x.key = r.key)) = if k = r.key then [] else recsAt k l := fun k l => by
    unfold recsAt
    rw [List.filter_filter]
    by_cases hk : k = r.key
    ·rw [if_pos hk]
     exact List.filter_eq_nil_iff.2 fun x _ e => by
      simp only [Bool.and_eq_true, decide_eq_true_eq, Bool.not_eq_true', decide_eq_false_iff_not] at e
      exact e.2 (e.1.trans hk)
    ·rw [if_neg hk]
     refine List.filter_congr fun x _ => ?_
     by_cases hx : x.key = k
     ·simp [hx, hk]
     ·simp [hx]
   have h1 := part (r :: a)
   have h2 := part b
   have h3 := h r.key
   have h4 := ih ((r :: a).filter fun x => !decide (x.key = r.key)) (b.filter fun x => !decide (x.key = r.key)) (by
    have : 1 ≤ (recsAt r.key (r :: a)).length := by
     rw [show recsAt r.key (r :: a) = r :: recsAt r.key a from List.filter_cons_of_pos (by simp)]; simp
    omega) (fun k => by
    rw [rest, rest]
    split
    ·exact Nat.le_refl _
    ·exact h k)
   omega
theorem Pre.len {a b : List Rec} (h : Pre a b) : a.length ≤ b.length := pre_len a.length a b (Nat.le_refl _) fun k => (h k).length_le
theorem node_ins {J : List Nod} (hJ : jobErr J = 0) {v : Nat} {n : Nod} (hn : J[v]? = some n) : 1 ≤ n.kind ∧ n.kind ≤ 10 ∧ inLow n.kind ≤ n.from_.length ∧ n.from_.length ≤ inHigh n.kind := by
 obtain ⟨hv, he⟩ := List.getElem?_eq_some_iff.1 hn
 have h0 := nodes_zero J 0 (job_parts hJ).2.1 v hv
 rw [he] at h0
 unfold nodeErr at h0
 split at h0
 ·cases h0
 ·split at h0
  ·cases h0
  ·rename_i h1 h2
   omega
theorem node_one {J : List Nod} (hJ : jobErr J = 0) {v : Nat} {n : Nod} (hn : J[v]? = some n) (h1 : n.kind ≠ 1) (h6 : n.kind ≠ 6) : ∃ p : Nat, p < v ∧ n.from_ = [(p : Int)] := by
 obtain ⟨_, _, h2, h3⟩ := node_ins hJ hn
 unfold inLow at h2
 unfold inHigh at h3
 rw [if_neg h1] at h2 h3
 rw [if_neg h6] at h3
 obtain ⟨f, hf⟩ := List.length_eq_one_iff.1 (show n.from_.length = 1 by omega)
 obtain ⟨hv, he⟩ := List.getElem?_eq_some_iff.1 hn
 have := job_from hJ hv f (by rw [he, hf]; exact List.mem_singleton.2 rfl)
 exact ⟨f.toNat, by omega, by rw [hf]; congr 1; omega⟩
theorem grow_all {J : List Nod} (hJ : jobErr J = 0) {S S' : Sim} (h : AllRight J S) (h' : AllRight J S') (hs : ∀ v n, J[v]? = some n → n.kind = 1 → Pre (S.H v) (S'.H v)) : ∀ v, v < J.length → Pre (S.H v) (S'.H v) := by
 intro v
 induction v using Nat.strongRecOn with
 | ind v ih =>
  intro hv
  have hn := List.getElem?_eq_getElem hv
  generalize J[v] = n at hn
  by_cases h1 : n.kind = 1
  ·exact hs v n hn h1
  by_cases h10 : n.kind = 10
  ·rw [((h.2.1 v n hn).1 h10).2]; exact fun k => List.nil_prefix
  by_cases h6 : n.kind = 6
  ·have ht : ∀ {T : Sim}, AllRight J T → TagsUnder 4 (T.M v) ∧ T.H v = (T.M v).flatMap uniR := fun {T} hT => by
    refine ⟨fun p hp => ?_, ?_⟩
    ·have h5 := (hT.2.1 v n hn).2.2 p hp
     have h7 := (node_ins hJ hn).2.2.2
     rw [h6] at h7
     have : inHigh 6 = 4 := rfl
     omega
    ·rw [((hT.2.1 v n hn).2.1 h10 h1).2]
     obtain ⟨kd, fr, t, m⟩ := n
     simp only at h6
     subst h6
     exact (run_union fr t m _).1
   obtain ⟨t1, e1⟩ := ht h
   obtain ⟨t2, e2⟩ := ht h'
   rw [e1, e2]
   refine pre_union t1 t2 fun j hj => ?_
   by_cases hjl : j < n.from_.length
   ·have hfj := job_from hJ hv n.from_[j] (by
     rw [show J[v] = n from Option.some.inj ((List.getElem?_eq_getElem hv).symm.trans hn)]; exact List.getElem_mem hjl)
    have hin : InFrom J v j n.from_[j].toNat := ⟨n, hn, by rw [List.getElem?_eq_getElem hjl]; congr 1; omega⟩
    rw [h.2.2 v j _ hin, h'.2.2 v j _ hin]
    exact ih _ (by omega) (by omega)
   ·have : byIn j (S.M v) = [] := by
     unfold byIn
     rw [List.filter_eq_nil_iff.2 fun p hp e => hjl (by
      have h5 := (h.2.1 v n hn).2.2 p hp
      have : p.1 = j := by simpa using e
      omega)]
     rfl
    rw [this]; exact fun k => List.nil_prefix
  ·obtain ⟨p, hpv, hf⟩ := node_one hJ hn h1 h6
   rw [single_out h hn h10 h1 hf, single_out h' hn h10 h1 hf]
   have hp := ih p hpv (by omega)
   by_cases h4 : n.kind = 4
   ·exact pre_sub h4 hp
   ·exact pre_keep h4 h6 hp
theorem den_split {J : List Nod} {data : List (List Rec)} (h : denErr J data = 0) : jobErr J = 0 ∧ data.length = (ofKind J 1).length ∧ dataErr data = 0 := by
 unfold denErr at h
 split at h
 ·rename_i h1; exact absurd h h1
 ·split at h
  ·cases h
  ·rename_i h1 h2
   exact ⟨Classical.byContradiction h1, Classical.byContradiction h2, h⟩
end Go.Proofs.YtfndhfekbbbliaaGreatDoor

/-
  What the reference holds of each node, plain: node by node, input by input; it is what flows, key by key. No condition: plain definitions and lemmas.
-/
namespace Go.Proofs.YtfndhfekbbbliaaGreatDoor
open Go.RowKit
set_option linter.unusedVariables false
theorem of_takeP (l : List Nod) (k : Int) {j : Nat} (hj : j < l.length) : ofKind (l.take (j + 1)) k = ofKind (l.take j) k ++ if l[j].kind == k then [(j : Int)] else [] := by
 rw [List.take_succ_eq_append_getElem hj]
 unfold ofKind
 rw [List.zipIdx_append, List.filter_append, List.map_append]
 congr 1
 have e : 0 + (List.take j l).length = j := by rw [List.length_take]; omega
 by_cases h : (l[j].kind == k) = true
 ·simp [h]; omega
 ·simp [h]
def logR (fr : List Int) (outs : List (List Rec)) (k : Nat) : List (Nat × Rec) := (fr.zipIdx k).flatMap fun p => (outs[p.1.toNat]?.getD []).map fun r => (p.2, r)
def nodeR (n : Nod) (d : List Rec) (outs : List (List Rec)) : List Rec := if n.kind = 1 then d else (runLog n (logR n.from_ outs 0)).2
structure AllS where
 src : Nat
 outs : List (List Rec)
def stepR (data : List (List Rec)) (s : AllS) (n : Nod) : AllS := ⟨if n.kind = 1 then s.src + 1 else s.src, s.outs ++ [nodeR n (data[s.src]?.getD []) s.outs]⟩
def allFrom (data : List (List Rec)) (s : AllS) (J : List Nod) : AllS := J.foldl (stepR data) s
def allR (data : List (List Rec)) (J : List Nod) : AllS := allFrom data ⟨0, []⟩ J
def AllOver (J : List Nod) (data : List (List Rec)) : Prop := ∃ (i : Nat) (n : Nod) (l : List Rec), J[i]? = some n ∧ (allR data J).outs[i]? = some l ∧ 2000 < l.length ∧ n.kind ≠ 10
theorem allFrom_cons (data : List (List Rec)) (s : AllS) (n : Nod) (J : List Nod) : allFrom data s (n :: J) = allFrom data (stepR data s n) J := rfl
theorem allR_next (data : List (List Rec)) (J : List Nod) {i : Nat} (hi : i < J.length) : allR data (J.take (i + 1)) = stepR data (allR data (J.take i)) J[i] := by
 unfold allR allFrom
 rw [List.take_succ_eq_append_getElem hi, List.foldl_append]; rfl
theorem allFrom_pre (data : List (List Rec)) : ∀ (J : List Nod) (s : AllS), ∃ t, (allFrom data s J).outs = s.outs ++ t ∧ t.length = J.length
 | [], s => ⟨[], (List.append_nil _).symm, rfl⟩
 | n :: J, s => by
  obtain ⟨t, h1, h2⟩ := allFrom_pre data J (stepR data s n)
  refine ⟨nodeR n (data[s.src]?.getD []) s.outs :: t, ?_, by simp [h2]⟩
  rw [allFrom_cons, h1]
  show (s.outs ++ [_]) ++ t = _
  rw [List.append_assoc]; rfl
theorem allR_len (data : List (List Rec)) (J : List Nod) : (allR data J).outs.length = J.length := by
 obtain ⟨t, h1, h2⟩ := allFrom_pre data J ⟨0, []⟩
 unfold allR; rw [h1]; simpa using h2
theorem allR_take (data : List (List Rec)) (J : List Nod) {i : Nat} (hi : i ≤ J.length) : (allR data (J.take i)).outs = (allR data J).outs.take i := by
 obtain ⟨t, h1, h2⟩ := allFrom_pre data (J.drop i) (allR data (J.take i))
 have e : allR data J = allFrom data (allR data (J.take i)) (J.drop i) := by
  unfold allR allFrom
  rw [← List.foldl_append, List.take_append_drop]
 have hl : (allR data (J.take i)).outs.length = i := by rw [allR_len, List.length_take]; omega
 rw [e, h1]
 exact (List.take_left' hl).symm
theorem allR_src (data : List (List Rec)) (J : List Nod) {i : Nat} (hi : i ≤ J.length) : (allR data (J.take i)).src = (ofKind (J.take i) 1).length := by
 induction i with
 | zero => rfl
 | succ i ih =>
  rw [allR_next data J (show i < J.length by omega), of_takeP J 1 (show i < J.length by omega), List.length_append]
  show (if J[i].kind = 1 then (allR data (J.take i)).src + 1 else (allR data (J.take i)).src) = _
  rw [ih (by omega)]
  by_cases h : J[i].kind = 1
  ·rw [if_pos h, if_pos (by rw [h]; rfl)]; rfl
  ·rw [if_neg h, if_neg (by simpa using h)]; rfl
theorem allR_get (data : List (List Rec)) (J : List Nod) {i : Nat} (hi : i < J.length) : (allR data J).outs[i]? = some (nodeR J[i] (data[(ofKind (J.take i) 1).length]?.getD []) ((allR data J).outs.take i)) := by
 have h1 := allR_take data J (i := i + 1) (by omega)
 rw [allR_next data J hi] at h1
 have h2 : ((allR data J).outs.take (i + 1))[i]? = (allR data J).outs[i]? := by rw [List.getElem?_take]; simp
 rw [← h2, ← h1]
 show ((allR data (J.take i)).outs ++ [_])[i]? = _
 have hl : (allR data (J.take i)).outs.length = i := by rw [allR_len, List.length_take]; omega
 rw [List.getElem?_append_right (by omega), hl, Nat.sub_self, allR_src data J (by omega), allR_take data J (by omega)]
 rfl
theorem of_split (J : List Nod) (k : Int) : ∀ (i : Nat), i ≤ J.length → ∃ t, ofKind J k = ofKind (J.take i) k ++ t ∧ (∀ n, J[i]? = some n → n.kind = k → ∃ t', t = (i : Int) :: t') := by
 intro i hi
 obtain ⟨m, hm⟩ : ∃ m, m = J.length - i := ⟨_, rfl⟩
 induction m generalizing i with
 | zero =>
  refine ⟨[], by rw [List.take_of_length_le (by omega), List.append_nil], fun n hn => ?_⟩
  have := (List.getElem?_eq_some_iff.1 hn).1; omega
 | succ m ih =>
  have hlt : i < J.length := by omega
  obtain ⟨t, h1, h2⟩ := ih (i + 1) (by omega) (by omega)
  rw [of_takeP J k hlt, List.append_assoc] at h1
  refine ⟨_, h1, fun n hn hk => ?_⟩
  rw [List.getElem?_eq_getElem hlt] at hn
  injection hn with hn
  rw [hn, hk, if_pos (by simp)]
  exact ⟨t, rfl⟩
theorem of_at {J : List Nod} {k : Int} {i : Nat} {n : Nod} (hn : J[i]? = some n) (hk : n.kind = k) : (ofKind J k)[(ofKind (J.take i) k).length]? = some (i : Int) := by
 obtain ⟨t, h1, h2⟩ := of_split J k i (Nat.le_of_lt (List.getElem?_eq_some_iff.1 hn).1)
 obtain ⟨t', rfl⟩ := h2 n hn hk
 rw [h1, List.getElem?_append_right (Nat.le_refl _), Nat.sub_self]; rfl
theorem byIn_other {x k : Nat} (h : x ≠ k) (l : List Rec) : byIn x (l.map fun r => (k, r)) = [] := by
 unfold byIn
 rw [List.filter_eq_nil_iff.2 fun p hp e => h (by obtain ⟨r, _, rfl⟩ := List.mem_map.1 hp; exact (by simpa using e : k = x).symm)]; rfl
theorem byIn_self (k : Nat) (l : List Rec) : byIn k (l.map fun r => (k, r)) = l := by
 unfold byIn
 rw [List.filter_eq_self.2 fun p hp => by obtain ⟨r, _, rfl⟩ := List.mem_map.1 hp; simp]
 rw [List.map_map]
 exact List.map_id' _
theorem byIn_append (x : Nat) (a b : List (Nat × Rec)) : byIn x (a ++ b) = byIn x a ++ byIn x b := by
 unfold byIn; rw [List.filter_append, List.map_append]
theorem byIn_log (outs : List (List Rec)) (x : Nat) : ∀ (fr : List Int) (k : Nat), byIn x (logR fr outs k) = if k ≤ x then ((fr[x - k]?.map fun f => outs[f.toNat]?.getD []).getD []) else []
 | [], k => by simp [logR, byIn]
 | f :: fr, k => by
  have e : logR (f :: fr) outs k = ((outs[f.toNat]?.getD []).map fun r => (k, r)) ++ logR fr outs (k + 1) := rfl
  rw [e, byIn_append, byIn_log outs x fr (k + 1)]
  by_cases h : x = k
  ·subst h
   rw [byIn_self, if_neg (by omega), if_pos (Nat.le_refl _), Nat.sub_self, List.append_nil]; rfl
  ·rw [byIn_other h, List.nil_append]
   by_cases h2 : k ≤ x
   ·rw [if_pos h2, if_pos (by omega), show x - k = (x - (k + 1)) + 1 from by omega]; rfl
   ·rw [if_neg h2, if_neg (by omega)]
theorem log_tags (outs : List (List Rec)) : ∀ (fr : List Int) (k : Nat), ∀ p ∈ logR fr outs k, p.1 < k + fr.length
 | [], k, p, h => by simp [logR] at h
 | f :: fr, k, p, h => by
  have e : logR (f :: fr) outs k = ((outs[f.toNat]?.getD []).map fun r => (k, r)) ++ logR fr outs (k + 1) := rfl
  rw [e] at h
  rcases List.mem_append.1 h with h | h
  ·obtain ⟨r, _, rfl⟩ := List.mem_map.1 h
   simp
  ·have := log_tags outs fr (k + 1) p h
   simp; omega
theorem log_one (outs : List (List Rec)) (p : Nat) : logR [(p : Int)] outs 0 = logOf (outs[p]?.getD []) := by
 show ((outs[((p : Int)).toNat]?.getD []).map fun r => (0, r)) ++ [] = _
 rw [List.append_nil, Int.toNat_natCast]; rfl
theorem from_ten {J : List Nod} (hJ : jobErr J = 0) {u x j : Nat} {m : Nod} (h : InFrom J u x j) (hm : J[j]? = some m) : m.kind ≠ 10 := by
 obtain ⟨n, hn, hx⟩ := h
 obtain ⟨hu, he⟩ := List.getElem?_eq_some_iff.1 hn
 have h0 := nodes_zero J 0 (job_parts hJ).2.1 u hu
 rw [he, Nat.zero_add] at h0
 unfold nodeErr at h0
 split at h0
 ·cases h0
 ·split at h0
  ·cases h0
  ·split at h0
   ·rename_i h3; exact absurd h0 h3
   ·rename_i h3
    have h4 : fromErr J u n.from_ = 0 := Classical.byContradiction h3
    clear h0 h3
    have hf : (j : Int) ∈ n.from_ := List.mem_of_getElem? hx
    generalize n.from_ = fs at h4 hf
    induction fs with
    | nil => cases hf
    | cons f fs ih =>
     unfold fromErr at h4
     split at h4
     ·cases h4
     ·split at h4
      ·cases h4
      ·rename_i h5
       rcases List.mem_cons.1 hf with rfl | hf
       ·intro hk
        refine h5 ?_
        rw [Int.toNat_natCast, hm]
        exact congrArg some hk
       ·exact ih h4 hf
def simM (J : List Nod) (o : List (List Rec)) (v : Nat) : List (Nat × Rec) := match J[v]? with
 | none => []
 | some n => logR n.from_ (o.take v) 0
def simH (J : List Nod) (o : List (List Rec)) (v : Nat) : List Rec := match J[v]? with
 | none => []
 | some n => if n.kind = 10 then [] else o[v]?.getD []
def simSt (J : List Nod) (o : List (List Rec)) (v : Nat) : List (ByteArray × Hld) := match J[v]? with
 | none => []
 | some n => (runLog n (simM J o v)).1
def simR (J : List Nod) (o : List (List Rec)) : Sim :=
 ⟨⟨(List.range J.length).map (simSt J o), (List.range J.length).map fun v => ((simH J o v).length : Int), (List.range J.length).map fun v => ((simM J o v).map (·.2)).foldl addLine []⟩, simM J o, simH J o⟩
theorem sim_right {J : List Nod} (hJ : jobErr J = 0) (data : List (List Rec)) : AllRight J (simR J (allR data J).outs) := by
 obtain ⟨o, ho⟩ : ∃ o, o = (allR data J).outs := ⟨_, rfl⟩
 rw [← ho]
 refine ⟨⟨by simp [simR], by simp [simR], by simp [simR], fun v hv => by simp [simR, hv]⟩, fun v n hn => ?_, fun u x j hin => ?_⟩
 ·have hv := (List.getElem?_eq_some_iff.1 hn).1
  have hM : simM J o v = logR n.from_ (o.take v) 0 := by unfold simM; rw [hn]
  refine ⟨fun h10 => ⟨by simp [simR, hv], ?_⟩, fun h10 h1 => ⟨?_, ?_⟩, fun p hp => ?_⟩
  ·show simH J o v = []
   unfold simH; rw [hn]; exact if_pos h10
  ·show ((List.range J.length).map (simSt J o))[v]? = some (runLog n (simM J o v)).1
   rw [List.getElem?_map, List.getElem?_range hv]
   show some (simSt J o v) = _
   unfold simSt; rw [hn]
  ·show simH J o v = (runLog n (simM J o v)).2
   have h2 := allR_get data J hv
   rw [show J[v] = n from Option.some.inj ((List.getElem?_eq_getElem hv).symm.trans hn), ← ho] at h2
   unfold simH
   rw [hn, hM]
   show (if n.kind = 10 then [] else o[v]?.getD []) = _
   rw [if_neg h10, h2]
   unfold nodeR
   rw [if_neg h1]; rfl
  ·have hp2 : p ∈ logR n.from_ (o.take v) 0 := by rw [← hM]; exact hp
   have := log_tags _ _ _ p hp2
   omega
 ·obtain ⟨hju, hu⟩ := hin.lt hJ
  have hjl : j < J.length := by omega
  have hten := from_ten hJ hin (List.getElem?_eq_getElem hjl)
  obtain ⟨n, hn, hx⟩ := hin
  show byIn x (simM J o u) = simH J o j
  have hM : simM J o u = logR n.from_ (o.take u) 0 := by unfold simM; rw [hn]
  have hH : simH J o j = o[j]?.getD [] := by unfold simH; rw [List.getElem?_eq_getElem hjl]; exact if_neg hten
  rw [hM, hH, byIn_log, if_pos (Nat.zero_le _), Nat.sub_zero, hx]
  show (o.take u)[((j : Int)).toNat]?.getD [] = _
  rw [Int.toNat_natCast, List.getElem?_take, if_pos hju]
theorem sim_src {J : List Nod} (data : List (List Rec)) {v : Nat} {n : Nod} (hn : J[v]? = some n) (hk : n.kind = 1) : ∃ k : Nat, (ofKind J 1)[k]? = some (v : Int) ∧ (simR J (allR data J).outs).H v = data[k]?.getD [] := by
 have hv := (List.getElem?_eq_some_iff.1 hn).1
 refine ⟨_, of_at hn hk, ?_⟩
 show simH J _ v = _
 unfold simH
 rw [hn]
 show (if n.kind = 10 then [] else _) = _
 rw [if_neg (by omega), allR_get data J hv, show J[v] = n from Option.some.inj ((List.getElem?_eq_getElem hv).symm.trans hn)]
 unfold nodeR
 rw [if_pos hk]; rfl
theorem passR_small (r : Rec) : ∀ x ∈ passR r, x.key.size ≤ 40 := fun x hx => by
 unfold passR at hx
 split at hx
 ·cases hx
 ·rw [List.mem_singleton.1 hx]; omega
theorem applyN_small (n : Nod) (h : Hld) (has : Bool) (r : Rec) (input : Int) : OutIn (fun x => x.key.size ≤ 40) (applyN n h has r input) := by
 unfold applyN
 dsimp only
 split
 ·exact OutIn.ends (passR_small _)
 split
 ·refine OutIn.ends fun x hx => ?_
  split at hx
  ·cases hx
  ·exact passR_small _ x hx
 split
 ·exact OutIn.ends (passR_small _)
 split
 ·refine OutIn.ends fun x hx => ?_
  obtain ⟨l, h1, h2⟩ := List.mem_flatten.1 hx
  rw [List.eq_of_mem_replicate h1] at h2
  exact passR_small _ x h2
 split
 ·exact OutIn.ends (passR_small _)
 split
 ·exact OutIn.ends (passR_small _)
 split
 ·split
  ·exact OutIn.ends (passR_small _)
  ·exact OutIn.ends nofun
 split
 ·refine OutIn.ends fun x hx => ?_
  split at hx
  ·cases hx
  ·exact passR_small _ x hx
 ·exact OutIn.ends (passR_small _)
theorem run_small (n : Nod) (log : List (Nat × Rec)) : KeysOk (runLog n log).2 := by
 induction log using snoc_ind with
 | h0 => intro r hr; cases hr
 | h1 log p ih =>
  rw [runLog_snoc]
  intro r hr
  rcases List.mem_append.1 hr with hr | hr
  ·exact ih r hr
  ·exact applyN_small _ _ _ _ _ r hr
theorem data_keys : ∀ {data : List (List Rec)}, dataErr data = 0 → ∀ d ∈ data, KeysOk d
 | [], _, d, hd => by cases hd
 | x :: l, h, d, hd => by
  unfold dataErr at h
  split at h
  ·cases h
  ·split at h
   ·cases h
   ·rename_i h1 h2
    rcases List.mem_cons.1 hd with rfl | hd
    ·intro r hr
     have : recErr r = false := by
      cases e : recErr r with
      | false => rfl
      | true => exact absurd (List.any_eq_true.2 ⟨r, hr, e⟩) h2
     unfold recErr at this
     rw [Bool.or_eq_false_iff, Bool.or_eq_false_iff] at this
     have := of_decide_eq_false this.1.1
     omega
    ·exact data_keys h d hd
theorem data_lens : ∀ {data : List (List Rec)}, dataErr data = 0 → ∀ d ∈ data, d.length ≤ 300
 | [], _, d, hd => by cases hd
 | x :: l, h, d, hd => by
  unfold dataErr at h
  split at h
  ·cases h
  ·split at h
   ·cases h
   ·rename_i h1 h2
    rcases List.mem_cons.1 hd with rfl | hd
    ·omega
    ·exact data_lens h d hd
theorem nodeR_small (n : Nod) {data : List (List Rec)} (hd : dataErr data = 0) (k : Nat) (outs : List (List Rec)) : KeysOk (nodeR n (data[k]?.getD []) outs) := by
 unfold nodeR
 split
 ·cases e : data[k]? with
  | none => intro r hr; cases hr
  | some d => exact data_keys hd d (List.mem_of_getElem? e)
 ·exact run_small _ _
theorem allR_small {data : List (List Rec)} (hd : dataErr data = 0) (J : List Nod) : ∀ l ∈ (allR data J).outs, KeysOk l := fun l hl => by
 obtain ⟨i, hi⟩ := List.getElem?_of_mem hl
 have hlt : i < J.length := by rw [← allR_len data J]; exact (List.getElem?_eq_some_iff.1 hi).1
 rw [allR_get data J hlt] at hi
 injection hi with hi
 rw [← hi]
 exact nodeR_small _ hd _ _
theorem run_sink {n : Nod} (h10 : n.kind = 10) (d : List Rec) (h : KeysOk d) : (runLog n (logOf d)).2 = d := by
 have : ∀ d : List Rec, KeysOk d → runLog n (logOf d) = ([], d) := by
  intro d
  induction d using snoc_ind with
  | h0 => intro _; rfl
  | h1 d r ih =>
   intro h
   obtain ⟨ha, hb⟩ := h.snoc
   rw [logOf_snoc, runLog_snoc, ih ha]
   unfold stepLog
   have e : applyN n ((pget ([] : List (ByteArray × Hld)) r.key).getD zeroH) (pget ([] : List (ByteArray × Hld)) r.key).isSome r ((0 : Nat) : Int) = ⟨[r], zeroH, false⟩ := by
    have e0 : pget ([] : List (ByteArray × Hld)) r.key = none := rfl
    rw [e0]
    unfold applyN
    dsimp only
    rw [h10]
    simp only [show ¬ ((10 : Int) = 2) by decide, show ¬ ((10 : Int) = 3) by decide, show ¬ ((10 : Int) = 4) by decide, show ¬ ((10 : Int) = 5) by decide, show ¬ ((10 : Int) = 6) by decide, show ¬ ((10 : Int) = 7) by decide, show ¬ ((10 : Int) = 8) by decide, show ¬ ((10 : Int) = 9) by decide, if_false]
    unfold ends_
    rw [passR_one hb]; rfl
   simp only [e]
   rfl
 rw [this d h]
theorem all_same {J : List Nod} (hJ : jobErr J = 0) {data : List (List Rec)} (hl : data.length = (ofKind J 1).length) (hd : dataErr data = 0) :
  (AllOver J data → flowAll J data = none) ∧
  (¬ AllOver J data → ∃ f, flowAll J data = some f ∧ ∀ out, AllOf J f out → ∀ (i : Nat) (s : Int) (o : List Lin), (ofKind J 10)[i]? = some s → out[i]? = some o →
   ∃ l, (allR data J).outs[s.toNat]? = some l ∧ ∀ o', LinesGrp l o' → o = o') := by
 obtain ⟨S, h0, hA, hD⟩ := flow_hist hJ data hl
 have hA' := sim_right hJ data
 have hs : ∀ v n, J[v]? = some n → n.kind = 1 → S.H v = (simR J (allR data J).outs).H v := fun v n hn hk => by
  obtain ⟨k, h1, h2⟩ := sim_src data hn hk
  have hk2 : k < data.length := by rw [hl]; exact (List.getElem?_eq_some_iff.1 h1).1
  have h3 := hD k _ _ h1 (List.getElem?_eq_getElem hk2)
  rw [Int.toNat_natCast] at h3
  rw [h3, h2, List.getElem?_eq_getElem hk2]; rfl
 have g1 := grow_all hJ hA hA' fun v n hn hk => by rw [hs v n hn hk]; exact Pre.refl _
 have g2 := grow_all hJ hA' hA fun v n hn hk => by rw [hs v n hn hk]; exact Pre.refl _
 have hlen : ∀ v, v < J.length → (S.H v).length = ((simR J (allR data J).outs).H v).length := fun v hv => Nat.le_antisymm (g1 v hv).len (g2 v hv).len
 have hnum : ∀ v, v < J.length → ∀ k, recsAt k (S.H v) = recsAt k ((simR J (allR data J).outs).H v) := fun v hv k => (g1 v hv k).eq_of_length_le ((g2 v hv k).length_le)
 refine ⟨?_, fun hno => ?_⟩
 ·rintro ⟨i, n, l, hn, hi, h2, h10⟩
  have hv := (List.getElem?_eq_some_iff.1 hn).1
  rw [flow_cut hJ, ← h0]
  refine if_neg fun hok => ?_
  have h3 := hok.2 _ (List.mem_of_getElem? (hA.1.counts i hv))
  have h4 : (simR J (allR data J).outs).H i = l := by
   show simH J _ i = l
   unfold simH
   rw [hn]
   show (if n.kind = 10 then [] else _) = _
   rw [if_neg h10, hi]; rfl
  rw [hlen i hv, h4] at h3
  omega
 ·refine ⟨S.f, ?_, fun out ho i s o hsi hoi => ?_⟩
  ·rw [flow_cut hJ, ← h0]
   refine if_pos (flow_ok hA fun v hv => ?_)
   rw [hlen v hv]
   have hn := List.getElem?_eq_getElem hv
   show (simH J _ v).length ≤ 2000
   unfold simH
   rw [hn]
   show List.length (if J[v].kind = 10 then [] else _) ≤ 2000
   split
   ·exact Nat.zero_le _
   ·rename_i h10
    have hov : v < (allR data J).outs.length := by rw [allR_len]; exact hv
    rw [List.getElem?_eq_getElem hov]
    exact Nat.le_of_not_lt fun h => hno ⟨v, J[v], _, hn, List.getElem?_eq_getElem hov, h, h10⟩
  ·obtain ⟨u, n, rfl, hn, hk⟩ := kind_mem (List.mem_of_getElem? hsi)
   obtain ⟨p, hpu, hf⟩ := node_one hJ hn (by rw [hk]; decide) (by rw [hk]; decide)
   have hul := (List.getElem?_eq_some_iff.1 hn).1
   have hpl : p < J.length := by omega
   have k1 := ho.2 i _ o hsi hoi
   rw [Int.toNat_natCast] at k1
   rw [(sink_out hA hn hk hf).1] at k1
   have hten := from_ten hJ (show InFrom J u 0 p from ⟨n, hn, by rw [hf]; rfl⟩) (List.getElem?_eq_getElem hpl)
   have hop : p < (allR data J).outs.length := by rw [allR_len]; exact hpl
   have hHp : (simR J (allR data J).outs).H p = (allR data J).outs[p] := by
    show simH J _ p = _
    unfold simH
    rw [List.getElem?_eq_getElem hpl]
    show (if J[p].kind = 10 then [] else _) = _
    rw [if_neg hten, List.getElem?_eq_getElem hop]; rfl
   have h5 := allR_get data J hul
   rw [show J[u] = n from Option.some.inj ((List.getElem?_eq_getElem hul).symm.trans hn)] at h5
   unfold nodeR at h5
   rw [if_neg (by rw [hk]; decide), hf, log_one, List.getElem?_take, if_pos hpu, List.getElem?_eq_getElem hop, Option.getD_some, run_sink hk _ (allR_small hd J _ (List.getElem_mem hop))] at h5
   refine ⟨(allR data J).outs[p], by rw [Int.toNat_natCast]; exact h5, fun o' ho' => ?_⟩
   refine (lines_grp k1).same ho' fun k => ?_
   rw [numsAt_recs, numsAt_recs, hnum p hpl k, hHp]
end Go.Proofs.YtfndhfekbbbliaaGreatDoor

/-
  The states that the reference holds of a node, plain and in memory. No condition: definitions and lemmas.
-/
namespace Go.Proofs.YtfndhfekbbbliaaGreatDoor
open Go.RowKit Go.ChangeShapes Go.WideShapes
set_option linter.unusedVariables false
theorem evalOf_i64A {s : ByteArray} {n st : Int} (hn : I64_ n) (hs : I64_ st) : I64_ (evalOf s n st) := by
 unfold evalOf
 split
 ·rename_i t h
  exact val_bounds (fine_of h) hn hs
 ·exact ⟨by omega, by omega⟩
def hC (p : ByteArray × Hld) : List Value := [.int .i64 p.2.node, .string p.2.key, .int .i64 p.2.a, .int .i64 p.2.b]
theorem hC_len (m : List (ByteArray × Hld)) : (m.flatMap hC).length = m.length * 4 := by
 induction m with
 | nil => rfl
 | cons x m ih => rw [List.flatMap_cons, List.length_append, ih, List.length_cons]; show 4 + _ = _; omega
structure HeldOk (m : List (ByteArray × Hld)) : Prop where
 nd : (pkeys m).Nodup
 key : ∀ p ∈ m, p.2.key = p.1
 num : ∀ p ∈ m, I64_ p.2.a ∧ I64_ p.2.b
theorem HeldOk.nil : HeldOk [] := ⟨.nil, nofun, nofun⟩
theorem HeldOk.set {m : List (ByteArray × Hld)} (h : HeldOk m) {k : ByteArray} {v : Hld} (hk : v.key = k) (hv : I64_ v.a ∧ I64_ v.b) : HeldOk (pset m k v) :=
 ⟨pkeys_nodup h.nd k v, fun p hp => by
  rcases pset_mem hp with rfl | hp
  ·exact hk
  ·exact h.key p hp, fun p hp => by
  rcases pset_mem hp with rfl | hp
  ·exact hv
  ·exact h.num p hp⟩
theorem i64_z_ : I64_ 0 := ⟨by decide, by decide⟩
theorem begins_ok {h : Hld} {has : Bool} {r : Rec} (ha : I64_ h.a ∧ I64_ h.b) : (begins h has r).key = r.key ∧ I64_ (begins h has r).a ∧ I64_ (begins h has r).b := by
 unfold begins
 cases has with
 | true => exact ⟨rfl, ha⟩
 | false => exact ⟨rfl, i64_z_, i64_z_⟩
def HldFine (r : Rec) (d : Did) : Prop := I64_ d.held.a ∧ I64_ d.held.b ∧ (d.has = true → d.held.key = r.key)
theorem HldFine.ends {r : Rec} {out : List Rec} {h : Hld} {has : Bool} (hk : h.key = r.key) (ha : I64_ h.a) (hb : I64_ h.b) : HldFine r (ends_ out h has) := by
 unfold ends_
 cases has with
 | true => exact ⟨ha, hb, fun _ => hk⟩
 | false => exact ⟨i64_z_, i64_z_, fun e => by cases e⟩
theorem w64_ (n : Int) : I64_ (wrap64 n) := by
 unfold I64_ wrap64
 omega
theorem applyN_fine (n : Nod) (h : Hld) (has : Bool) (r : Rec) (input : Int) (ha : I64_ h.a ∧ I64_ h.b) (hn : I64_ r.num) : HldFine r (applyN n h has r input) := by
 obtain ⟨b1, b2, b3⟩ := begins_ok (h := h) (has := has) (r := r) ha
 have z0 : I64_ 0 := ⟨by decide, by decide⟩
 have z1 : I64_ 1 := ⟨by decide, by decide⟩
 unfold applyN
 dsimp only
 split
 ·exact HldFine.ends b1 b2 b3
 split
 ·exact HldFine.ends b1 b2 b3
 split
 ·exact HldFine.ends b1 b2 b3
 split
 ·exact HldFine.ends b1 b2 b3
 split
 ·exact HldFine.ends b1 b2 b3
 split
 ·exact HldFine.ends b1 (evalOf_i64A hn b2) b3
 split
 ·split
  ·exact HldFine.ends b1 z0 z0
  ·exact HldFine.ends b1 (w64_ _) (w64_ _)
 split
 ·exact HldFine.ends b1 z1 b3
 ·exact HldFine.ends b1 b2 b3
theorem getD_fine {m : List (ByteArray × Hld)} (h : HeldOk m) (k : ByteArray) : I64_ ((pget m k).getD zeroH).a ∧ I64_ ((pget m k).getD zeroH).b := by
 by_cases hk : k ∈ pkeys m
 ·obtain ⟨a, v, b, rfl, ha⟩ := split_pkey hk
  rw [pget_split ha]
  exact h.num (k, v) (by simp)
 ·rw [pget_none hk]
  exact ⟨i64_z_, i64_z_⟩
theorem run_held (n : Nod) (log : List (Nat × Rec)) : (∀ p ∈ log, I64_ p.2.num) → HeldOk (runLog n log).1 := by
 induction log using snoc_ind with
 | h0 => intro _; exact HeldOk.nil
 | h1 log p ih =>
  intro h
  have h1 := ih fun q hq => h q (List.mem_append.2 (.inl hq))
  have hp := h p (by simp)
  rw [runLog_snoc]
  unfold stepLog
  have hf := applyN_fine n ((pget (runLog n log).1 p.2.key).getD zeroH) (pget (runLog n log).1 p.2.key).isSome p.2 p.1 (getD_fine h1 p.2.key) hp
  dsimp only
  split
  ·rename_i h2
   exact h1.set (hf.2.2 h2) ⟨hf.1, hf.2.1⟩
  ·exact h1
def AtKey (m : List (ByteArray × Hld)) (k : ByteArray) (i : Int) : Prop := (i = -1 ∧ k ∉ pkeys m) ∨ ∃ a v b, m = a ++ (k, v) :: b ∧ k ∉ pkeys a ∧ i = (a.length : Int)
def AtKeyN (m : List (ByteArray × Hld)) (k : ByteArray) (j : Nat) (i : Int) : Prop := (i = -1 ∧ k ∉ pkeys (m.take j)) ∨ ∃ a v b, m = a ++ (k, v) :: b ∧ i = (a.length : Int)
theorem AtKeyN.zero (m : List (ByteArray × Hld)) (k : ByteArray) : AtKeyN m k 0 (-1) := .inl ⟨rfl, by simp [pkeys]⟩
theorem AtKeyN.hit {m : List (ByteArray × Hld)} {k : ByteArray} {j : Nat} (hj : j < m.length) (h : m[j].1 = k) : AtKeyN m k (j + 1) (j : Int) := by
 refine .inr ⟨m.take j, m[j].2, m.drop (j + 1), ?_, by rw [List.length_take]; omega⟩
 conv => lhs; rw [← List.take_append_drop j m, List.drop_eq_getElem_cons hj]
 rw [← h]
theorem AtKeyN.miss {m : List (ByteArray × Hld)} {k : ByteArray} {j : Nat} {i : Int} (h0 : AtKeyN m k j i) (hj : j < m.length) (h : m[j].1 ≠ k) : AtKeyN m k (j + 1) i := by
 rcases h0 with ⟨h1, h2⟩ | h1
 ·refine .inl ⟨h1, fun hm => ?_⟩
  rw [List.take_succ_eq_append_getElem hj] at hm
  unfold pkeys at hm h2
  rw [List.map_append, List.mem_append] at hm
  rcases hm with hm | hm
  ·exact h2 hm
  ·simp at hm; exact h hm.symm
 ·exact .inr h1
theorem AtKeyN.all {m : List (ByteArray × Hld)} {k : ByteArray} {j : Nat} {i : Int} (h0 : AtKeyN m k j i) (hj : m.length ≤ j) (hn : (pkeys m).Nodup) : AtKey m k i := by
 rcases h0 with ⟨h1, h2⟩ | ⟨a, v, b, e, h1⟩
 ·rw [List.take_of_length_le hj] at h2; exact .inl ⟨h1, h2⟩
 ·refine .inr ⟨a, v, b, e, fun hk => ?_, h1⟩
  rw [e] at hn
  unfold pkeys at hn hk
  rw [List.map_append, List.map_cons] at hn
  exact (List.nodup_append.1 hn).2.2 _ hk _ List.mem_cons_self rfl
theorem held_set (a b : List (ByteArray × Hld)) (k : ByteArray) (v u : Hld) : (((((a ++ (k, v) :: b).flatMap hC).set (a.length * 4) (.int .i64 u.node)).set (a.length * 4 + 1) (.string u.key)).set (a.length * 4 + 2) (.int .i64 u.a)).set (a.length * 4 + 3) (.int .i64 u.b) = (a ++ (k, u) :: b).flatMap hC := by
 rw [List.flatMap_append, List.flatMap_append]
 have hl := hC_len a
 rw [List.set_append_right _ _ (by omega), List.set_append_right _ _ (by omega), List.set_append_right _ _ (by omega), List.set_append_right _ _ (by omega), hl]
 simp only [Nat.sub_self, Nat.add_sub_cancel_left]
 rfl
end Go.Proofs.YtfndhfekbbbliaaGreatDoor

/-
  Nodes with the values of their inputs: so a node's cells are a function of it, and rows of nodes are appended. No condition: definitions and lemmas.
-/
namespace Go.Proofs.YtfndhfekbbbliaaGreatDoor
open Go.RowKit Go.ChangeShapes Go.WideShapes
set_option linter.unusedVariables false
end Go.Proofs.YtfndhfekbbbliaaGreatDoor

/-
  Lists of lists of records that grow, in memory: an outer row of one's own, and rows that nobody writes. No condition: definitions and lemmas.
-/
namespace Go.Proofs.YtfndhfekbbbliaaGreatDoor
open Go.RowKit Go.ChangeShapes Go.WideShapes Go.Shelf
set_option linter.unusedVariables false
abbrev RowR := List Rec × (Option Addr × Nat)
def rowRC (o : RowR) : List Value := [.slice o.2.1 o.1.length o.2.2]
structure RowsAt (B : Nat) (w : World) (v : Value) (no : Option Nat) (rows : List RowR) : Prop where
 own : w.ownsRow B 47 1 v rows.length (rows.flatMap rowRC)
 mem : ∀ o ∈ rows, SlA recE (fun q => q < w.heap.size ∧ v.ownBlock ≠ some q ∧ no ≠ some q) w o.2.1 o.2.2 o.1
theorem RowsAt.nil (B : Nat) (w : World) (no : Option Nat) : RowsAt B w (.slice none 0 0) no [] := ⟨World.ownsRow_nil _ _ _ _, nofun⟩
theorem RowsAt.push {B : Nat} {w w' : World} {v v' : Value} {no : Option Nat} {rows : List RowR} {o : RowR} (h : RowsAt B w v no rows) (hg : w.grownBy w' v.ownBlock) (hown : w'.ownsRow B 47 1 v' (rows.length + 1) (rows.flatMap rowRC ++ rowRC o))
  (hv : v'.ownBlock = v.ownBlock ∨ ∃ g, v'.ownBlock = some g ∧ w.heap.size ≤ g) (ho : SlA recE (fun q => q < w.heap.size ∧ v.ownBlock ≠ some q ∧ no ≠ some q) w o.2.1 o.2.2 o.1) : RowsAt B w' v' no (rows ++ [o]) := by
 refine ⟨by rw [List.length_append, List.flatMap_append]; simpa using hown, fun x hx => ?_⟩
 have hx2 : SlA recE (fun q => q < w.heap.size ∧ v.ownBlock ≠ some q ∧ no ≠ some q) w x.2.1 x.2.2 x.1 := by
  rcases List.mem_append.1 hx with hx | hx
  ·exact h.mem x hx
  ·rw [List.mem_singleton.1 hx]; exact ho
 refine (hx2.keep fun q hq => hg.block q hq.1 fun e => hq.2.1 e.symm).more fun q hq => ⟨Nat.lt_of_lt_of_le hq.1 hg.size, ?_, hq.2.2⟩
 intro e
 rcases hv with e2 | ⟨k, e2, hk⟩
 ·exact hq.2.1 (e2 ▸ e)
 ·rw [e2] at e; injection e with e; have := hq.1; omega
theorem RowsAt.below {B : Nat} {w w' : World} {v : Value} {r : Option Nat} {rows : List RowR} (h : RowsAt B w v r rows) (hb : Below w.heap.size w w') : RowsAt B w' v r rows :=
 ⟨ownsRow_keep h.own fun k hk => hb.block k (h.own.lt k hk).2, fun x hx => ((h.mem x hx).keep fun q hq => hb.block q hq.1).more fun q hq => ⟨Nat.lt_of_lt_of_le hq.1 hb.size, hq.2⟩⟩
theorem RowsAt.sl {B : Nat} {w : World} {v : Value} {r : Option Nat} {rows : List RowR} (h : RowsAt B w v r rows) : ∃ A c, v = .slice A rows.length c ∧ SlA (slE recE) (· < w.heap.size) w A c (rows.map (·.1)) := by
 obtain ⟨A, c, rfl, ho, _⟩ := OwnS.of_row h.own
 obtain ⟨h1, h2, h3, h4⟩ := ho
 refine ⟨A, c, rfl, by rw [List.length_map]; exact h2, h3, fun i x hx => ?_⟩
 rw [List.getElem?_map] at hx
 cases hi : rows[i]? with
 | none => rw [hi] at hx; cases hx
 | some o =>
  rw [hi] at hx
  injection hx with hx
  subst hx
  rcases h4 with ⟨rfl, h0⟩ | ⟨g, off, cur, rfl, hh, hc, hr⟩
  ·have := (List.getElem?_eq_some_iff.1 hi).1; omega
  ·refine ⟨g, off, rowRC o, rfl, block_lt hh, fun j u hj => ?_, _, rfl, o.2.1, o.2.2, rfl, (h.mem o (List.mem_of_getElem? hi)).more fun q hq => hq.1⟩
   have hj0 : j = 0 := by
    have := (List.getElem?_eq_some_iff.1 hj).1
    simp [rowRC] at this; exact this
   subst hj0
   rw [cell_of_row w g _ cur _ (0, 0) hh]
   have h5 := hr i u (by
    have h6 := flat_get rowRC 1 (fun _ => rfl) rows hi (j := 0) (by decide)
    rw [Nat.mul_one, Nat.add_zero] at h6
    rw [h6]; exact hj)
   simpa [slE] using h5
theorem recs_fine {F : Nat → Prop} {w : World} {A : Option Addr} {c : Nat} {l : List Rec} (h : SlA recE F w A c l) : ∀ r ∈ l, RecOk r := fun r hr => by
 obtain ⟨i, hi⟩ := List.getElem?_of_mem hr
 obtain ⟨_, _, _, _, _, _, _, h⟩ := h.2.2 i r hi
 exact h
end Go.Proofs.YtfndhfekbbbliaaGreatDoor

/-
  Rows of one's own: a cell of one is set; rows of two types lie apart. No condition: lemmas over any program.
-/
namespace Go.Proofs.YtfndhfekbbbliaaGreatDoor
open Go.RowKit Go.ChangeShapes Go.WideShapes
set_option linter.unusedVariables false
theorem OwnS.setAt {w : World} {e : TypeId} {size cap n g off : Nat} {xs : List Value} (h : OwnS w e size (some ⟨g, off, none⟩) cap n xs) {j : Nat} (hj : j < xs.length) (u : Value) : OwnS (w.setCell ⟨g, off + j, none⟩ u) e size (some ⟨g, off, none⟩) cap n (xs.set j u) := by
 obtain ⟨h1, h2, h3, h4⟩ := h
 refine ⟨by rw [List.length_set]; exact h1, h2, h3, ?_⟩
 rcases h4 with ⟨h4, _⟩ | ⟨g', off', cur, e1, hh, hc, hr⟩
 ·cases h4
 ·injection e1 with e1; injection e1 with e1 e2; subst e1; subst e2
  refine .inr ⟨g, off, cur.setIfInBounds (off + j) u, rfl, ?_, by simpa using hc, fun i x hi => ?_⟩
  ·simp [World.setCell, Array.getElem?_modify, hh]
  ·by_cases hij : j = i
   ·subst hij
    have hlt : off + j < cur.size := by
     have := Nat.mul_le_mul_right size h2
     omega
    rw [List.getElem?_set_self hj] at hi
    rw [Array.getElem?_setIfInBounds_self_of_lt hlt]
    exact hi
   ·rw [List.getElem?_set_ne hij] at hi
    rw [Array.getElem?_setIfInBounds_ne (by omega)]
    exact hr i x hi
theorem OwnS.block {w : World} {e : TypeId} {size cap n : Nat} {A : Option Addr} {xs : List Value} (h : OwnS w e size A cap n xs) {k : Nat} (hk : blk A = some k) : ∃ cur, w.heap[k]? = some (.cells cur e (0, 0)) := by
 obtain ⟨_, _, _, h4⟩ := h
 rcases h4 with ⟨rfl, _⟩ | ⟨g, off, cur, rfl, hh, _⟩
 ·cases hk
 ·injection hk with hk; subst hk; exact ⟨cur, hh⟩
theorem OwnS.apart {w : World} {e e' : TypeId} {size size' cap cap' n n' : Nat} {A A' : Option Addr} {xs xs' : List Value} (h : OwnS w e size A cap n xs) (h' : OwnS w e' size' A' cap' n' xs') (he : e ≠ e') : Sep A A' := fun k h1 h2 => by
 obtain ⟨c1, e1⟩ := h.block h1
 obtain ⟨c2, e2⟩ := h'.block h2
 rw [e1] at e2
 injection e2 with e2
 injection e2 with _ e3
 exact he e3
theorem str_neR {a b : ByteArray} (h : a ≠ b) : (a.toList == b.toList) = false := beq_eq_false_iff_ne.2 fun e => h (by
 rw [Lib.toList_data, Lib.toList_data] at e
 cases a; cases b
 congr 1
 exact Array.toList_inj.1 e)
end Go.Proofs.YtfndhfekbbbliaaGreatDoor

/-
  What the reference's All holds of one node, in memory: the records it hands on, its states. No condition: definitions and lemmas.
-/
namespace Go.Proofs.YtfndhfekbbbliaaGreatDoor
open Go.RowKit Go.ChangeShapes Go.WideShapes
set_option linter.unusedVariables false
theorem own_set {w : World} {base : Nat} {e : TypeId} {size n g off cap : Nat} {xs : List Value} (h : w.ownsRow base e size (.slice (some ⟨g, off, none⟩) n cap) n xs) {j p : Nat} (hj : j < xs.length) (hp : p = off + j) (u : Value) : (w.setCell ⟨g, p, none⟩ u).ownsRow base e size (.slice (some ⟨g, off, none⟩) n cap) n (xs.set j u) := by
 subst hp
 obtain ⟨h1, h2⟩ := h
 refine ⟨by rw [List.length_set]; exact h1, ?_⟩
 rcases h2 with ⟨h2, _⟩ | ⟨g', cap', cur, e1, hb, hh, hn, hc, hs, ht⟩
 ·cases h2
 ·injection e1 with e1 e2 e3
  injection e1 with e1
  injection e1 with e1 e4
  subst e1; subst e4; subst e3
  have hlt : j < n * size := by omega
  have hcs : n * size ≤ cur.size := by rw [hs]; exact Nat.mul_le_mul_right size hn
  refine .inr ⟨g, cap, cur.setIfInBounds j u, rfl, hb, ?_, hn, hc, by simpa using hs, ?_⟩
  ·rw [Nat.zero_add]
   simp [World.setCell, Array.getElem?_modify, hh]
  ·rw [Array.toList_setIfInBounds, List.take_set, ht]
theorem own_cells {w : World} {base : Nat} {e : TypeId} {size n : Nat} {A : Option Addr} {cap : Nat} {xs : List Value} (h : w.ownsRow base e size (.slice A n cap) n xs) (hn : 0 < n) (hs : 0 < size) : ∃ g off, A = some ⟨g, off, none⟩ ∧ base ≤ g ∧ g < w.heap.size ∧ n ≤ cap ∧ (∀ j u, xs[j]? = some u → w.cell? ⟨g, off + j, none⟩ = some u) ∧ ∀ j, w.frozen? ⟨g, j, none⟩ = false := by
 obtain ⟨A', cap', e1, ho, hb⟩ := OwnS.of_row h
 injection e1 with e1 e2 e3
 subst e1; subst e3
 obtain ⟨g, off, rfl, hg, hc⟩ := ho.head hn hs
 obtain ⟨cur, hcur⟩ := ho.block (k := g) rfl
 exact ⟨g, off, rfl, hb g rfl, hg, ho.2.1, hc, fun j => by simp [World.frozen?, hcur]⟩
theorem own_keep {w w' : World} {base : Nat} {e : TypeId} {size n : Nat} {v : Value} {xs : List Value} (h : w.ownsRow base e size v n xs) (hb : Below w.heap.size w w') : w'.ownsRow base e size v n xs :=
 ownsRow_keep h fun k hk => hb.block k (h.lt k hk).2
theorem own_apart {w : World} {base base' : Nat} {e e' : TypeId} {size size' n n' : Nat} {v v' : Value} {xs xs' : List Value} (h : w.ownsRow base e size v n xs) (h' : w.ownsRow base' e' size' v' n' xs') (he : e ≠ e') : ∀ k, v.ownBlock = some k → v'.ownBlock ≠ some k := fun k h1 h2 => by
 obtain ⟨A, c, rfl, ho, _⟩ := OwnS.of_row h
 obtain ⟨A', c', rfl, ho', _⟩ := OwnS.of_row h'
 have b1 : blk A = some k := by cases A <;> simp_all [Value.ownBlock, blk]
 have b2 : blk A' = some k := by cases A' <;> simp_all [Value.ownBlock, blk]
 exact ho.apart ho' he k b1 b2
theorem own_far {w : World} {base : Nat} {e : TypeId} {size n : Nat} {v : Value} {xs : List Value} (h : w.ownsRow base e size v n xs) {p : Addr} (hp : v.ownBlock ≠ some p.block) (u : Value) : (w.setCell p u).ownsRow base e size v n xs :=
 ownsRow_keep h fun k hk => Below.heap_setCell _ _ _ _ fun e => hp (by rw [hk, e])
theorem own_grown {w w' : World} {base : Nat} {e : TypeId} {size n : Nat} {v : Value} {xs : List Value} (h : w.ownsRow base e size v n xs) {row : Option Nat} (hg : w.grownBy w' row) (hne : ∀ k, v.ownBlock = some k → row ≠ some k) : w'.ownsRow base e size v n xs :=
 ownsRow_keep h fun k hk => hg.block k (h.lt k hk).2 fun e => hne k hk e.symm
structure InAt (B : Nat) (W1 wx : World) (n : Nod) (m0 : List Rec) (log : List (Nat × Rec)) (Am : Option Addr) (ml cm : Nat) (Ah : Option Addr) (hl ch : Nat) : Prop where
 mine : wx.ownsRow B 44 3 (.slice Am ml cm) ml ((m0 ++ (runLog n log).2).flatMap recCells)
 held : wx.ownsRow B 42 4 (.slice Ah hl ch) hl ((runLog n log).1.flatMap hC)
 mlen : ml = (m0 ++ (runLog n log).2).length
 hlen : hl = (runLog n log).1.length
 keep : Below B W1 wx
 recs : ∀ r ∈ m0 ++ (runLog n log).2, RecOk r
 log_ : ∀ p ∈ log, RecOk p.2
theorem InAt.below {B : Nat} {W1 wx wy : World} {n : Nod} {m0 : List Rec} {log : List (Nat × Rec)} {Am Ah : Option Addr} {ml cm hl ch : Nat} (h : InAt B W1 wx n m0 log Am ml cm Ah hl ch) (hB : B ≤ wx.heap.size) (hb : Below wx.heap.size wx wy) : InAt B W1 wy n m0 log Am ml cm Ah hl ch :=
 ⟨own_keep h.mine hb, own_keep h.held hb, h.mlen, h.hlen, h.keep.trans (hb.mono hB), h.recs, h.log_⟩
theorem i64__of {n : Int} (h : I64 n) : I64_ n := i64_of_wf h
theorem InAt.heldOk {B : Nat} {W1 wx : World} {n : Nod} {m0 : List Rec} {log : List (Nat × Rec)} {Am Ah : Option Addr} {ml cm hl ch : Nat} (h : InAt B W1 wx n m0 log Am ml cm Ah hl ch) : HeldOk (runLog n log).1 := run_held n log fun p hp => i64__of (h.log_ p hp).2.1
theorem run_keys_len (n : Nod) (log : List (Nat × Rec)) : (runLog n log).1.length ≤ log.length := by
 induction log using snoc_ind with
 | h0 => exact Nat.le_refl _
 | h1 log p ih =>
  rw [runLog_snoc, List.length_append, List.length_singleton]
  unfold stepLog
  dsimp only
  split
  ·exact Nat.le_trans (pset_len _ _ _) (by omega)
  ·omega
theorem logR_app (a b : List Int) (outs : List (List Rec)) : ∀ k, logR (a ++ b) outs k = logR a outs k ++ logR b outs (k + a.length) := by
 intro k
 unfold logR
 rw [List.zipIdx_append, List.flatMap_append]
theorem logR_next (fr : List Int) (outs : List (List Rec)) {k : Nat} (hk : k < fr.length) : logR (fr.take (k + 1)) outs 0 = logR (fr.take k) outs 0 ++ (outs[fr[k].toNat]?.getD []).map fun r => (k, r) := by
 rw [List.take_succ_eq_append_getElem hk, logR_app]
 have : 0 + (fr.take k).length = k := by rw [List.length_take]; omega
 rw [this]
 unfold logR
 simp
theorem logR_rest (fr : List Int) (outs : List (List Rec)) (k : Nat) : ∃ t, logR fr outs 0 = logR (fr.take k) outs 0 ++ t := by
 refine ⟨logR (fr.drop k) outs (0 + (fr.take k).length), ?_⟩
 rw [← logR_app, List.take_append_drop]
def NoOver (J : List Nod) (outs : List (List Rec)) (i : Nat) : Prop := ∀ (j : Nat) (n : Nod) (l : List Rec), j < i → J[j]? = some n → outs[j]? = some l → n.kind ≠ 10 → l.length ≤ 2000
def RAllPost (J : List Nod) (data : List (List Rec)) (w : World) (e : Ending) (w' : World) : Prop :=
 (denErr J data ≠ 0 → e = .returned (.tuple #[.slice none 0 0, .int .i64 (denErr J data)])) ∧
 (denErr J data = 0 → AllOver J data → e = .returned (.tuple #[.slice none 0 0, .int .i64 4])) ∧
 (denErr J data = 0 → ¬ AllOver J data → ∃ A c, e = .returned (.tuple #[.slice A J.length c, .int .i64 0]) ∧ SlA (slE recE) (· < w'.heap.size) w' A c (allR data J).outs) ∧ Below w.heap.size w w'
def didOf (n : Nod) (log : List (Nat × Rec)) (k : Nat) (r : Rec) : Did := applyN n ((pget (runLog n log).1 r.key).getD zeroH) (pget (runLog n log).1 r.key).isSome r (k : Int)
theorem run_did (n : Nod) (log : List (Nat × Rec)) (k : Nat) (r : Rec) : (runLog n (log ++ [(k, r)])).1 = (if (didOf n log k r).has then pset (runLog n log).1 r.key (didOf n log k r).held else (runLog n log).1) ∧ (runLog n (log ++ [(k, r)])).2 = (runLog n log).2 ++ (didOf n log k r).out := by
 rw [runLog_snoc]; exact ⟨rfl, rfl⟩
theorem node_range' {l : List Nod} {i : Nat} {n : Nod} (h : nodeErr l i n = 0) : n.kind = 5 → 0 ≤ n.n ∧ n.n ≤ 3 := by
 intro h5
 unfold nodeErr at h
 split at h
 ·cases h
 ·split at h
  ·cases h
  ·split at h
   ·rename_i h3; exact absurd h h3
   ·split at h
    ·cases h
    ·split at h
     ·cases h
     ·rename_i h6
      rw [h5] at h6
      have e1 : numLow 5 = 0 := rfl
      have e2 : numHigh 5 = 3 := rfl
      rw [e1, e2] at h6
      omega
end Go.Proofs.YtfndhfekbbbliaaGreatDoor
