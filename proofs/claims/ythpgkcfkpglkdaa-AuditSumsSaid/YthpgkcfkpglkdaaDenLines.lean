/-
  Package den: the contract of Lines. Condition: fewer than 10^9 keys.
-/
import Derived.Test.YthpgkcfkpglkdaaRowI
import Derived.Test.YthpgkcfkpglkdaaSort
import Derived.Test.YthpgkcfkpglkdaaLays
import Derived.Test.YthpgkcfkpglkdaaForest
import Derived.Outline
namespace Go.Proofs.Ythpgkcfkpglkdaa
open Go.RowKit
open Go.Sort hiding Below
set_option linter.unusedVariables false

abbrev LineR := ByteArray × RowI
instance : Inhabited RowI := ⟨noRow⟩
def lineCells (p : LineR) : List Value := [.string p.1, .slice p.2.A p.2.xs.length p.2.cap]
def lineCf (p q : LineR) : Int := if ltStr p.1.data.toList q.1.data.toList then -1 else 1
set_option maxRecDepth 100000 in
theorem lineCmp : CmpOk Try.prog 24 lineCells lineCf := by
  intro x y W
  obtain ⟨xk, xA, xc, xs⟩ := x
  obtain ⟨yk, yA, yc, ys⟩ := y
  show Calls _ _ #[.agg #[.string xk, .slice xA xs.length xc], .agg #[.string yk, .slice yA ys.length yc]] W fun e w' => e = .returned (.int .i64 (if ltStr xk.data.toList yk.data.toList then -1 else 1)) ∧ _
  have hlt : Op.bytesLess xk.toList yk.toList = ltStr xk.data.toList yk.data.toList := by rw [bytesLess_eq, Lib.toList_data, Lib.toList_data]; rfl
  cases hb : ltStr xk.data.toList yk.data.toList with
  | true =>
    rw [hb] at hlt
    clear hb
    go_enter Try.func24, Try.ntmps24
    go_wp2_with fail
    go_ret
    exact ⟨rfl, ((Below.refl _ _).alloc (Nat.le_refl _) _).alloc (by simp) _, Nat.le_refl _⟩
  | false =>
    rw [hb] at hlt
    clear hb
    go_enter Try.func24, Try.ntmps24
    go_wp2_with fail
    go_ret
    exact ⟨rfl, ((Below.refl _ _).alloc (Nat.le_refl _) _).alloc (by simp) _, Nat.le_refl _⟩
theorem lineLt (p q : LineR) : ltOf lineCf p q = ltStr p.1.data.toList q.1.data.toList := by
  unfold ltOf lineCf
  cases ltStr p.1.data.toList q.1.data.toList <;> rfl
theorem lineSwo : SWO (ltOf lineCf) where
  irrefl x := by rw [lineLt]; exact swo_ltStr.irrefl _
  trans x y z h1 h2 := by rw [lineLt] at *; exact swo_ltStr.trans _ _ _ h1 h2
  ntrans x y z h1 h2 := by rw [lineLt] at *; exact swo_ltStr.ntrans _ _ _ h1 h2
def linC : Elt LineR where
  sz := 2
  bulk := fun _ => 0
  R := fun _ _ cs r => cs = lineCells r
  len := fun _ _ _ _ h => by rw [h]; rfl
  keep := fun _ _ _ _ _ h _ => h
  more := fun _ _ _ _ _ h _ => h
theorem info_line : (Try.prog.info? 29).map (fun i => (i.zero, i.size, i.bytes)) = some (some (.agg #[.string ByteArray.empty, .slice none 0 0]), 2, 40) := by kernel_rfl
theorem range_ne_own {isK : Value → Prop} {w : World} {b r : Nat} {m todo : List (Value × Value)} {e : TypeId} {size cap n : Nat} {A : Option Addr} {xs : List Value} (h : RangeAt isK w b r m todo) (ho : OwnS w e size A cap n xs) : blk A ≠ some r ∧ blk A ≠ some b := by
  obtain ⟨es, clock, since, seen, c0, hb, _, _, _, hr, _⟩ := h
  rcases ho.2.2.2 with ⟨rfl, _⟩ | ⟨g, off, cur, rfl, hh, _⟩
  · exact ⟨by simp [blk], by simp [blk]⟩
  · refine ⟨fun e => ?_, fun e => ?_⟩
    · injection e with e; subst e; rw [hh] at hr; cases hr
    · injection e with e; subst e; rw [hh] at hb; cases hb
def lpv (p : LineR) : Value × Value := fv (lp p)
def LinesPost (w : World) (ps : List LineR) (e : Ending) (w' : World) : Prop := ∃ A' c' q, e = .returned (.slice A' (List.length q) c') ∧ q.Perm ps ∧ q.Pairwise (fun a b => kLess a.1 b.1) ∧ SlA linC (fun k => w.heap.size ≤ k ∧ k < w'.heap.size) w' A' c' q ∧ Below w.heap.size w w'
theorem strict_of {q : List LineR} (hn : (pkeys q).Nodup) (h : q.Pairwise fun a b => ltOf lineCf b a = false) : q.Pairwise fun a b => kLess a.1 b.1 := by
  unfold pkeys at hn
  rw [List.Nodup, List.pairwise_map] at hn
  refine (h.and hn).imp fun {a b} hab => ?_
  obtain ⟨h1, h2⟩ := hab
  rw [lineLt] at h1
  simp only [ltStr, decide_eq_false_iff_not, List.not_lt] at h1
  unfold kLess
  rcases Decidable.em (a.1.data.toList < b.1.data.toList) with h3 | h3
  · exact h3
  · have h4 := List.le_antisymm h1 (List.not_lt.1 h3)
    exact absurd (by
      cases ha : a.1; cases hb : b.1
      rw [ha, hb] at h4
      congr 1
      exact Array.toList_inj.1 h4) h2
set_option maxRecDepth 100000 in
set_option maxHeartbeats 2000000 in
theorem lines_any (b : Nat) (ps : List LineR) (w : World) (h : SMapAt w b (ps.map lp)) (hn : ps.length ≤ 1000000000) :
    Calls Try.prog 13 #[.map (some b)] w (LinesPost w ps) := by
  have hmap : MapAt IsStrK w b (ps.map lpv) := by unfold SMapAt at h; rw [List.map_map] at h; exact h
  have HND : Hid ((pkeys ps).Nodup) := by
    have := h.nodup
    unfold skeys at this
    rw [List.map_map] at this
    exact this
  have HM := Lib.hid hmap
  have hbl := h.lt
  clear h hmap
  go_enter Try.func13, Try.ntmps13
  go_wp2_with (at_range; refine wpList_range_M _ rfl _ 40 rfl 9 27 IsStrK Try.underlying40 b _ rfl HM.out ?_)
  intro w1 hrg hg1 hz1
  have HR := Lib.hid hrg
  have HB := Lib.hid (show Below w.heap.size w w1 from ⟨hg1.os, hg1.tape, hg1.output, hg1.size, fun k hk => hg1.block k hk (by simp)⟩)
  clear hrg hg1 hz1 HM
  go_wp2_with fail
  try go_frame
  go_loopg [3] (ps.length) (fun gk ov wr => ∃ (ds ts : List LineR) (A : Option Addr) (cap : Nat), gk = ts.length ∧ ds.length + ts.length = ps.length ∧ Hid ((ds ++ ts).Perm ps) ∧ ov = .slice A ds.length cap ∧ Hid (RangeAt IsStrK wr b w.heap.size (ps.map lpv) (ts.map lpv)) ∧
    Hid (OwnS wr 29 2 A cap ds.length (ds.flatMap lineCells)) ∧ Hid (∀ k, blk A = some k → w.heap.size ≤ k) ∧ Hid (Below w.heap.size w wr))
  case atStart => exact ⟨[], ps, none, 0, rfl, by simp, List.Perm.refl _, rfl, HR, OwnS.nil _ _ _, (by intro k e; cases e), HB⟩
  case round =>
    clear HR HB
    obtain ⟨ds, ts, A, cap, hgk, hlen, HP, rfl, HR, HW, HA, HB⟩ := hrel
    have HGK := Lib.hid hgk
    clear hgk
    go_wp2_with (at_next; refine wpList_next_M _ rfl _ rfl IsStrK b w.heap.size _ _ rfl HR.out ?_ ?_)
    · intro h0
      have hts : ts = [] := by simpa using h0
      subst hts
      have hdl : ds.length = ps.length := by simpa using hlen
      have HPD : Hid (ds.Perm ps) := by have := HP.out; rwa [List.append_nil] at this
      have hcon := sort_any Try.sort_Line 2 (by decide) Try.isAgg29 Try.sizeOf29 lineCells (fun _ => rfl) (fun x v hv => by simp [lineCells] at hv; rcases hv with rfl | rfl <;> rfl) lineCf lineSwo 24
        (enters_of Try.func24 (by kernel_rfl) rfl) lineCmp 29 A cap ds wr HW.out (by omega)
      change Calls Try.prog 23 _ _ _ at hcon
      have HCON := Lib.hid hcon
      clear h0 hdl hcon hlen
      go_wp2_with fail
      refine HCON.out.mono ?_
      rintro e w3 ⟨rfl, q, hq1, hq2, hq3, hq4⟩
      have HQ1 := Lib.hid hq1
      have HQ2 := Lib.hid hq2
      have HQ3 := Lib.hid hq3
      have HQ4 := Lib.hid hq4
      clear hq1 hq2 hq3 hq4 HCON
      go_wp2_with fail
      go_ret
      have hql : ds.length = q.length := HQ1.out.length_eq.symm
      have hqp := HQ1.out.trans HPD.out
      refine ⟨A, cap, q, by rw [← hql]; rfl, hqp, strict_of ((hqp.map (fun p : LineR => p.1)).nodup_iff.2 (show (List.map (fun p : LineR => p.1) ps).Nodup from HND.out)) HQ2.out, ?_, ?_⟩
      · have ho := HQ3.out
        exact OwnS.sl (E := linC) lineCells (fun _ => rfl) ho hql (fun k e => ⟨HA.out k e, ho.lt k e⟩) (fun x _ => rfl)
      · exact HB.out.grown HQ4.out (by have := HB.out.size; omega) HA.out
    · intro t1 t2 key v w2 htodo hrg2 hg2 hz2 hen
      obtain ⟨s1, s2, hs, hs1, hs2⟩ := List.map_eq_append_iff.1 htodo
      obtain ⟨x, s3, hs', hx, hs3⟩ := List.map_eq_cons_iff.1 hs2
      subst hs'
      subst hs
      obtain ⟨pk, pA, pc, px⟩ := x
      have hkey : key = .string pk := by have := congrArg Prod.fst hx; exact this.symm
      have hval : v = .slice pA px.length pc := by have := congrArg Prod.snd hx; exact this.symm
      subst hkey
      subst hval
      have hne := range_ne_own HR.out HW.out
      have hW2 : OwnS w2 29 2 A cap ds.length (ds.flatMap lineCells) := HW.out.grown hg2 (fun k e e2 => hne.1 (e2 ▸ e))
      have hB2 : Below w.heap.size w w2 := HB.out.grown hg2 (by have := HB.out.size; omega) (fun k e => by injection e with e; omega)
      have HW2 := Lib.hid hW2
      have HB2 := Lib.hid hB2
      have hR2 : RangeAt IsStrK w2 b w.heap.size (ps.map lpv) ((s1 ++ s3).map lpv) := by rw [List.map_append, hs1, hs3]; exact hrg2
      have HR2 := Lib.hid hR2
      have hne2 := range_ne_own hR2 hW2
      have hlen1 : ds.length + (s1.length + (s3.length + 1)) = ps.length := by simpa using hlen
      have HNE := Lib.hid hne2
      have hP2 : ((ds ++ [((pk, ⟨pA, pc, px⟩) : LineR)]) ++ (s1 ++ s3)).Perm ps := by
        refine List.Perm.trans ?_ HP.out
        rw [List.append_assoc]
        refine List.Perm.append_left ds ?_
        simpa using (List.perm_middle (l₁ := s1) (a := ((pk, ⟨pA, pc, px⟩) : LineR)) (l₂ := s3)).symm
      have HP2 := Lib.hid hP2
      clear htodo hrg2 hg2 hz2 hs1 hs2 hs3 hx hne hW2 hB2 hR2 hne2 hlen hP2 HP HR HW HB
      go_wp2_with (at_builtin; refine wpList_push_S (w0 := w2) rfl (.tmp 13) (.tmp 17) 22 rfl 29 _ 2 40 Try.underlying22 info_line rfl (by decide) A cap ds.length _ rfl HW2.out (lineCells (pk, ⟨pA, pc, px⟩)) rfl rfl (by simp [lineCells, Value.oneCell']) (by unfold maxLen; omega) (by omega) ?_)
      intro A' cap' w3 hown hg hat
      have hR3 := HR2.out.keep (hg.block b HR2.out.map.lt (fun e => HNE.out.2 e.symm)) (hg.block _ HR2.out.lt (fun e => HNE.out.1 e.symm))
      have hB3 := HB2.out.grown hg (by have := HB2.out.size; omega) HA.out
      have hA3 : ∀ k, blk A' = some k → w.heap.size ≤ k := fun k e => by
        rcases hat with h1 | ⟨j, h1, h2⟩
        · exact HA.out k (h1 ▸ e)
        · rw [h1] at e; injection e with e; subst e; exact Nat.le_trans HB2.out.size h2
      have HR3 := Lib.hid hR3
      have HB3 := Lib.hid hB3
      have HA3 := Lib.hid hA3
      have HW3 : Hid (OwnS w3 29 2 A' cap' (ds ++ [((pk, ⟨pA, pc, px⟩) : LineR)]).length ((ds ++ [((pk, ⟨pA, pc, px⟩) : LineR)]).flatMap lineCells)) := by
        show OwnS _ _ _ _ _ _ _
        simpa [List.flatMap_append] using hown
      clear hown hg hat hR3 hB3 hA3 HW2 HB2 HR2 HA hen
      go_wp2_with fail
      go_roundg ((s1 ++ s3).length)
      case measure => have := HGK.out; simp at this ⊢; omega
      case rel => exact ⟨ds ++ [((pk, ⟨pA, pc, px⟩) : LineR)], s1 ++ s3, A', cap', rfl, by simp; omega, HP2, by simp, HR3, HW3, HA3, HB3⟩
end Go.Proofs.Ythpgkcfkpglkdaa
