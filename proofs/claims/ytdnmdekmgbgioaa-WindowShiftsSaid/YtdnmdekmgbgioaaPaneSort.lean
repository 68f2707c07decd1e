/-
  Contracts of window's comparison of two panes and of 'sorted'. Condition: fewer than 10^9 panes.
-/
import Derived.Test.YtdnmdekmgbgioaaPanes
import Derived.Test.YtdnmdekmgbgioaaSort
import Derived.Test.YtdnmdekmgbgioaaPaneKey
import Derived.Test.YtdnmdekmgbgioaaLays
import Derived.Test.YtdnmdekmgbgioaaForest
import Derived.Deep.RegionHeld3
import Derived.Outline
namespace Go.Proofs.Ytdnmdekmgbgioaa
open Go.RowKit
open Go.Sort hiding Below
set_option linter.unusedVariables false

def paneCells (p : Pane) : List Value := [.string p.key, .int .i64 p.from_, .int .i64 p.to, .int .i64 p.many, .int .i64 p.sum, .int .i64 p.late]
def paneCf (p q : Pane) : Int := orI (cmpS p.key q.key) (cmpI p.from_ q.from_)

theorem cell_drew_new (w : World) (cs : Array Value) (t : TypeId) (j n : Nat) (h : w.heap.size = n) : (w.alloc (.cells cs t)).drew.cell? ⟨n, j, none⟩ = cs[j]? := by
  subst h; exact cell_of_row _ _ j cs t (0, 0) (heap_alloc_new w _)
theorem drewN_drawn (w : World) (q : Nat) : (w.drewN q).drawn = w.drawn + q := rfl
set_option maxRecDepth 100000 in
set_option maxHeartbeats 2000000 in
theorem paneCmp : CmpOk Try.prog 49 paneCells paneCf := by
  intro x y W
  obtain ⟨xk, xf, xt, xm, xs, xl⟩ := x
  obtain ⟨yk, yf, yt, ym, ys, yl⟩ := y
  show Calls _ _ #[.agg #[.string xk, .int .i64 xf, .int .i64 xt, .int .i64 xm, .int .i64 xs, .int .i64 xl], .agg #[.string yk, .int .i64 yf, .int .i64 yt, .int .i64 ym, .int .i64 ys, .int .i64 yl]] W _
  unfold paneCf
  obtain ⟨a, ha⟩ : ∃ a, a = cmpS xk yk := ⟨_, rfl⟩
  obtain ⟨b, hb⟩ : ∃ b, b = cmpI xf yf := ⟨_, rfl⟩
  show Calls _ _ _ W fun e w' => e = .returned (.int .i64 (orI (cmpS xk yk) (cmpI xf yf))) ∧ _
  have c1 : ∀ w, Calls Try.prog 51 #[.string xk, .string yk] w fun e w' => e = .returned (.int .i64 a) ∧ w = w' := fun w => by rw [ha]; exact compare_str xk yk w
  have c2 : ∀ w, Calls Try.prog 52 #[.int .i64 xf, .int .i64 yf] w fun e w' => e = .returned (.int .i64 b) ∧ w = w' := fun w => by rw [hb]; exact compare_int xf yf w
  rw [← ha, ← hb]
  have C1 := Lib.hid c1
  have C2 := Lib.hid c2
  clear ha hb c1 c2
  go_enter Try.func49, Try.ntmps49
  go_wp2_with fail
  go_region_held3 (fun w' => w'.cell? ⟨W.heap.size, 0, none⟩ = some (.string xk) ∧ w'.cell? ⟨W.heap.size, 1, none⟩ = some (.int .i64 xf) ∧ w'.cell? ⟨W.heap.size + 1, 0, none⟩ = some (.string yk) ∧ w'.cell? ⟨W.heap.size + 1, 1, none⟩ = some (.int .i64 yf)) (go_keep)
    (first | (go_at_call 51; refine (C1.out _).mono ?_; rintro e w' ⟨rfl, rfl⟩) | (go_at_call 52; refine (C2.out _).mono ?_; rintro e w' ⟨rfl, rfl⟩) | (go_at_call 50; refine (or_two _ a b _ ?_ ?_).mono ?_; (exact (cell_drew_new _ _ _ 0 _ (by simp)).trans rfl); (exact (cell_drew_new _ _ _ 1 _ (by simp)).trans rfl); rintro e w' ⟨rfl, rfl⟩))
  all_goals
    go_wp2_with fail
    go_ret
    exact ⟨rfl, ((((Below.refl _ _).alloc (Nat.le_refl _) _).alloc (by simp) _).alloc (by simp <;> omega) _).drew, by show W.drawn ≤ W.drawn + 1; omega⟩

/-! ### The map of panes -/
def panE : Elt Pane where
  sz := 6
  bulk := fun r => r.key.size + 7
  R := fun _ _ cs r => cs = paneCells r
  len := fun _ _ _ _ h => by rw [h]; rfl
  keep := fun _ _ _ _ _ h _ => h
  more := fun _ _ _ _ _ h _ => h
def pk (x : Pane × Nat) : Value × Value := (paneV x.1.key x.1.from_ x.1.to, .pointer (some ⟨x.2, 0, none⟩))
def paneObj (p : Pane) : Obj := .cells #[.string p.key, .int .i64 p.from_, .int .i64 p.to, .int .i64 p.many, .int .i64 p.sum, .int .i64 p.late] 31 (0, 0)
structure PanesAt (w : World) (b : Nat) (ps : List (Pane × Nat)) : Prop where
  map : MapAt IsPaneK w b (ps.map pk)
  obj : ∀ x ∈ ps, w.heap[x.2]? = some (paneObj x.1)
  nd : (ps.map (·.2)).Nodup
theorem info_pane : (Try.prog.info? 31).map (fun i => (i.zero, i.size, i.bytes)) = some (some (.agg #[.string ByteArray.empty, .int .i64 0, .int .i64 0, .int .i64 0, .int .i64 0, .int .i64 0]), 6, 56) := by kernel_rfl
theorem range_ne_own {isK : Value → Prop} {w : World} {b r : Nat} {m todo : List (Value × Value)} {e : TypeId} {size cap n : Nat} {A : Option Addr} {xs : List Value} (h : RangeAt isK w b r m todo) (ho : OwnS w e size A cap n xs) : blk A ≠ some r ∧ blk A ≠ some b := by
  obtain ⟨es, clock, since, seen, c0, hb, _, _, _, hr, _⟩ := h
  rcases ho.2.2.2 with ⟨rfl, _⟩ | ⟨g, off, cur, rfl, hh, _⟩
  · exact ⟨by simp [blk], by simp [blk]⟩
  · refine ⟨fun e => ?_, fun e => ?_⟩
    · injection e with e; subst e; rw [hh] at hr; cases hr
    · injection e with e; subst e; rw [hh] at hb; cases hb
def SortedPost (w : World) (ps : List (Pane × Nat)) (e : Ending) (w' : World) : Prop := ∃ A' c' q, e = .returned (.slice A' (List.length q) c') ∧ q.Perm (ps.map (·.1)) ∧ q.Pairwise (fun a b => ltOf paneCf b a = false) ∧ SlA panE (· < w'.heap.size) w' A' c' q ∧ Below w.heap.size w w'
theorem paneSwo : SWO (ltOf paneCf) := by
  have key : ∀ p q : Pane, ltOf paneCf p q = (ltStr p.key.data.toList q.key.data.toList || (decide (p.key = q.key) && decide (p.from_ < q.from_))) := by
    intro p q
    unfold ltOf paneCf cmpS cmpI orI
    cases h1 : ltStr p.key.data.toList q.key.data.toList with
    | true => simp
    | false =>
      cases h2 : ltStr q.key.data.toList p.key.data.toList with
      | true =>
        have hne : p.key ≠ q.key := fun e => by rw [e, swo_ltStr.irrefl] at h2; cases h2
        simp [hne]
      | false =>
        have he : p.key = q.key := by
          simp only [ltStr, decide_eq_false_iff_not, List.not_lt] at h1 h2
          have := List.le_antisymm h2 h1
          cases hp : p.key; cases hq : q.key
          rw [hp, hq] at this
          congr 1
          exact Array.toList_inj.1 this
        simp only [he, decide_true, Bool.true_and, Bool.false_or]
        by_cases h3 : p.from_ < q.from_
        · simp [h3]
        · by_cases h4 : q.from_ < p.from_ <;> simp [h3, h4]
  refine ⟨fun x => ?_, fun x y z h1 h2 => ?_, fun x y z h1 h2 => ?_⟩
  · rw [key, swo_ltStr.irrefl]; simp
  · rw [key] at *
    simp only [Bool.or_eq_true, Bool.and_eq_true, decide_eq_true_eq] at *
    rcases h1 with h1 | ⟨h1, h1'⟩ <;> rcases h2 with h2 | ⟨h2, h2'⟩
    · exact .inl (swo_ltStr.trans _ _ _ h1 h2)
    · rw [← h2]; exact .inl h1
    · rw [h1]; exact .inl h2
    · exact .inr ⟨h1.trans h2, by omega⟩
  · rw [key] at *
    simp only [Bool.or_eq_false_iff] at *
    refine ⟨swo_ltStr.ntrans _ _ _ h1.1 h2.1, ?_⟩
    by_cases e : x.key = z.key
    · have hy : ltStr y.key.data.toList x.key.data.toList = false := by rw [e]; exact h2.1
      have hxy : x.key = y.key := by
        have a := h1.1
        simp only [ltStr, decide_eq_false_iff_not, List.not_lt] at a hy
        have := List.le_antisymm hy a
        cases hp : x.key; cases hq : y.key
        rw [hp, hq] at this
        congr 1
        exact Array.toList_inj.1 this
      have hyz : y.key = z.key := hxy.symm.trans e
      have a := h1.2
      have b := h2.2
      simp only [hxy, hyz, decide_true, Bool.true_and, decide_eq_false_iff_not] at a b ⊢
      omega
    · simp [e]

set_option maxRecDepth 100000 in
set_option maxHeartbeats 2000000 in
theorem sorted_any (b : Nat) (ps : List (Pane × Nat)) (w : World) (h : PanesAt w b ps) (hn : ps.length ≤ 1000000000) :
    Calls Try.prog 27 #[.map (some b)] w (SortedPost w ps) := by
  have HM := Lib.hid h.map
  have HO := Lib.hid h.obj
  have hbl := h.map.lt
  have hlt : ∀ x ∈ ps, x.2 < w.heap.size := fun x hx => block_lt (h.obj x hx)
  have HL := Lib.hid hlt
  clear h hlt
  go_enter Try.func27, Try.ntmps27
  go_wp2_with (at_range; refine wpList_range_M _ rfl _ 74 rfl 31 75 IsPaneK Try.underlying74 b _ rfl HM.out ?_)
  intro w1 hrg hg1 hz1
  have HR := Lib.hid hrg
  have HB := Lib.hid (show Below w.heap.size w w1 from ⟨hg1.os, hg1.tape, hg1.output, hg1.size, fun k hk => hg1.block k hk (by simp)⟩)
  clear hrg hg1 hz1 HM
  go_wp2_with fail
  try go_frame
  go_loopg [3] (ps.length) (fun gk ov wr => ∃ (ds ts : List (Pane × Nat)) (A : Option Addr) (cap : Nat), gk = ts.length ∧ ds.length + ts.length = ps.length ∧ Hid ((ds ++ ts).Perm ps) ∧ ov = .slice A ds.length cap ∧ Hid (RangeAt IsPaneK wr b w.heap.size (ps.map pk) (ts.map pk)) ∧
    Hid (OwnS wr 31 6 A cap ds.length ((ds.map (·.1)).flatMap paneCells)) ∧ Hid (∀ k, blk A = some k → w.heap.size ≤ k) ∧ Hid (Below w.heap.size w wr))
  case atStart => exact ⟨[], ps, none, 0, rfl, by simp, List.Perm.refl _, rfl, HR, OwnS.nil _ _ _, (by intro k e; cases e), HB⟩
  case round =>
    clear HR HB
    obtain ⟨ds, ts, A, cap, hgk, hlen, HP, rfl, HR, HW, HA, HB⟩ := hrel
    have HGK := Lib.hid hgk
    clear hgk
    go_wp2_with (at_next; refine wpList_next_M _ rfl _ rfl IsPaneK b w.heap.size _ _ rfl HR.out ?_ ?_)
    · intro h0
      have hts : ts = [] := by simpa using h0
      subst hts
      have hdl : ds.length = ps.length := by simpa using hlen
      have HPD : Hid (ds.Perm ps) := by have := HP.out; rwa [List.append_nil] at this
      have hcon := sort_any Try.sort_Pane 6 (by decide) Try.isAgg31 Try.sizeOf31 paneCells (fun _ => rfl) (fun x v hv => by simp [paneCells] at hv; rcases hv with rfl | rfl | rfl | rfl | rfl | rfl <;> rfl) paneCf paneSwo 49
        (enters_of Try.func49 (by kernel_rfl) rfl) paneCmp 31 A cap (ds.map (·.1)) wr (by rw [List.length_map]; exact HW.out) (by rw [List.length_map]; omega)
      change Calls Try.prog 48 _ _ _ at hcon
      rw [List.length_map] at hcon
      have HCON := Lib.hid hcon
      clear h0 hdl hcon hlen
      go_wp2_with fail
      refine HCON.out.mono ?_
      rintro e w3 ⟨rfl, q, hq1, hq2, hq3, hq4⟩
      have HQ1 := Lib.hid hq1
      have HQ2 := Lib.hid hq2
      have HQ3 := Lib.hid hq3
      have HQ4 := Lib.hid hq4
      clear hq1 hq2 hq3 hq4 HCON
      go_wp2_with fail
      go_ret
      have hql : ds.length = q.length := by rw [HQ1.out.length_eq, List.length_map]
      refine ⟨A, cap, q, by rw [← hql]; rfl, HQ1.out.trans (HPD.out.map _), HQ2.out, ?_, ?_⟩
      · have ho := HQ3.out
        exact OwnS.sl (E := panE) paneCells (fun _ => rfl) ho hql (fun k e => ho.lt k e) (fun x _ => rfl)
      · exact HB.out.grown HQ4.out (by have := HB.out.size; omega) HA.out
    · intro t1 t2 key v w2 htodo hrg2 hg2 hz2 hen
      obtain ⟨s1, s2, hs, hs1, hs2⟩ := List.map_eq_append_iff.1 htodo
      obtain ⟨x, s3, hs', hx, hs3⟩ := List.map_eq_cons_iff.1 hs2
      subst hs'
      subst hs
      have hxm : x ∈ ps := HP.out.mem_iff.1 (by simp)
      obtain ⟨p, g⟩ := x
      have hgl : g < w.heap.size := HL.out _ hxm
      have hgo := HO.out _ hxm
      have hgr := hg2.block g (Nat.lt_of_lt_of_le hgl HB.out.size) (by intro e; injection e with e; omega)
      have hw2g : w2.heap[g]? = some (paneObj p) := hgr.trans ((HB.out.block g hgl).trans hgo)
      have hkey : key = paneV p.key p.from_ p.to := by have := congrArg Prod.fst hx; exact this.symm
      have hval : v = .pointer (some ⟨g, 0, none⟩) := by have := congrArg Prod.snd hx; exact this.symm
      subst hkey
      subst hval
      have p0 := cell_of_row w2 g 0 _ _ _ hw2g
      have p1 := cell_of_row w2 g 1 _ _ _ hw2g
      have p2 := cell_of_row w2 g 2 _ _ _ hw2g
      have p3 := cell_of_row w2 g 3 _ _ _ hw2g
      have p4 := cell_of_row w2 g 4 _ _ _ hw2g
      have p5 := cell_of_row w2 g 5 _ _ _ hw2g
      simp at p0 p1 p2 p3 p4 p5
      have hne := range_ne_own HR.out HW.out
      have hW2 : OwnS w2 31 6 A cap ds.length ((ds.map (·.1)).flatMap paneCells) := HW.out.grown hg2 (fun k e e2 => hne.1 (e2 ▸ e))
      have hB2 : Below w.heap.size w w2 := HB.out.grown hg2 (by have := HB.out.size; omega) (fun k e => by injection e with e; omega)
      have HW2 := Lib.hid hW2
      have HB2 := Lib.hid hB2
      have hR2 : RangeAt IsPaneK w2 b w.heap.size (ps.map pk) ((s1 ++ s3).map pk) := by rw [List.map_append, hs1, hs3]; exact hrg2
      have HR2 := Lib.hid hR2
      have hne2 := range_ne_own hR2 hW2
      have hlen1 : ds.length + (s1.length + (s3.length + 1)) = ps.length := by simpa using hlen
      have HNE := Lib.hid hne2
      have hP2 : ((ds ++ [(p, g)]) ++ (s1 ++ s3)).Perm ps := by
        refine List.Perm.trans ?_ HP.out
        rw [List.append_assoc]
        refine List.Perm.append_left ds ?_
        simpa using (List.perm_middle (l₁ := s1) (a := (p, g)) (l₂ := s3)).symm
      have HP2 := Lib.hid hP2
      have hen' : (Instr.entry (.pointer (some ⟨w.heap.size, 0, none⟩))).run Try.prog w2 = .ok (.tuple #[paneV p.key p.from_ p.to, .pointer (some ⟨g, 0, none⟩)]) w2 := hen
      obtain ⟨pv, hpv⟩ : ∃ v, v = paneV p.key p.from_ p.to := ⟨_, rfl⟩
      rw [← hpv] at hen' ⊢
      clear htodo hrg2 hg2 hz2 hen hs1 hs2 hs3 hx hxm hgo hgr hw2g hne hW2 hB2 hR2 hne2 hlen hP2 HP HR HW HB hpv
      go_wp2_with (at_builtin; refine wpList_push_S (w0 := w2) rfl (.tmp 12) (.tmp 16) 23 rfl 31 _ 6 56 Try.underlying23 info_pane rfl (by decide) A cap ds.length _ rfl HW2.out (paneCells p) rfl rfl (by simp [paneCells, Value.oneCell']) (by unfold maxLen; omega) (by omega) ?_)
      intro A' cap' w3 hown hg hat
      have hR3 := HR2.out.keep (hg.block b HR2.out.map.lt (fun e => HNE.out.2 e.symm)) (hg.block _ HR2.out.lt (fun e => HNE.out.1 e.symm))
      have hB3 := HB2.out.grown hg (by have := HB2.out.size; omega) HA.out
      have hA3 : ∀ k, blk A' = some k → w.heap.size ≤ k := fun k e => by
        rcases hat with h1 | ⟨j, h1, h2⟩
        · exact HA.out k (h1 ▸ e)
        · rw [h1] at e; injection e with e; subst e; exact Nat.le_trans HB2.out.size h2
      have HR3 := Lib.hid hR3
      have HB3 := Lib.hid hB3
      have HA3 := Lib.hid hA3
      have HW3 : Hid (OwnS w3 31 6 A' cap' (ds ++ [(p, g)]).length (((ds ++ [(p, g)]).map (·.1)).flatMap paneCells)) := by
        show OwnS _ _ _ _ _ _ _
        simpa [List.flatMap_append] using hown
      clear hown hg hat hR3 hB3 hA3 HW2 HB2 HR2 HA hen' p0 p1 p2 p3 p4 p5
      go_wp2_with fail
      go_roundg ((s1 ++ s3).length)
      case measure => have := HGK.out; simp at this ⊢; omega
      case rel => exact ⟨ds ++ [(p, g)], s1 ++ s3, A', cap', rfl, by simp; omega, HP2, by simp, HR3, HW3, HA3, HB3⟩
end Go.Proofs.Ytdnmdekmgbgioaa
