/-
  Several texts of this claim in one, in build order; each begins with its own remark, which says what it proves and under which conditions.
-/
import Derived.Test.YtcmhbhdiepkndaaGreatDoorPackA
import Derived.Test.YtcmhbhdiepkndaaGreatDoorPackF
import Derived.Test.YtcmhbhdiepkndaaGreatDoorPackH
import Derived.Test.YtcmhbhdiepkndaaGreatDoorPackB
import Derived.Outline
import Derived.Test.YtcmhbhdiepkndaaGreatDoorPackE
import Derived.Deep.CutRange
import Derived.Lib.ItoaLen

/-
  Words of my own: several owned rows at once, no two in one block ('Forest'), and what becomes of them where one is turned. No condition: plain definitions and lemmas over any program.
-/
namespace Go.Proofs.YtcmhbhdiepkndaaGreatDoor
open Go.RowKit Go.ChangeShapes Go.WideShapes
set_option linter.unusedVariables false

structure ORow where
  e : TypeId
  size : Nat
  A : Option Addr
  cap : Nat
  n : Nat
  xs : List Value
def ORow.At (r : ORow) (w : World) : Prop := OwnS w r.e r.size r.A r.cap r.n r.xs
def Sep (a b : Option Addr) : Prop := ∀ k, blk a = some k → blk b ≠ some k
theorem Sep.symm {a b : Option Addr} (h : Sep a b) : Sep b a := fun k hb ha => h k ha hb
theorem Sep.none_left (b : Option Addr) : Sep none b := fun k h => by cases h
theorem Sep.none_right (a : Option Addr) : Sep a none := fun k _ h => by cases h

structure Forest (w : World) (rs : List ORow) : Prop where
  at_ : ∀ r ∈ rs, r.At w
  sep : rs.Pairwise fun r s => Sep r.A s.A
/-- The blocks of the rows. -/
def forF (rs : List ORow) (k : Nat) : Prop := ∃ r ∈ rs, blk r.A = some k

theorem Forest.nil (w : World) : Forest w [] := ⟨nofun, .nil⟩
theorem Forest.lt {w : World} {rs : List ORow} (h : Forest w rs) : ∀ k, forF rs k → k < w.heap.size := by
  rintro k ⟨r, hr, e⟩
  exact (h.at_ r hr).lt k e
theorem Forest.perm {w : World} {rs ss : List ORow} (h : Forest w rs) (hp : rs.Perm ss) : Forest w ss :=
  ⟨fun r hr => h.at_ r (hp.mem_iff.2 hr), (hp.pairwise_iff (fun {_ _} h => h.symm)).1 h.sep⟩
theorem Forest.tail {w : World} {r : ORow} {rs : List ORow} (h : Forest w (r :: rs)) : Forest w rs :=
  ⟨fun s hs => h.at_ s (List.mem_cons_of_mem _ hs), (List.pairwise_cons.1 h.sep).2⟩
theorem Forest.head {w : World} {r : ORow} {rs : List ORow} (h : Forest w (r :: rs)) : r.At w := h.at_ r (List.mem_cons_self)
/-- An empty row beside them. -/
theorem Forest.addNil {w : World} {rs : List ORow} (h : Forest w rs) (e : TypeId) (size : Nat) : Forest w (⟨e, size, none, 0, 0, []⟩ :: rs) :=
  ⟨fun r hr => by
    rcases List.mem_cons.1 hr with rfl | hr
    · exact OwnS.nil w e size
    · exact h.at_ r hr, List.pairwise_cons.2 ⟨fun s _ => Sep.none_left _, h.sep⟩⟩
/-- Kept where their blocks are kept. -/
theorem Forest.keep {w w' : World} {rs : List ORow} (h : Forest w rs) (hs : ∀ k, forF rs k → w'.heap[k]? = w.heap[k]?) : Forest w' rs :=
  ⟨fun r hr => (h.at_ r hr).keep fun k hk => hs k ⟨r, hr, hk⟩, h.sep⟩
theorem Forest.below {w w' : World} {rs : List ORow} (h : Forest w rs) (hb : Below w.heap.size w w') : Forest w' rs := h.keep fun k hk => hb.block k (h.lt k hk)
theorem Forest.drewN {w : World} {rs : List ORow} (h : Forest w rs) (q : Nat) : Forest (w.drewN q) rs := h.keep fun _ _ => rfl
theorem Forest.frm {w w' : World} {rs : List ORow} {F : Nat → Prop} (h : Forest w rs) (hf : Frm F w w') (hd : ∀ k, forF rs k → ¬ F k) : Forest w' rs := h.keep fun k hk => hf.block k (h.lt k hk) (hd k hk)
/-- The first row is turned. -/
theorem Forest.turn {w w' : World} {r r' : ORow} {rs : List ORow} (h : Forest w (r :: rs)) (hr : r'.At w') (hg : w.grownBy w' (blk r.A)) (hat : blk r'.A = blk r.A ∨ blk r'.A = none ∨ ∃ k, blk r'.A = some k ∧ w.heap.size ≤ k) : Forest w' (r' :: rs) := by
  have hs := (List.pairwise_cons.1 h.sep)
  refine ⟨fun s hs' => ?_, List.pairwise_cons.2 ⟨fun s hs' k e e2 => ?_, hs.2⟩⟩
  · rcases List.mem_cons.1 hs' with rfl | hs'
    · exact hr
    · exact (h.at_ s (List.mem_cons_of_mem _ hs')).grown hg fun k hk e => hs.1 s hs' k e hk
  · rcases hat with e1 | e1 | ⟨j, e1, hj⟩
    · exact hs.1 s hs' k (e1 ▸ e) e2
    · rw [e1] at e; cases e
    · rw [e1] at e; injection e with e
      have := (h.at_ s (List.mem_cons_of_mem _ hs')).lt k e2
      omega
/-- The first row is read otherwise, in the same block or in none. -/
theorem Forest.swap {w : World} {r r' : ORow} {rs : List ORow} (h : Forest w (r :: rs)) (hr : r'.At w) (hat : blk r'.A = blk r.A ∨ blk r'.A = none) : Forest w (r' :: rs) :=
  h.turn hr ⟨rfl, rfl, rfl, Nat.le_refl _, fun _ _ _ => rfl⟩ (hat.imp_right .inl)
theorem forF_turn {w : World} {r r' : ORow} {rs : List ORow} {k : Nat} (hat : blk r'.A = blk r.A ∨ blk r'.A = none ∨ ∃ k, blk r'.A = some k ∧ w.heap.size ≤ k) (h : forF (r' :: rs) k) : forF (r :: rs) k ∨ w.heap.size ≤ k := by
  obtain ⟨s, hs, e⟩ := h
  rcases List.mem_cons.1 hs with rfl | hs
  · rcases hat with e1 | e1 | ⟨j, e1, hj⟩
    · exact .inl ⟨r, List.mem_cons_self, e1 ▸ e⟩
    · rw [e1] at e; cases e
    · rw [e1] at e; injection e with e; omega
  · exact .inl ⟨s, List.mem_cons_of_mem _ hs, e⟩
theorem forF_perm {rs ss : List ORow} (hp : rs.Perm ss) {k : Nat} (h : forF rs k) : forF ss k := by
  obtain ⟨r, hr, e⟩ := h
  exact ⟨r, hp.mem_iff.1 hr, e⟩
/-- What is turned where the first row is. -/
theorem Forest.frmTurn {w w' : World} {r : ORow} {rs : List ORow} (hg : w.grownBy w' (blk r.A)) : Frm (forF (r :: rs)) w w' := Frm.ofGrown hg fun k e => ⟨r, List.mem_cons_self, e⟩

/-- A row in the midst is turned. -/
theorem Forest.turnMid {w w' : World} {r r' : ORow} {pre post : List ORow} (h : Forest w (pre ++ r :: post)) (hr : r'.At w') (hg : w.grownBy w' (blk r.A)) (hat : blk r'.A = blk r.A ∨ blk r'.A = none ∨ ∃ k, blk r'.A = some k ∧ w.heap.size ≤ k) : Forest w' (pre ++ r' :: post) :=
  ((h.perm List.perm_middle).turn hr hg hat).perm List.perm_middle.symm
theorem Forest.swapMid {w : World} {r r' : ORow} {pre post : List ORow} (h : Forest w (pre ++ r :: post)) (hr : r'.At w) (hat : blk r'.A = blk r.A ∨ blk r'.A = none) : Forest w (pre ++ r' :: post) :=
  ((h.perm List.perm_middle).swap hr hat).perm List.perm_middle.symm
theorem forF_mid {w : World} {r r' : ORow} {pre post : List ORow} {k : Nat} (hat : blk r'.A = blk r.A ∨ blk r'.A = none ∨ ∃ k, blk r'.A = some k ∧ w.heap.size ≤ k) (h : forF (pre ++ r' :: post) k) : forF (pre ++ r :: post) k ∨ w.heap.size ≤ k :=
  (forF_turn hat (forF_perm List.perm_middle h)).imp_left (forF_perm List.perm_middle.symm)

theorem wpList_push_S {P : Program} {ops : Array Oper} {rest : List Oper} {o : Oper} {a : Act} {Q : Exit → Act → World → Prop} {w0 : World} (hgd : o.guard = none) (s x : Operand) (t : TypeId)
    (ho : o.op = .call { callee := .builtin .append, args := #[s, x], argTypes := #[t, t] })
    (e : TypeId) (z : Value) (size bytes : Nat) (ht : P.underlying t = some (.slice e))
    (hinfo : (P.info? e).map (fun i => (i.zero, i.size, i.bytes)) = some (some z, size, bytes)) (hzs : z.cells.size = size) (hsz : 0 < size)
    (A : Option Addr) (cap n : Nat) (xs : List Value) (hs : a.eval s = .slice A n cap) (hown : OwnS w0 e size A cap n xs) (news : List Value) (hx : a.eval x = .slice (some ⟨w0.heap.size, 0, none⟩) 1 1) (hl : news.length = size) (h1 : ∀ u ∈ news, u.oneCell' = true)
    (h63 : n + 1 ≤ maxLen) (hbytes : (n + 1) * bytes ≤ 140737488355328)
    (h : ∀ A' cap' w', OwnS w' e size A' cap' (n + 1) (xs ++ news) → w0.grownBy w' (blk A) → (blk A' = blk A ∨ ∃ k, blk A' = some k ∧ w0.heap.size ≤ k) → wpList P ops Q rest (a.put o.dst (.slice A' (n + 1) cap')) w') :
    wpList P ops Q (o :: rest) a (w0.alloc (.cells news.toArray e)) := by
  refine wpList_plain hgd fun K hK => ?_
  obtain ⟨A', cap', w', hr, h2, h3, h5⟩ := run_push_S (P := P) w0 t o.type e z size bytes ht hinfo hzs hsz A cap n xs hown news hl h1 h63 hbytes
  unfold Oper.wp execOp
  simp only [ho, resolve, invoke, builtin, Sem.run_bind, Sem.run_pure, Result.andThen_ok, List.map_toArray, List.map_cons, List.map_nil, hs, hx, hr]
  exact hK _ _ (h A' cap' w' h2 h3 h5)
end Go.Proofs.YtcmhbhdiepkndaaGreatDoor

/-
  Package den: the contract of Lines. Condition: fewer than 10^9 keys.
-/
namespace Go.Proofs.YtcmhbhdiepkndaaGreatDoor
open Go.RowKit
open Go.Sort hiding Below
set_option linter.unusedVariables false

abbrev LineR := ByteArray × RowI
instance : Inhabited RowI := ⟨noRow⟩
def lineCells (p : LineR) : List Value := [.string p.1, .slice p.2.A p.2.xs.length p.2.cap]
def lineCf (p q : LineR) : Int := if ltStr p.1.data.toList q.1.data.toList then -1 else 1
set_option maxRecDepth 100000 in
theorem lineCmp : CmpOk Tryz.prog 32 lineCells lineCf := by
  intro x y W
  obtain ⟨xk, xA, xc, xs⟩ := x
  obtain ⟨yk, yA, yc, ys⟩ := y
  show Calls _ _ #[.agg #[.string xk, .slice xA xs.length xc], .agg #[.string yk, .slice yA ys.length yc]] W fun e w' => e = .returned (.int .i64 (if ltStr xk.data.toList yk.data.toList then -1 else 1)) ∧ _
  have hlt : Op.bytesLess xk.toList yk.toList = ltStr xk.data.toList yk.data.toList := by rw [bytesLess_eq, Lib.toList_data, Lib.toList_data]; rfl
  cases hb : ltStr xk.data.toList yk.data.toList with
  | true =>
    rw [hb] at hlt
    clear hb
    go_enter Tryz.func32, Tryz.ntmps32
    go_wp2_with fail
    go_ret
    exact ⟨rfl, ((Below.refl _ _).alloc (Nat.le_refl _) _).alloc (by simp) _, Nat.le_refl _⟩
  | false =>
    rw [hb] at hlt
    clear hb
    go_enter Tryz.func32, Tryz.ntmps32
    go_wp2_with fail
    go_ret
    exact ⟨rfl, ((Below.refl _ _).alloc (Nat.le_refl _) _).alloc (by simp) _, Nat.le_refl _⟩
theorem lineLt (p q : LineR) : ltOf lineCf p q = ltStr p.1.data.toList q.1.data.toList := by
  unfold ltOf lineCf
  cases ltStr p.1.data.toList q.1.data.toList <;> rfl
theorem lineSwo : SWO (ltOf lineCf) where
  irrefl x := by rw [lineLt]; exact swo_ltStr.irrefl _
  trans x y z h1 h2 := by rw [lineLt] at *; exact swo_ltStr.trans _ _ _ h1 h2
  ntrans x y z h1 h2 := by rw [lineLt] at *; exact swo_ltStr.ntrans _ _ _ h1 h2
def linC : Elt LineR where
  sz := 2
  bulk := fun _ => 0
  R := fun _ _ cs r => cs = lineCells r
  len := fun _ _ _ _ h => by rw [h]; rfl
  keep := fun _ _ _ _ _ h _ => h
  more := fun _ _ _ _ _ h _ => h
theorem info_line : (Tryz.prog.info? 32).map (fun i => (i.zero, i.size, i.bytes)) = some (some (.agg #[.string ByteArray.empty, .slice none 0 0]), 2, 40) := by kernel_rfl
theorem range_ne_own {isK : Value → Prop} {w : World} {b r : Nat} {m todo : List (Value × Value)} {e : TypeId} {size cap n : Nat} {A : Option Addr} {xs : List Value} (h : RangeAt isK w b r m todo) (ho : OwnS w e size A cap n xs) : blk A ≠ some r ∧ blk A ≠ some b := by
  obtain ⟨es, clock, since, seen, c0, hb, _, _, _, hr, _⟩ := h
  rcases ho.2.2.2 with ⟨rfl, _⟩ | ⟨g, off, cur, rfl, hh, _⟩
  · exact ⟨by simp [blk], by simp [blk]⟩
  · refine ⟨fun e => ?_, fun e => ?_⟩
    · injection e with e; subst e; rw [hh] at hr; cases hr
    · injection e with e; subst e; rw [hh] at hb; cases hb
def lpv (p : LineR) : Value × Value := fv (lp p)
def LinesPost (w : World) (ps : List LineR) (e : Ending) (w' : World) : Prop := ∃ A' c' q, e = .returned (.slice A' (List.length q) c') ∧ q.Perm ps ∧ q.Pairwise (fun a b => kLess a.1 b.1) ∧ SlA linC (fun k => w.heap.size ≤ k ∧ k < w'.heap.size) w' A' c' q ∧ Below w.heap.size w w'
theorem strict_of {q : List LineR} (hn : (pkeys q).Nodup) (h : q.Pairwise fun a b => ltOf lineCf b a = false) : q.Pairwise fun a b => kLess a.1 b.1 := by
  unfold pkeys at hn
  rw [List.Nodup, List.pairwise_map] at hn
  refine (h.and hn).imp fun {a b} hab => ?_
  obtain ⟨h1, h2⟩ := hab
  rw [lineLt] at h1
  simp only [ltStr, decide_eq_false_iff_not, List.not_lt] at h1
  unfold kLess
  rcases Decidable.em (a.1.data.toList < b.1.data.toList) with h3 | h3
  · exact h3
  · have h4 := List.le_antisymm h1 (List.not_lt.1 h3)
    exact absurd (by
      cases ha : a.1; cases hb : b.1
      rw [ha, hb] at h4
      congr 1
      exact Array.toList_inj.1 h4) h2
set_option maxRecDepth 100000 in
set_option maxHeartbeats 2000000 in
theorem lines_any (b : Nat) (ps : List LineR) (w : World) (h : SMapAt w b (ps.map lp)) (hn : ps.length ≤ 1000000000) :
    Calls Tryz.prog 20 #[.map (some b)] w (LinesPost w ps) := by
  have hmap : MapAt IsStrK w b (ps.map lpv) := by unfold SMapAt at h; rw [List.map_map] at h; exact h
  have HND : Hid ((pkeys ps).Nodup) := by
    have := h.nodup
    unfold skeys at this
    rw [List.map_map] at this
    exact this
  have HM := Lib.hid hmap
  have hbl := h.lt
  clear h hmap
  go_enter Tryz.func20, Tryz.ntmps20
  go_wp2_with (at_range; refine wpList_range_M _ rfl _ 64 rfl 9 26 IsStrK Tryz.underlying64 b _ rfl HM.out ?_)
  intro w1 hrg hg1 hz1
  have HR := Lib.hid hrg
  have HB := Lib.hid (show Below w.heap.size w w1 from ⟨hg1.os, hg1.tape, hg1.output, hg1.size, fun k hk => hg1.block k hk (by simp)⟩)
  clear hrg hg1 hz1 HM
  go_wp2_with fail
  try go_frame
  go_loopg [3] (ps.length) (fun gk ov wr => ∃ (ds ts : List LineR) (A : Option Addr) (cap : Nat), gk = ts.length ∧ ds.length + ts.length = ps.length ∧ Hid ((ds ++ ts).Perm ps) ∧ ov = .slice A ds.length cap ∧ Hid (RangeAt IsStrK wr b w.heap.size (ps.map lpv) (ts.map lpv)) ∧
    Hid (OwnS wr 32 2 A cap ds.length (ds.flatMap lineCells)) ∧ Hid (∀ k, blk A = some k → w.heap.size ≤ k) ∧ Hid (Below w.heap.size w wr))
  case atStart => exact ⟨[], ps, none, 0, rfl, by simp, List.Perm.refl _, rfl, HR, OwnS.nil _ _ _, (by intro k e; cases e), HB⟩
  case round =>
    clear HR HB
    obtain ⟨ds, ts, A, cap, hgk, hlen, HP, rfl, HR, HW, HA, HB⟩ := hrel
    have HGK := Lib.hid hgk
    clear hgk
    go_wp2_with (at_next; refine wpList_next_M _ rfl _ rfl IsStrK b w.heap.size _ _ rfl HR.out ?_ ?_)
    · intro h0
      have hts : ts = [] := by simpa using h0
      subst hts
      have hdl : ds.length = ps.length := by simpa using hlen
      have HPD : Hid (ds.Perm ps) := by have := HP.out; rwa [List.append_nil] at this
      have hcon := sort_any Tryz.sort_Line 2 (by decide) Tryz.isAgg32 Tryz.sizeOf32 lineCells (fun _ => rfl) (fun x v hv => by simp [lineCells] at hv; rcases hv with rfl | rfl <;> rfl) lineCf lineSwo 32
        (enters_of Tryz.func32 (by kernel_rfl) rfl) lineCmp 32 A cap ds wr HW.out (by omega)
      change Calls Tryz.prog 31 _ _ _ at hcon
      have HCON := Lib.hid hcon
      clear h0 hdl hcon hlen
      go_wp2_with fail
      refine HCON.out.mono ?_
      rintro e w3 ⟨rfl, q, hq1, hq2, hq3, hq4⟩
      have HQ1 := Lib.hid hq1
      have HQ2 := Lib.hid hq2
      have HQ3 := Lib.hid hq3
      have HQ4 := Lib.hid hq4
      clear hq1 hq2 hq3 hq4 HCON
      go_wp2_with fail
      go_ret
      have hql : ds.length = q.length := HQ1.out.length_eq.symm
      have hqp := HQ1.out.trans HPD.out
      refine ⟨A, cap, q, by rw [← hql]; rfl, hqp, strict_of ((hqp.map (fun p : LineR => p.1)).nodup_iff.2 (show (List.map (fun p : LineR => p.1) ps).Nodup from HND.out)) HQ2.out, ?_, ?_⟩
      · have ho := HQ3.out
        exact OwnS.sl (E := linC) lineCells (fun _ => rfl) ho hql (fun k e => ⟨HA.out k e, ho.lt k e⟩) (fun x _ => rfl)
      · exact HB.out.grown HQ4.out (by have := HB.out.size; omega) HA.out
    · intro t1 t2 key v w2 htodo hrg2 hg2 hz2 hen
      obtain ⟨s1, s2, hs, hs1, hs2⟩ := List.map_eq_append_iff.1 htodo
      obtain ⟨x, s3, hs', hx, hs3⟩ := List.map_eq_cons_iff.1 hs2
      subst hs'
      subst hs
      obtain ⟨pk, pA, pc, px⟩ := x
      have hkey : key = .string pk := by have := congrArg Prod.fst hx; exact this.symm
      have hval : v = .slice pA px.length pc := by have := congrArg Prod.snd hx; exact this.symm
      subst hkey
      subst hval
      have hne := range_ne_own HR.out HW.out
      have hW2 : OwnS w2 32 2 A cap ds.length (ds.flatMap lineCells) := HW.out.grown hg2 (fun k e e2 => hne.1 (e2 ▸ e))
      have hB2 : Below w.heap.size w w2 := HB.out.grown hg2 (by have := HB.out.size; omega) (fun k e => by injection e with e; omega)
      have HW2 := Lib.hid hW2
      have HB2 := Lib.hid hB2
      have hR2 : RangeAt IsStrK w2 b w.heap.size (ps.map lpv) ((s1 ++ s3).map lpv) := by rw [List.map_append, hs1, hs3]; exact hrg2
      have HR2 := Lib.hid hR2
      have hne2 := range_ne_own hR2 hW2
      have hlen1 : ds.length + (s1.length + (s3.length + 1)) = ps.length := by simpa using hlen
      have HNE := Lib.hid hne2
      have hP2 : ((ds ++ [((pk, ⟨pA, pc, px⟩) : LineR)]) ++ (s1 ++ s3)).Perm ps := by
        refine List.Perm.trans ?_ HP.out
        rw [List.append_assoc]
        refine List.Perm.append_left ds ?_
        simpa using (List.perm_middle (l₁ := s1) (a := ((pk, ⟨pA, pc, px⟩) : LineR)) (l₂ := s3)).symm
      have HP2 := Lib.hid hP2
      clear htodo hrg2 hg2 hz2 hs1 hs2 hs3 hx hne hW2 hB2 hR2 hne2 hlen hP2 HP HR HW HB
      go_wp2_with (at_builtin; refine wpList_push_S (w0 := w2) rfl (.tmp 13) (.tmp 17) 23 rfl 32 _ 2 40 Tryz.underlying23 info_line rfl (by decide) A cap ds.length _ rfl HW2.out (lineCells (pk, ⟨pA, pc, px⟩)) rfl rfl (by simp [lineCells, Value.oneCell']) (by unfold maxLen; omega) (by omega) ?_)
      intro A' cap' w3 hown hg hat
      have hR3 := HR2.out.keep (hg.block b HR2.out.map.lt (fun e => HNE.out.2 e.symm)) (hg.block _ HR2.out.lt (fun e => HNE.out.1 e.symm))
      have hB3 := HB2.out.grown hg (by have := HB2.out.size; omega) HA.out
      have hA3 : ∀ k, blk A' = some k → w.heap.size ≤ k := fun k e => by
        rcases hat with h1 | ⟨j, h1, h2⟩
        · exact HA.out k (h1 ▸ e)
        · rw [h1] at e; injection e with e; subst e; exact Nat.le_trans HB2.out.size h2
      have HR3 := Lib.hid hR3
      have HB3 := Lib.hid hB3
      have HA3 := Lib.hid hA3
      have HW3 : Hid (OwnS w3 32 2 A' cap' (ds ++ [((pk, ⟨pA, pc, px⟩) : LineR)]).length ((ds ++ [((pk, ⟨pA, pc, px⟩) : LineR)]).flatMap lineCells)) := by
        show OwnS _ _ _ _ _ _ _
        simpa [List.flatMap_append] using hown
      clear hown hg hat hR3 hB3 hA3 HW2 HB2 HR2 HA hen
      go_wp2_with fail
      go_roundg ((s1 ++ s3).length)
      case measure => have := HGK.out; simp at this ⊢; omega
      case rel => exact ⟨ds ++ [((pk, ⟨pA, pc, px⟩) : LineR)], s1 ++ s3, A', cap', rfl, by simp; omega, HP2, by simp, HR3, HW3, HA3, HB3⟩
end Go.Proofs.YtcmhbhdiepkndaaGreatDoor

/-
  Package den: the contract of Check. Conditions: where the job and the data lie; the two variables of Atoi's errors hold errors.
-/
namespace Go.Proofs.YtcmhbhdiepkndaaGreatDoor
open Go.RowKit Go.Shelf
set_option linter.unusedVariables false

theorem sources_ok (F : Nat → Prop) (A : Option Addr) (c : Nat) (l : List Nod) (w : World) (hl : SlA nodE F w A c l) (hF : ∀ k, F k → k < w.heap.size) (hv : ErrVars w) :
    Calls Tryz.prog 17 #[.slice A l.length c] w (OfPost l 1 w) := by
  have HO := Lib.hid (of_ok F A c l 1 w hl hF hv)
  clear hl hv
  go_enter Tryz.func17, Tryz.ntmps17
  go_wp2_with fail
  refine HO.out.mono ?_
  rintro e w2 ⟨h1, h2, h3⟩
  have H3 := Lib.hid h3
  by_cases h0 : jobErr l = 0
  · obtain ⟨A', c', rfl, hs⟩ := h1 h0
    have HS := Lib.hid hs
    have H0 := Lib.hid h0
    clear h1 h2 h3 hs h0 HO
    go_wp2_with fail
    go_ret2
    exact ⟨fun _ => ⟨A', c', rfl, HS.out⟩, fun h => absurd H0.out h, H3.out⟩
  · have e0 := h2 h0
    subst e0
    obtain ⟨je, hje⟩ : ∃ je, je = jobErr l := ⟨_, rfl⟩
    have HJE := Lib.hid hje
    have H0 := Lib.hid h0
    rw [← hje]
    clear h1 h2 h3 h0 HO hje
    unfold errV
    go_wp2_with fail
    go_ret2
    exact ⟨fun h => absurd h H0.out, fun _ => by rw [← HJE.out]; rfl, H3.out⟩
theorem sinks_ok (F : Nat → Prop) (A : Option Addr) (c : Nat) (l : List Nod) (w : World) (hl : SlA nodE F w A c l) (hF : ∀ k, F k → k < w.heap.size) (hv : ErrVars w) :
    Calls Tryz.prog 18 #[.slice A l.length c] w (OfPost l 10 w) := by
  have HO := Lib.hid (of_ok F A c l 10 w hl hF hv)
  clear hl hv
  go_enter Tryz.func18, Tryz.ntmps18
  go_wp2_with fail
  refine HO.out.mono ?_
  rintro e w2 ⟨h1, h2, h3⟩
  have H3 := Lib.hid h3
  by_cases h0 : jobErr l = 0
  · obtain ⟨A', c', rfl, hs⟩ := h1 h0
    have HS := Lib.hid hs
    have H0 := Lib.hid h0
    clear h1 h2 h3 hs h0 HO
    go_wp2_with fail
    go_ret2
    exact ⟨fun _ => ⟨A', c', rfl, HS.out⟩, fun h => absurd H0.out h, H3.out⟩
  · have e0 := h2 h0
    subst e0
    obtain ⟨je, hje⟩ : ∃ je, je = jobErr l := ⟨_, rfl⟩
    have HJE := Lib.hid hje
    have H0 := Lib.hid h0
    rw [← hje]
    clear h1 h2 h3 h0 HO hje
    unfold errV
    go_wp2_with fail
    go_ret2
    exact ⟨fun h => absurd h H0.out, fun _ => by rw [← HJE.out]; rfl, H3.out⟩

theorem data_drop (data : List (List Rec)) {j : Nat} (hj : j < data.length) : dataErr (data.drop j) = if 300 < data[j].length then 4 else if data[j].any recErr = true then 1 else dataErr (data.drop (j + 1)) := by
  rw [List.drop_eq_getElem_cons hj]; rfl
theorem any_take (d : List Rec) {j : Nat} (hj : j < d.length) : (d.take (j + 1)).any recErr = ((d.take j).any recErr || recErr d[j]) := by
  rw [List.take_succ_eq_append_getElem hj, List.any_append]
  simp
theorem any_of (d : List Rec) {j : Nat} (hj : j < d.length) (h : recErr d[j] = true) : d.any recErr = true := List.any_eq_true.2 ⟨_, List.getElem_mem hj, h⟩
set_option maxRecDepth 100000 in
set_option maxHeartbeats 2000000 in
theorem dcheck_ok (F : Nat → Prop) (A : Option Addr) (c : Nat) (l : List Nod) (G : Nat → Prop) (Ad : Option Addr) (cd : Nat) (data : List (List Rec)) (w : World) (hl : SlA nodE F w A c l) (hF : ∀ k, F k → k < w.heap.size) (hd : SlA (slE recE) G w Ad cd data) (hG : ∀ k, G k → k < w.heap.size) (hv : ErrVars w) :
    Calls Tryz.prog 15 #[.slice A l.length c, .slice Ad data.length cd] w fun e w' => e = .returned (errJ (denErr l data)) ∧ Below w.heap.size w w' := by
  have HO := Lib.hid (sources_ok F A c l w hl hF hv)
  have HD := Lib.hid hd
  have HG := Lib.hid hG
  have hle := hd.le
  clear hl hd hv hG
  go_enter Tryz.func15, Tryz.ntmps15
  go_wp2_with fail
  refine HO.out.mono ?_
  rintro e w2 ⟨h1, h2, h3⟩
  have H3 := Lib.hid h3
  by_cases h0 : jobErr l = 0
  · obtain ⟨A', c', rfl, hs⟩ := h1 h0
    have hl2 := hs.le
    have HE : Hid (denErr l data = if data.length ≠ (ofKind l 1).length then 3 else dataErr data) := by show _ = _; unfold denErr; rw [if_neg (by simpa using h0)]
    obtain ⟨sn, hsn⟩ : ∃ sn, sn = (ofKind l 1).length := ⟨_, rfl⟩
    rw [← hsn] at hl2 HE ⊢
    have HD2 := Lib.hid (HD.out.keep (fun k hk => H3.out.block k (HG.out k hk)))
    have hz := h3.size
    clear h1 h2 h3 hs h0 HO hsn
    by_cases hn : data.length = sn
    · subst hn
      rw [if_neg (by simp)] at HE
      have dn : (data.length != data.length) = false := by simp
      go_wp2_with fail
      go_loopw [27] (fun jv wr => ∃ j : Nat, j ≤ data.length ∧ jv = .int .i64 j ∧ Hid (dataErr data = dataErr (data.drop j)) ∧ Hid (Below w2.heap.size w2 wr)) (fun jv _ => data.length - (intOf jv).toNat)
      case atStart => exact ⟨0, Nat.zero_le _, rfl, rfl, Below.refl _ _⟩
      case round =>
        obtain ⟨j, hj, rfl, HJ, HB⟩ := hrel
        by_cases hlt : j < data.length
        · obtain ⟨b, off, A2, c2, rfl, hGb, x0, hr⟩ := (HD2.out.keep (w' := wr) (fun k hk => HB.out.block k (Nat.lt_of_lt_of_le (HG.out k hk) hz))).sl_ hlt
          have HDR := Lib.hid (data_drop data hlt)
          generalize data[j] = d at x0 hr HDR
          have hdl := hr.le
          have hcap := hr.1
          have HR := Lib.hid hr
          clear hr
          by_cases h300 : 300 < d.length
          · have d3 : decide (300 < d.length) = true := decide_eq_true h300
            have HX : Hid (denErr l data = 4) := by show _ = _; rw [HE.out, HJ.out, HDR.out, if_pos h300]
            have HB9 := Lib.hid (H3.out.trans (HB.out.mono hz))
            clear HDR HJ HE
            go_wp2_with fail
            go_ret
            exact ⟨by rw [HX.out]; rfl, HB9.out⟩
          · have d3 : decide (300 < d.length) = false := decide_eq_false h300
            rw [if_neg h300] at HDR
            go_wp2_with fail
            go_loopw [37] (fun kv wx => ∃ k : Nat, k ≤ d.length ∧ kv = .int .i64 k ∧ Hid ((d.take k).any recErr = false) ∧ Hid (Below w2.heap.size w2 wx)) (fun kv _ => d.length - (intOf kv).toNat)
            case atStart => exact ⟨0, Nat.zero_le _, rfl, rfl, HB⟩
            case round =>
              obtain ⟨k, hk, rfl, HK, HBx⟩ := hrel
              by_cases hlk : k < d.length
              · obtain ⟨b3, off3, rfl, hG3, y0, y1, y2, _⟩ := (HR.out.keep (fun q hq => (HBx.out.block q (Nat.lt_of_lt_of_le (HG.out q hq) hz)).trans (HB.out.block q (Nat.lt_of_lt_of_le (HG.out q hq) hz)).symm)).rec_ hlk
                have HAT := Lib.hid (any_take d hlk)
                have HAO := Lib.hid (any_of d hlk)
                have hb3 : b3 < wr.heap.size := cell_lt y0
                have HB9 : ∀ o : Obj, Hid (Below w.heap.size w (wr.alloc o)) := fun o => H3.out.trans ((HBx.out.mono hz).trans ((Below.refl _ _).alloc (by have := HBx.out.size; omega) _))
                have HB8 : ∀ o : Obj, Hid (Below w2.heap.size w2 (wr.alloc o)) := fun o => HBx.out.alloc HBx.out.size _
                generalize d[k] = r at y0 y1 y2 HAT HAO
                obtain ⟨key, num, time⟩ := r
                simp only at y0 y1 y2
                obtain ⟨q, hq⟩ : ∃ q, q = recErr ⟨key, num, time⟩ := ⟨_, rfl⟩
                rw [← hq] at HAT HAO
                have hq2 : q = (decide (40 < key.size) || decide (time < 0) || decide (1000000 < time)) := hq
                cases q with
                | true =>
                  have HX : Hid (denErr l data = 1) := by show _ = _; rw [HE.out, HJ.out, HDR.out, if_pos (HAO.out rfl)]
                  clear HAT HAO HJ HE HDR hq HB
                  cases p1 : decide (40 < key.size) with
                  | true =>
                    have p1' : decide ((40 : Int) < (key.size : Int)) = true := decide_eq_true (by have := of_decide_eq_true p1; omega)
                    clear hq2
                    go_wp2_with fail
                    go_ret
                    exact ⟨by rw [HX.out]; rfl, (HB9 _).out⟩
                  | false =>
                    have p1' : decide ((40 : Int) < (key.size : Int)) = false := decide_eq_false (by have := of_decide_eq_false p1; omega)
                    cases p2 : decide (time < 0) with
                    | true =>
                      clear hq2
                      go_wp2_with fail
                      go_ret
                      exact ⟨by rw [HX.out]; rfl, (HB9 _).out⟩
                    | false =>
                      rw [p1, p2] at hq2
                      have p3 : decide (1000000 < time) = true := hq2.symm
                      clear hq2
                      go_wp2_with fail
                      go_ret
                      exact ⟨by rw [HX.out]; rfl, (HB9 _).out⟩
                | false =>
                  have hq3 := hq2.symm
                  rw [Bool.or_eq_false_iff, Bool.or_eq_false_iff] at hq3
                  obtain ⟨⟨p1, p2⟩, p3⟩ := hq3
                  have p1' : decide ((40 : Int) < (key.size : Int)) = false := decide_eq_false (by have := of_decide_eq_false p1; omega)
                  have HK2 : Hid ((d.take (k + 1)).any recErr = false) := by show _ = _; rw [HAT.out, HK.out]; rfl
                  clear hq hq2 HAT HAO
                  go_wp2_with fail
                  go_roundw
                  case rel => exact ⟨k + 1, by omega, by go_num, HK2, HB8 _⟩
                  case measure => simp [intOf]; omega
              · have dk : decide (k < d.length) = false := decide_eq_false hlk
                have HJ2 : Hid (dataErr data = dataErr (data.drop (j + 1))) := by
                  show _ = _
                  have h := HK.out
                  rw [List.take_of_length_le (by omega)] at h
                  rw [HJ.out, HDR.out, if_neg (by rw [h]; simp)]
                clear HJ HDR HK hk hlk
                go_wp2_with fail
                refine ⟨⟨j + 1, by omega, by go_num, HJ2, HBx⟩, ?_⟩
                simp [intOf]; omega
        · have dj : decide (j < data.length) = false := decide_eq_false hlt
          have HX : Hid (denErr l data = 0) := by show _ = _; rw [HE.out, HJ.out, show j = data.length from by omega, List.drop_length]; rfl
          have HB9 := Lib.hid (H3.out.trans (HB.out.mono hz))
          clear HJ HE hj hlt
          go_wp2_with fail
          go_ret
          exact ⟨by rw [HX.out]; rfl, HB9.out⟩
    · have dn : (data.length != sn) = true := by simp [hn]
      have dn2 : decide (data.length = sn) = false := decide_eq_false hn
      have HX : Hid (denErr l data = 3) := by show _ = _; rw [HE.out, if_pos hn]
      clear HE
      go_wp2_with fail
      go_ret
      exact ⟨by rw [HX.out]; rfl, H3.out⟩
  · have e0 := h2 h0
    subst e0
    have HX : Hid (denErr l data = jobErr l) := by show _ = _; unfold denErr; rw [if_pos h0]
    obtain ⟨je, hje⟩ : ∃ je, je = jobErr l := ⟨_, rfl⟩
    have HJE := Lib.hid hje
    have H0 := Lib.hid h0
    rw [← hje]
    clear h1 h2 h3 h0 HO hje
    unfold errV
    go_wp2_with fail
    go_ret
    exact ⟨by rw [HX.out]; unfold errJ; rw [if_neg H0.out, ← HJE.out]; rfl, H3.out⟩
end Go.Proofs.YtcmhbhdiepkndaaGreatDoor

/-
  Package den: the contract of All. Conditions: where the job and the data lie; the two variables of Atoi's errors hold errors, the table of powers of ten stands.
-/
namespace Go.Proofs.YtcmhbhdiepkndaaGreatDoor
open Go.RowKit Go.ChangeShapes Go.WideShapes Go.Shelf
set_option linter.unusedVariables false

def AllPost (J : List Nod) (data : List (List Rec)) (w : World) (e : Ending) (w' : World) : Prop :=
  (denErr J data ≠ 0 → e = .returned (.tuple #[.slice none 0 0, errV (denErr J data)])) ∧
  (denErr J data = 0 → flowAll J data = none → e = .returned (.tuple #[.slice none 0 0, errV 4])) ∧
  (denErr J data = 0 → ∀ f, flowAll J data = some f → ∃ A' c' out, e = .returned (.tuple #[.slice A' (List.length out) c', .nilIface]) ∧ AllOf J f out ∧ SlA (slE linE) (fun k => w.heap.size ≤ k ∧ k < w'.heap.size) w' A' c' out) ∧ Below w.heap.size w w'
theorem data_ok : ∀ {data : List (List Rec)}, dataErr data = 0 → ∀ d ∈ data, d.length ≤ 300 ∧ ∀ r ∈ d, recErr r = false
  | [], _, d, hd => by cases hd
  | x :: l, h, d, hd => by
    unfold dataErr at h
    split at h
    · cases h
    · split at h
      · cases h
      · rename_i h1 h2
        rcases List.mem_cons.1 hd with rfl | hd
        · refine ⟨by omega, fun r hr => ?_⟩
          cases e : recErr r with
          | false => rfl
          | true => exact absurd (List.any_eq_true.2 ⟨r, hr, e⟩) h2
        · exact data_ok h d hd
theorem den_parts {J : List Nod} {data : List (List Rec)} (h : denErr J data = 0) : jobErr J = 0 ∧ data.length = (ofKind J 1).length ∧ dataErr data = 0 := by
  unfold denErr at h
  split at h
  · rename_i h1; exact absurd h h1
  · split at h
    · cases h
    · rename_i h1 h2
      exact ⟨by simpa using h1, by simpa using h2, h⟩
theorem recErr_no {r : Rec} (h : recErr r = false) : r.key.size ≤ 40 := by
  unfold recErr at h
  rw [Bool.or_eq_false_iff, Bool.or_eq_false_iff] at h
  have := of_decide_eq_false h.1.1
  omega
def feedsF (J : List Nod) (ps : List (Int × List Rec)) (f : Flw) : Option Flw := ps.foldlM (fun f p => feedF J p.1 p.2 f) f
def handsD (J : List Nod) (s : Nat) (d : List Rec) (f : Flw) : Option Flw := d.foldlM (fun f r => handF J (usesAll J) J.length s r f) f
theorem foldM_next {α : Type} (g : α → Flw → Option Flw) (l : List α) (f : Flw) {k : Nat} (hk : k < l.length) : (l.take (k + 1)).foldlM (fun f a => g a f) f = ((l.take k).foldlM (fun f a => g a f) f).bind (g l[k]) := by
  rw [List.take_succ_eq_append_getElem hk, List.foldlM_append]
  show _ >>= _ = _ >>= _
  congr 1
  funext x
  rw [List.foldlM_cons]
  cases g l[k] x <;> rfl
theorem foldM_stop {α : Type} (g : α → Flw → Option Flw) (l : List α) (f : Flw) {k : Nat} (h : (l.take k).foldlM (fun f a => g a f) f = none) : l.foldlM (fun f a => g a f) f = none := by
  have e : l = l.take k ++ l.drop k := (List.take_append_drop k l).symm
  rw [e, List.foldlM_append, h]; rfl
theorem handsD_room {J : List Nod} (hJ : jobErr J = 0) {s : Nat} {d : List Rec} {f f' : Flw} (h : Room J.length 0 f) (e : handsD J s d f = some f') : Room J.length 0 f' :=
  foldM_room (g := fun r f => handF J (usesAll J) J.length s r f) (fun r f f' h e => hand_room hJ J.length 0 s r f f' h e) d f f' h e
theorem feedsF_room {J : List Nod} (hJ : jobErr J = 0) {ps : List (Int × List Rec)} {f f' : Flw} (h : Room J.length 0 f) (e : feedsF J ps f = some f') : Room J.length 0 f' :=
  foldM_room (g := fun (p : Int × List Rec) f => feedF J p.1 p.2 f) (fun p f f' h e => handsD_room hJ h e) ps f f' h e
theorem room_zero (n : Nat) : Room n 0 (flow0 n) := by
  refine ⟨⟨by simp [flow0], fun c hc => ?_⟩, ?_, fun m hm => ?_, fun c hc => ?_⟩
  · have := List.eq_of_mem_replicate (show c ∈ List.replicate _ _ from hc); omega
  · have h : ∀ n, (List.replicate n (0 : Int)).sum = 0 := fun n => by
      induction n with
      | zero => rfl
      | succ n ih => rw [List.replicate_succ, List.sum_cons, ih]; rfl
    show _ ≤ 48 * (List.replicate n (0 : Int)).sum
    rw [h]; simp
  · have h : ∀ n, (List.replicate n (0 : Int)).sum = 0 := fun n => by
      induction n with
      | zero => rfl
      | succ n ih => rw [List.replicate_succ, List.sum_cons, ih]; rfl
    rw [List.eq_of_mem_replicate (show m ∈ List.replicate _ _ from hm)]
    refine ⟨?_, nofun⟩
    show _ ≤ 48 * (List.replicate n (0 : Int)).sum
    rw [h]; simp
  · have := List.eq_of_mem_replicate (show c ∈ List.replicate _ _ from hc); omega
theorem info_state : (Tryz.prog.info? 63).map (fun i => (i.zero, i.size, i.bytes)) = some (some (.map none), 1, 8) := by kernel_rfl
theorem info_lmap : (Tryz.prog.info? 64).map (fun i => (i.zero, i.size, i.bytes)) = some (some (.map none), 1, 8) := by kernel_rfl
theorem info_lines : (Tryz.prog.info? 23).map (fun i => (i.zero, i.size, i.bytes)) = some (some (.slice none 0 0), 1, 24) := by kernel_rfl

/-! ### What is handed back -/
abbrev OutL := Option Addr × Nat × List LineR
def outCell (o : OutL) : List Value := [.slice o.1 o.2.2.length o.2.1]
def linOf (p : LineR) : Lin := ⟨p.1, p.2.xs⟩
theorem linC_lin {F : Nat → Prop} {w : World} {A : Option Addr} {c : Nat} {q : List LineR} (h : SlA linC F w A c q) (hq : ∀ p ∈ q, p.1.size ≤ maxLen ∧ p.2.At w ∧ (∀ k, blk p.2.A = some k → F k) ∧ ∀ x ∈ p.2.xs, I64 x) : SlA linE F w A c (q.map linOf) := by
  obtain ⟨h1, h2, h3⟩ := h
  refine ⟨by simpa using h1, h2, fun i x hx => ?_⟩
  rw [List.getElem?_map] at hx
  cases hp : q[i]? with
  | none => rw [hp] at hx; cases hx
  | some p =>
    rw [hp] at hx
    injection hx with hx
    subst hx
    obtain ⟨b, off, cs, e, hb, hc, hr⟩ := h3 i p hp
    obtain ⟨q1, q2, q3, q4⟩ := hq p (List.mem_of_getElem? hp)
    refine ⟨b, off, cs, e, hb, hc, .slice p.2.A p.2.xs.length p.2.cap, hr, q1, p.2.A, p.2.cap, rfl, ?_⟩
    exact OwnS.sl (E := intE .i64) intC (fun _ => rfl) q2 rfl q3 (fun x hx => ⟨rfl, q4 x hx⟩)
structure OutsAt (J : List Nod) (L : List (List LineR)) (B : Nat) (Ao : Option Addr) (w : World) (outs : List OutL) : Prop where
  at_ : ∀ (i : Nat) (o : OutL) (s : Int), outs[i]? = some o → (ofKind J 10)[i]? = some s → ∃ m, L[s.toNat]? = some m ∧ o.2.2.Perm m ∧ o.2.2.Pairwise (fun a b => kLess a.1 b.1) ∧ SlA linC (fun q => B ≤ q ∧ q < w.heap.size ∧ blk Ao ≠ some q) w o.1 o.2.1 o.2.2
theorem OutsAt.add {J : List Nod} {L : List (List LineR)} {B : Nat} {Ao : Option Addr} {w w7 w8 : World} {outs : List OutL} (h : OutsAt J L B Ao w outs) (hB : B ≤ w.heap.size) (hlt : ∀ q, blk Ao = some q → q < w.heap.size) (hb : Below w.heap.size w w7) {A8 : Option Addr} (hg : w7.grownBy w8 (blk Ao)) (hat : blk A8 = blk Ao ∨ ∃ k, blk A8 = some k ∧ w7.heap.size ≤ k)
    {o : OutL} {s : Int} {m : List LineR} (hs : (ofKind J 10)[outs.length]? = some s) (hm : L[s.toNat]? = some m) (h1 : o.2.2.Perm m) (h2 : o.2.2.Pairwise fun a b => kLess a.1 b.1) (h3 : SlA linC (fun k => w.heap.size ≤ k ∧ k < w7.heap.size) w7 o.1 o.2.1 o.2.2) : OutsAt J L B A8 w8 (outs ++ [o]) := by
  have hz := hb.size
  have hz8 := hg.size
  have hne8 : ∀ q, q < w7.heap.size → blk Ao ≠ some q → blk A8 ≠ some q := fun q hq hne e => by
    rcases hat with e2 | ⟨k, e2, hk⟩
    · exact hne (e2 ▸ e)
    · rw [e2] at e; injection e with e; omega
  refine ⟨fun i o' s' ho hs' => ?_⟩
  rcases Nat.lt_or_ge i outs.length with hi | hi
  · rw [List.getElem?_append_left hi] at ho
    obtain ⟨m', k1, k2, k3, k4⟩ := h.at_ i o' s' ho hs'
    refine ⟨m', k1, k2, k3, (k4.keep fun q hq => ?_).more fun q hq => ⟨hq.1, by have := hq.2.1; omega, hne8 q (by have := hq.2.1; omega) hq.2.2⟩⟩
    exact (hg.block q (by have := hq.2.1; omega) (fun e => hq.2.2 e.symm)).trans (hb.block q hq.2.1)
  · have hil : i < (outs ++ [o]).length := (List.getElem?_eq_some_iff.1 ho).1
    have hie : i = outs.length := by rw [List.length_append, List.length_singleton] at hil; omega
    subst hie
    rw [List.getElem?_append_right (Nat.le_refl _), Nat.sub_self] at ho
    injection ho with ho
    subst ho
    rw [hs] at hs'; injection hs' with hs'; subst hs'
    have hnn : ∀ q, w.heap.size ≤ q → blk Ao ≠ some q := fun q hq e => by have := hlt q e; omega
    exact ⟨m, hm, h1, h2, (h3.keep fun q hq => hg.block q hq.2 (fun e => hnn q hq.1 e.symm)).more fun q hq => ⟨by have := hq.1; omega, by have := hq.2; omega, hne8 q hq.2 (hnn q hq.1)⟩⟩
theorem outs_sl {J : List Nod} {C : FlowC} {L : List (List LineR)} {f : Flw} {B : Nat} {Ao : Option Addr} {co : Nat} {w w' : World} {outs : List OutL} (hF : FlowAt C L w' f) (hCB : w.heap.size ≤ C.B) (hB : C.B ≤ B) (h : OutsAt J L B Ao w' outs) (ho : OwnS w' 23 1 Ao co outs.length (outs.flatMap outCell)) (hA : ∀ q, blk Ao = some q → B ≤ q) (hn : outs.length = (ofKind J 10).length) :
    AllOf J f (outs.map fun o => o.2.2.map linOf) ∧ SlA (slE linE) (fun k => w.heap.size ≤ k ∧ k < w'.heap.size) w' Ao co (outs.map fun o => o.2.2.map linOf) := by
  have hall : ∀ (i : Nat) (o : OutL), outs[i]? = some o → ∃ (s : Int) (m : List LineR), (ofKind J 10)[i]? = some s ∧ L[s.toNat]? = some m ∧ o.2.2.Perm m ∧ o.2.2.Pairwise (fun a b => kLess a.1 b.1) ∧ SlA linC (fun q => B ≤ q ∧ q < w'.heap.size ∧ blk Ao ≠ some q) w' o.1 o.2.1 o.2.2 := fun i o ho => by
    have hi := get?_lt ho
    obtain ⟨m, k⟩ := h.at_ i o _ ho (List.getElem?_eq_getElem (by omega))
    exact ⟨_, m, List.getElem?_eq_getElem (by omega), k⟩
  refine ⟨⟨by rw [List.length_map]; exact hn, fun i s out hs hout => ?_⟩, ?_⟩
  · rw [List.getElem?_map] at hout
    cases ho' : outs[i]? with
    | none => rw [ho'] at hout; cases hout
    | some o =>
      rw [ho'] at hout
      injection hout with hout
      subst hout
      obtain ⟨s', m, k1, k2, k3, k4, _⟩ := hall i o ho'
      rw [hs] at k1; injection k1 with k1; subst k1
      rw [hF.ln, List.getElem?_map, k2]
      refine ⟨?_, ?_⟩
      · show (o.2.2.map linOf).Perm ((m.map lxs).map fun p => (⟨p.1, p.2⟩ : Lin))
        rw [List.map_map]
        exact k3.map linOf
      · exact List.pairwise_map.2 k4
  · obtain ⟨h1, h2, h3, h4⟩ := ho
    refine ⟨by rw [List.length_map]; exact h2, h3, fun i x hx => ?_⟩
    rw [List.getElem?_map] at hx
    cases ho' : outs[i]? with
    | none => rw [ho'] at hx; cases hx
    | some o =>
      rw [ho'] at hx
      injection hx with hx
      subst hx
      have hi := get?_lt ho'
      obtain ⟨s', m, _, k2, k3, _, k5⟩ := hall i o ho'
      rcases h4 with ⟨rfl, h0⟩ | ⟨g, off, cur, rfl, hh, hc, hr⟩
      · omega
      · have hgl := block_lt hh
        have hgB := hA g rfl
        refine ⟨g, off, outCell o, rfl, ⟨by omega, hgl⟩, fun j u hj => ?_, _, rfl, o.1, o.2.1, by rw [List.length_map], ?_⟩
        · have hj0 : j = 0 := by
            have := (List.getElem?_eq_some_iff.1 hj).1
            simp [outCell] at this; exact this
          subst hj0
          rw [cell_of_row w' g _ cur _ (0, 0) hh]
          have h5 := hr i u (by
            have h6 := flat_get outCell 1 (fun _ => rfl) outs ho' (j := 0) (by decide)
            rw [Nat.mul_one, Nat.add_zero] at h6
            rw [h6]; exact hj)
          simpa [slE] using h5
        · refine linC_lin (k5.more fun q hq => ⟨by have := hq.1; omega, hq.2.1⟩) fun p hp => ?_
          have hpm : p ∈ m := k3.mem_iff.1 hp
          obtain ⟨r1, r2⟩ := hF.rows _ m p k2 hpm
          have hsm := hF.lmap _ m k2
          refine ⟨hsm.key_le (List.mem_map.2 ⟨lp p, List.mem_map.2 ⟨p, hpm, rfl⟩, rfl⟩), r1, fun k hk => ⟨by have := (r2 k hk).1; omega, OwnS.lt r1 k hk⟩, fun x hx => ?_⟩
          exact hF.lnOk (m.map lxs) (by rw [hF.ln]; exact List.mem_map.2 ⟨m, List.mem_of_getElem? k2, rfl⟩) (lxs p) (List.mem_map.2 ⟨p, hpm, rfl⟩) x hx

set_option maxRecDepth 100000 in
set_option maxHeartbeats 4000000 in
theorem dall_ok (F : Nat → Prop) (A : Option Addr) (c : Nat) (J : List Nod) (G : Nat → Prop) (Ad : Option Addr) (cd : Nat) (data : List (List Rec)) (w : World) (hl : SlA nodE F w A c J) (hF : ∀ k, F k → k < w.heap.size) (hd : SlA (slE recE) G w Ad cd data) (hG : ∀ k, G k → k < w.heap.size) (hv : ErrVars w) (hT : PowTab w) :
    Calls Tryz.prog 9 #[.slice A J.length c, .slice Ad data.length cd] w (AllPost J data w) := by
  have HC := Lib.hid (dcheck_ok F A c J G Ad cd data w hl hF hd hG hv)
  by_cases h0 : denErr J data = 0
  · obtain ⟨hJ, hlen, hdat⟩ := den_parts h0
    have HJ := Lib.hid hJ
    have HDAT := Lib.hid hdat
    have HLEN := Lib.hid hlen
    have H0 := Lib.hid h0
    rw [show errJ (denErr J data) = .nilIface from by rw [h0]; rfl] at HC
    have HL := Lib.hid hl
    have HD := Lib.hid hd
    have HF := Lib.hid hF
    have HG := Lib.hid hG
    have HV := Lib.hid hv
    have HT := Lib.hid hT
    have h12 := (job_parts hJ).1
    have hle := hl.le
    have hpos : 0 < J.length := by
      have := (job_parts hJ).2.2.1
      rcases Nat.eq_zero_or_pos J.length with h | h
      · rw [List.eq_nil_of_length_eq_zero h] at this; cases this
      · exact h
    have hdle := hd.le
    clear hl hd hv hT h0 hJ hdat hlen hF hG
    go_enter Tryz.func9, Tryz.ntmps9
    go_wp2_with fail
    refine HC.out.mono ?_
    rintro e w1 ⟨rfl, hb1⟩
    have HL1 := Lib.hid (HL.out.keep (fun k hk => hb1.block k (HF.out k hk)))
    have HB1 := Lib.hid hb1
    clear hb1 HC
    go_wp2_with fail
    refine (uses_ok F A c J w1 HL1.out (fun k hk => Nat.lt_of_lt_of_le (HF.out k hk) HB1.out.size) (HV.out.below HB1.out)).mono ?_
    rintro e w2 ⟨hu1, _, hb2⟩
    obtain ⟨Au, cu, rfl, hsu⟩ := hu1 HJ.out
    have HU := Lib.hid hsu
    have HB2 := Lib.hid (HB1.out.trans (hb2.mono HB1.out.size))
    clear hu1 hsu hb2 HL1
    go_wp2_with fail
    refine (sources_ok F A c J w2 (HL.out.keep (fun k hk => HB2.out.block k (HF.out k hk))) (fun k hk => Nat.lt_of_lt_of_le (HF.out k hk) HB2.out.size) (HV.out.below HB2.out)).mono ?_
    rintro e w3 ⟨hs1, _, hb3⟩
    obtain ⟨As, cs, rfl, hss⟩ := hs1 HJ.out
    have HS := Lib.hid hss
    have HU3 := Lib.hid (HU.out.keep (fun k hk => hb3.block k hk))
    have HB3 := Lib.hid (HB2.out.trans (hb3.mono HB2.out.size))
    have hz3 := hb3.size
    clear hs1 hss hb3 HU
    go_wp2_with fail
    refine (sinks_ok F A c J w3 (HL.out.keep (fun k hk => HB3.out.block k (HF.out k hk))) (fun k hk => Nat.lt_of_lt_of_le (HF.out k hk) HB3.out.size) (HV.out.below HB3.out)).mono ?_
    rintro e w4 ⟨hk1, _, hb4⟩
    obtain ⟨Ak, ck, rfl, hks⟩ := hk1 HJ.out
    have HK4 := Lib.hid (hks.more (F' := (· < w4.heap.size)) fun k hk => hk.2)
    have hz4 := hb4.size
    have HS4 := Lib.hid ((HS.out.keep (fun k hk => hb4.block k hk.2)).more (F' := (· < w4.heap.size)) fun k hk => by have := hk.2; omega)
    have HU4 := Lib.hid ((HU3.out.keep (fun k hk => hb4.block k (by omega))).more (F' := (· < w4.heap.size)) fun k hk => by omega)
    have HB4 := Lib.hid (HB3.out.trans (hb4.mono HB3.out.size))
    have hzw := HB4.out.size
    have HL4 := Lib.hid ((HL.out.keep (fun k hk => HB4.out.block k (HF.out k hk))).more (F' := (· < w4.heap.size)) fun k hk => by have := HF.out k hk; omega)
    have HD4 := Lib.hid ((HD.out.keep (fun k hk => HB4.out.block k (HG.out k hk))).more (F' := (· < w4.heap.size)) fun k hk => by have := HG.out k hk; omega)
    have HENV : Hid (Env w4.heap.size w4) := fun w' hw' => ⟨HV.out.below (HB4.out.trans (hw'.mono hzw)), HT.out.below (HB4.out.trans (hw'.mono hzw))⟩
    have hmk : ∀ u : World, (Instr.makeSlice 26 (.int .i64 (J.length : Int)) (.int .i64 (J.length : Int))).run Tryz.prog u = .ok (.slice (some ⟨u.heap.size, 0, none⟩) J.length J.length) (u.alloc (.cells (madeCells #[.int .i64 0] J.length) 3)) := fun u =>
      run_make_row' (P := Tryz.prog) 26 3 (.int .i64 0) 8 Tryz.underlying26 info_int rfl .i64 .i64 J.length (by omega) (by omega) u
    have hmm := @run_makeMap Tryz.prog
    clear hk1 hks hb4 HS HU3 HB3 HB2 HB1 HL HD HV HT HF HG
    go_wp2_with fail
    clear hmk
    go_loopw [52] (fun kv wr => ∃ (k : Nat) (sl ll : List Nat) (vs vl : Value), k ≤ J.length ∧ kv = .int .i64 k ∧ sl.length = k ∧ ll.length = k ∧ Hid (MkAt w4.heap.size w4 J.length (.slice A J.length c) (.slice Au J.length cu) wr sl ll vs vl)) (fun kv _ => J.length - (intOf kv).toNat)
    case atStart => exact ⟨0, [], [], _, _, Nat.zero_le _, rfl, rfl, rfl, MkAt.start⟩
    case round =>
      obtain ⟨k, sl, ll, vs, vl, hk, rfl, hsl, hll, HM⟩ := hrel
      have c2 : wr.cell? ⟨w4.heap.size + 1, 2, none⟩ = some vs := (cell_of_row wr _ 2 _ _ _ HM.out.obj).trans rfl
      have c4 : wr.cell? ⟨w4.heap.size + 1, 4, none⟩ = some vl := (cell_of_row wr _ 4 _ _ _ HM.out.obj).trans rfl
      have hgl := block_lt HM.out.obj
      by_cases hlt : k < J.length
      · have HO : Hid ((wr.alloc (.map #[] 0)).ownsRow w4.heap.size 63 1 vs k (sl.map mv)) := by
          have h := ownsRow_keep (w' := wr.alloc (.map #[] 0)) HM.out.rs (fun q hq => Below.heap_alloc _ _ _ (HM.out.rs.lt q hq).2)
          rw [hsl] at h; exact h
        have HB0 := Lib.hid (HM.out.bel.alloc (by omega : w4.heap.size ≤ wr.heap.size) (.map #[] 0))
        go_wp2_with (at_builtin; refine wpList_push (w0 := wr.alloc (.map #[] 0)) rfl _ _ 58 rfl w4.heap.size 63 (.map none) 1 8 Tryz.underlying58 info_state rfl (by decide) vs k _ rfl HO.out [mv wr.heap.size] (by simp [Act.eval]) rfl ?_ ?_ ?_ HB0.out.size HB0.out (Nat.le_refl _) ?_)
        · rintro u hu; simp at hu; subst hu; rfl
        · unfold maxLen; omega
        · omega
        · intro v8 w8 hown8 hg8 hb8 hat8
          obtain ⟨ho8, hM8⟩ := HM.out.addS (by rw [hsl]; exact hown8) hg8 (hat8.imp_right fun ⟨g, e, h⟩ => ⟨g, e, Nat.lt_of_lt_of_le (by simp) h⟩)
          have hf8 : w8.frozen? ⟨w4.heap.size + 1, 2, none⟩ = false := by simp [World.frozen?, ho8]
          have d2 : w8.cell? ⟨w4.heap.size + 1, 2, none⟩ = some vs := (cell_of_row w8 _ 2 _ _ _ ho8).trans rfl
          have HM8 := Lib.hid hM8
          obtain ⟨g8, cap8, rfl, _, _⟩ := hown8.form (by omega)
          clear hown8 hg8 hb8 hat8 hM8 HO HB0 HM c2 c4
          obtain ⟨W9, HW9⟩ : ∃ W9, Hid (W9 = w8.setCell ⟨w4.heap.size + 1, 2, none⟩ (.slice (some ⟨g8, 0, none⟩) (k + 1) cap8)) := ⟨_, rfl⟩
          rw [← HW9.out] at HM8
          have c4 : W9.cell? ⟨w4.heap.size + 1, 4, none⟩ = some vl := (cell_of_row W9 _ 4 _ _ _ HM8.out.obj).trans rfl
          have hgl9 := block_lt HM8.out.obj
          have HO : Hid ((W9.alloc (.map #[] 0)).ownsRow w4.heap.size 64 1 vl k (ll.map mv)) := by
            have h := ownsRow_keep (w' := W9.alloc (.map #[] 0)) HM8.out.rl (fun q hq => Below.heap_alloc _ _ _ (HM8.out.rl.lt q hq).2)
            rw [hll] at h; exact h
          have HB0 := Lib.hid (HM8.out.bel.alloc (by omega : w4.heap.size ≤ W9.heap.size) (.map #[] 0))
          go_upto_region 11 with (fail)
          rw [← HW9.out]
          clear HW9 ho8 hf8 d2
          go_wp2_with (at_builtin; refine wpList_push (w0 := W9.alloc (.map #[] 0)) rfl _ _ 59 rfl w4.heap.size 64 (.map none) 1 8 Tryz.underlying59 info_lmap rfl (by decide) vl k _ rfl HO.out [mv W9.heap.size] (by simp [Act.eval]) rfl ?_ ?_ ?_ HB0.out.size HB0.out (Nat.le_refl _) ?_)
          · rintro u hu; simp at hu; subst hu; rfl
          · unfold maxLen; omega
          · omega
          · intro v10 w10 hown10 hg10 hb10 hat10
            obtain ⟨ho10, hM10⟩ := HM8.out.addL (by rw [hll]; exact hown10) hg10 (hat10.imp_right fun ⟨g, e, h⟩ => ⟨g, e, Nat.lt_of_lt_of_le (by simp) h⟩)
            have hf10 : w10.frozen? ⟨w4.heap.size + 1, 4, none⟩ = false := by simp [World.frozen?, ho10]
            have d4 : w10.cell? ⟨w4.heap.size + 1, 4, none⟩ = some vl := (cell_of_row w10 _ 4 _ _ _ ho10).trans rfl
            have HM10 := Lib.hid hM10
            obtain ⟨g10, cap10, rfl, _, _⟩ := hown10.form (by omega)
            clear hown10 hg10 hb10 hat10 hM10 HO HB0 HM8 c4
            go_wp2_with fail
            refine ⟨⟨k + 1, _, _, _, _, by omega, by go_num, ?_, ?_, HM10⟩, ?_⟩
            · rw [List.length_append, hsl]; rfl
            · rw [List.length_append, hll]; rfl
            · simp [intOf]; omega
      · have dk : decide (k < J.length) = false := decide_eq_false hlt
        clear hmm c2 c4
        obtain ⟨w5, h5⟩ : ∃ w5, w5 = wr := ⟨_, rfl⟩
        subst h5
        have hul : (usesAll J).length = J.length := by unfold usesAll; simp
        have hM : MkAt w4.heap.size w4 J.length (.slice A J.length c) (.slice Au (usesAll J).length cu) w5 sl ll vs vl := by rw [hul]; exact HM.out
        obtain ⟨bs, cs', bl, cl, hC, hF0⟩ := hM.flow rfl (by omega) (by omega) hpos HL4.out HU4.out
        have hh := dhand_ok _ hC HJ.out rfl J.length
        have HHAND : Hid (∀ (s : Nat) (r : Rec) (L : List (List (ByteArray × RowI))) (f : Flw) (W : World), s < J.length → FlowR r → FlowAt (mkC w4.heap.size J (usesAll J) A c Au cu bs cs' bl cl sl ll) L W f → Env w4.heap.size W → w4.heap.size ≤ W.heap.size → Room J.length 0 f →
            Calls Tryz.prog 19 #[.pointer (some ⟨w4.heap.size + 1, 0, none⟩), .int .i64 (s : Int), recV r] W fun e w' => Flows w4.heap.size W w' ∧ (∀ f', handF J (usesAll J) J.length s r f = some f' → e = .returned .nilIface ∧ ∃ L', FlowAt (mkC w4.heap.size J (usesAll J) A c Au cu bs cs' bl cl sl ll) L' w' f') ∧ (handF J (usesAll J) J.length s r f = none → e = .returned fullV)) :=
          fun s r L f W h1 h2 h3 h4 h5 h6 => hh s r L f W h1 (Nat.le_add_left _ _) h2 h3 h4 h5 h6
        have HCF : Hid ((mkC w4.heap.size J (usesAll J) A c Au cu bs cs' bl cl sl ll).B = w4.heap.size ∧ (mkC w4.heap.size J (usesAll J) A c Au cu bs cs' bl cl sl ll).g = w4.heap.size + 1 ∧ (mkC w4.heap.size J (usesAll J) A c Au cu bs cs' bl cl sl ll).J = J) := ⟨rfl, rfl, rfl⟩
        have HF0 := Lib.hid hF0
        have HC := Lib.hid hC
        have HB5 := Lib.hid HM.out.bel
        clear hh hM HM hul hF0 hC
        generalize mkC w4.heap.size J (usesAll J) A c Au cu bs cs' bl cl sl ll = C at HHAND HCF HF0 HC
        have hz5 := HB5.out.size
        clear hsl hll hk hlt
        go_wp2_with fail
        have hos := HS4.out.le
        go_loopw [77] (fun kv wx => ∃ (k : Nat) (L : List (List (ByteArray × RowI))) (fk : Flw), k ≤ (ofKind J 1).length ∧ kv = .int .i64 k ∧ Hid (feedsF J (((ofKind J 1).zip data).take k) (flow0 J.length) = some fk) ∧ Hid (FlowAt C L wx fk) ∧ Hid (Flows w4.heap.size w5 wx)) (fun kv _ => (ofKind J 1).length - (intOf kv).toNat)
        case atStart => exact ⟨0, _, _, Nat.zero_le _, rfl, rfl, HF0, Flows.refl _ _⟩
        case round =>
          clear HF0
          obtain ⟨k, L, fk, hk, rfl, HK, HFk, HFL⟩ := hrel
          have hbx := HB5.out.trans (HFL.out.below hz5)
          by_cases hlt : k < (ofKind J 1).length
          · obtain ⟨b1, o1, rfl, _, d1, _⟩ := (HS4.out.keep (w' := wr) (fun q hq => hbx.block q hq)).int_ hlt
            obtain ⟨s, n, hsn, hn, _⟩ := kind_mem (List.getElem_mem hlt)
            rw [hsn] at d1
            have hsl := get?_lt hn
            have hdk : k < data.length := by rw [HLEN.out]; exact hlt
            have hcap1 := HS4.out.1
            obtain ⟨b2, o2, A6, c6, rfl, _, d2, hd6⟩ := (HD4.out.keep (w' := wr) (fun q hq => hbx.block q hq)).sl_ hdk
            have hcap2 := HD4.out.1
            have hdm : data[k] ∈ data := List.getElem_mem hdk
            have HZ : Hid (((ofKind J 1).zip data).length = (ofKind J 1).length) := by show _ = _; rw [List.length_zip, HLEN.out, Nat.min_self]
            have HNX : Hid (feedsF J (((ofKind J 1).zip data).take (k + 1)) (flow0 J.length) = feedF J (s : Int) data[k] fk) := by
              show _ = _
              have h := foldM_next (fun (p : Int × List Rec) f => feedF J p.1 p.2 f) ((ofKind J 1).zip data) (flow0 J.length) (k := k) (by rw [HZ.out]; exact hlt)
              have h2 : (((ofKind J 1).zip data).take k).foldlM (fun f (p : Int × List Rec) => feedF J p.1 p.2 f) (flow0 J.length) = some fk := HK.out
              rw [h2] at h
              refine h.trans ?_
              show feedF J (((ofKind J 1).zip data)[k]'_).1 (((ofKind J 1).zip data)[k]'_).2 fk = _
              rw [List.getElem_zip]
              simp only
              rw [hsn]
            obtain ⟨h300, hrec⟩ := data_ok HDAT.out _ hdm
            have HROOM := Lib.hid (feedsF_room HJ.out (room_zero J.length) HK.out)
            have HREC := Lib.hid hrec
            have HD6 := Lib.hid hd6
            clear hrec hd6 hdm hsn hn hbx
            generalize data[k] = d at d2 h300 HREC HD6 HNX
            have hcap6 := HD6.out.1
            have hle6 := HD6.out.le
            have HWR : Hid (SlA recE (· < w4.heap.size) w4 A6 c6 d) := HD6.out.keep (fun q hq => ((HB5.out.trans (HFL.out.below hz5)).block q hq).symm)
            clear HD6
            go_wp2_with fail
            go_loopw [87] (fun jv wx => ∃ (j : Nat) (L : List (List (ByteArray × RowI))) (fj : Flw), j ≤ d.length ∧ jv = .int .i64 j ∧ Hid (handsD J s (d.take j) fk = some fj) ∧ Hid (FlowAt C L wx fj) ∧ Hid (Flows w4.heap.size w5 wx)) (fun jv _ => d.length - (intOf jv).toNat)
            case atStart => exact ⟨0, L, fk, Nat.zero_le _, rfl, rfl, HFk, HFL⟩
            case round =>
              clear HFk HFL d1 d2
              obtain ⟨j, L', fj, hj, rfl, HS, HFj, HFLj⟩ := hrel
              have hbx := HB5.out.trans (HFLj.out.below hz5)
              by_cases hlj : j < d.length
              · obtain ⟨b3, o3, rfl, _, y0, y1, y2, hy1, hy2, hy3⟩ := (HWR.out.keep (w' := wr) (fun q hq => hbx.block q hq)).rec_ hlj
                have HFR : Hid (FlowR d[j]) := ⟨recErr_no (HREC.out _ (List.getElem_mem hlj)), hy2, hy3⟩
                have HN2 : Hid (handsD J s (d.take (j + 1)) fk = handF J (usesAll J) J.length s d[j] fj) := by
                  show _ = _
                  have h := foldM_next (fun r f => handF J (usesAll J) J.length s r f) d fk hlj
                  have h2 : (d.take j).foldlM (fun f r => handF J (usesAll J) J.length s r f) fk = some fj := HS.out
                  rw [h2] at h
                  exact h
                have HRM := Lib.hid (handsD_room HJ.out HROOM.out HS.out)
                clear hy1 hy2 hy3
                generalize d[j] = r2 at y0 y1 y2 HFR HN2
                obtain ⟨key2, num2, time2⟩ := r2
                simp only at y0 y1 y2
                have hzr := HFLj.out.size
                have HFLa : Hid (Flows w4.heap.size w5 (wr.alloc (.cells #[.string key2, .int .i64 num2, .int .i64 time2] 30))) := HFLj.out.trans (Flows.ofBelow ((Below.refl _ _).alloc (Nat.le_refl _) _))
                have HCALL := Lib.hid (HHAND.out s ⟨key2, num2, time2⟩ L' fj (wr.alloc (.cells #[.string key2, .int .i64 num2, .int .i64 time2] 30)) hsl HFR.out (HFj.out.below ((Below.refl _ _).alloc (Nat.le_refl _) _) (by rw [HCF.out.1]; omega)) (HENV.out.flows (HB5.out.trans (HFLa.out.below hz5))) (by simp; omega) HRM.out)
                clear hbx HFj HFLj
                go_wp2_with fail
                refine HCALL.out.mono ?_
                rintro e w7 ⟨hfl7, hsome, hnone⟩
                have HFL7 := Lib.hid (HFLa.out.trans hfl7)
                cases hres : handF J (usesAll J) J.length s ⟨key2, num2, time2⟩ fj with
                | none =>
                  rw [hnone hres]
                  have HNO : Hid (flowAll J data = none) := by
                    show _ = _
                    have h1 : handsD J s (d.take (j + 1)) fk = none := by rw [HN2.out, hres]
                    have h2 : feedF J (s : Int) d fk = none := foldM_stop (fun r f => handF J (usesAll J) J.length s r f) d fk h1
                    exact foldM_stop (fun (p : Int × List Rec) f => feedF J p.1 p.2 f) ((ofKind J 1).zip data) (flow0 J.length) (k := k + 1) (by have := HNX.out; rw [h2] at this; exact this)
                  have HBX := Lib.hid (HB4.out.trans ((HB5.out.trans (HFL7.out.below hz5)).mono hzw))
                  clear hres hsome hnone hfl7 HFL7 HFLa HCALL HS HN2 HNX HK HHAND HREC
                  unfold fullV
                  go_wp2_with fail
                  go_ret2
                  refine ⟨fun h => absurd H0.out h, fun _ _ => rfl, fun _ f hf => ?_, HBX.out⟩
                  rw [HNO.out] at hf; cases hf
                | some f2 =>
                  obtain ⟨he, L2, hF2⟩ := hsome f2 hres
                  subst he
                  have HS2 : Hid (handsD J s (d.take (j + 1)) fk = some f2) := by show _ = _; rw [HN2.out, hres]
                  have HF2 := Lib.hid hF2
                  clear hres hsome hnone hfl7 HFLa HCALL HS HN2 hF2 y0 y1 y2
                  go_wp2_with fail
                  go_roundw
                  case rel => exact ⟨j + 1, L2, f2, by omega, by go_num, HS2, HF2, HFL7⟩
                  case measure => simp [intOf]; omega
              · have dj : decide (j < d.length) = false := decide_eq_false hlj
                have HK2 : Hid (feedsF J (((ofKind J 1).zip data).take (k + 1)) (flow0 J.length) = some fj) := by
                  show _ = _
                  rw [HNX.out]
                  have h := HS.out
                  rw [List.take_of_length_le (by omega)] at h
                  exact h
                clear HS HNX hj hlj
                go_wp2_with fail
                refine ⟨⟨k + 1, L', fj, by omega, by go_num, HK2, HFj, HFLj⟩, ?_⟩
                simp [intOf]; omega
          · have dk : decide (k < (ofKind J 1).length) = false := decide_eq_false hlt
            have HALL : Hid (flowAll J data = some fk) := by
              show _ = _
              have h := HK.out
              rw [List.take_of_length_le (by rw [List.length_zip]; omega)] at h
              exact h
            have HROOM := Lib.hid (feedsF_room HJ.out (room_zero J.length) HK.out)
            obtain ⟨w6, h6⟩ : ∃ w6, w6 = wr := ⟨_, rfl⟩
            subst h6
            have HB6 := Lib.hid hbx
            have hz6 := hbx.size
            clear HK hbx HFL hk hlt HHAND
            have hok := HK4.out.le
            have hok12 : (ofKind J 10).length ≤ 12 := Nat.le_trans (of_len J 10) h12
            go_wp2_with fail
            go_loopw [19, 102] (fun ov kv wx => ∃ (k : Nat) (Ao : Option Addr) (co : Nat) (outs : List OutL), k ≤ (ofKind J 10).length ∧ kv = .int .i64 k ∧ ov = .slice Ao k co ∧ outs.length = k ∧ Hid (OwnS wx 23 1 Ao co k (outs.flatMap outCell)) ∧ Hid (OutsAt J L w6.heap.size Ao wx outs) ∧ Hid (∀ q, blk Ao = some q → w6.heap.size ≤ q) ∧ Hid (Below w6.heap.size w6 wx)) (fun _ kv _ => (ofKind J 10).length - (intOf kv).toNat)
            case atStart => exact ⟨0, none, 0, [], Nat.zero_le _, rfl, rfl, rfl, OwnS.nil _ _ _, ⟨nofun⟩, nofun, Below.refl _ _⟩
            case round =>
              obtain ⟨k, Ao, co, outs, hk, rfl, rfl, hol, HO, HOUT, HA, HB⟩ := hrel
              have HFr := Lib.hid (HFk.out.below HB.out (by rw [HCF.out.1]; omega))
              have hzr := HB.out.size
              by_cases hlt : k < (ofKind J 10).length
              · obtain ⟨b1, o1, rfl, _, d1, _⟩ := (HK4.out.keep (w' := wr) (fun q hq => (HB6.out.trans (HB.out.mono hz6)).block q hq)).int_ hlt
                obtain ⟨s, n, hsn, hn, _⟩ := kind_mem (List.getElem_mem hlt)
                rw [hsn] at d1
                have hsl := get?_lt hn
                have hcapk := HK4.out.1
                obtain ⟨_, _, _, _, p4, _, p6, _⟩ := HFr.out.parts (i := s) (by rw [HCF.out.2.2]; exact hsl)
                rw [HCF.out.2.1, HCF.out.2.2] at p4
                obtain ⟨m, hm⟩ : ∃ m, L[s]? = some m := ⟨_, List.getElem?_eq_getElem (by rw [HFr.out.Ln, HCF.out.2.2]; exact hsl)⟩
                have hml : m.length ≤ 2000000 := by
                  have h := HROOM.out.keys h12 (m := m.map lxs) (by rw [HFr.out.ln]; exact List.mem_map.2 ⟨m, List.mem_of_getElem? hm, rfl⟩)
                  rwa [List.length_map] at h
                have HLN := Lib.hid (lines_any (C.lb s) m wr (HFr.out.lmap s m hm) (by omega))
                have HM := Lib.hid hm
                have HSN : Hid ((ofKind J 10)[k]? = some (s : Int)) := by show _ = _; rw [List.getElem?_eq_getElem hlt, hsn]
                clear hm hsn hn
                go_wp2_with fail
                refine HLN.out.mono ?_
                rintro e w7 ⟨A', c', q, rfl, hq1, hq2, hq3, hb7⟩
                have HO7 := Lib.hid (HO.out.keep (fun j hj => hb7.block j (HO.out.lt j hj)))
                have HB7 := Lib.hid hb7
                have HQ := Lib.hid (And.intro hq1 (And.intro hq2 hq3))
                have hqs := hq3.le
                clear hq1 hq2 hq3 hb7 HLN d1 p4 p6
                go_wp2_with (at_builtin; refine wpList_push_S (w0 := w7) rfl _ _ 39 rfl 23 (.slice none 0 0) 1 24 Tryz.underlying39 info_lines rfl (by decide) Ao co k _ rfl HO7.out (outCell (A', c', q)) rfl rfl (by simp [outCell, Value.oneCell']) (by unfold maxLen; omega) (by omega) ?_)
                intro A8 c8 w8 hown8 hg8 hat8
                have HOUT8 : Hid (OutsAt J L w6.heap.size A8 w8 (outs ++ [(A', c', q)])) := HOUT.out.add hzr (fun j hj => HO.out.lt j hj) HB7.out hg8 hat8 (s := (s : Int)) (m := m) (by rw [hol]; exact HSN.out) (by rw [Int.toNat_natCast]; exact HM.out) HQ.out.1 HQ.out.2.1 HQ.out.2.2
                have HO8 : Hid (OwnS w8 23 1 A8 c8 (k + 1) ((outs ++ [((A', c', q) : OutL)]).flatMap outCell)) := by
                  show OwnS _ _ _ _ _ _ _
                  rw [List.flatMap_append]
                  have : ([((A', c', q) : OutL)].flatMap outCell) = outCell (A', c', q) := by simp
                  rw [this]; exact hown8
                have hz7 := HB7.out.size
                have HA8 : Hid (∀ j, blk A8 = some j → w6.heap.size ≤ j) := fun j hj => by
                  rcases hat8 with e | ⟨j', e, h⟩
                  · exact HA.out j (e ▸ hj)
                  · rw [e] at hj; injection hj with hj; omega
                have HB8 : Hid (Below w6.heap.size w6 w8) := (HB.out.trans (HB7.out.mono hzr)).grown hg8 (by omega) HA.out
                clear hown8 hg8 hat8 HO7 HO HOUT HA HB HB7 HQ HM HFr
                go_wp2_with fail
                go_roundw
                case rel => exact ⟨k + 1, A8, c8, outs ++ [((A', c', q) : OutL)], by omega, by go_num, rfl, by rw [List.length_append, hol]; rfl, HO8, HOUT8, HA8, HB8⟩
                case measure => simp [intOf]; omega
              · have dk : decide (k < (ofKind J 10).length) = false := decide_eq_false hlt
                have hke : k = (ofKind J 10).length := by omega
                have HRES := Lib.hid (outs_sl (w := w) HFr.out (by rw [HCF.out.1]; exact hzw) (by rw [HCF.out.1]; exact hz6) HOUT.out (by rw [hol]; exact HO.out) HA.out (by rw [hol]; exact hke))
                have HBX := Lib.hid (HB4.out.trans ((HB6.out.trans (HB.out.mono hz6)).mono hzw))
                have HOL := Lib.hid hol
                clear hke HO HOUT HA HB HFr hk hlt hol
                go_wp2_with fail
                go_ret2
                refine ⟨fun h => absurd H0.out h, fun _ h => ?_, fun _ f hf => ?_, HBX.out⟩
                · rw [HALL.out] at h; cases h
                · rw [HALL.out] at hf; injection hf with hf; subst hf
                  exact ⟨Ao, co, _, by rw [List.length_map, HOL.out]; rfl, HRES.out.1, HRES.out.2⟩
  · have H0 := Lib.hid h0
    rw [show errJ (denErr J data) = errV (denErr J data) from by unfold errJ; rw [if_neg h0]] at HC
    obtain ⟨je, hje⟩ : ∃ je, je = denErr J data := ⟨_, rfl⟩
    have HJE := Lib.hid hje
    rw [← hje] at HC
    clear hl hd hv hT h0 hje
    go_enter Tryz.func9, Tryz.ntmps9
    go_wp2_with fail
    refine HC.out.mono ?_
    rintro e w1 ⟨rfl, hb1⟩
    have HB1 := Lib.hid hb1
    clear hb1
    unfold errV
    go_wp2_with fail
    go_ret2
    exact ⟨fun _ => by rw [← HJE.out]; rfl, fun h => absurd h H0.out, fun h => absurd h H0.out, HB1.out⟩
end Go.Proofs.YtcmhbhdiepkndaaGreatDoor

/-
  Package den, plain: what a node makes, key by key; lines as groups of records; a chain of one node between a Source and a Sink. No condition: plain definitions and lemmas.
-/
namespace Go.Proofs.YtcmhbhdiepkndaaGreatDoor
open Go.RowKit
set_option linter.unusedVariables false

/-! ### Maps -/
theorem pget_cons {α : Type} (p : ByteArray × α) (m : List (ByteArray × α)) (k : ByteArray) : pget (p :: m) k = if p.1 = k then some p.2 else pget m k := by
  unfold pget
  rw [List.find?_cons]
  by_cases e : p.1 = k
  · rw [if_pos e, decide_eq_true e]; rfl
  · rw [if_neg e, decide_eq_false e]
theorem pget_pset {α : Type} (m : List (ByteArray × α)) (k j : ByteArray) (v : α) : pget (pset m k v) j = if k = j then some v else pget m j := by
  induction m with
  | nil => simp only [pset]; rw [pget_cons]
  | cons p m ih =>
    simp only [pset]
    by_cases e : p.1 = k
    · rw [if_pos e, pget_cons, pget_cons]
      by_cases e2 : k = j
      · rw [if_pos e2, if_pos e2]
      · rw [if_neg e2, if_neg e2, if_neg (fun h => e2 (e.symm.trans h))]
    · rw [if_neg e, pget_cons, pget_cons, ih]
      by_cases e3 : p.1 = j
      · rw [if_pos e3, if_pos e3, if_neg (fun h => e (e3.trans h.symm))]
      · rw [if_neg e3, if_neg e3]
theorem pkeys_pset {α : Type} (m : List (ByteArray × α)) (k j : ByteArray) (v : α) : j ∈ pkeys (pset m k v) ↔ j = k ∨ j ∈ pkeys m := by
  induction m with
  | nil => simp [pset, pkeys]
  | cons p m ih =>
    simp only [pset]
    by_cases e : p.1 = k
    · rw [if_pos e]
      simp only [pkeys, List.map_cons, List.mem_cons]
      constructor
      · rintro (h | h)
        · exact .inl h
        · exact .inr (.inr h)
      · rintro (h | h | h)
        · exact .inl h
        · exact .inl (h.trans e)
        · exact .inr h
    · rw [if_neg e]
      have ih' : j ∈ (pset m k v).map (·.1) ↔ j = k ∨ j ∈ m.map (·.1) := ih
      simp only [pkeys, List.map_cons, List.mem_cons, ih']
      constructor
      · rintro (h | h | h)
        · exact .inr (.inl h)
        · exact .inl h
        · exact .inr (.inr h)
      · rintro (h | h | h)
        · exact .inr (.inl h)
        · exact .inl h
        · exact .inr (.inr h)
theorem pkeys_nodup {α : Type} {m : List (ByteArray × α)} (h : (pkeys m).Nodup) (k : ByteArray) (v : α) : (pkeys (pset m k v)).Nodup := by
  induction m with
  | nil => simp [pset, pkeys]
  | cons p m ih =>
    obtain ⟨h1, h2⟩ := List.nodup_cons.1 (show (p.1 :: pkeys m).Nodup from h)
    simp only [pset]
    by_cases e : p.1 = k
    · rw [if_pos e]; exact List.nodup_cons.2 ⟨e ▸ h1, h2⟩
    · rw [if_neg e]
      refine List.nodup_cons.2 ⟨fun hm => ?_, ih h2⟩
      rcases (pkeys_pset m k p.1 v).1 hm with h3 | h3
      · exact e h3
      · exact h1 h3

/-! ### Groups -/
def numsAt (l : List Rec) (k : ByteArray) : List Int := (l.filter fun r => decide (r.key = k)).map (·.num)
def grp (l : List Rec) : List (ByteArray × List Int) := l.foldl addLine []
theorem grp_snoc (l : List Rec) (r : Rec) : grp (l ++ [r]) = addLine (grp l) r := by unfold grp; rw [List.foldl_append]; rfl
theorem numsAt_snoc (l : List Rec) (r : Rec) (k : ByteArray) : numsAt (l ++ [r]) k = numsAt l k ++ if r.key = k then [r.num] else [] := by
  unfold numsAt
  rw [List.filter_append, List.map_append]
  by_cases h : r.key = k
  · simp [h]
  · simp [h]
theorem snoc_ind {α : Type} {P : List α → Prop} (h0 : P []) (h1 : ∀ l a, P l → P (l ++ [a])) : ∀ l, P l := by
  have h : ∀ (r l : List α), P l → P (l ++ r) := by
    intro r
    induction r with
    | nil => intro l h; simpa using h
    | cons a r ih => intro l h; have := ih (l ++ [a]) (h1 l a h); simpa using this
  intro l
  have := h l [] h0
  simpa using this
theorem numsAt_nil {l : List Rec} {k : ByteArray} : numsAt l k = [] ↔ ∀ r ∈ l, r.key ≠ k := by
  unfold numsAt
  rw [List.map_eq_nil_iff, List.filter_eq_nil_iff]
  constructor
  · intro h r hr e; exact h r hr (decide_eq_true e)
  · intro h r hr e; exact h r hr (of_decide_eq_true e)
theorem grp_get (l : List Rec) (k : ByteArray) : (pget (grp l) k).getD [] = numsAt l k ∧ ((pget (grp l) k).isSome = true ↔ ∃ r ∈ l, r.key = k) := by
  revert k
  refine snoc_ind (P := fun l => ∀ k, (pget (grp l) k).getD [] = numsAt l k ∧ ((pget (grp l) k).isSome = true ↔ ∃ r ∈ l, r.key = k)) ?_ ?_ l
  · intro k; exact ⟨rfl, by simp [grp, pget]⟩
  · intro l r ih k
    rw [grp_snoc]
    unfold addLine
    rw [pget_pset, numsAt_snoc]
    obtain ⟨i1, i2⟩ := ih k
    by_cases h : r.key = k
    · rw [if_pos h, if_pos h]
      refine ⟨by rw [← i1, h]; rfl, by simp [h]⟩
    · rw [if_neg h, if_neg h, List.append_nil]
      refine ⟨i1, i2.trans ⟨fun ⟨r', h1, h2⟩ => ⟨r', List.mem_append.2 (.inl h1), h2⟩, fun ⟨r', h1, h2⟩ => ?_⟩⟩
      rcases List.mem_append.1 h1 with h1 | h1
      · exact ⟨r', h1, h2⟩
      · rw [List.mem_singleton.1 h1] at h2; exact absurd h2 h
theorem grp_keys (l : List Rec) : (pkeys (grp l)).Nodup ∧ ∀ k, k ∈ pkeys (grp l) ↔ ∃ r ∈ l, r.key = k := by
  refine snoc_ind (P := fun l => (pkeys (grp l)).Nodup ∧ ∀ k, k ∈ pkeys (grp l) ↔ ∃ r ∈ l, r.key = k) ?_ ?_ l
  · exact ⟨by simp [grp, pkeys], fun k => by simp [grp, pkeys]⟩
  · intro l r ⟨i1, i2⟩
    rw [grp_snoc]
    unfold addLine
    refine ⟨pkeys_nodup i1 _ _, fun k => ?_⟩
    rw [pkeys_pset, i2]
    constructor
    · rintro (h | ⟨r', h1, h2⟩)
      · exact ⟨r, by simp, h.symm⟩
      · exact ⟨r', List.mem_append.2 (.inl h1), h2⟩
    · rintro ⟨r', h1, h2⟩
      rcases List.mem_append.1 h1 with h1 | h1
      · exact .inr ⟨r', h1, h2⟩
      · rw [List.mem_singleton.1 h1] at h2; exact .inl h2.symm
/-- The numbers of a key among lines. -/
def numsOf (out : List Lin) (k : ByteArray) : List Int := ((out.find? fun x => decide (x.key = k)).map (·.nums)).getD []
theorem find_key {out : List Lin} (hn : (out.map (·.key)).Nodup) {x : Lin} (hx : x ∈ out) : out.find? (fun y => decide (y.key = x.key)) = some x := by
  induction out with
  | nil => cases hx
  | cons y l ih =>
    obtain ⟨h1, h2⟩ := List.nodup_cons.1 (show (y.key :: l.map (·.key)).Nodup from hn)
    rw [List.find?_cons]
    by_cases e : y.key = x.key
    · rw [decide_eq_true e]
      rcases List.mem_cons.1 hx with h | h
      · rw [h]
      · exact absurd (List.mem_map.2 ⟨x, h, e.symm⟩) h1
    · rw [decide_eq_false e]
      rcases List.mem_cons.1 hx with h | h
      · rw [h] at e; exact absurd rfl e
      · exact ih h2 h
/-- Lines of a group: each key once, with its numbers. -/
structure LinesGrp (l : List Rec) (out : List Lin) : Prop where
  nd : (out.map (·.key)).Nodup
  keys : ∀ k, k ∈ out.map (·.key) ↔ ∃ r ∈ l, r.key = k
  nums : ∀ x ∈ out, x.nums = numsAt l x.key
  of : ∀ k, numsOf out k = numsAt l k
  sorted : out.Pairwise fun a b => kLess a.key b.key
theorem lines_grp {l : List Rec} {out : List Lin} (h : LinesOf (grp l) out) : LinesGrp l out := by
  obtain ⟨hp, hs⟩ := h
  obtain ⟨g1, g2⟩ := grp_keys l
  have hk : (out.map (·.key)).Perm (pkeys (grp l)) := by
    have := hp.map (·.key)
    rw [List.map_map] at this
    exact this
  have hnd := hk.nodup_iff.2 g1
  have hnums : ∀ x ∈ out, x.nums = numsAt l x.key := fun x hx => by
    obtain ⟨p, hp1, hp2⟩ := List.mem_map.1 (hp.mem_iff.1 hx)
    rw [← hp2]
    obtain ⟨a, b, e⟩ := List.append_of_mem hp1
    have ha : p.1 ∉ pkeys a := fun hm => by
      have h3 := g1
      rw [e] at h3
      unfold pkeys at h3 hm
      rw [List.map_append, List.map_cons] at h3
      exact (List.nodup_append.1 h3).2.2 _ hm _ List.mem_cons_self rfl
    have h4 := (grp_get l p.1).1
    rw [e, show p = (p.1, p.2) from rfl, pget_split ha] at h4
    exact h4
  refine ⟨hnd, fun k => (hk.mem_iff).trans (g2 k), hnums, fun k => ?_, hs⟩
  by_cases hm : k ∈ out.map (·.key)
  · obtain ⟨x, hx, rfl⟩ := List.mem_map.1 hm
    unfold numsOf
    rw [find_key hnd hx]
    exact hnums x hx
  · have h5 : numsAt l k = [] := numsAt_nil.2 fun r hr e => hm ((hk.mem_iff.trans (g2 k)).2 ⟨r, hr, e⟩)
    rw [h5]
    unfold numsOf
    rw [List.find?_eq_none.2 fun x hx he => hm (List.mem_map.2 ⟨x, hx, of_decide_eq_true he⟩)]
    rfl
theorem LinesGrp.len {l l' : List Rec} {a b : List Lin} (ha : LinesGrp l a) (hb : LinesGrp l' b) (h : ∀ k, (∃ r ∈ l, r.key = k) ↔ ∃ r ∈ l', r.key = k) : a.length = b.length := by
  have hp : (a.map (·.key)).Perm (b.map (·.key)) := (List.perm_ext_iff_of_nodup ha.nd hb.nd).2 fun k => (ha.keys k).trans ((h k).trans (hb.keys k).symm)
  have := hp.length_eq
  rwa [List.length_map, List.length_map] at this
theorem LinesGrp.pos {l : List Rec} {a : List Lin} (h : LinesGrp l a) {x : Lin} (hx : x ∈ a) : x.nums ≠ [] := by
  rw [h.nums x hx]
  obtain ⟨r, hr, e⟩ := (h.keys x.key).1 (List.mem_map.2 ⟨x, hx, rfl⟩)
  exact fun h0 => numsAt_nil.1 h0 r hr e
theorem LinesGrp.same {l l' : List Rec} {a b : List Lin} (ha : LinesGrp l a) (hb : LinesGrp l' b) (h : ∀ k, numsAt l k = numsAt l' k) : a = b := by
  have hk : ∀ k, (∃ r ∈ l, r.key = k) ↔ ∃ r ∈ l', r.key = k := fun k => by
    have h1 : (∃ r ∈ l, r.key = k) ↔ numsAt l k ≠ [] := ⟨fun ⟨r, hr, e⟩ h0 => numsAt_nil.1 h0 r hr e, fun h0 => Classical.byContradiction fun hn => h0 (numsAt_nil.2 fun r hr e => hn ⟨r, hr, e⟩)⟩
    have h2 : (∃ r ∈ l', r.key = k) ↔ numsAt l' k ≠ [] := ⟨fun ⟨r, hr, e⟩ h0 => numsAt_nil.1 h0 r hr e, fun h0 => Classical.byContradiction fun hn => h0 (numsAt_nil.2 fun r hr e => hn ⟨r, hr, e⟩)⟩
    rw [h1, h2, h k]
  have hp : (a.map (·.key)).Perm (b.map (·.key)) := (List.perm_ext_iff_of_nodup ha.nd hb.nd).2 fun k => (ha.keys k).trans ((hk k).trans (hb.keys k).symm)
  have hmem : a.Perm b := by
    have na : a.Nodup := (List.pairwise_map.1 ha.nd).imp fun h e => h (by rw [e])
    have nb : b.Nodup := (List.pairwise_map.1 hb.nd).imp fun h e => h (by rw [e])
    have sub : ∀ {l l' : List Rec} {a b : List Lin}, LinesGrp l a → LinesGrp l' b → (∀ k, numsAt l k = numsAt l' k) → (a.map (·.key)).Perm (b.map (·.key)) → ∀ x ∈ a, x ∈ b := fun ha hb h hp x hx => by
      obtain ⟨y, hy, e⟩ := List.mem_map.1 (hp.mem_iff.1 (List.mem_map.2 ⟨x, hx, rfl⟩))
      have h1 : y.nums = x.nums := by rw [hb.nums y hy, ha.nums x hx, e, h]
      have : x = y := by cases x; cases y; simp only at e h1; rw [e, h1]
      rw [this]; exact hy
    exact (List.perm_ext_iff_of_nodup na nb).2 fun x => ⟨sub ha hb h hp x, sub hb ha (fun k => (h k).symm) hp.symm x⟩
  exact hmem.eq_of_pairwise (le := fun a b => kLess a.key b.key) (fun x y _ _ h1 h2 => absurd (List.lt_trans h1 h2) (List.lt_irrefl _)) ha.sorted hb.sorted

/-! ### A node, key by key -/
theorem passR_key {r x : Rec} (h : x ∈ passR r) : x = r := by
  unfold passR at h
  split at h
  · cases h
  · exact List.mem_singleton.1 h
def OutIn (Q : Rec → Prop) (d : Did) : Prop := ∀ x ∈ d.out, Q x
theorem OutIn.ends {Q : Rec → Prop} {l : List Rec} {h : Hld} {has : Bool} (hl : ∀ x ∈ l, Q x) : OutIn Q (ends_ l h has) := hl
theorem applyN_key {n : Nod} (h4 : n.kind ≠ 4) (h6 : n.kind ≠ 6) (h : Hld) (has : Bool) (r : Rec) (input : Int) : OutIn (fun x => x.key = r.key) (applyN n h has r input) := by
  have hp : ∀ q : Rec, q.key = r.key → ∀ x ∈ passR q, x.key = r.key := fun q hq x hx => by rw [passR_key hx]; exact hq
  unfold applyN
  simp only
  split
  · exact OutIn.ends (hp _ rfl)
  split
  · refine OutIn.ends ?_
    split
    · nofun
    · exact hp _ rfl
  split
  · refine OutIn.ends fun x hx => ?_
    obtain ⟨l, hl, hx⟩ := List.mem_flatten.1 hx
    rw [List.eq_of_mem_replicate hl] at hx
    exact hp _ rfl x hx
  split
  · exact OutIn.ends (hp _ rfl)
  split
  · split
    · exact OutIn.ends (hp _ rfl)
    · exact OutIn.ends nofun
  split
  · refine OutIn.ends ?_
    split
    · nofun
    · exact hp _ rfl
  · exact OutIn.ends (hp _ rfl)
def atKey (k : ByteArray) (l : List (Nat × Rec)) : List (Nat × Rec) := l.filter fun p => decide (p.2.key = k)
def recsAt (k : ByteArray) (l : List Rec) : List Rec := l.filter fun r => decide (r.key = k)
theorem numsAt_recs (l : List Rec) (k : ByteArray) : numsAt l k = (recsAt k l).map (·.num) := rfl
theorem run_key {n : Nod} (h4 : n.kind ≠ 4) (h6 : n.kind ≠ 6) (k : ByteArray) (log : List (Nat × Rec)) : recsAt k (runLog n log).2 = (runLog n (atKey k log)).2 ∧ pget (runLog n log).1 k = pget (runLog n (atKey k log)).1 k := by
  refine snoc_ind (P := fun log => recsAt k (runLog n log).2 = (runLog n (atKey k log)).2 ∧ pget (runLog n log).1 k = pget (runLog n (atKey k log)).1 k) ⟨rfl, rfl⟩ ?_ log
  intro log p ⟨i1, i2⟩
  have e1 : runLog n (log ++ [p]) = stepLog n (runLog n log) p := by unfold runLog; rw [List.foldl_append]; rfl
  rw [e1]
  by_cases h : p.2.key = k
  · have e2 : atKey k (log ++ [p]) = atKey k log ++ [p] := by unfold atKey; rw [List.filter_append]; simp [h]
    have e3 : runLog n (atKey k log ++ [p]) = stepLog n (runLog n (atKey k log)) p := by unfold runLog; rw [List.foldl_append]; rfl
    rw [e2, e3]
    unfold stepLog
    rw [h, ← i2]
    simp only
    constructor
    · have e4 : ∀ (a b : List Rec), recsAt k (a ++ b) = recsAt k a ++ recsAt k b := fun a b => by unfold recsAt; rw [List.filter_append]
      rw [e4, i1]
      congr 1
      exact List.filter_eq_self.2 fun x hx => decide_eq_true ((applyN_key h4 h6 _ _ _ _ x hx).trans h)
    · split
      · rw [pget_pset, pget_pset, if_pos rfl, if_pos rfl]
      · exact i2
  · have e2 : atKey k (log ++ [p]) = atKey k log := by unfold atKey; rw [List.filter_append]; simp [h]
    rw [e2]
    unfold stepLog
    simp only
    constructor
    · have e4 : ∀ (a b : List Rec), recsAt k (a ++ b) = recsAt k a ++ recsAt k b := fun a b => by unfold recsAt; rw [List.filter_append]
      rw [e4, i1]
      have : recsAt k (applyN n ((pget (runLog n log).1 p.2.key).getD zeroH) (pget (runLog n log).1 p.2.key).isSome p.2 p.1).out = [] := List.filter_eq_nil_iff.2 fun x hx he => h (((applyN_key h4 h6 _ _ _ _ x hx).symm).trans (of_decide_eq_true he))
      rw [this, List.append_nil]
    · split
      · rw [pget_pset, if_neg h]; exact i2
      · exact i2
theorem applyN_three (n : Nod) (h : Hld) (has : Bool) (r : Rec) (input : Int) : (applyN n h has r input).out.length ≤ 3 := by
  have hp : ∀ r, (passR r).length ≤ 1 := fun r => by unfold passR; split <;> simp
  unfold applyN
  simp only
  split
  · exact Nat.le_trans (hp _) (by omega)
  split
  · show (if _ then _ else _ : List Rec).length ≤ 3
    split
    · simp
    · exact Nat.le_trans (hp _) (by omega)
  split
  · exact Nat.le_trans (hp _) (by omega)
  split
  · have : ∀ m : Nat, ((List.replicate m (passR r)).flatten).length ≤ m := fun m => by
      induction m with
      | zero => simp
      | succ m ih => rw [List.replicate_succ, List.flatten_cons, List.length_append]; have := hp r; omega
    exact Nat.le_trans (this _) (by omega)
  split
  · exact Nat.le_trans (hp _) (by omega)
  split
  · exact Nat.le_trans (hp _) (by omega)
  split
  · split
    · exact Nat.le_trans (hp _) (by omega)
    · exact Nat.zero_le _
  split
  · show (if _ then _ else _ : List Rec).length ≤ 3
    split
    · simp
    · exact Nat.le_trans (hp _) (by omega)
  · exact Nat.le_trans (hp _) (by omega)
theorem run_three (n : Nod) (log : List (Nat × Rec)) : (runLog n log).2.length ≤ 3 * log.length := by
  refine snoc_ind (P := fun log => (runLog n log).2.length ≤ 3 * log.length) (Nat.zero_le _) ?_ log
  intro log p ih
  have e1 : runLog n (log ++ [p]) = stepLog n (runLog n log) p := by unfold runLog; rw [List.foldl_append]; rfl
  rw [e1]
  unfold stepLog
  simp only
  rw [List.length_append, List.length_append, List.length_singleton]
  have := applyN_three n ((pget (runLog n log).1 p.2.key).getD zeroH) (pget (runLog n log).1 p.2.key).isSome p.2 p.1
  omega

/-! ### A job of one node between a Source and a Sink -/
def lineJ (n : Nod) : List Nod := [⟨1, [], ⟨#[]⟩, 3⟩, ⟨n.kind, [0], n.text, n.n⟩, ⟨10, [1], ⟨#[]⟩, 0⟩]
def logOf (d : List Rec) : List (Nat × Rec) := d.map fun r => (0, r)
theorem single_log {J : List Nod} {S : Sim} (h : AllRight J S) {u : Nat} {n : Nod} (hn : J[u]? = some n) {p : Nat} (hf : n.from_ = [(p : Int)]) : S.M u = logOf (S.H p) := by
  obtain ⟨_, h2, h3⟩ := h
  have ht := (h2 u n hn).2.2
  have hb := h3 u 0 p ⟨n, hn, by rw [hf]; rfl⟩
  rw [← hb]
  unfold byIn logOf
  have hall : ∀ q ∈ S.M u, q.1 = 0 := fun q hq => by have := ht q hq; rw [hf] at this; simp at this; exact this
  rw [List.filter_eq_self.2 fun q hq => by simp [hall q hq], List.map_map]
  conv => lhs; rw [← List.map_id (S.M u)]
  exact List.map_congr_left fun q hq => by
    obtain ⟨a, b⟩ := q
    have := hall _ hq
    simp only at this
    rw [this]; rfl
theorem single_out {J : List Nod} {S : Sim} (h : AllRight J S) {u : Nat} {n : Nod} (hn : J[u]? = some n) (h10 : n.kind ≠ 10) (h1 : n.kind ≠ 1) {p : Nat} (hf : n.from_ = [(p : Int)]) : S.H u = (runLog n (logOf (S.H p))).2 := by
  rw [← single_log h hn hf]
  exact ((h.2.1 u n hn).2.1 h10 h1).2
theorem sink_out {J : List Nod} {S : Sim} (h : AllRight J S) {u : Nat} {n : Nod} (hn : J[u]? = some n) (h10 : n.kind = 10) {p : Nat} (hf : n.from_ = [(p : Int)]) : S.f.ln[u]? = some (grp (S.H p)) ∧ S.H u = [] := by
  obtain ⟨h1, h2⟩ := (h.2.1 u n hn).1 h10
  rw [single_log h hn hf] at h1
  unfold logOf at h1
  rw [List.map_map] at h1
  have e : (S.H p).map ((fun x => x.2) ∘ fun r => ((0 : Nat), r)) = S.H p := by
    conv => rhs; rw [← List.map_id (S.H p)]
    rfl
  rw [e] at h1
  exact ⟨h1, h2⟩
theorem flow_ok {J : List Nod} {S : Sim} (h : AllRight J S) (hc : ∀ v, v < J.length → (S.H v).length ≤ 2000) : Okf J.length S.f := by
  refine ⟨h.1.gv, fun c hc' => ?_⟩
  obtain ⟨v, hv⟩ := List.getElem?_of_mem hc'
  have hvl : v < J.length := by rw [← h.1.gv]; exact (List.getElem?_eq_some_iff.1 hv).1
  rw [h.1.counts v hvl] at hv
  injection hv with hv
  have := hc v hvl
  omega
theorem line_flow (n : Nod) (d : List Rec) (hJ : jobErr (lineJ n) = 0) (h10 : n.kind ≠ 10) (h1 : n.kind ≠ 1) (hd : d.length ≤ 300) :
    ∃ f, flowAll (lineJ n) [d] = some f ∧ f.ln[2]? = some (grp (runLog ⟨n.kind, [0], n.text, n.n⟩ (logOf d)).2) := by
  have ho : ofKind (lineJ n) 1 = [0] := by
    unfold ofKind lineJ
    simp [List.zipIdx_cons, h1]
  obtain ⟨S, h0, hA, hD⟩ := flow_hist hJ [d] (by rw [ho]; rfl)
  have hH0 : S.H 0 = d := hD 0 0 d (by rw [ho]; rfl) rfl
  have hH1 := single_out hA (u := 1) (n := ⟨n.kind, [0], n.text, n.n⟩) rfl h10 h1 (p := 0) rfl
  obtain ⟨hln, hH2⟩ := sink_out hA (u := 2) (n := ⟨10, [1], ⟨#[]⟩, 0⟩) rfl rfl (p := 1) rfl
  rw [hH0] at hH1
  rw [hH1] at hln
  refine ⟨S.f, ?_, hln⟩
  rw [flow_cut hJ, ← h0]
  refine if_pos (flow_ok hA fun v hv => ?_)
  have hv3 : v < 3 := hv
  match v, hv3 with
  | 0, _ => rw [hH0]; omega
  | 1, _ =>
    rw [hH1]
    have := run_three ⟨n.kind, [0], n.text, n.n⟩ (logOf d)
    unfold logOf at this ⊢
    rw [List.length_map] at this
    omega
  | 2, _ => rw [hH2]; simp
end Go.Proofs.YtcmhbhdiepkndaaGreatDoor

/-
  Nodes with the values of their inputs: so a node's cells are a function of it, and rows of nodes are appended. No condition: definitions and lemmas.
-/
namespace Go.Proofs.YtcmhbhdiepkndaaGreatDoor
open Go.RowKit Go.ChangeShapes Go.WideShapes
set_option linter.unusedVariables false

abbrev NodV := Nod × (Option Addr × Nat)
def nodCells (x : NodV) : List Value := [.int .i64 x.1.kind, .slice x.2.1 x.1.from_.length x.2.2, .string x.1.text, .int .i64 x.1.n]
def nodC : Elt NodV where
  sz := 4
  bulk := fun _ => 0
  R := fun F w cs x => cs = nodCells x ∧ I64 x.1.kind ∧ x.1.text.size ≤ maxLen ∧ I64 x.1.n ∧ SlA (intE .i64) F w x.2.1 x.2.2 x.1.from_
  len := fun _ _ _ _ h => by rw [h.1]; rfl
  keep := fun _ _ _ _ _ h hs => ⟨h.1, h.2.1, h.2.2.1, h.2.2.2.1, h.2.2.2.2.keep hs⟩
  more := fun _ _ _ _ _ h hF => ⟨h.1, h.2.1, h.2.2.1, h.2.2.2.1, h.2.2.2.2.more hF⟩
theorem SlA.toV {F : Nat → Prop} {w : World} {A : Option Addr} {c : Nat} {l : List Nod} (h : SlA nodE F w A c l) : ∃ lv : List NodV, lv.map (·.1) = l ∧ SlA nodC F w A c lv := by
  obtain ⟨h1, h2, h3⟩ := h
  have hex : ∀ i : Fin l.length, ∃ v : Option Addr × Nat, ∃ b off, A = some ⟨b, off, none⟩ ∧ F b ∧ (∀ j u, (nodCells (l[i], v))[j]? = some u → w.cell? ⟨b, off + (i.1 * 4 + j), none⟩ = some u) ∧ nodC.R F w (nodCells (l[i], v)) (l[i], v) := fun i => by
    obtain ⟨b, off, cs, rfl, hb, hc, v, rfl, k1, k2, k3, A', c', rfl, k4⟩ := h3 i.1 l[i] (List.getElem?_eq_getElem i.2)
    exact ⟨(A', c'), b, off, rfl, hb, hc, rfl, k1, k2, k3, k4⟩
  obtain ⟨f, hf⟩ := Classical.axiomOfChoice hex
  refine ⟨List.ofFn fun i : Fin l.length => (l[i], f i), ?_, ?_, h2, ?_⟩
  · apply List.ext_getElem
    · simp
    · intro i h1 h2; simp
  · simp; exact h1
  · intro i x hx
    have hi : i < l.length := by
      rcases Nat.lt_or_ge i l.length with h | h
      · exact h
      · rw [List.getElem?_eq_none (by simp; exact h)] at hx; cases hx
    rw [List.getElem?_ofFn, dif_pos hi] at hx
    injection hx with hx
    subst hx
    obtain ⟨b, off, e, hb, hc, hr⟩ := hf ⟨i, hi⟩
    exact ⟨b, off, _, e, hb, hc, hr⟩
theorem SlA.ofV {F : Nat → Prop} {w : World} {A : Option Addr} {c : Nat} {lv : List NodV} (h : SlA nodC F w A c lv) : SlA nodE F w A c (lv.map (·.1)) := by
  obtain ⟨h1, h2, h3⟩ := h
  refine ⟨by simpa using h1, h2, fun i x hx => ?_⟩
  rw [List.getElem?_map] at hx
  cases hv : lv[i]? with
  | none => rw [hv] at hx; cases hx
  | some y =>
    rw [hv] at hx
    injection hx with hx
    subst hx
    obtain ⟨b, off, cs, e, hb, hc, rfl, k1, k2, k3, k4⟩ := h3 i y hv
    exact ⟨b, off, _, e, hb, hc, _, rfl, k1, k2, k3, _, _, rfl, k4⟩
theorem nodCells_one (x : NodV) : ∀ u ∈ nodCells x, u.oneCell' = true := fun u hu => by
  unfold nodCells at hu
  simp only [List.mem_cons, List.not_mem_nil, or_false] at hu
  rcases hu with rfl | rfl | rfl | rfl <;> rfl
theorem src_nods {P : Program} {F : Nat → Prop} {w : World} {A : Option Addr} {c : Nat} {lv : List NodV} {tx e' : TypeId} (h : SlA nodC F w A c lv) (hk : P.underlying tx = some (.slice e')) : Src P 4 tx (.slice A lv.length c) lv.length (lv.flatMap nodCells) w :=
  Src.of_sl (P := P) (E := nodC) h hk nodCells (fun cs x hx => hx.1) (fun _ => rfl) nodCells_one
theorem own_nods {w : World} {e : TypeId} {A : Option Addr} {cap n : Nat} {lv : List NodV} (h : OwnS w e 4 A cap n (lv.flatMap nodCells)) (hn : n = lv.length) {F : Nat → Prop} (hF : ∀ k, blk A = some k → F k) (hR : ∀ x ∈ lv, nodC.R F w (nodCells x) x) : SlA nodE F w A cap (lv.map (·.1)) :=
  (OwnS.sl (E := nodC) nodCells (fun _ => rfl) h hn hF hR).ofV
end Go.Proofs.YtcmhbhdiepkndaaGreatDoor

/-
  Contracts of the law's helpers line, whole and nums. Conditions: where the records lie; the two variables of Atoi's errors hold errors, the table of powers of ten stands.
-/
namespace Go.Proofs.YtcmhbhdiepkndaaGreatDoor
open Go.RowKit Go.ChangeShapes Go.WideShapes Go.Shelf
set_option linter.unusedVariables false

theorem one_int {w : World} {g : Nat} {x : Int} (hg : w.heap[g]? = some (.cells #[.int .i64 x] 3 (0, 0))) (hx : I64 x) {F : Nat → Prop} (hF : F g) : SlA (intE .i64) F w (some ⟨g, 0, none⟩) 1 [x] := by
  have ho : OwnS w 3 1 (some ⟨g, 0, none⟩) 1 [x].length ([x].flatMap intC) := ⟨rfl, Nat.le_refl _, by unfold maxLen; omega, .inr ⟨g, 0, _, rfl, hg, by simp, fun j u hj => by rw [Nat.zero_add]; simpa [intC] using hj⟩⟩
  exact OwnS.sl (E := intE .i64) intC (fun _ => rfl) ho rfl (fun k e => by injection e with e; subst e; exact hF) (fun y hy => by rw [List.mem_singleton.1 hy]; exact ⟨rfl, hx⟩)
theorem lit_job {W : World} {g : Nat} (lv : List NodV) {F : Nat → Prop} (hg : W.heap[g]? = some (.cells (lv.flatMap nodCells).toArray 28 (0, 0))) (hl : lv.length ≤ 1000) (hF : F g)
    (hx : ∀ x ∈ lv, I64 x.1.kind ∧ x.1.text.size ≤ maxLen ∧ I64 x.1.n ∧ SlA (intE .i64) F W x.2.1 x.2.2 x.1.from_) : SlA nodE F W (some ⟨g, 0, none⟩) lv.length (lv.map (·.1)) := by
  have ho : OwnS W 28 4 (some ⟨g, 0, none⟩) lv.length lv.length (lv.flatMap nodCells) := by
    have e : ∀ l : List NodV, (l.flatMap nodCells).length = l.length * 4 := fun l => by
      induction l with
      | nil => rfl
      | cons x l ih => rw [List.flatMap_cons, List.length_append, ih, List.length_cons, show (nodCells x).length = 4 from rfl]; omega
    refine ⟨e lv, Nat.le_refl _, by unfold maxLen; omega, .inr ⟨g, 0, _, rfl, hg, by rw [List.size_toArray, e]; omega, fun j u hj => by rw [Nat.zero_add]; simpa using hj⟩⟩
  exact own_nods ho rfl (fun k e => by injection e with e; subst e; exact hF) (fun x hm => ⟨rfl, hx x hm⟩)
set_option maxRecDepth 100000 in
set_option maxHeartbeats 1000000 in
theorem line_ok (kind : Int) (text : ByteArray) (nn : Int) (w : World) (hk : I64 kind) (ht : text.size ≤ maxLen) (hn : I64 nn) :
    Calls Tryz.prog 12 #[.agg #[.int .i64 kind, .slice none 0 0, .string text, .int .i64 nn]] w fun e w' => ∃ A c, e = .returned (.slice A 3 c) ∧ SlA nodE (fun k => w.heap.size ≤ k ∧ k < w'.heap.size) w' A c (lineJ ⟨kind, [], text, nn⟩) ∧ Below w.heap.size w w' := by
  go_enter Tryz.func12, Tryz.ntmps12
  go_wp2_with fail
  go_ret
  obtain ⟨W1, h1⟩ : ∃ W1, W1 = w.alloc (.cells #[.int .i64 kind, .slice (some ⟨w.heap.size + 1, 0, none⟩) 1 1, .string text, .int .i64 nn] 28) := ⟨_, rfl⟩
  have s1 : W1.heap.size = w.heap.size + 1 := by rw [h1]; simp
  obtain ⟨W2, h2⟩ : ∃ W2, W2 = W1.alloc (.cells #[.int .i64 0] 3) := ⟨_, rfl⟩
  have s2 : W2.heap.size = w.heap.size + 1 + 1 := by rw [h2]; simp [s1]
  obtain ⟨W3, h3⟩ : ∃ W3, W3 = W2.alloc (.cells #[.int .i64 1] 3) := ⟨_, rfl⟩
  have s3 : W3.heap.size = w.heap.size + 1 + 1 + 1 := by rw [h3]; simp [s2]
  obtain ⟨W4, h4⟩ : ∃ W4, W4 = W3.alloc (.cells (([((⟨1, [], ⟨#[]⟩, 3⟩, (none, 0)) : NodV), (⟨kind, [0], text, nn⟩, (some ⟨w.heap.size + 1, 0, none⟩, 1)), (⟨10, [1], ⟨#[]⟩, 0⟩, (some ⟨w.heap.size + 1 + 1, 0, none⟩, 1))] : List NodV).flatMap nodCells).toArray 28) := ⟨_, rfl⟩
  have s4 : W4.heap.size = w.heap.size + 1 + 1 + 1 + 1 := by rw [h4]; simp [s3]
  have g2 : W4.heap[w.heap.size + 1]? = some (.cells #[.int .i64 0] 3 (0, 0)) := by
    rw [h4, heap_alloc_old _ _ (by omega), h3, heap_alloc_old _ _ (by omega), h2, ← s1]; exact heap_alloc_new _ _
  have g3 : W4.heap[w.heap.size + 1 + 1]? = some (.cells #[.int .i64 1] 3 (0, 0)) := by
    rw [h4, heap_alloc_old _ _ (by omega), h3, ← s2]; exact heap_alloc_new _ _
  have hb : Below w.heap.size w W4 := by
    rw [h4, h3, h2, h1]
    exact ((((Below.refl _ _).alloc (Nat.le_refl _) _).alloc (by simp) _).alloc (by simp; omega) _).alloc (by simp; omega) _
  have g4 : W4.heap[w.heap.size + 1 + 1 + 1]? = some (.cells (([((⟨1, [], ⟨#[]⟩, 3⟩, (none, 0)) : NodV), (⟨kind, [0], text, nn⟩, (some ⟨w.heap.size + 1, 0, none⟩, 1)), (⟨10, [1], ⟨#[]⟩, 0⟩, (some ⟨w.heap.size + 1 + 1, 0, none⟩, 1))] : List NodV).flatMap nodCells).toArray 28 (0, 0)) := by rw [h4, ← s3]; exact heap_alloc_new _ _
  have hj := lit_job (F := fun k => w.heap.size ≤ k ∧ k < W4.heap.size) _ g4 (by simp) ⟨by omega, by omega⟩ (fun x hx => by
    simp only [List.mem_cons, List.not_mem_nil, or_false] at hx
    rcases hx with rfl | rfl | rfl
    · exact ⟨rfl, Nat.zero_le _, rfl, SlA.nil _ _ _ _ _ (Nat.zero_le _)⟩
    · exact ⟨hk, ht, hn, one_int g2 rfl ⟨by omega, by omega⟩⟩
    · exact ⟨rfl, Nat.zero_le _, rfl, one_int g3 rfl ⟨by omega, by omega⟩⟩)
  refine ⟨some ⟨w.heap.size + 1 + 1 + 1, 0, none⟩, 3, rfl, ?_⟩
  rw [h4, h3, h2, h1] at hj hb
  exact ⟨hj, hb⟩

def WholePost (kind : Int) (text : ByteArray) (nn : Int) (d : List Rec) (w : World) (e : Ending) (w' : World) : Prop :=
  (dataErr [d] ≠ 0 → e = .returned (.tuple #[.slice none 0 0, .bool false])) ∧
  (dataErr [d] = 0 → ∃ A c out, e = .returned (.tuple #[.slice A (List.length out) c, .bool true]) ∧ LinesGrp (runLog ⟨kind, [0], text, nn⟩ (logOf d)).2 out ∧ SlA linE (fun k => w.heap.size ≤ k ∧ k < w'.heap.size) w' A c out) ∧ Below w.heap.size w w'
theorem line_parts {kind : Int} {text : ByteArray} {nn : Int} (h1 : kind ≠ 1) (h10 : kind ≠ 10) : ofKind (lineJ ⟨kind, [], text, nn⟩) 1 = [0] ∧ ofKind (lineJ ⟨kind, [], text, nn⟩) 10 = [2] := by
  unfold ofKind lineJ
  simp [List.zipIdx_cons, h1, h10]
theorem line_err {kind : Int} {text : ByteArray} {nn : Int} (d : List Rec) (hJ : jobErr (lineJ ⟨kind, [], text, nn⟩) = 0) (h1 : kind ≠ 1) (h10 : kind ≠ 10) : denErr (lineJ ⟨kind, [], text, nn⟩) [d] = dataErr [d] := by
  unfold denErr
  rw [if_neg (by simpa using hJ), (line_parts h1 h10).1, if_neg (by simp)]
theorem data_len {d : List Rec} (h : dataErr [d] = 0) : d.length ≤ 300 ∧ ∀ r ∈ d, r.key.size ≤ 40 := by
  obtain ⟨h1, h2⟩ := data_ok h d List.mem_cons_self
  exact ⟨h1, fun r hr => recErr_no (h2 r hr)⟩
set_option maxRecDepth 100000 in
set_option maxHeartbeats 1000000 in
theorem whole_ok (kind : Int) (text : ByteArray) (nn : Int) (G : Nat → Prop) (Ad : Option Addr) (cd : Nat) (d : List Rec) (w : World) (hk : I64 kind) (ht : text.size ≤ maxLen) (hn : I64 nn) (hJ : jobErr (lineJ ⟨kind, [], text, nn⟩) = 0) (h1 : kind ≠ 1) (h10 : kind ≠ 10)
    (hd : SlA recE G w Ad cd d) (hG : ∀ k, G k → k < w.heap.size) (hv : ErrVars w) (hT : PowTab w) :
    Calls Tryz.prog 5 #[.agg #[.int .i64 kind, .slice none 0 0, .string text, .int .i64 nn], .slice Ad d.length cd] w (WholePost kind text nn d w) := by
  have HD := Lib.hid hd
  have HV := Lib.hid hv
  have HT := Lib.hid hT
  have HJ := Lib.hid hJ
  have HLI := Lib.hid (fun W => line_ok kind text nn W hk ht hn)
  have HK1 := Lib.hid h1
  have HK10 := Lib.hid h10
  have HG := Lib.hid hG
  have hdl := hd.le
  clear hd hv hT hJ h1 h10 hG hk ht hn
  go_enter Tryz.func5, Tryz.ntmps5
  go_wp2_with fail
  refine (HLI.out _).mono ?_
  rintro e w2 ⟨A, c, rfl, hj, hb2⟩
  have HJM := Lib.hid hj
  have hB2 : Below w.heap.size w w2 := ((Below.refl _ _).alloc (Nat.le_refl _) _).trans (hb2.mono (by simp))
  have HB2 := Lib.hid hB2
  have hz2 := hB2.size
  clear hj hb2 hB2 HLI
  go_wp2_with fail
  obtain ⟨W3, hW3⟩ : ∃ W3, W3 = w2.alloc (.cells #[.slice Ad d.length cd] 22) := ⟨_, rfl⟩
  have hB3 : Below w2.heap.size w2 W3 := by rw [hW3]; exact (Below.refl _ _).alloc (Nat.le_refl _) _
  have hw3 : W3.heap[w2.heap.size]? = some (.cells #[.slice Ad d.length cd] 22 (0, 0)) := by rw [hW3]; exact heap_alloc_new _ _
  have hz3 := hB3.size
  have hl3 := block_lt hw3
  have hdat : SlA (slE recE) (· < W3.heap.size) W3 (some ⟨w2.heap.size, 0, none⟩) 1 [d] := by
    refine lit_one (E := slE recE) hw3 ⟨_, rfl, Ad, cd, rfl, ?_⟩ (Nat.le_refl _) (by unfold maxLen; omega)
    exact (HD.out.keep fun k hk => (hB3.block k (by have := HG.out k hk; omega)).trans (HB2.out.block k (HG.out k hk))).more fun k hk => by have := HG.out k hk; omega
  have hB3w : Below w.heap.size w W3 := HB2.out.trans (hB3.mono hz2)
  have HALL := Lib.hid (dall_ok (· < W3.heap.size) A c (lineJ ⟨kind, [], text, nn⟩) (· < W3.heap.size) (some ⟨w2.heap.size, 0, none⟩) 1 [d] W3 ((HJM.out.keep fun k hk => hB3.block k hk.2).more fun k hk => by have := hk.2; omega) (fun _ h => h) hdat (fun _ h => h) (HV.out.below hB3w) (HT.out.below hB3w))
  rw [← hW3]
  have HB3 := Lib.hid hB3w
  clear hW3 hw3 hdat hB3w hB3 HJM HD HV HT
  refine HALL.out.mono ?_
  rintro e w4 ⟨a1, a2, a3, hb4⟩
  have HB4 := Lib.hid (HB3.out.trans (hb4.mono HB3.out.size))
  rw [line_err d HJ.out HK1.out HK10.out] at a1 a2 a3
  by_cases h0 : dataErr [d] = 0
  · obtain ⟨f, hf, hln⟩ := line_flow ⟨kind, [], text, nn⟩ d HJ.out HK10.out HK1.out (data_len h0).1
    obtain ⟨A', c', out, rfl, hall, hso⟩ := a3 h0 f hf
    have ho10 := (line_parts (text := text) (nn := nn) HK1.out HK10.out).2
    have hol : out.length = 1 := by rw [hall.1, ho10]; rfl
    obtain ⟨o, rfl⟩ := List.length_eq_one_iff.1 hol
    have hlo := hall.2 0 2 o (by rw [ho10]; rfl) rfl
    rw [show (2 : Int).toNat = 2 from rfl, hln] at hlo
    have HLG := Lib.hid (lines_grp hlo)
    obtain ⟨b, off, A5, c5, rfl, _, y0, hso2⟩ := hso.sl_ (k := 0) (by simp)
    simp only [List.getElem_cons_zero, Nat.add_zero] at y0 hso2
    have hcap := hso.1
    have hole := hso2.le
    have HSO := Lib.hid hso2
    have H0 := Lib.hid h0
    clear a1 a2 a3 hall hso hso2 hlo hln hf ho10 h0 HALL hb4
    rw [show List.length [o] = 1 from rfl]
    go_wp2_with fail
    go_ret2
    refine ⟨fun h => absurd H0.out h, fun _ => ⟨A5, c5, o, rfl, HLG.out, HSO.out.more fun k hk => ⟨by have := hk.1; have := HB3.out.size; omega, hk.2⟩⟩, HB4.out⟩
  · have e0 := a1 h0
    subst e0
    have H0 := Lib.hid h0
    clear a1 a2 a3 h0 HALL hb4
    unfold errV
    go_wp2_with fail
    go_ret2
    exact ⟨fun _ => rfl, fun h => absurd h H0.out, HB4.out⟩

/-! ### The numbers of a key -/
theorem str_ne {a b : ByteArray} (h : a ≠ b) : (a.toList == b.toList) = false := beq_eq_false_iff_ne.2 fun e => h (by
  rw [Lib.toList_data, Lib.toList_data] at e
  cases a; cases b
  congr 1
  exact Array.toList_inj.1 e)
theorem numsOf_take {out : List Lin} {k : ByteArray} {j : Nat} (hj : j < out.length) (h : ∀ x ∈ out.take j, x.key ≠ k) (hk : out[j].key = k) : numsOf out k = out[j].nums := by
  have e : out = out.take j ++ out[j] :: out.drop (j + 1) := by rw [← List.drop_eq_getElem_cons hj, List.take_append_drop]
  unfold numsOf
  generalize out[j] = x at hk e
  have h1 : (out.take j).find? (fun x => decide (x.key = k)) = none := List.find?_eq_none.2 fun x hx he => h x hx (of_decide_eq_true he)
  rw [e, List.find?_append, h1, List.find?_cons]
  simp [hk]
theorem numsOf_none {out : List Lin} {k : ByteArray} (h : ∀ x ∈ out, x.key ≠ k) : numsOf out k = [] := by
  unfold numsOf
  rw [List.find?_eq_none.2 fun x hx he => h x hx (of_decide_eq_true he)]
  rfl
def NumsPost (F : Nat → Prop) (out : List Lin) (k : ByteArray) (w : World) (e : Ending) (w' : World) : Prop := ∃ A c, e = .returned (.slice A (numsOf out k).length c) ∧ SlA (intE .i64) F w A c (numsOf out k) ∧ w = w'
set_option maxRecDepth 100000 in
theorem nums_ok (F : Nat → Prop) (A : Option Addr) (c : Nat) (out : List Lin) (k : ByteArray) (w : World) (hl : SlA linE F w A c out) :
    Calls Tryz.prog 8 #[.slice A out.length c, .string k] w (NumsPost F out k w) := by
  have HL := Lib.hid hl
  have hle := hl.le
  clear hl
  go_enter Tryz.func8, Tryz.ntmps8
  go_wp2_with fail
  go_loop [5] (fun jv => ∃ j : Nat, j ≤ out.length ∧ jv = .int .i64 j ∧ Hid (∀ x ∈ out.take j, x.key ≠ k)) (fun jv => out.length - (intOf jv).toNat)
  case atStart => exact ⟨0, Nat.zero_le _, rfl, by intro x hx; simp at hx⟩
  case round =>
    obtain ⟨j, hj, rfl, HJ⟩ := hrel
    by_cases hlt : j < out.length
    · obtain ⟨b, off, A', c', rfl, _, y0, y1, hks, hn⟩ := HL.out.lin_ hlt
      have hcap := HL.out.1
      have HN := Lib.hid hn
      have HT := Lib.hid (fun h => numsOf_take hlt HJ.out h)
      have HE := Lib.hid (List.take_succ_eq_append_getElem hlt)
      clear hn
      generalize out[j] = x at y0 y1 hks HN HT HE
      obtain ⟨xk, xs⟩ := x
      simp only at y0 y1 hks HT HN
      by_cases hxe : xk = k
      · subst hxe
        have HR : Hid (numsOf out xk = xs) := HT.out rfl
        clear HT HE HJ
        go_wp2_with fail
        go_ret
        exact ⟨A', c', by rw [HR.out]; rfl, by rw [HR.out]; exact HN.out, rfl⟩
      · have HJ2 : Hid (∀ x ∈ out.take (j + 1), x.key ≠ k) := fun x hx => by
          rw [HE.out] at hx
          rcases List.mem_append.1 hx with hx | hx
          · exact HJ.out x hx
          · rw [List.mem_singleton.1 hx]; exact hxe
        have hb1 := str_ne hxe
        clear HT HE HJ
        go_wp2_with fail
        go_round
        case rel => exact ⟨j + 1, by omega, by go_num, HJ2⟩
        case measure => simp [intOf]; omega
    · have dj : decide (j < out.length) = false := decide_eq_false hlt
      have HR : Hid (numsOf out k = []) := numsOf_none fun x hx => by
        have h := HJ.out x
        rw [List.take_of_length_le (by omega)] at h
        exact h hx
      clear HJ hj hlt
      go_wp2_with fail
      go_ret
      exact ⟨none, 0, by rw [HR.out]; rfl, by rw [HR.out]; exact SlA.nil _ _ _ _ _ (Nat.zero_le _), rfl⟩
end Go.Proofs.YtcmhbhdiepkndaaGreatDoor
