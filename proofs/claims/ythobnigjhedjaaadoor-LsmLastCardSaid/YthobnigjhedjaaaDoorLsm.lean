/-
  Package lsm: how a store lies in memory; news, all. Conditions: no more than 1000 lists, entries that a table takes.
-/
import Derived.Test.YthobnigjhedjaaaDoorLsmP
import Derived.Test.YthobnigjhedjaaaDoorTabMix
import Derived.Test.YthobnigjhedjaaaDoorMapStep
import Derived.Test.YthobnigjhedjaaaDoorLsmIns
import Derived.Deep.RegionHeld3
namespace Go.Proofs.YthobnigjhedjaaaDoor
open Go.RowKit Go.ChangeShapes Go.WideShapes Go.MapKept Go.ChangeMaps
open Go.Sort hiding Below
set_option linter.unusedVariables false

/-! ### A map from strings to entries -/
def entV (e : Ent) : Value := .agg #[.string e.key, .string e.value, .bool e.dead]
def fkv (p : ByteArray × Ent) : Value × Value := (.string p.1, entV p.2)
def FAt (w : World) (b : Nat) (F : EMap) : Prop := MapAt IsStrK w b (F.map fkv)
theorem FAt.lt {w : World} {b : Nat} {F : EMap} (h : FAt w b F) : b < w.heap.size := MapAt.lt h
theorem FAt.keep {w w' : World} {b : Nat} {F : EMap} (h : FAt w b F) (hs : w'.heap[b]? = w.heap[b]?) : FAt w' b F := MapAt.keep h hs
theorem FAt.made (w : World) : FAt (w.alloc (.map #[] 0)) w.heap.size [] := MapAt.made _ w
theorem FAt.not_cells {w : World} {b : Nat} {F : EMap} (h : FAt w b F) {cs : Array Value} {t : TypeId} {fr : Nat × Nat} : w.heap[b]? ≠ some (.cells cs t fr) := by
  obtain ⟨es, clock, hb, _⟩ := h
  rw [hb]; simp
theorem fkv_split (a b : EMap) (k : ByteArray) (e : Ent) : (a ++ (k, e) :: b).map fkv = a.map fkv ++ (.string k, entV e) :: b.map fkv := by simp [fkv]
theorem ne_fkeys {F : EMap} {k : ByteArray} (h : k ∉ kkeys F) : ∀ p ∈ F.map fkv, p.1 ≠ .string k := fun p hp e => by
  obtain ⟨q, hq, rfl⟩ := List.mem_map.1 hp
  simp only [fkv] at e
  injection e with e
  exact h (List.mem_map.2 ⟨q, hq, e⟩)
theorem FAt.set {P : Program} {k t e : TypeId} {w : World} {b : Nat} {F : EMap} (h : FAt w b F) (hK : KeyT P k IsStrK) (ht : P.underlying t = some (.map k e)) {s : ByteArray} (hs : s.size ≤ maxLen) (x : Ent) :
    ∃ w', (Instr.mapUpdate t (.map (some b)) (.string s) (entV x)).run P w = .ok () w' ∧ FAt w' b (kset F s x) ∧ w.grownBy w' (some b) ∧ w'.heap.size = w.heap.size := by
  by_cases hm : s ∈ kkeys F
  · obtain ⟨y, v0, z, rfl, hx⟩ := split_kkey hm
    unfold FAt at h
    rw [fkv_split] at h
    obtain ⟨w', h1, h2, h3⟩ := MapAt.store_hit hK h ht (entV x)
    refine ⟨w', h1, ?_, h3⟩
    rw [kset_split hx]; unfold FAt; rw [fkv_split]; exact h2
  · obtain ⟨w', h1, h2, h3⟩ := MapAt.store_new hK h ht (entV x) ⟨s, rfl, hs⟩ (ne_fkeys hm)
    refine ⟨w', h1, ?_, h3⟩
    rw [kset_none hm]; unfold FAt; rw [List.map_append]; exact h2
theorem MapAt.clear {isK : Value → Prop} {P : Program} {k t e ty : TypeId} {w : World} {b : Nat} {m : List (Value × Value)} (h : MapAt isK w b m) (ht : P.underlying t = some (.map k e)) :
    ∃ w', (Builtin.clear_ #[t] ty #[.map (some b)]).run P w = .ok (.tuple #[]) w' ∧ MapAt isK w' b [] ∧ w.grownBy w' (some b) ∧ w'.heap.size = w.heap.size := by
  obtain ⟨es, clock, hb, hst, hm, hk⟩ := h
  refine ⟨setBlock w b (.map #[] clock), ?_, ⟨#[], clock, heap_setBlock_same hb _, stamped_empty clock, rfl, nofun⟩, grown_setBlock hb, by simp [setBlock]⟩
  simp [Builtin.clear_, run_underlying ht, MapKept.run_getObj_map hb, MapKept.run_setObj_map _ hb, Result.andThen, setBlock]
/-! ### A store -/
def LVals (w : World) (vs : List Value) (L : List (List Ent)) : Prop := vs.length = L.length ∧ ∀ (i : Nat) (v : Value) (l : List Ent), vs[i]? = some v → L[i]? = some l → ∃ (A : Option Addr) (c : Nat), v = .slice A l.length c ∧ SlA entE (EntRow w) w A c l
theorem LVals.nil (w : World) : LVals w [] [] := ⟨rfl, fun i v l h => by simp at h⟩
theorem LVals.keep {w w' : World} {vs : List Value} {L : List (List Ent)} (h : LVals w vs L) (hs : ∀ k, EntRow w k → w'.heap[k]? = w.heap[k]?) : LVals w' vs L :=
  ⟨h.1, fun i v l h1 h2 => by
    obtain ⟨A, c, e, hsl⟩ := h.2 i v l h1 h2
    exact ⟨A, c, e, (hsl.keep hs).more fun k hk => hk.kept (hs k hk)⟩⟩
theorem LVals.cons {w : World} {vs : List Value} {L : List (List Ent)} (h : LVals w vs L) {A : Option Addr} {c : Nat} {l : List Ent} (hs : SlA entE (EntRow w) w A c l) : LVals w (.slice A l.length c :: vs) (l :: L) :=
  ⟨by simp [h.1], fun i v x h1 h2 => by
    cases i with
    | zero =>
      simp at h1 h2; subst h1; subst h2
      exact ⟨A, c, rfl, hs⟩
    | succ i => exact h.2 i v x (by simpa using h1) (by simpa using h2)⟩
theorem LVals.one {w : World} {vs : List Value} {L : List (List Ent)} (h : LVals w vs L) : ∀ u ∈ vs, u.oneCell' = true := fun u hu => by
  obtain ⟨i, hi, rfl⟩ := List.mem_iff_getElem.1 hu
  obtain ⟨A, c, e, _⟩ := h.2 i vs[i] (L[i]'(by rw [← h.1]; exact hi)) (List.getElem?_eq_getElem hi) (List.getElem?_eq_getElem _)
  rw [e]; rfl
theorem LVals.sl {w : World} {vs : List Value} {L : List (List Ent)} {A : Option Addr} {cap : Nat} {e : TypeId} (h : LVals w vs L) (ho : OwnS w e 1 A cap L.length vs) : SlA (slE entE) (· < w.heap.size) w A cap L := by
  refine ⟨ho.2.1, ho.2.2.1, fun i x hi => ?_⟩
  have hil : i < vs.length := by rw [h.1]; exact (List.getElem?_eq_some_iff.1 hi).1
  obtain ⟨A1, c1, e1, hs⟩ := h.2 i vs[i] x (List.getElem?_eq_getElem hil) hi
  rcases ho.2.2.2 with ⟨rfl, h0⟩ | ⟨g, off, cur, rfl, hh, hc, hr⟩
  · have h1 := h.1
    have := ho.2.1
    omega
  · refine ⟨g, off, [vs[i]], rfl, block_lt hh, fun j u hj => ?_, ⟨_, rfl, A1, c1, e1, hs.more fun k hk => hk.lt⟩⟩
    cases j with
    | succ j => simp at hj
    | zero =>
      simp at hj; subst hj
      have := (cell_of_row w g (off + i) cur e (0, 0) hh).trans (hr i _ (List.getElem?_eq_getElem hil))
      simpa [slE] using this
structure LsmAt (B : Nat) (w : World) (g bf : Nat) (A1 : Option Addr) (c1 : Nat) (tvs : List Value) (A2 : Option Addr) (c2 : Nat) (lvs : List Value) (limit : Nat) (F : EMap) (L : List (List Ent)) : Prop where
  obj : w.heap[g]? = some (.cells #[.int .i64 (limit : Int), .map (some bf), .slice A1 L.length c1, .slice A2 L.length c2] 78 (0, 0))
  fresh : FAt w bf F
  tabs : OwnS w 70 1 A1 c1 L.length tvs
  tone : ∀ u ∈ tvs, u.oneCell' = true
  lists : OwnS w 68 1 A2 c2 L.length lvs
  vals : LVals w lvs L
  bg : B ≤ g
  bb : B ≤ bf
  b1 : ∀ k, blk A1 = some k → B ≤ k
  b2 : ∀ k, blk A2 = some k → B ≤ k
section
variable {B : Nat} {w w' : World} {g bf : Nat} {A1 : Option Addr} {c1 : Nat} {tvs : List Value} {A2 : Option Addr} {c2 : Nat} {lvs : List Value} {limit : Nat} {F : EMap} {L : List (List Ent)}
theorem LsmAt.keep (h : LsmAt B w g bf A1 c1 tvs A2 c2 lvs limit F L) (hs : ∀ k, k = g ∨ k = bf ∨ blk A1 = some k ∨ blk A2 = some k ∨ EntRow w k → w'.heap[k]? = w.heap[k]?) : LsmAt B w' g bf A1 c1 tvs A2 c2 lvs limit F L :=
  ⟨(hs g (.inl rfl)).trans h.obj, h.fresh.keep (hs bf (.inr (.inl rfl))), h.tabs.keep fun k hk => hs k (.inr (.inr (.inl hk))), h.tone, h.lists.keep fun k hk => hs k (.inr (.inr (.inr (.inl hk)))), h.vals.keep fun k hk => hs k (.inr (.inr (.inr (.inr hk)))), h.bg, h.bb, h.b1, h.b2⟩
theorem LsmAt.lt (h : LsmAt B w g bf A1 c1 tvs A2 c2 lvs limit F L) {k : Nat} (hk : k = g ∨ k = bf ∨ blk A1 = some k ∨ blk A2 = some k ∨ EntRow w k) : k < w.heap.size := by
  rcases hk with rfl | rfl | hk | hk | hk
  · exact block_lt h.obj
  · exact h.fresh.lt
  · exact h.tabs.lt k hk
  · exact h.lists.lt k hk
  · exact hk.lt
theorem LsmAt.below (h : LsmAt B w g bf A1 c1 tvs A2 c2 lvs limit F L) (hb : Below w.heap.size w w') : LsmAt B w' g bf A1 c1 tvs A2 c2 lvs limit F L := h.keep fun k hk => hb.block k (h.lt hk)
theorem LsmAt.cells (h : LsmAt B w g bf A1 c1 tvs A2 c2 lvs limit F L) : w.cell? ⟨g, 0, none⟩ = some (.int .i64 (limit : Int)) ∧ w.cell? ⟨g, 1, none⟩ = some (.map (some bf)) ∧ w.cell? ⟨g, 2, none⟩ = some (.slice A1 L.length c1) ∧ w.cell? ⟨g, 3, none⟩ = some (.slice A2 L.length c2) :=
  ⟨(cell_of_row w g 0 _ _ _ h.obj).trans rfl, (cell_of_row w g 1 _ _ _ h.obj).trans rfl, (cell_of_row w g 2 _ _ _ h.obj).trans rfl, (cell_of_row w g 3 _ _ _ h.obj).trans rfl⟩
end
def Lsm (B : Nat) (w : World) (g limit : Nat) (F : EMap) (L : List (List Ent)) : Prop := ∃ bf A1 c1 tvs A2 c2 lvs, LsmAt B w g bf A1 c1 tvs A2 c2 lvs limit F L
theorem Lsm.below {B : Nat} {w w' : World} {g limit : Nat} {F : EMap} {L : List (List Ent)} (h : Lsm B w g limit F L) (hb : Below w.heap.size w w') : Lsm B w' g limit F L := by
  obtain ⟨bf, A1, c1, tvs, A2, c2, lvs, h⟩ := h
  exact ⟨bf, A1, c1, tvs, A2, c2, lvs, h.below hb⟩
def ESized (F : EMap) : Prop := ∀ p ∈ F, p.1.size ≤ maxLen ∧ p.2.key.size ≤ maxLen ∧ p.2.value.size ≤ maxLen
theorem fkv_ne_own {w : World} {b r : Nat} {m todo : List (Value × Value)} {e : TypeId} {size cap n : Nat} {A : Option Addr} {xs : List Value} (h : RangeAt IsStrK w b r m todo) (ho : OwnS w e size A cap n xs) : blk A ≠ some r ∧ blk A ≠ some b := range_ne_own3 h ho
/-- What news and all hand back. -/
def EntsNew (w : World) (m : List Ent) (e : Ending) (w' : World) : Prop := ∃ A' c' q, e = .returned (.slice A' (List.length q) c') ∧ KeysApart q ∧ q.Pairwise (fun a b => ltOf entCf b a = false) ∧ (∀ k, efind q k = efind m k) ∧ (∀ x ∈ q, x ∈ m) ∧ SlA entE (fun k => w.heap.size ≤ k ∧ EntRow w' k) w' A' c' q ∧ Below w.heap.size w w'
set_option maxRecDepth 100000 in
set_option maxHeartbeats 2000000 in
theorem news_ok (B g bf : Nat) (A1 : Option Addr) (c1 : Nat) (tvs : List Value) (A2 : Option Addr) (c2 : Nat) (lvs : List Value) (limit : Nat) (F : EMap) (L : List (List Ent)) (w : World)
    (S : LsmAt B w g bf A1 c1 tvs A2 c2 lvs limit F L) (hF : EKeyed F) (hz : ESized F) (hn : F.length ≤ 1000) :
    Calls Tryd.prog 32 #[.pointer (some ⟨g, 0, none⟩)] w (EntsNew w (evals F)) := by
  obtain ⟨x0, x1, x2, x3⟩ := S.cells
  have hgl := block_lt S.obj
  have HM := Lib.hid S.fresh
  have hbl := S.fresh.lt
  have HF := Lib.hid hF
  have HZ := Lib.hid hz
  clear S x0 x2 x3 hF hz
  go_enter Tryd.func32, Tryd.ntmps32
  go_wp2_with (at_range; refine wpList_range_M _ rfl _ 75 rfl 9 67 IsStrK Tryd.underlying75 bf _ rfl HM.out ?_)
  intro w1 hrg hg1 hz1
  obtain ⟨R0, hR0⟩ : ∃ R0, R0 = w.heap.size := ⟨_, rfl⟩
  rw [← hR0] at hrg ⊢
  have HR := Lib.hid hrg
  have HB1 : Hid (Below w.heap.size w w1) := (Below.refl w.heap.size w).grown hg1 (Nat.le_refl _) (fun k e => by cases e)
  have hR1 : w.heap.size ≤ R0 := by omega
  have hbR : bf ≠ R0 := by omega
  clear hrg hg1 hz1 HM hR0
  go_wp2_with fail
  go_loopg [3] (F.length) (fun gk ov wx => ∃ (ds ts : EMap) (A' : Option Addr) (cap : Nat), gk = ts.length ∧ ds.length + ts.length = F.length ∧ Hid ((ds ++ ts).Perm F) ∧ ov = .slice A' ds.length cap ∧ Hid (RangeAt IsStrK wx bf R0 (F.map fkv) (ts.map fkv)) ∧ Hid (OwnS wx 67 3 A' cap ds.length ((evals ds).flatMap entCells)) ∧ Hid (∀ k, blk A' = some k → w.heap.size ≤ k) ∧ Hid (Below w.heap.size w wx))
  case atStart => exact ⟨[], F, none, 0, rfl, by simp, List.Perm.refl _, rfl, HR, OwnS.nil _ _ _, (by intro k e; cases e), HB1⟩
  case round =>
    clear HR HB1
    obtain ⟨ds, ts, A', cap, hgk, hlen, HP, rfl, HR, HW, HA, HB⟩ := hrel
    have HGK := Lib.hid hgk
    clear hgk
    go_wp2_with (at_next; refine wpList_next_M _ rfl _ rfl IsStrK bf R0 _ _ rfl HR.out ?_ ?_)
    · intro h0
      have hts : ts = [] := by simpa using h0
      subst hts
      have HPD : Hid (ds.Perm F) := by have := HP.out; rwa [List.append_nil] at this
      have hvp : (evals ds).Perm (evals F) := HPD.out.map _
      have hap : KeysApart (evals ds) := apart_perm hvp HF.out.apart
      obtain ⟨W2, hW2⟩ : ∃ W2, W2 = wr.alloc (.cells #[.slice A' ds.length cap] 68) := ⟨_, rfl⟩
      have hb2 : Below wr.heap.size wr W2 := by rw [hW2]; exact (Below.refl _ _).alloc (Nat.le_refl _) _
      have hx2 : W2.heap[wr.heap.size]? = some (.cells #[.slice A' ds.length cap] 68 (0, 0)) := by rw [hW2]; exact heap_alloc_new _ _
      have hsl : SlA entE (EntRow W2) W2 A' cap (evals ds) := by
        have ho := HW.out.keep (w' := W2) fun k hk => hb2.block k (HW.out.lt k hk)
        exact OwnS.sl (E := entE) entCells (fun _ => rfl) ho (by rw [vals_len]) (fun k e => EntRow.own ho e) (fun x hx => ⟨rfl, by
          obtain ⟨p, hp, rfl⟩ := List.mem_map.1 hx
          exact (HZ.out p (HPD.out.mem_iff.1 hp)).2⟩)
      have hll : SlA (slE entE) (· < W2.heap.size) W2 (some ⟨wr.heap.size, 0, none⟩) 1 [evals ds] := by
        have hv : LVals W2 [.slice A' ds.length cap] [evals ds] := by
          have := (LVals.nil W2).cons hsl
          rwa [vals_len] at this
        exact hv.sl (e := 68) ⟨rfl, Nat.le_refl _, by unfold maxLen; omega, .inr ⟨_, 0, _, rfl, hx2, by simp, fun j u hj => by simpa using hj⟩⟩
      have hM := mix_any (some ⟨wr.heap.size, 0, none⟩) 1 [evals ds] W2 hll (by
        have : (evals ds).length = ds.length := vals_len ds
        simp [cnt, this]; simp at hlen; omega)
      simp only [List.length_cons, List.length_nil] at hM
      have HB2 : Hid (Below w.heap.size w W2) := HB.out.trans (hb2.mono HB.out.size)
      have HM2 : Hid (mixed [evals ds] = evals ds) := mixed_one hap
      have HVP := Lib.hid hvp
      have HAP := Lib.hid hap
      clear h0 hlen hb2 hx2 hsl hll hvp hap HW HR HP
      go_wp2_with fail
      rw [← hW2]
      clear hW2
      refine hM.mono ?_
      rintro e w3 ⟨A3, c3, q, rfl, hq1, hq2, hq3, hq4⟩
      have HQ1 := Lib.hid hq1
      have HQ2 := Lib.hid hq2
      have HQ3 := Lib.hid hq3
      have HQ4 := Lib.hid hq4
      clear hq1 hq2 hq3 hq4 hM
      go_wp2_with fail
      go_ret
      have hq := HQ1.out
      rw [HM2.out] at hq
      have hqf := hq.trans HVP.out
      have hsz := HB2.out.size
      exact ⟨A3, c3, q, rfl, apart_perm hq HAP.out, HQ2.out, fun k => efind_perm hqf HF.out.apart k, fun x hx => hqf.mem_iff.1 hx, HQ3.out.more fun k hk => ⟨by omega, hk.2⟩, HB2.out.trans (HQ4.out.mono hsz)⟩
    · intro t1 t2 key v w2 htodo hrg2 hg2 hz2 hen
      obtain ⟨s1, s2, hs, hs1, hs2⟩ := List.map_eq_append_iff.1 htodo
      obtain ⟨x, s3, hs', hx, hs3⟩ := List.map_eq_cons_iff.1 hs2
      subst hs'
      subst hs
      have hkey : key = .string x.1 := by have := congrArg Prod.fst hx; exact this.symm
      have hval : v = .agg #[.string x.2.key, .string x.2.value, .bool x.2.dead] := by have := congrArg Prod.snd hx; exact this.symm
      subst hkey
      subst hval
      have hne := range_ne_own3 HR.out HW.out
      have hW2 := HW.out.grown hg2 (fun k e e2 => hne.1 (e2 ▸ e))
      have hB2 : Below w.heap.size w w2 := HB.out.grown hg2 HB.out.size (fun k e => by injection e with e; omega)
      have hR2' : RangeAt IsStrK w2 bf R0 (F.map fkv) ((s1 ++ s3).map fkv) := by rw [List.map_append, hs1, hs3]; exact hrg2
      have hne2 := range_ne_own3 hR2' hW2
      have hlen1 : ds.length + (s1.length + (s3.length + 1)) = F.length := by simpa using hlen
      have hP2 : ((ds ++ [x]) ++ (s1 ++ s3)).Perm F := by
        refine List.Perm.trans ?_ HP.out
        rw [List.append_assoc]
        refine List.Perm.append_left ds ?_
        simpa using (List.perm_middle (l₁ := s1) (a := x) (l₂ := s3)).symm
      have HW2 := Lib.hid (hW2.grown (World.grownBy_alloc w2 (.cells #[.string x.2.key, .string x.2.value, .bool x.2.dead] 67) none) (fun _ _ => by simp))
      have HB2 := Lib.hid (hB2.alloc hB2.size (.cells #[.string x.2.key, .string x.2.value, .bool x.2.dead] 67))
      have HR2 := Lib.hid (hR2'.keep (w' := w2.alloc (.cells #[.string x.2.key, .string x.2.value, .bool x.2.dead] 67)) (Below.heap_alloc _ _ _ hR2'.map.lt) (Below.heap_alloc _ _ _ hR2'.lt))
      have HNE := Lib.hid hne2
      have HP2 := Lib.hid hP2
      have hsz2 := hB2.size
      obtain ⟨kk, xk, xv, xd⟩ := x
      simp only at hen
      have hrow : (evals (ds ++ [(kk, (⟨xk, xv, xd⟩ : Ent))])).flatMap entCells = (evals ds).flatMap entCells ++ [.string xk, .string xv, .bool xd] := by unfold evals; rw [List.map_append, List.flatMap_append]; simp [entCells]
      have HROW := Lib.hid hrow
      clear htodo hrg2 hg2 hz2 hs1 hs2 hs3 hx hne hW2 hB2 hR2' hne2 hlen hP2 HP HR HW HB hrow
      go_wp2_with (at_builtin; refine wpList_push_S (w0 := w2.alloc (.cells #[.string xk, .string xv, .bool xd] 67)) rfl (.tmp 15) (.tmp 17) 68 rfl 67 _ 3 40 Tryd.underlying68 info_ent rfl (by decide) A' cap ds.length _ rfl HW2.out [.string xk, .string xv, .bool xd] (by simp [Act.eval]) rfl (by simp [Value.oneCell']) (by unfold maxLen; omega) (by omega) ?_)
      intro A3 cap3 w3 hown hg hat
      have HR3 := Lib.hid (HR2.out.keep (hg.block bf HR2.out.map.lt (fun e => HNE.out.2 e.symm)) (hg.block _ HR2.out.lt (fun e => HNE.out.1 e.symm)))
      have HB3 := Lib.hid (HB2.out.grown hg HB2.out.size HA.out)
      have HA3 : Hid (∀ k, blk A3 = some k → w.heap.size ≤ k) := fun k e => by
        rcases hat with h1 | ⟨j, h1, h2⟩
        · exact HA.out k (h1 ▸ e)
        · rw [h1] at e; injection e with e; subst e; have h3 := HB2.out.size; simp at h3; omega
      have HW3 : Hid (OwnS w3 67 3 A3 cap3 (ds ++ [(kk, (⟨xk, xv, xd⟩ : Ent))]).length ((evals (ds ++ [(kk, (⟨xk, xv, xd⟩ : Ent))])).flatMap entCells)) := by
        show OwnS _ _ _ _ _ _ _
        rw [HROW.out]; simpa using hown
      clear hown hg hat HW2 HB2 HR2 HA hen
      go_wp2_with fail
      go_roundg ((s1 ++ s3).length)
      case measure => have := HGK.out; simp at this ⊢; omega
      case rel => exact ⟨ds ++ [(kk, ⟨xk, xv, xd⟩)], s1 ++ s3, A3, cap3, rfl, by simp; omega, HP2, by simp, HR3, HW3, HA3, HB3⟩
end Go.Proofs.YthobnigjhedjaaaDoor
