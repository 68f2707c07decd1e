/-
  Contract of table.Mix where what is dead is kept: of each key the first list's entry, in the order of keys. Condition: fewer than a million entries.
-/
import Derived.Test.YthobnigjhedjaaaDoorTabCmp
import Derived.Test.YthobnigjhedjaaaDoorMapStep
import Derived.Test.YthobnigjhedjaaaDoorLays
import Derived.Deep.LoopGhost
import Derived.StringKeys
namespace Go.Proofs.YthobnigjhedjaaaDoor
open Go.RowKit
open Go.Sort hiding Below
set_option linter.unusedVariables false

def IsStrK (v : Value) : Prop := ∃ s : ByteArray, v = .string s ∧ s.size ≤ maxLen
theorem strT : KeyT Tryd.prog 9 IsStrK := (KeyT.of (Maps.string_keyed Tryd.underlying9)).less fun v h => by
  obtain ⟨s, rfl, hs⟩ := h
  exact ⟨_, WideMaps.keyOf_string_mk Tryd.underlying9 hs⟩
def ek (e : Ent) : Value × Value := (.string e.key, .agg #[.string e.key, .string e.value, .bool e.dead])
def Sized (m : List Ent) : Prop := ∀ e ∈ m, e.key.size ≤ maxLen ∧ e.value.size ≤ maxLen
theorem mixAdd_sized {m : List Ent} {e : Ent} (h : Sized m) (he : e.key.size ≤ maxLen ∧ e.value.size ≤ maxLen) : Sized (mixAdd m e) := by
  unfold mixAdd; split
  · intro x hx
    rcases List.mem_append.1 hx with hx | hx
    · exact h x hx
    · rw [List.mem_singleton.1 hx]; exact he
  · exact h
theorem mixAdd_len (m : List Ent) (e : Ent) : (mixAdd m e).length ≤ m.length + 1 := by unfold mixAdd; split <;> simp
set_option maxRecDepth 100000 in
theorem mixCmp : CmpOk Tryd.prog 90 entCells entCf := by
  intro x y W
  obtain ⟨xk, xv, xd⟩ := x
  obtain ⟨yk, yv, yd⟩ := y
  show Calls _ _ #[.agg #[.string xk, .string xv, .bool xd], .agg #[.string yk, .string yv, .bool yd]] W fun e w' => e = .returned (.int .i64 (cmpS xk yk)) ∧ _
  have hc : ∀ w, Calls Tryd.prog 91 #[.string xk, .string yk] w fun e w' => e = .returned (.int .i64 (cmpS xk yk)) ∧ w = w' := fun w => by rw [← compareBytes_cmpS]; exact compareS_any xk yk w
  have HC := Lib.hid hc
  obtain ⟨m, hm⟩ : ∃ m, m = cmpS xk yk := ⟨_, rfl⟩
  rw [← hm]
  rw [← hm] at HC
  clear hc hm
  go_enter Tryd.func90, Tryd.ntmps90
  go_wp2_with fail
  refine (HC.out _).mono ?_
  rintro e w' ⟨rfl, rfl⟩
  go_wp2_with fail
  go_ret
  exact ⟨rfl, ((Below.refl _ _).alloc (Nat.le_refl _) _).alloc (by simp) _, Nat.le_refl _⟩

/-- A block of entries. -/
def EntRow (w : World) (k : Nat) : Prop := ∃ cs fr, w.heap[k]? = some (.cells cs 67 fr)
theorem EntRow.lt {w : World} {k : Nat} (h : EntRow w k) : k < w.heap.size := by obtain ⟨cs, fr, h⟩ := h; exact block_lt h
theorem EntRow.kept {w w' : World} {k : Nat} (h : EntRow w k) (hs : w'.heap[k]? = w.heap[k]?) : EntRow w' k := by
  obtain ⟨cs, fr, h⟩ := h
  exact ⟨cs, fr, hs.trans h⟩
theorem EntRow.own {w : World} {A : Option Addr} {cap n size : Nat} {xs : List Value} (h : OwnS w 67 size A cap n xs) {k : Nat} (hk : blk A = some k) : EntRow w k := by
  rcases h.2.2.2 with ⟨rfl, _⟩ | ⟨g, off, cur, rfl, hh, _⟩
  · cases hk
  · injection hk with hk; subst hk; exact ⟨_, _, hh⟩
def MixPost (w : World) (m : List Ent) (e : Ending) (w' : World) : Prop := ∃ A' c' q, e = .returned (.slice A' (List.length q) c') ∧ q.Perm m ∧ q.Pairwise (fun a b => ltOf entCf b a = false) ∧ SlA entE (fun k => w.heap.size ≤ k ∧ EntRow w' k) w' A' c' q ∧ Below w.heap.size w w'
theorem range_ne_own3 {isK : Value → Prop} {w : World} {b r : Nat} {m todo : List (Value × Value)} {e : TypeId} {size cap n : Nat} {A : Option Addr} {xs : List Value} (h : RangeAt isK w b r m todo) (ho : OwnS w e size A cap n xs) : blk A ≠ some r ∧ blk A ≠ some b := by
  obtain ⟨es, clock, since, seen, c0, hb, _, _, _, hr, _⟩ := h
  rcases ho.2.2.2 with ⟨rfl, _⟩ | ⟨g, off, cur, rfl, hh, _⟩
  · exact ⟨by simp [blk], by simp [blk]⟩
  · refine ⟨fun e => ?_, fun e => ?_⟩
    · injection e with e; subst e; rw [hh] at hr; cases hr
    · injection e with e; subst e; rw [hh] at hb; cases hb
theorem ek_ne {m : List Ent} {k : ByteArray} (h : ∀ x ∈ m, x.key ≠ k) : ∀ y ∈ m.map ek, y.1 ≠ .string k := fun y hy e => by
  obtain ⟨x, hx, rfl⟩ := List.mem_map.1 hy
  have e2 : (Value.string x.key) = .string k := e
  injection e2 with e2
  exact h x hx e2
def cnt (ls : List (List Ent)) : Nat := ls.flatten.length
theorem mixed_len : ∀ (l m : List Ent), (l.foldl mixAdd m).length ≤ m.length + l.length
  | [], m => by simp
  | e :: l, m => by
    have h1 := mixed_len l (mixAdd m e)
    have h2 := mixAdd_len m e
    rw [List.foldl_cons, List.length_cons]; omega

set_option maxRecDepth 100000 in
set_option maxHeartbeats 4000000 in
theorem mix_any (A : Option Addr) (c : Nat) (ls : List (List Ent)) (w : World) (hl : SlA (slE entE) (· < w.heap.size) w A c ls) (hn : cnt ls ≤ 1000000) :
    Calls Tryd.prog 52 #[.slice A ls.length c, .bool true] w (MixPost w (mixed ls)) := by
  have H := Lib.hid hl
  have hle := hl.le
  have hmm := @run_makeMap Tryd.prog
  have HCNT := Lib.hid hn
  clear hl hn
  go_enter Tryd.func52, Tryd.ntmps52
  go_wp2_with fail
  obtain ⟨b, hbe⟩ : ∃ b, b = w.heap.size := ⟨_, rfl⟩
  have hM0 : MapAt IsStrK (w.alloc (.map #[] 0)) b [] := by rw [hbe]; exact MapAt.made _ w
  have HM0 := Lib.hid hM0
  have HB0 : Hid (Below w.heap.size w (w.alloc (.map #[] 0))) := (Below.refl _ _).alloc (Nat.le_refl _) _
  have hbw : w.heap.size ≤ b := by omega
  rw [← hbe]
  clear hmm hM0 hbe
  go_loopw [18] (fun iv wr => ∃ (k : Nat) (m : List Ent), k ≤ ls.length ∧ iv = .int .i64 k ∧ Hid (m = mixed (ls.take k)) ∧ Hid (MapAt IsStrK wr b (m.map ek)) ∧ Hid (Sized m) ∧ Hid (Below w.heap.size w wr)) (fun iv _ => ls.length - (intOf iv).toNat)
  case atStart => exact ⟨0, [], by omega, rfl, rfl, HM0, nofun, HB0⟩
  case round =>
    clear HM0 HB0
    obtain ⟨k, m, hk, rfl, HMX, HM, HSZ, HB⟩ := hrel
    have hz := HB.out.size
    by_cases hlt : k < ls.length
    · have dk1 : decide (k < ls.length) = true := decide_eq_true hlt
      obtain ⟨b0, off, A1, c1, rfl, hb0, c0, hs1⟩ := H.out.sl_ hlt
      have e0 := (HB.out.cell (p := ⟨b0, off + k, none⟩) hb0).trans c0
      have hmix : mixed (ls.take (k + 1)) = ls[k].foldl mixAdd m := by
        rw [HMX.out, List.take_succ_eq_append_getElem hlt]
        unfold mixed
        rw [List.flatten_append, List.foldl_append]; simp
      obtain ⟨l, hl⟩ : ∃ l, l = ls[k] := ⟨_, rfl⟩
      rw [← hl] at e0 hs1 hmix
      have HS1 := Lib.hid hs1
      have HMIX := Lib.hid hmix
      have hl1 := hs1.le
      clear hl c0 hs1 hmix
      go_wp2_with fail
      go_loopw [24] (fun jv wx => ∃ (j : Nat) (m' : List Ent), j ≤ l.length ∧ jv = .int .i64 j ∧ Hid (m' = (l.take j).foldl mixAdd m) ∧ Hid (MapAt IsStrK wx b (m'.map ek)) ∧ Hid (Sized m') ∧ Hid (Below w.heap.size w wx)) (fun jv _ => l.length - (intOf jv).toNat)
      case atStart => exact ⟨0, m, by omega, rfl, rfl, HM, HSZ, HB⟩
      case round =>
        clear HM HSZ HB
        obtain ⟨j, m', hj, rfl, HMX', HM, HSZ, HB⟩ := hrel
        have hz := HB.out.size
        by_cases hlt2 : j < l.length
        · have dk2 : decide (j < l.length) = true := decide_eq_true hlt2
          obtain ⟨b1, o1, rfl, hb1, p0, p1, p2, hks, hvs⟩ := HS1.out.ent_ hlt2
          have e0 := (HB.out.cell (p := ⟨b1, o1 + j * 3, none⟩) hb1).trans p0
          have e1 := (HB.out.cell (p := ⟨b1, o1 + j * 3 + 1, none⟩) hb1).trans p1
          have e2 := (HB.out.cell (p := ⟨b1, o1 + j * 3 + 2, none⟩) hb1).trans p2
          have hst : (l.take (j + 1)).foldl mixAdd m = mixAdd m' l[j] := by
            rw [List.take_succ_eq_append_getElem hlt2, List.foldl_append, HMX'.out]; rfl
          obtain ⟨r, hr⟩ : ∃ r, r = l[j] := ⟨_, rfl⟩
          rw [← hr] at e0 e1 e2 hks hvs hst
          have HST := Lib.hid hst
          have HSZ' := Lib.hid (mixAdd_sized HSZ.out ⟨hks, hvs⟩)
          obtain ⟨rk, rv, rd⟩ := r
          simp only at e0 e1 e2 hks hvs
          have hbl := HM.out.lt
          have hik : IsStrK (.string rk) := ⟨rk, rfl, hks⟩
          have hM1 := HM.out.keep (w' := wr.alloc (.cells #[.string rk, .string rv, .bool rd] 67)) (Below.heap_alloc _ _ _ hbl)
          have HM1 := Lib.hid hM1
          have HIK := Lib.hid hik
          clear hr p0 p1 p2 hks hvs hst hik hM1
          by_cases hf : fresh ⟨rk, rv, rd⟩ m' = true
          · have hno := ek_ne (fresh_iff.1 hf)
            have hadd : mixAdd m' ⟨rk, rv, rd⟩ = m' ++ [⟨rk, rv, rd⟩] := by unfold mixAdd; rw [if_pos hf]
            have hlk := HM1.out.look_miss strT Tryd.underlying75 (z := .agg #[.string ⟨#[]⟩, .string ⟨#[]⟩, .bool false]) (by kernel_rfl) HIK.out hno true
            have HNO := Lib.hid hno
            have HADD := Lib.hid hadd
            clear hno hadd hf
            simp only [if_true] at hlk
            have hM2 := HM1.out.keep (w' := (wr.alloc (.cells #[.string rk, .string rv, .bool rd] 67)).alloc (.cells #[.string ⟨#[]⟩, .string ⟨#[]⟩, .bool false] 67)) (Below.heap_alloc _ _ _ (by simp; omega))
            have hst := hM2.store_new strT Tryd.underlying75 (.agg #[.string rk, .string rv, .bool rd]) HIK.out HNO.out
            have HSTO := Lib.hid hst
            have HB2 : Hid (Below w.heap.size w ((wr.alloc (.cells #[.string rk, .string rv, .bool rd] 67)).alloc (.cells #[.string ⟨#[]⟩, .string ⟨#[]⟩, .bool false] 67))) := (HB.out.alloc hz _).alloc (by simp; omega) _
            clear hM2 hst HM1
            go_wp2_with (at_mapUpdate; refine wpList_store_M _ rfl _ _ _ 75 rfl 9 67 IsStrK b (.string rk) (.agg #[.string rk, .string rv, .bool rd]) rfl rfl rfl _ HSTO.out ?_)
            intro w3 hm3 hg3 hz3
            have HM3 : Hid (MapAt IsStrK w3 b ((mixAdd m' ⟨rk, rv, rd⟩).map ek)) := by show MapAt _ _ _ _; rw [HADD.out, List.map_append]; exact hm3
            have HB3 : Hid (Below w.heap.size w w3) := HB2.out.grown hg3 (by simp; omega) (fun k e => by injection e with e; omega)
            clear hm3 hg3 hz3 HSTO HB2 hlk
            go_wp2_with fail
            go_roundw
            case rel => exact ⟨j + 1, mixAdd m' ⟨rk, rv, rd⟩, by omega, by go_num, HST.out.symm, HM3, HSZ', HB3⟩
            case measure => simp [intOf]; omega
          · have hex : ∃ x ∈ m', x.key = rk := by
              by_cases hc : ∃ x ∈ m', x.key = rk
              · exact hc
              · exact absurd (fresh_iff.2 fun x hx e => hc ⟨x, hx, e⟩) hf
            obtain ⟨x, hx, hxk⟩ := hex
            have hadd : mixAdd m' ⟨rk, rv, rd⟩ = m' := by unfold mixAdd; rw [if_neg hf]
            have hlk := HM1.out.look_hit strT Tryd.underlying75 (key := .string rk) (v := .agg #[.string x.key, .string x.value, .bool x.dead]) (List.mem_map.2 ⟨x, hx, by unfold ek; rw [hxk]⟩) true
            simp only [if_true] at hlk
            have HADD := Lib.hid hadd
            have HB2 : Hid (Below w.heap.size w ((wr.alloc (.cells #[.string rk, .string rv, .bool rd] 67)).alloc (.cells #[.string x.key, .string x.value, .bool x.dead] 67))) := (HB.out.alloc hz _).alloc (by simp; omega) _
            have HM3 : Hid (MapAt IsStrK ((wr.alloc (.cells #[.string rk, .string rv, .bool rd] 67)).alloc (.cells #[.string x.key, .string x.value, .bool x.dead] 67)) b ((mixAdd m' ⟨rk, rv, rd⟩).map ek)) := by
              show MapAt _ _ _ _
              rw [hadd]
              exact HM1.out.keep (Below.heap_alloc _ _ _ (by simp; omega))
            clear hx hxk hadd hf
            go_wp2_with fail
            go_roundw
            case rel => exact ⟨j + 1, mixAdd m' ⟨rk, rv, rd⟩, by omega, by go_num, HST.out.symm, HM3, HSZ', HB2⟩
            case measure => simp [intOf]; omega
        · obtain rfl : j = l.length := by omega
          have dk2 : decide (l.length < l.length) = false := by simp
          have HK' : Hid (m' = mixed (ls.take (k + 1))) := by
            show _ = _
            rw [HMIX.out, HMX'.out, List.take_length]
          go_wp2_with fail
          go_roundw
          case rel => exact ⟨k + 1, m', by omega, by go_num, HK', HM, HSZ, HB⟩
          case measure => simp [intOf]; omega
    · obtain rfl : k = ls.length := by omega
      have dk1 : decide (ls.length < ls.length) = false := by simp
      have hmx : m = mixed ls := by rw [HMX.out, List.take_length]
      have hml : m.length ≤ 1000000 := by
        rw [hmx]
        have := mixed_len ls.flatten []
        have h2 := HCNT.out
        unfold cnt at h2
        simp only [List.length_nil, Nat.zero_add] at this
        unfold mixed
        omega
      have HME := Lib.hid hmx
      clear hmx HMX
      have hbl := HM.out.lt
      go_wp2_with (at_range; refine wpList_range_M _ rfl _ 75 rfl 9 67 IsStrK Tryd.underlying75 b _ rfl HM.out ?_)
      intro w1 hrg hg1 hz1
      obtain ⟨R0, hR0⟩ : ∃ R0, R0 = wr.heap.size := ⟨_, rfl⟩
      rw [← hR0] at hrg ⊢
      have HR := Lib.hid hrg
      have HB1 := Lib.hid (HB.out.grown hg1 hz (fun k e => by cases e))
      have hR1 : w.heap.size ≤ R0 := by omega
      have hR2 : R0 < w1.heap.size := by omega
      have hbR : b ≠ R0 := by omega
      clear hrg hg1 hz1 HM HB hR0
      go_wp2_with fail
      go_loopg [12] (m.length) (fun gk ov wx => ∃ (ds ts : List Ent) (A' : Option Addr) (cap : Nat), gk = ts.length ∧ ds.length + ts.length = m.length ∧ Hid ((ds ++ ts).Perm m) ∧ ov = .slice A' ds.length cap ∧ Hid (RangeAt IsStrK wx b R0 (m.map ek) (ts.map ek)) ∧ Hid (OwnS wx 67 3 A' cap ds.length (ds.flatMap entCells)) ∧ Hid (∀ k, blk A' = some k → w.heap.size ≤ k) ∧ Hid (Below w.heap.size w wx))
      case atStart => exact ⟨[], m, none, 0, rfl, by simp, List.Perm.refl _, rfl, HR, OwnS.nil _ _ _, (by intro k e; cases e), HB1⟩
      case round =>
        clear HR HB1
        obtain ⟨ds, ts, A', cap, hgk, hlen, HP, rfl, HR, HW, HA, HB⟩ := hrel
        have HGK := Lib.hid hgk
        clear hgk
        go_wp2_with (at_next; refine wpList_next_M _ rfl _ rfl IsStrK b R0 _ _ rfl HR.out ?_ ?_)
        · intro h0
          have hts : ts = [] := by simpa using h0
          subst hts
          have HPD : Hid (ds.Perm m) := by have := HP.out; rwa [List.append_nil] at this
          have hcon := sort_any Tryd.sort_Entry 3 (by decide) Tryd.isAgg67 Tryd.sizeOf67 entCells (fun _ => rfl) (fun x v hv => by simp [entCells] at hv; rcases hv with rfl | rfl | rfl <;> rfl) entCf entSwo 90
            (enters_of Tryd.func90 (by kernel_rfl) rfl) mixCmp 67 A' cap ds wr HW.out (by omega)
          change Calls Tryd.prog 89 _ _ _ at hcon
          have HCON := Lib.hid hcon
          clear h0 hcon hlen
          go_wp2_with fail
          refine HCON.out.mono ?_
          rintro e w3 ⟨rfl, q, hq1, hq2, hq3, hq4⟩
          have HQ1 := Lib.hid hq1
          have HQ2 := Lib.hid hq2
          have HQ3 := Lib.hid hq3
          have HQ4 := Lib.hid hq4
          clear hq1 hq2 hq3 hq4 HCON
          go_wp2_with fail
          go_ret
          have hql : ds.length = q.length := HQ1.out.length_eq.symm
          refine ⟨A', cap, q, by rw [← hql]; rfl, ?_, HQ2.out, ?_, ?_⟩
          · rw [← HME.out]; exact HQ1.out.trans HPD.out
          · have ho := HQ3.out
            exact OwnS.sl (E := entE) entCells (fun _ => rfl) ho hql (fun k e => ⟨HA.out k e, EntRow.own ho e⟩) (fun x hx => ⟨rfl, HSZ.out x (HPD.out.mem_iff.1 (HQ1.out.mem_iff.1 hx))⟩)
          · exact HB.out.grown HQ4.out HB.out.size HA.out
        · intro t1 t2 key v w2 htodo hrg2 hg2 hz2 hen
          obtain ⟨s1, s2, hs, hs1, hs2⟩ := List.map_eq_append_iff.1 htodo
          obtain ⟨x, s3, hs', hx, hs3⟩ := List.map_eq_cons_iff.1 hs2
          subst hs'
          subst hs
          have hkey : key = .string x.key := by have := congrArg Prod.fst hx; exact this.symm
          have hval : v = .agg #[.string x.key, .string x.value, .bool x.dead] := by have := congrArg Prod.snd hx; exact this.symm
          subst hkey
          subst hval
          have hne := range_ne_own3 HR.out HW.out
          have hW2 := HW.out.grown hg2 (fun k e e2 => hne.1 (e2 ▸ e))
          have hB2 : Below w.heap.size w w2 := HB.out.grown hg2 HB.out.size (fun k e => by injection e with e; omega)
          have hR2' : RangeAt IsStrK w2 b R0 (m.map ek) ((s1 ++ s3).map ek) := by rw [List.map_append, hs1, hs3]; exact hrg2
          have hne2 := range_ne_own3 hR2' hW2
          have hlen1 : ds.length + (s1.length + (s3.length + 1)) = m.length := by simpa using hlen
          have hP2 : ((ds ++ [x]) ++ (s1 ++ s3)).Perm m := by
            refine List.Perm.trans ?_ HP.out
            rw [List.append_assoc]
            refine List.Perm.append_left ds ?_
            simpa using (List.perm_middle (l₁ := s1) (a := x) (l₂ := s3)).symm
          have HW2 := Lib.hid (hW2.grown (World.grownBy_alloc w2 (.cells #[.string x.key, .string x.value, .bool x.dead] 67) none) (fun _ _ => by simp))
          have HB2 := Lib.hid (hB2.alloc hB2.size (.cells #[.string x.key, .string x.value, .bool x.dead] 67))
          have HR2 := Lib.hid (hR2'.keep (w' := w2.alloc (.cells #[.string x.key, .string x.value, .bool x.dead] 67)) (Below.heap_alloc _ _ _ hR2'.map.lt) (Below.heap_alloc _ _ _ hR2'.lt))
          have HNE := Lib.hid hne2
          have HP2 := Lib.hid hP2
          have hsz2 := hB2.size
          obtain ⟨xk, xv, xd⟩ := x
          simp only at hen
          have hrow : (ds ++ [(⟨xk, xv, xd⟩ : Ent)]).flatMap entCells = ds.flatMap entCells ++ [.string xk, .string xv, .bool xd] := by rw [List.flatMap_append]; simp [entCells]
          have HROW := Lib.hid hrow
          clear htodo hrg2 hg2 hz2 hs1 hs2 hs3 hx hne hW2 hB2 hR2' hne2 hlen hP2 HP HR HW HB hrow
          go_wp2_with (at_builtin; refine wpList_push_S (w0 := w2.alloc (.cells #[.string xk, .string xv, .bool xd] 67)) rfl (.tmp 55) (.tmp 57) 68 rfl 67 _ 3 40 Tryd.underlying68 info_ent rfl (by decide) A' cap ds.length _ rfl HW2.out [.string xk, .string xv, .bool xd] (by simp [Act.eval]) rfl (by simp [Value.oneCell']) (by unfold maxLen; omega) (by omega) ?_)
          intro A3 cap3 w3 hown hg hat
          have HR3 := Lib.hid (HR2.out.keep (hg.block b HR2.out.map.lt (fun e => HNE.out.2 e.symm)) (hg.block _ HR2.out.lt (fun e => HNE.out.1 e.symm)))
          have HB3 := Lib.hid (HB2.out.grown hg HB2.out.size HA.out)
          have HA3 : Hid (∀ k, blk A3 = some k → w.heap.size ≤ k) := fun k e => by
            rcases hat with h1 | ⟨j, h1, h2⟩
            · exact HA.out k (h1 ▸ e)
            · rw [h1] at e; injection e with e; subst e; have h3 := HB2.out.size; simp at h3; omega
          have HW3 : Hid (OwnS w3 67 3 A3 cap3 (ds ++ [(⟨xk, xv, xd⟩ : Ent)]).length ((ds ++ [(⟨xk, xv, xd⟩ : Ent)]).flatMap entCells)) := by
            show OwnS _ _ _ _ _ _ _
            rw [HROW.out]; simpa using hown
          clear hown hg hat HW2 HB2 HR2 HA hen
          go_wp2_with fail
          go_roundg ((s1 ++ s3).length)
          case measure => have := HGK.out; simp at this ⊢; omega
          case rel => exact ⟨ds ++ [⟨xk, xv, xd⟩], s1 ++ s3, A3, cap3, rfl, by simp; omega, HP2, by simp, HR3, HW3, HA3, HB3⟩
end Go.Proofs.YthobnigjhedjaaaDoor
