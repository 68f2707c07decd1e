/-
  Contract of table.Read at the bytes that Build has written: the entries are read as they were. Condition: the bytes are a table's.
-/
import Derived.Test.YthobnigjhedjaaaDoorTabBuild
import Derived.Test.YthobnigjhedjaaaDoorRdText
import Derived.Test.YthobnigjhedjaaaDoorOpen
import Derived.StillTailTactics
namespace Go.Proofs.YthobnigjhedjaaaDoor
open Go.RowKit
open Go.Sort hiding Below
set_option linter.unusedVariables false

theorem drop_more {x a b : List UInt8} {p : Nat} (h : x.drop p = a ++ b) (hp : p ≤ x.length) : x.drop (p + a.length) = b ∧ p + a.length ≤ x.length := by
  refine ⟨by rw [← List.drop_drop, h, List.drop_left], ?_⟩
  have := congrArg List.length h
  rw [List.length_drop, List.length_append] at this
  omega
theorem drop_head {x b : List UInt8} {p : Nat} {d : UInt8} (h : x.drop p = d :: b) : ∃ hp : p < x.length, x[p] = d ∧ x.drop (p + 1) = b := by
  have hp : p < x.length := by
    rcases Nat.lt_or_ge p x.length with h1 | h1
    · exact h1
    · rw [List.drop_eq_nil_of_le h1] at h; cases h
  rw [List.drop_eq_getElem_cons hp] at h
  injection h with h1 h2
  exact ⟨hp, h1, h2⟩
theorem OwnS.row3 {w : World} {e : TypeId} {A : Option Addr} {cap n : Nat} {l : List Ent} (h : OwnS w e 3 A cap n (l.flatMap entCells)) {j : Nat} (hj : j < l.length) (hn : n = l.length) : ∃ g off, A = some ⟨g, off, none⟩ ∧ g < w.heap.size ∧ w.cell? ⟨g, off + j * 3, none⟩ = some (.string l[j].key) := by
  obtain ⟨g, off, rfl, hg, hc⟩ := h.head (by omega) (by decide)
  refine ⟨g, off, rfl, hg, hc _ _ ?_⟩
  have := flat_get entCells 3 (fun _ => rfl) l (i := j) (j := 0) (List.getElem?_eq_getElem hj) (by decide)
  rw [Nat.add_zero] at this
  rw [this]; rfl
theorem still_gen {P : Program} {ops : Array Oper} {w : World} {Q : Act → Prop} {l : List Oper} {a : Act} (h : ∀ o : Array Oper, Hid (o = ops) → wpStill P o w Q l a) : wpStill P ops w Q l a := h ops rfl
theorem still_skip {P : Program} {ops : Array Oper} {w : World} {Q : Act → Prop} {o : Oper} {rest : List Oper} {a : Act} (hw : Region.wanted o (yielded ops a.tmps) = false) (h : ∀ K : Act → Prop, (∀ a, wpStill P ops w Q rest a → K a) → K (a.put o.dst undef)) : wpStill P ops w Q (o :: rest) a :=
  wpStill_step fun K hK => by rw [if_neg (by rw [hw]; exact Bool.false_ne_true)]; exact h K hK
theorem still_want {P : Program} {ops : Array Oper} {w : World} {Q : Act → Prop} {o : Oper} {rest : List Oper} {a : Act} (hw : Region.wanted o (yielded ops a.tmps) = true) (h : ∀ K : Act → Prop, (∀ a, wpStill P ops w Q rest a → K a) → o.still P a w K) : wpStill P ops w Q (o :: rest) a :=
  wpStill_step fun K hK => by rw [if_pos hw]; exact h K hK
def ReadPost (w : World) (l : List Ent) (e : Ending) (w' : World) : Prop := ∃ A' c', e = .returned (.tuple #[.slice A' l.length c', .nilIface]) ∧ SlA entE (fun k => w.heap.size ≤ k ∧ k < w'.heap.size) w' A' c' l ∧ Below w.heap.size w w'

set_option maxRecDepth 100000 in
set_option maxHeartbeats 3000000 in
theorem read_ok (A : Option Addr) (c : Nat) (l : List Ent) (w : World) (hl : SlA bytE (· < w.heap.size) w A c (tabB l)) (hok : TabOk l) : Calls Tryd.prog 48 #[.slice A (tabB l).length c] w (ReadPost w l) := by
  have hlen : (tabB l).length ≤ 1099511627776 := by
    have h1 := bodyB_len hok
    have h2 := numB_len (bodyB l).length
    unfold tabB
    rw [sealB_length]; omega
  have HOPEN := Lib.hid (open_ok c A (tabB l) (bodyB l) [] w hl hlen (by rw [List.append_nil]; rfl))
  have hbl := bodyB_len hok
  have HOK := Lib.hid hok
  have hll := hok.1
  obtain ⟨N, hN⟩ : ∃ N, N = (tabB l).length := ⟨_, rfl⟩
  have HN := Lib.hid (show (sealB (bodyB l)).length = N by rw [hN]; rfl)
  rw [← hN] at hlen ⊢
  have HN2 := Lib.hid hN
  obtain ⟨L, hL⟩ : ∃ L, L = (bodyB l).length := ⟨_, rfl⟩
  have HL := Lib.hid hL
  rw [← hL] at hbl
  clear hl hok hN hL
  go_enter Tryd.func48, Tryd.ntmps48
  go_wp2_with fail
  rw [HN2.out]
  refine HOPEN.out.mono ?_
  rw [HN.out, ← HL.out]
  rintro e w2 ⟨A2, c2, rfl, hs2, hb2⟩
  rw [← HN2.out]
  obtain ⟨g, hg⟩ : ∃ g, g = w2.heap.size := ⟨_, rfl⟩
  have HS2 := Lib.hid hs2
  have HB2 := Lib.hid hb2
  have hz2 := hb2.size
  have hd0 : (bodyB l).drop 0 = numB (l.length : Int) ++ rowsB l := rfl
  have hrd : RdAt (w2.alloc (.cells #[.slice A2 L c2, .int .i64 0, .nilIface] 130)) g A2 L c2 0 .nilIface := by
    rw [hg]; exact heap_alloc_new w2 _
  have hsx : SlA bytE (· < w2.heap.size) (w2.alloc (.cells #[.slice A2 L c2, .int .i64 0, .nilIface] 130)) A2 c2 (bodyB l) := hs2.keep fun k hk => Below.heap_alloc w2 _ k hk
  have HUP := Lib.hid (upto_ok g c2 0 A2 (bodyB l) (rowsB l) (· < w2.heap.size) (l.length : Int) 400 _ (by rw [← HL.out]; exact hrd) hsx (by omega) (fun k hk => by simp; omega) (by omega) (by omega) (by omega) hd0)
  have hbx : Below w2.heap.size w2 (w2.alloc (.cells #[.slice A2 L c2, .int .i64 0, .nilIface] 130)) := (Below.refl _ _).alloc (Nat.le_refl _) _
  have HBX := Lib.hid hbx
  clear hs2 hb2 hrd hsx hd0 hbx HOPEN
  have hg1 : w2.heap.size ≤ g := by omega
  have HG := Lib.hid hg
  clear hg
  go_wp2_with fail
  rw [← HG.out]
  refine HUP.out.mono ?_
  rw [← HL.out]
  rintro e w3 ⟨rfl, hr3, hf3⟩
  have HR3 := Lib.hid hr3
  have HB3 : Hid (Below w2.heap.size w2 w3) := HBX.out.trans (hf3.below (by simp) (fun k e => by omega))
  have hg3 := hr3.lt
  clear hr3 hf3 HUP HBX
  go_wp2_with fail
  go_loopw [8, 30] (fun lv iv wr => ∃ (k p c' : Nat) (A' : Option Addr), k ≤ l.length ∧ iv = .int .i64 k ∧ lv = .slice A' k c' ∧ p ≤ L ∧ Hid ((bodyB l).drop p = rowsB (l.drop k)) ∧ Hid (RdAt wr g A2 L c2 p .nilIface) ∧ Hid (OwnS wr 67 3 A' c' k ((l.take k).flatMap entCells)) ∧ Hid (∀ b, blk A' = some b → g < b) ∧ Hid (Below w2.heap.size w2 wr)) (fun _ iv _ => l.length - (intOf iv).toNat)
  case atStart =>
    refine ⟨0, (numB (l.length : Int)).length, 0, none, by omega, rfl, rfl, ?_, ?_, by have := HR3.out; rwa [Nat.zero_add] at this, OwnS.nil _ _ _, (by intro k e; cases e), HB3⟩
    · rw [HL.out]; unfold bodyB; rw [List.length_append]; omega
    · show (bodyB l).drop _ = rowsB (l.drop 0)
      unfold bodyB; rw [List.drop_left, List.drop_zero]
  case round =>
    clear HR3 HB3
    obtain ⟨k, p, c', A', hk, rfl, rfl, hp, HDR, HR, HO, HA, HB⟩ := hrel
    have hz := HB.out.size
    have hgw := HR.out.lt
    by_cases hlt : k < l.length
    · have dk1 : decide (k < l.length) = true := decide_eq_true hlt
      have hek := HOK.out.2.1 _ (List.getElem_mem hlt)
      have hdr := HDR.out
      have htk : (l.take (k + 1)).flatMap entCells = (l.take k).flatMap entCells ++ entCells l[k] := by rw [List.take_succ_eq_append_getElem hlt, List.flatMap_append]; simp
      have hprev : ∀ j (hj : j < l.length), j + 1 = k → kLt l[j].key l[k].key = true := fun j hj e => List.pairwise_iff_getElem.1 HOK.out.2.2 j k hj hlt (by omega)
      rw [List.drop_eq_getElem_cons hlt] at hdr
      obtain ⟨r, hr⟩ : ∃ r, r = l[k] := ⟨_, rfl⟩
      rw [← hr] at hek hdr htk hprev
      have HEK := Lib.hid hek
      obtain ⟨rk, rv, rd⟩ := r
      obtain ⟨hk1, hk2, hk3⟩ := hek
      simp only at hk1 hk2
      have hd1 : (bodyB l).drop p = textB rk ++ ((if rd then 1 else 0) :: (textB rv ++ rowsB (l.drop (k + 1)))) := by
        rw [hdr]; show entB _ ++ rowsB _ = _; simp [entB]
      obtain ⟨hd2, hp2⟩ := drop_more hd1 (by rw [← HL.out]; exact hp)
      obtain ⟨p1, hp1⟩ : ∃ p1, p1 = p + (textB rk).length := ⟨_, rfl⟩
      rw [← hp1] at hd2 hp2
      obtain ⟨hp3, hby, hd3⟩ := drop_head hd2
      obtain ⟨hd4, hp4⟩ := drop_more hd3 (by omega)
      obtain ⟨p3, hp3'⟩ : ∃ p3, p3 = p1 + 1 + (textB rv).length := ⟨_, rfl⟩
      rw [← hp3'] at hd4 hp4
      obtain ⟨bi, oi, rfl, hbi, hci⟩ := HS2.out.byt_ hp3
      have hci := (HB.out.cell (p := ⟨bi, oi + p1, none⟩) hbi).trans hci
      rw [hby] at hci
      obtain ⟨dn, hdn⟩ : ∃ dn : Int, dn = ((if rd then (1 : UInt8) else 0).toNat : Int) := ⟨_, rfl⟩
      rw [← hdn] at hci
      have hdb : (dn == 1) = rd := by rw [hdn]; cases rd <;> rfl
      have hdg : decide (1 < dn) = false := by rw [hdn]; cases rd <;> rfl
      have hsl1 := HS2.out.keep (Same.below HB.out)
      have hT1 := (rdText_ok g c2 p (some ⟨bi, oi, none⟩) (bodyB l) _ (· < w2.heap.size) rk 120 wr (by rw [← HL.out]; exact HR.out) hsl1 (by omega) (fun k hk => by omega) hk1 (by rw [← HL.out]; omega) (by omega) hd1 (by rw [← HL.out]; exact hp))
      rw [show ((120 : Nat) : Int) = 120 from rfl, ← HL.out, ← hp1] at hT1
      have HT1 := Lib.hid hT1
      clear hT1
      have HD3 := Lib.hid hd3
      have HD4 := Lib.hid hd4
      have HTK := Lib.hid htk
      have HPREV := Lib.hid hprev
      rw [← HL.out] at hp2 hp3 hp4
      have hp1e := Lib.hid hp1
      have hp3e := Lib.hid hp3'
      have hbig : bi < g := by omega
      clear hr hdr htk hprev hd1 hd2 hd3 hd4 hby hdn hsl1 hk3 hp1 hp3'
      go_wp2_with fail
      refine HT1.out.mono ?_
      rintro e w4 ⟨rfl, hr4, hf4⟩
      have hB4 : Below w2.heap.size w2 w4 := HB.out.trans (hf4.below hz (fun k e => by omega))
      have HO4 := Lib.hid (HO.out.keep fun k e => hf4.block k (HO.out.lt k e) (fun e2 => by have := HA.out k e; omega))
      have hci4 := (World.cell?_of_block (a := ⟨bi, oi + p1, none⟩) (hf4.block bi (by omega) (fun e => by omega))).trans hci
      obtain ⟨r0, r1, r2, rf⟩ := hr4.cells
      have rf1 := rf 1
      have HR4 := Lib.hid hr4
      have HB4 := Lib.hid hB4
      have hg4 := hr4.lt
      have hz4 := hB4.size
      have hbi4 : bi < w4.heap.size := by omega
      clear hr4 hf4 hB4 hci rf HT1 HR HO HB
      go_wp2_with fail
      obtain ⟨W5, hW5⟩ : ∃ W5, W5 = (w4.setCell ⟨g, 1, none⟩ (.int .i64 ((p1 : Int) + 1))).alloc (.cells #[.string rk, .string ⟨#[]⟩, .bool rd] 67) := ⟨_, rfl⟩
      rw [← hW5]
      have hs4 : (w4.setCell ⟨g, 1, none⟩ (.int .i64 ((p1 : Int) + 1))).heap.size = w4.heap.size := size_setCell _ _ _
      have hr5 : RdAt W5 g (some ⟨bi, oi, none⟩) L c2 (p1 + 1) .nilIface := by
        have h1 := HR4.out.setAt (p1 + 1)
        rw [hW5]
        exact (Below.heap_alloc _ _ _ (by rw [hs4]; exact hg4)).trans h1
      have hx5 : W5.heap[w4.heap.size]? = some (.cells #[.string rk, .string ⟨#[]⟩, .bool rd] 67 (0, 0)) := by
        have := heap_alloc_new (w4.setCell ⟨g, 1, none⟩ (.int .i64 ((p1 : Int) + 1))) (.cells #[.string rk, .string ⟨#[]⟩, .bool rd] 67)
        rw [hs4] at this
        rw [hW5]; exact this
      have hf5 : Frm (· = g) w4 W5 := by rw [hW5]; exact ((Frm.refl (· = g) w4).setCell (p := ⟨g, 1, none⟩) (.inl rfl) _).alloc _
      have hB5 : Below w2.heap.size w2 W5 := HB4.out.trans (hf5.below hz4 (fun k e => by omega))
      have hz5 := hB5.size
      have hgx : w4.heap.size ≠ g := by omega
      have hT2 := rdText_ok g c2 (p1 + 1) (some ⟨bi, oi, none⟩) (bodyB l) _ (· < w2.heap.size) rv 120 W5 (by rw [← HL.out]; exact hr5) (HS2.out.keep (Same.below hB5)) (by omega) (fun k hk => by omega) hk2 (by rw [← HL.out]; omega) (by omega) HD3.out (by rw [← HL.out]; omega)
      rw [show ((120 : Nat) : Int) = 120 from rfl, ← HL.out, ← hp3e.out] at hT2
      have HT2 := Lib.hid hT2
      have HO5 := Lib.hid (HO4.out.keep fun k e => hf5.block k (HO4.out.lt k e) (fun e2 => by have := HA.out k e; omega))
      have HX5 := Lib.hid hx5
      have HB5 := Lib.hid hB5
      have hx5l := block_lt hx5
      have hoa : ∀ k, blk A' = some k → k < w4.heap.size := HO4.out.lt
      have HOA := Lib.hid hoa
      clear hW5 hs4 hr5 hx5 hf5 hB5 hT2 r0 r1 r2 rf1 hci4 HR4 HB4 HO4 hoa hdb hdg
      refine HT2.out.mono ?_
      rintro e w6 ⟨rfl, hr6, hf6⟩
      have hx6 : w6.heap[w4.heap.size]? = some (.cells #[.string rk, .string ⟨#[]⟩, .bool rd] 67 (0, 0)) := (hf6.block _ hx5l hgx).trans HX5.out
      have b0 := cell_of_row w6 w4.heap.size 0 _ _ _ hx6
      have b1 := cell_of_row w6 w4.heap.size 1 _ _ _ hx6
      have b2 := cell_of_row w6 w4.heap.size 2 _ _ _ hx6
      have bf : w6.frozen? ⟨w4.heap.size, 1, none⟩ = false := by simp [World.frozen?, hx6]
      simp at b0 b1 b2
      have HR6 := Lib.hid hr6
      have HX6 := Lib.hid hx6
      have HO6 := Lib.hid (HO5.out.keep fun k e => hf6.block k (HO5.out.lt k e) (fun e2 => by have := HA.out k e; omega))
      have HB6 := Lib.hid (HB5.out.trans (hf6.below hz5 (fun k e => by omega)))
      have hz6 := HB6.out.size
      have hx6l := block_lt hx6
      clear hr6 hf6 hx6 HT2 HX5 HO5 HB5
      go_upto_region 16 with (fail)
      obtain ⟨W7, hW7⟩ : ∃ W7, W7 = w6.setCell ⟨w4.heap.size, 1, none⟩ (.string rv) := ⟨_, rfl⟩
      rw [← hW7]
      have hx7 : W7.heap[w4.heap.size]? = some (.cells #[.string rk, .string rv, .bool rd] 67 (0, 0)) := by rw [hW7]; simp [World.setCell, Array.getElem?_modify, HX6.out]
      have hk7 : ∀ k, k ≠ w4.heap.size → W7.heap[k]? = w6.heap[k]? := fun k h => by rw [hW7]; exact Below.heap_setCell _ _ _ _ h
      have hr7 : RdAt W7 g (some ⟨bi, oi, none⟩) L c2 p3 .nilIface := (hk7 g hgx.symm).trans HR6.out
      have ho7 := HO6.out.keep fun k e => hk7 k (fun e2 => by have := HOA.out k e; omega)
      have hB7 : Below w2.heap.size w2 W7 := by rw [hW7]; exact HB6.out.setCell (by show w2.heap.size ≤ w4.heap.size; omega) _
      have v0 := cell_of_row W7 w4.heap.size 0 _ _ _ hx7
      have v1 := cell_of_row W7 w4.heap.size 1 _ _ _ hx7
      have v2 := cell_of_row W7 w4.heap.size 2 _ _ _ hx7
      simp at v0 v1 v2
      have HX7 := Lib.hid hx7
      have HR7 := Lib.hid hr7
      have HO7 := Lib.hid ho7
      have HB7 := Lib.hid hB7
      have hz7 := hB7.size
      have hx7l := block_lt hx7
      clear hW7 hx7 hk7 hr7 ho7 hB7 b0 b1 b2 bf HX6 HR6 HO6 HB6
      go_cut [83] from 66 to 82 (fun bv wx => bv = .bool false ∧ Hid (Below W7.heap.size W7 wx))
      case first =>
        rcases Nat.eq_zero_or_pos k with rfl | hpos
        · have dz : decide ((0 : Int) < ((0 : Nat) : Int)) = false := by decide
          have dz2 : decide ((0 : Int) < (0 : Int)) = false := by decide
          rw [show ((0 : Nat) : Int) = (0 : Int) from rfl]
          refine wp_region_still_tail 15 (by kernel_rfl) (by kernel_rfl) ?_
          simp only [List.take_succ_cons, List.take_zero, List.drop_succ_cons, List.drop_zero]
          change wpStill _ _ W7.drew _ _ _
          refine still_gen fun opsV HOPS => ?_
          iterate 3 still_step
          iterate 9 (refine still_skip (by rw [HOPS.out]; rfl) (fun K hK => ?_); go_simp; refine hK _ ?_; clear hK K)
          iterate 2 still_step
          refine still_want (by rw [HOPS.out]; rfl) (fun K hK => ?_)
          go_simp
          refine hK _ ?_
          clear hK K
          refine wpStill_nil ?_
          clear HOPS opsV
          change wpList _ _ _ _ _ W7.drew
          go_wp2_with fail
          refine (entry_yes rk rv rd W7.drew HEK.out).mono ?_
          rintro e w9 ⟨rfl, hb9⟩
          have HB9 : Hid (Below W7.heap.size W7 w9) := (Below.refl _ _).drew.trans hb9
          clear hb9
          go_wp2_with fail
          go_meet
          case rel => exact ⟨rfl, HB9⟩
        · obtain ⟨j, rfl⟩ : ∃ j, k = j + 1 := ⟨k - 1, by omega⟩
          have hj : j < l.length := by omega
          have hjt : j < (l.take (j + 1)).length := by rw [List.length_take]; omega
          obtain ⟨ga, oa, rfl, hga, pc⟩ := HO7.out.row3 hjt (by rw [List.length_take]; omega)
          have hlt2 := HPREV.out j hj rfl
          rw [List.getElem_take] at pc
          obtain ⟨pk, hpk⟩ : ∃ pk, pk = l[j].key := ⟨_, rfl⟩
          rw [← hpk] at pc hlt2
          have hlk : Op.bytesLess pk.toList rk.toList = true := by rw [ltStr_of]; exact hlt2
          have dk2 : decide ((0 : Int) < (j : Int) + 1) = true := decide_eq_true (by omega)
          have dk3 : IntKind.i64.wrap ((j : Int) + 1 - 1) = (j : Int) := by rw [IntWalk.i64_in _ (by omega)]; omega
          have dk4 : IntKind.i64.wrap (j : Int) = (j : Int) := IntWalk.i64_in _ (by omega)
          have dk5 : (j : Int) < (j : Int) + 1 := by omega
          have dk7 : (0 : Int) ≤ (j : Int) + 1 := by omega
          clear hpk hlt2
          refine wp_region_still_tail 15 (by kernel_rfl) (by kernel_rfl) ?_
          simp only [List.take_succ_cons, List.take_zero, List.drop_succ_cons, List.drop_zero]
          change wpStill _ _ W7.drew _ _ _
          repeat still_step
          refine wpStill_nil ?_
          change wpList _ _ _ _ _ W7.drew
          go_wp2_with fail
          refine (entry_yes rk rv rd W7.drew HEK.out).mono ?_
          rintro e w9 ⟨rfl, hb9⟩
          have HB9 : Hid (Below W7.heap.size W7 w9) := (Below.refl _ _).drew.trans hb9
          clear hb9
          go_wp2_with fail
          go_meet
          case rel => exact ⟨rfl, HB9⟩
      case rest =>
        obtain ⟨rfl, HB9⟩ := hcut
        have hr9 : RdAt wc g (some ⟨bi, oi, none⟩) L c2 p3 .nilIface := (HB9.out.block g HR7.out.lt).trans HR7.out
        have ho9 := HO7.out.keep fun k e => HB9.out.block k (HO7.out.lt k e)
        have hx9 := (HB9.out.block _ hx7l).trans HX7.out
        have hB9 : Below w2.heap.size w2 wc := HB7.out.trans (HB9.out.mono hz7)
        obtain ⟨r0, r1, r2, rf⟩ := hr9.cells
        have y0 := cell_of_row wc w4.heap.size 0 _ _ _ hx9
        have y1 := cell_of_row wc w4.heap.size 1 _ _ _ hx9
        have y2 := cell_of_row wc w4.heap.size 2 _ _ _ hx9
        simp at y0 y1 y2
        have HR9 := Lib.hid hr9
        have HO9 := Lib.hid ho9
        have HBB := Lib.hid hB9
        have hz9 := hB9.size
        clear hr9 ho9 hx9 hB9 rf v0 v1 v2 HX7 HR7 HO7 HB7 HB9
        go_wp2_with (at_builtin; refine wpList_push_S (w0 := wc) rfl (.tmp 88) (.tmp 90) 68 rfl 67 _ 3 40 Tryd.underlying68 info_ent rfl (by decide) A' c' k _ rfl HO9.out [.string rk, .string rv, .bool rd] rfl rfl (by simp [Value.oneCell']) (by unfold maxLen; omega) (by omega) ?_)
        intro A3 c3 w10 ho10 hg10 hat10
        have hgA : ∀ k, blk A' = some k → k ≠ g := fun k e => by have := HA.out k e; omega
        have HR10 : Hid (RdAt w10 g (some ⟨bi, oi, none⟩) L c2 p3 .nilIface) := (hg10.block g HR9.out.lt (fun e => hgA g e.symm rfl)).trans HR9.out
        have HB10 : Hid (Below w2.heap.size w2 w10) := HBB.out.grown hg10 hz9 (fun k e => by have := HA.out k e; omega)
        have HA10 : Hid (∀ b, blk A3 = some b → g < b) := fun b e => by
          rcases hat10 with h1 | ⟨j, h1, h2⟩
          · exact HA.out b (h1 ▸ e)
          · rw [h1] at e; injection e with e; subst e
            have := HR9.out.lt
            omega
        have HO10 : Hid (OwnS w10 67 3 A3 c3 (k + 1) ((l.take (k + 1)).flatMap entCells)) := by
          show OwnS _ _ _ _ _ _ _
          rw [HTK.out]; exact ho10
        clear ho10 hg10 hat10 hgA HR9 HO9 HBB y0 y1 y2 r0 r1 r2 HA
        go_wp2_with fail
        go_roundw
        case rel => exact ⟨k + 1, p3, c3, A3, by omega, by go_num, rfl, by omega, HD4, HR10, HO10, HA10, HB10⟩
        case measure => simp [intOf]; omega
    · obtain rfl : k = l.length := by omega
      have dk1 : decide (l.length < l.length) = false := by simp
      have hpL : p = L := by
        have h1 := HDR.out
        rw [List.drop_length] at h1
        have h2 := congrArg List.length h1
        rw [List.length_drop, ← HL.out] at h2
        have h3 : (rowsB ([] : List Ent)).length = 0 := rfl
        omega
      have hO := HO.out
      rw [List.take_length] at hO
      have hEND := rdEnd_ok g c2 A2 L wr (by have := HR.out; rw [hpL] at this; exact this)
      have HEND := Lib.hid hEND
      have hsl : SlA entE (fun k => w.heap.size ≤ k ∧ k < wr.heap.size) wr A' c' l := OwnS.sl (E := entE) entCells (fun _ => rfl) hO rfl (fun k e => ⟨by have := HA.out k e; omega, hO.lt k e⟩) (fun x hx => by
        obtain ⟨h1, h2, _⟩ := HOK.out.2.1 x hx
        exact ⟨rfl, by unfold maxLen; omega, by unfold maxLen; omega⟩)
      have HSL := Lib.hid hsl
      have HBF : Hid (Below w.heap.size w wr) := HB2.out.trans (HB.out.mono hz2)
      clear hpL hO hEND hsl HDR HR HO HA HB
      go_wp2_with fail
      refine HEND.out.mono ?_
      rintro e w9 ⟨rfl, q, rfl⟩
      go_wp2_with fail
      go_ret2
      exact ⟨A', c', rfl, HSL.out.drewN q, bdrewN HBF.out q⟩
end Go.Proofs.YthobnigjhedjaaaDoor
