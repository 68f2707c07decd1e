/-
  What the statement SinkPlays keeps beside the sink, as it lies in memory ('LawRep'), and both at once ('Both'). No condition: definitions and lemmas.
-/
import Derived.Test.YtmcmejmfaihclaaDoorSinkMore
import Derived.Test.YtmcmejmfaihclaaDoorForest
import Derived.Test.YtmcmejmfaihclaaDoorClone
import Derived.Test.YtmcmejmfaihclaaDoorSame
import Derived.Test.YtmcmejmfaihclaaDoorErrAs
namespace Go.Proofs.YtmcmejmfaihclaaDoor
open Go.RowKit Go.ChangeShapes Go.WideShapes
set_option linter.unusedVariables false

structure LBat where
  recs : List Rec
  A : Option Addr
  c : Nat
def lbCell (b : LBat) : Value := .slice b.A b.recs.length b.c
structure LawSt where
  op : List Rec
  Ao : Option Addr
  co : Nat
  bs : List LBat
  As : Option Addr
  cs : Nat
  ids : List Int
  Ai : Option Addr
  ci : Nat
  wr : List Rec
  Aw : Option Addr
  cw : Nat
def rowO (op : List Rec) (Ao : Option Addr) (co : Nat) : ORow := ⟨47, 3, Ao, co, op.length, op.flatMap recCells⟩
def rowS (bs : List LBat) (As : Option Addr) (cs : Nat) : ORow := ⟨42, 1, As, cs, bs.length, bs.map lbCell⟩
def rowI (ids : List Int) (Ai : Option Addr) (ci : Nat) : ORow := ⟨3, 1, Ai, ci, ids.length, ids.map (Value.int .i64)⟩
def LawSt.rows (L : LawSt) : List ORow := [rowO L.op L.Ao L.co, rowS L.bs L.As L.cs, rowI L.ids L.Ai L.ci, rowO L.wr L.Aw L.cw]

structure LawRep (w : World) (L : LawSt) (Fb : Nat → Prop) : Prop where
  rows : Forest w L.rows
  bat : ∀ b ∈ L.bs, SlA recE Fb w b.A b.c b.recs
  okO : ∀ r ∈ L.op, RecOk r
  okW : ∀ r ∈ L.wr, RecOk r
  okI : ∀ i ∈ L.ids, I64 i
  ltF : ∀ k, Fb k → k < w.heap.size
  nF : ∀ k, Fb k → ¬ forF L.rows k

/-- The blocks of the law's own. -/
def lawF (L : LawSt) (Fb : Nat → Prop) (k : Nat) : Prop := forF L.rows k ∨ Fb k
theorem LawRep.lt {w : World} {L : LawSt} {Fb : Nat → Prop} (h : LawRep w L Fb) : ∀ k, lawF L Fb k → k < w.heap.size := by
  rintro k (e | e)
  · exact h.rows.lt k e
  · exact h.ltF k e
theorem LawRep.keep {w w' : World} {L : LawSt} {Fb : Nat → Prop} (h : LawRep w L Fb) (hs : ∀ k, lawF L Fb k → w'.heap[k]? = w.heap[k]?) (hz : w.heap.size ≤ w'.heap.size) : LawRep w' L Fb :=
  ⟨h.rows.keep fun k e => hs k (.inl e), fun b hb => (h.bat b hb).keep fun k e => hs k (.inr e), h.okO, h.okW, h.okI, fun k e => Nat.lt_of_lt_of_le (h.ltF k e) hz, h.nF⟩
theorem LawRep.own_o {w : World} {L : LawSt} {Fb : Nat → Prop} (h : LawRep w L Fb) : OwnS w 47 3 L.Ao L.co L.op.length (L.op.flatMap recCells) := h.rows.at_ (rowO L.op L.Ao L.co) (by simp [LawSt.rows])
theorem LawRep.own_s {w : World} {L : LawSt} {Fb : Nat → Prop} (h : LawRep w L Fb) : OwnS w 42 1 L.As L.cs L.bs.length (L.bs.map lbCell) := h.rows.at_ (rowS L.bs L.As L.cs) (by simp [LawSt.rows])
theorem LawRep.own_i {w : World} {L : LawSt} {Fb : Nat → Prop} (h : LawRep w L Fb) : OwnS w 3 1 L.Ai L.ci L.ids.length (L.ids.map (Value.int .i64)) := h.rows.at_ (rowI L.ids L.Ai L.ci) (by simp [LawSt.rows])
theorem LawRep.own_w {w : World} {L : LawSt} {Fb : Nat → Prop} (h : LawRep w L Fb) : OwnS w 47 3 L.Aw L.cw L.wr.length (L.wr.flatMap recCells) := h.rows.at_ (rowO L.wr L.Aw L.cw) (by simp [LawSt.rows])

/-- Of the turned rows: what is new. -/
def NewF (w : World) (L : LawSt) (Fb : Nat → Prop) (L' : LawSt) (Fb' : Nat → Prop) : Prop := ∀ k, lawF L' Fb' k → lawF L Fb k ∨ w.heap.size ≤ k
abbrev Hat (w : World) (A' A : Option Addr) : Prop := blk A' = blk A ∨ ∃ k, blk A' = some k ∧ w.heap.size ≤ k
theorem Hat.three {w : World} {A' A : Option Addr} (h : Hat w A' A) : blk A' = blk A ∨ blk A' = none ∨ ∃ k, blk A' = some k ∧ w.heap.size ≤ k := h.imp_right .inr

section
variable {w w1 : World} {L : LawSt} {Fb : Nat → Prop} {A' : Option Addr} {c' : Nat}

theorem turn_bat (h : LawRep w L Fb) {A : Option Addr} {r : ORow} (hr : r ∈ L.rows) (hA : r.A = A) (hg : w.grownBy w1 (blk A)) : ∀ b ∈ L.bs, SlA recE Fb w1 b.A b.c b.recs := fun b hb => (h.bat b hb).keep fun k e => by
  refine hg.block k (h.ltF k e) (fun e2 => h.nF k e ⟨r, hr, by rw [hA]; exact e2.symm⟩)
theorem turn_frm {A : Option Addr} {r : ORow} (hr : r ∈ L.rows) (hA : r.A = A) (hg : w.grownBy w1 (blk A)) : Frm (forF L.rows) w w1 := Frm.ofGrown hg fun k e => ⟨r, hr, by rw [hA]; exact e⟩

theorem LawRep.turnO (h : LawRep w L Fb) {op' : List Rec} (hr : (rowO op' A' c').At w1) (hg : w.grownBy w1 (blk L.Ao)) (hat : Hat w A' L.Ao) (hok : ∀ r ∈ op', RecOk r) :
    LawRep w1 { L with op := op', Ao := A', co := c' } Fb ∧ Frm (forF L.rows) w w1 ∧ NewF w L Fb { L with op := op', Ao := A', co := c' } Fb := by
  have hn : ∀ k, forF (LawSt.rows { L with op := op', Ao := A', co := c' }) k → forF L.rows k ∨ w.heap.size ≤ k := fun k e => forF_turn (r := rowO L.op L.Ao L.co) (r' := rowO op' A' c') hat.three e
  refine ⟨⟨h.rows.turn (r' := rowO op' A' c') hr hg hat.three, turn_bat (L := L) h (r := rowO L.op L.Ao L.co) (by simp [LawSt.rows]) rfl hg, hok, h.okW, h.okI, fun k e => Nat.lt_of_lt_of_le (h.ltF k e) hg.size, fun k e e2 => ?_⟩, turn_frm (L := L) (r := rowO L.op L.Ao L.co) (by simp [LawSt.rows]) rfl hg, ?_⟩
  · rcases hn k e2 with e3 | e3
    · exact h.nF k e e3
    · have := h.ltF k e; omega
  · rintro k (e | e)
    · exact (hn k e).imp_left .inl
    · exact .inl (.inr e)
theorem LawRep.turnI (h : LawRep w L Fb) {ids' : List Int} (hr : (rowI ids' A' c').At w1) (hg : w.grownBy w1 (blk L.Ai)) (hat : Hat w A' L.Ai) (hok : ∀ i ∈ ids', I64 i) :
    LawRep w1 { L with ids := ids', Ai := A', ci := c' } Fb ∧ Frm (forF L.rows) w w1 ∧ NewF w L Fb { L with ids := ids', Ai := A', ci := c' } Fb := by
  have hn : ∀ k, forF (LawSt.rows { L with ids := ids', Ai := A', ci := c' }) k → forF L.rows k ∨ w.heap.size ≤ k := fun k e => forF_mid (pre := [rowO L.op L.Ao L.co, rowS L.bs L.As L.cs]) (post := [rowO L.wr L.Aw L.cw]) (r := rowI L.ids L.Ai L.ci) (r' := rowI ids' A' c') hat.three e
  refine ⟨⟨Forest.turnMid (pre := [rowO L.op L.Ao L.co, rowS L.bs L.As L.cs]) (post := [rowO L.wr L.Aw L.cw]) (r := rowI L.ids L.Ai L.ci) (r' := rowI ids' A' c') h.rows hr hg hat.three, turn_bat (L := L) h (r := rowI L.ids L.Ai L.ci) (by simp [LawSt.rows]) rfl hg, h.okO, h.okW, hok, fun k e => Nat.lt_of_lt_of_le (h.ltF k e) hg.size, fun k e e2 => ?_⟩, turn_frm (L := L) (r := rowI L.ids L.Ai L.ci) (by simp [LawSt.rows]) rfl hg, ?_⟩
  · rcases hn k e2 with e3 | e3
    · exact h.nF k e e3
    · have := h.ltF k e; omega
  · rintro k (e | e)
    · exact (hn k e).imp_left .inl
    · exact .inl (.inr e)
theorem LawRep.turnW (h : LawRep w L Fb) {wr' : List Rec} (hr : (rowO wr' A' c').At w1) (hg : w.grownBy w1 (blk L.Aw)) (hat : Hat w A' L.Aw) (hok : ∀ i ∈ wr', RecOk i) :
    LawRep w1 { L with wr := wr', Aw := A', cw := c' } Fb ∧ Frm (forF L.rows) w w1 ∧ NewF w L Fb { L with wr := wr', Aw := A', cw := c' } Fb := by
  have hn : ∀ k, forF (LawSt.rows { L with wr := wr', Aw := A', cw := c' }) k → forF L.rows k ∨ w.heap.size ≤ k := fun k e => forF_mid (pre := [rowO L.op L.Ao L.co, rowS L.bs L.As L.cs, rowI L.ids L.Ai L.ci]) (post := []) (r := rowO L.wr L.Aw L.cw) (r' := rowO wr' A' c') hat.three e
  refine ⟨⟨Forest.turnMid (pre := [rowO L.op L.Ao L.co, rowS L.bs L.As L.cs, rowI L.ids L.Ai L.ci]) (post := []) (r := rowO L.wr L.Aw L.cw) (r' := rowO wr' A' c') h.rows hr hg hat.three, turn_bat (L := L) h (r := rowO L.wr L.Aw L.cw) (by simp [LawSt.rows]) rfl hg, h.okO, hok, h.okI, fun k e => Nat.lt_of_lt_of_le (h.ltF k e) hg.size, fun k e e2 => ?_⟩, turn_frm (L := L) (r := rowO L.wr L.Aw L.cw) (by simp [LawSt.rows]) rfl hg, ?_⟩
  · rcases hn k e2 with e3 | e3
    · exact h.nF k e e3
    · have := h.ltF k e; omega
  · rintro k (e | e)
    · exact (hn k e).imp_left .inl
    · exact .inl (.inr e)
/-- The open one goes to the sealed, and a new one is opened. -/
theorem LawRep.turnS (h : LawRep w L Fb) (hr : (rowS (L.bs ++ [LBat.mk L.op L.Ao L.co]) A' c').At w1) (hg : w.grownBy w1 (blk L.As)) (hat : Hat w A' L.As) :
    LawRep w1 { L with op := [], Ao := none, co := 0, bs := L.bs ++ [LBat.mk L.op L.Ao L.co], As := A', cs := c' } (fun k => Fb k ∨ blk L.Ao = some k) ∧ Frm (forF L.rows) w w1 ∧
      NewF w L Fb { L with op := [], Ao := none, co := 0, bs := L.bs ++ [LBat.mk L.op L.Ao L.co], As := A', cs := c' } (fun k => Fb k ∨ blk L.Ao = some k) := by
  have hf : Forest w1 [rowO L.op L.Ao L.co, rowS (L.bs ++ [LBat.mk L.op L.Ao L.co]) A' c', rowI L.ids L.Ai L.ci, rowO L.wr L.Aw L.cw] :=
    Forest.turnMid (pre := [rowO L.op L.Ao L.co]) (post := [rowI L.ids L.Ai L.ci, rowO L.wr L.Aw L.cw]) (r := rowS L.bs L.As L.cs) (r' := rowS (L.bs ++ [LBat.mk L.op L.Ao L.co]) A' c') h.rows hr hg hat.three
  have hsz : w.heap.size ≤ w1.heap.size := hg.size
  have hlO : ∀ k, blk L.Ao = some k → k < w1.heap.size := fun k e => hf.lt k ⟨rowO L.op L.Ao L.co, by simp, e⟩
  have hf2 : Forest w1 (LawSt.rows { L with op := [], Ao := none, co := 0, bs := L.bs ++ [LBat.mk L.op L.Ao L.co], As := A', cs := c' }) := hf.swap (r' := rowO [] none 0) (OwnS.nil _ _ _) (.inr rfl)
  have hn0 : ∀ k, forF [rowO L.op L.Ao L.co, rowS (L.bs ++ [LBat.mk L.op L.Ao L.co]) A' c', rowI L.ids L.Ai L.ci, rowO L.wr L.Aw L.cw] k → forF L.rows k ∨ w.heap.size ≤ k := fun k e => forF_mid (pre := [rowO L.op L.Ao L.co]) (post := [rowI L.ids L.Ai L.ci, rowO L.wr L.Aw L.cw]) (r := rowS L.bs L.As L.cs) (r' := rowS (L.bs ++ [LBat.mk L.op L.Ao L.co]) A' c') hat.three e
  have hn1 : ∀ k, forF (LawSt.rows { L with op := [], Ao := none, co := 0, bs := L.bs ++ [LBat.mk L.op L.Ao L.co], As := A', cs := c' }) k → ∃ r ∈ [rowS (L.bs ++ [LBat.mk L.op L.Ao L.co]) A' c', rowI L.ids L.Ai L.ci, rowO L.wr L.Aw L.cw], blk r.A = some k := by
    rintro k ⟨r, hr, e⟩
    rcases List.mem_cons.1 hr with rfl | hr
    · cases e
    · exact ⟨r, hr, e⟩
  refine ⟨⟨hf2, fun b hb => ?_, nofun, h.okW, h.okI, ?_, ?_⟩, turn_frm (L := L) (r := rowS L.bs L.As L.cs) (by simp [LawSt.rows]) rfl hg, ?_⟩
  · rcases List.mem_append.1 hb with hb | hb
    · exact (turn_bat (L := L) h (r := rowS L.bs L.As L.cs) (by simp [LawSt.rows]) rfl hg b hb).more fun k e => .inl e
    · simp at hb; subst hb
      have ho : OwnS w1 47 3 L.Ao L.co L.op.length (L.op.flatMap recCells) := hf.at_ (rowO L.op L.Ao L.co) (by simp)
      exact ho.sl (E := recE) recCells (fun _ => rfl) rfl (fun k e => .inr e) (fun x hx => ⟨rfl, h.okO x hx⟩)
  · rintro k (e | e)
    · exact Nat.lt_of_lt_of_le (h.ltF k e) hsz
    · exact hlO k e
  · rintro k (e | e) e2
    · obtain ⟨r, hr, e3⟩ := hn1 k e2
      rcases hn0 k ⟨r, List.mem_cons_of_mem _ hr, e3⟩ with e4 | e4
      · exact h.nF k e e4
      · have := h.ltF k e; omega
    · obtain ⟨r, hr, e3⟩ := hn1 k e2
      exact (List.pairwise_cons.1 hf.sep).1 r hr k e e3
  · rintro k (e | e | e)
    · obtain ⟨r, hr, e3⟩ := hn1 k e
      exact (hn0 k ⟨r, List.mem_cons_of_mem _ hr, e3⟩).imp_left .inl
    · exact .inl (.inr e)
    · exact .inl (.inl ⟨rowO L.op L.Ao L.co, by simp [LawSt.rows], e⟩)
/-- The first id and the first of the sealed go. -/
theorem LawRep.cut (h : LawRep w L Fb) {b : LBat} {bs' : List LBat} {i : Int} {ids' : List Int} (hb : L.bs = b :: bs') (hi : L.ids = i :: ids') {As' Ai' : Option Addr} {cs' ci' : Nat} (h1 : (rowS bs' As' cs').At w) (e1 : blk As' = blk L.As) (h2 : (rowI ids' Ai' ci').At w) (e2 : blk Ai' = blk L.Ai) :
    LawRep w { L with bs := bs', As := As', cs := cs', ids := ids', Ai := Ai', ci := ci' } Fb ∧ ∀ k, lawF { L with bs := bs', As := As', cs := cs', ids := ids', Ai := Ai', ci := ci' } Fb k → lawF L Fb k := by
  have f1 : Forest w [rowO L.op L.Ao L.co, rowS bs' As' cs', rowI L.ids L.Ai L.ci, rowO L.wr L.Aw L.cw] := Forest.swapMid (pre := [rowO L.op L.Ao L.co]) (post := [rowI L.ids L.Ai L.ci, rowO L.wr L.Aw L.cw]) (r := rowS L.bs L.As L.cs) (r' := rowS bs' As' cs') h.rows h1 (.inl e1)
  have f2 : Forest w [rowO L.op L.Ao L.co, rowS bs' As' cs', rowI ids' Ai' ci', rowO L.wr L.Aw L.cw] := Forest.swapMid (pre := [rowO L.op L.Ao L.co, rowS bs' As' cs']) (post := [rowO L.wr L.Aw L.cw]) (r := rowI L.ids L.Ai L.ci) (r' := rowI ids' Ai' ci') f1 h2 (.inl e2)
  have hn : ∀ k, forF (LawSt.rows { L with bs := bs', As := As', cs := cs', ids := ids', Ai := Ai', ci := ci' }) k → forF L.rows k := by
    rintro k ⟨r, hr, e⟩
    simp only [LawSt.rows, List.mem_cons, List.not_mem_nil, or_false] at hr
    rcases hr with rfl | rfl | rfl | rfl
    · exact ⟨rowO L.op L.Ao L.co, by simp [LawSt.rows], e⟩
    · exact ⟨rowS L.bs L.As L.cs, by simp [LawSt.rows], e1 ▸ e⟩
    · exact ⟨rowI L.ids L.Ai L.ci, by simp [LawSt.rows], e2 ▸ e⟩
    · exact ⟨rowO L.wr L.Aw L.cw, by simp [LawSt.rows], e⟩
  refine ⟨⟨f2, fun b' hb' => h.bat b' (by rw [hb]; exact List.mem_cons_of_mem _ hb'), h.okO, h.okW, fun i' hi' => h.okI i' (by rw [hi]; exact List.mem_cons_of_mem _ hi'), h.ltF, fun k e e3 => h.nF k e (hn k e3)⟩, ?_⟩
  rintro k (e | e)
  · exact .inl (hn k e)
  · exact .inr e
/-- All that waits goes. -/
theorem LawRep.gone (h : LawRep w L Fb) : LawRep w { L with op := [], Ao := none, co := 0, bs := [], As := none, cs := 0, ids := [], Ai := none, ci := 0 } (fun _ => False) ∧ ∀ k, lawF { L with op := [], Ao := none, co := 0, bs := [], As := none, cs := 0, ids := [], Ai := none, ci := 0 } (fun _ => False) k → lawF L Fb k := by
  have hs := h.rows.sep
  refine ⟨⟨⟨?_, ?_⟩, nofun, nofun, h.okW, nofun, nofun, nofun⟩, ?_⟩
  · intro r hr
    simp only [LawSt.rows, List.mem_cons, List.not_mem_nil, or_false] at hr
    rcases hr with rfl | rfl | rfl | rfl
    · exact OwnS.nil _ _ _
    · exact OwnS.nil _ _ _
    · exact OwnS.nil _ _ _
    · exact h.own_w
  · simp [LawSt.rows, Sep, rowO, rowS, rowI, blk]
  · rintro k (⟨r, hr, e⟩ | e)
    · simp only [LawSt.rows, List.mem_cons, List.not_mem_nil, or_false] at hr
      rcases hr with rfl | rfl | rfl | rfl
      · cases e
      · cases e
      · cases e
      · exact .inl ⟨rowO L.wr L.Aw L.cw, by simp [LawSt.rows], e⟩
    · exact e.elim
end

/-! ### The sink and the law's own, side by side -/
structure Both (B : Nat) (w : World) (gs : Nat) (S : SinkSt) (L : LawSt) (F Fb : Nat → Prop) : Prop where
  sink : SinkAt w F gs S
  law : LawRep w L Fb
  ltF : ∀ k, F k → B ≤ k ∧ k < w.heap.size
  apart : ∀ k, F k → ¬ lawF L Fb k
  base : ∀ k, lawF L Fb k → B ≤ k
def Side (B : Nat) (w : World) (gs : Nat) (S : SinkSt) (L : LawSt) : Prop := ∃ F Fb, Both B w gs S L F Fb

/-- Behind a method of the sink. -/
theorem Both.sinkOp {B : Nat} {w w' : World} {gs : Nat} {S S' : SinkSt} {L : LawSt} {F Fb : Nat → Prop} (h : Both B w gs S L F Fb) (hB : B ≤ w.heap.size) (hs : SinkAt w' (fun k => F k ∨ (w.heap.size ≤ k ∧ k < w'.heap.size)) gs S') (hf : Frm F w w') : Side B w' gs S' L ∧ Below B w w' := by
  refine ⟨⟨_, Fb, hs, h.law.keep (fun k e => hf.block k (h.law.lt k e) (fun e2 => h.apart k e2 e)) hf.size, ?_, ?_, h.base⟩, hf.below hB fun k e => (h.ltF k e).1⟩
  · rintro k (e | ⟨e1, e2⟩)
    · exact ⟨(h.ltF k e).1, Nat.lt_of_lt_of_le (h.ltF k e).2 hf.size⟩
    · exact ⟨by omega, e2⟩
  · rintro k (e | ⟨e1, e2⟩) e3
    · exact h.apart k e e3
    · have := h.law.lt k e3; omega
theorem Both.sinkOp' {B : Nat} {w w' : World} {gs : Nat} {S S' : SinkSt} {L : LawSt} {F Fb : Nat → Prop} (h : Both B w gs S L F Fb) (hB : B ≤ w.heap.size) (hs : SinkAt w' F gs S') (hf : Frm F w w') : Side B w' gs S' L ∧ Below B w w' :=
  h.sinkOp hB (hs.more fun k e => .inl e) hf
theorem Both.below {B : Nat} {w w' : World} {gs : Nat} {S : SinkSt} {L : LawSt} {F Fb : Nat → Prop} (h : Both B w gs S L F Fb) (hb : Below w.heap.size w w') : Both B w' gs S L F Fb :=
  ⟨h.sink.keep (fun k e => hb.block k (h.ltF k e).2) hb.size, h.law.keep (fun k e => hb.block k (h.law.lt k e)) hb.size, fun k e => ⟨(h.ltF k e).1, Nat.lt_of_lt_of_le (h.ltF k e).2 hb.size⟩, h.apart, h.base⟩
theorem Side.below {B : Nat} {w w' : World} {gs : Nat} {S : SinkSt} {L : LawSt} (h : Side B w gs S L) (hb : Below w.heap.size w w') : Side B w' gs S L := by
  obtain ⟨F, Fb, h⟩ := h; exact ⟨F, Fb, h.below hb⟩
theorem Both.lawOp {B : Nat} {w w' : World} {gs : Nat} {S : SinkSt} {L L' : LawSt} {F Fb Fb' : Nat → Prop} (h : Both B w gs S L F Fb) (hB : B ≤ w.heap.size) (hr : LawRep w' L' Fb') (hf : Frm (forF L.rows) w w') (hn : NewF w L Fb L' Fb') : Side B w' gs S L' ∧ Below B w w' := by
  refine ⟨⟨F, Fb', h.sink.keep (fun k e => hf.block k (h.ltF k e).2 (fun e2 => h.apart k e (.inl e2))) hf.size, hr, fun k e => ⟨(h.ltF k e).1, Nat.lt_of_lt_of_le (h.ltF k e).2 hf.size⟩, fun k e e2 => ?_, fun k e => ?_⟩, hf.below hB fun k e => h.base k (.inl e)⟩
  · rcases hn k e2 with e3 | e3
    · exact h.apart k e e3
    · have := (h.ltF k e).2; omega
  · rcases hn k e with e3 | e3
    · exact h.base k e3
    · omega
theorem Both.lawSame {B : Nat} {w : World} {gs : Nat} {S : SinkSt} {L L' : LawSt} {F Fb Fb' : Nat → Prop} (h : Both B w gs S L F Fb) (hr : LawRep w L' Fb') (hn : ∀ k, lawF L' Fb' k → lawF L Fb k) : Side B w gs S L' :=
  ⟨F, Fb', h.sink, hr, h.ltF, fun k e e2 => h.apart k e (hn k e2), fun k e => h.base k (hn k e)⟩

/-- What the law keeps is what the sink holds. -/
def Match (L : LawSt) (S : SinkSt) : Prop := L.op = S.opened ∧ L.bs.map (·.recs) = S.sealed.map (·.2) ∧ L.ids = S.sealed.map (·.1) ∧ L.wr = S.written

/-- 's[1:]'. -/
theorem run_tail (P : Program) (t e : TypeId) (size : Nat) (A : Option Addr) (n c : Nat) (ht : P.underlying t = some (.slice e)) (hs : (P.info? e).map (·.size) = some size) (hc : n + 1 ≤ c) (hm : c ≤ maxLen) (hA : ∀ ad, A = some ad → ad.spot = none) :
    ∃ A', (∀ w, (Instr.slice t (.slice A (n + 1) c) (some (.int .i64 1)) none none).run P w = .ok (.slice A' n (c - 1)) w) ∧ blk A' = blk A ∧ ∀ w xs, OwnS w e size A c (n + 1) xs → OwnS w e size A' (c - 1) n (xs.drop size) := by
  obtain ⟨i, hi, hsz⟩ : ∃ i, P.info? e = some i ∧ i.size = size := by
    cases h : P.info? e with
    | none => rw [h] at hs; cases hs
    | some i => rw [h] at hs; exact ⟨i, rfl, by simpa using hs⟩
  subst hsz
  by_cases h1 : c = 1
  · subst h1
    obtain rfl : n = 0 := by omega
    refine ⟨A, fun w => ?_, rfl, fun w xs ho => ?_⟩
    · simp [Instr.slice, Instr.sliceBounds, Instr.sliceBound, run_underlying ht, asIntOf, sizeOf, typeInfo, hi]
    · have h2 : xs.drop i.size = [] := List.drop_eq_nil_of_le (by have := ho.1; omega)
      rw [h2]; exact ho.empty
  · cases A with
    | none =>
      refine ⟨none, fun w => ?_, rfl, fun w xs ho => ?_⟩
      · have h3 : ¬ (n : Int) + 1 < 1 := by omega
        simp [Instr.slice, Instr.sliceBounds, Instr.sliceBound, run_underlying ht, asIntOf, sizeOf, typeInfo, hi, h3]
      · rcases ho.2.2.2 with ⟨_, h3⟩ | ⟨g, off, cur, e1, _⟩
        · omega
        · cases e1
    | some ad =>
      refine ⟨some (ad.add i.size), fun w => ?_, by obtain ⟨b, o, s⟩ := ad; obtain rfl : s = none := hA _ rfl; rw [add_plain]; rfl, fun w xs ho => ?_⟩
      · have hd : (c == 1) = false := beq_eq_false_iff_ne.2 h1
        have h2 : ¬ c - 1 = 0 := by omega
        have h3 : ¬ (n : Int) + 1 < 1 := by omega
        simp [Instr.slice, Instr.sliceBounds, Instr.sliceBound, run_underlying ht, asIntOf, sizeOf, typeInfo, hi, h2, h3]
        rw [if_pos (by omega), if_neg h1]
      · have := ho.2.2.2
        rcases this with ⟨h3, _⟩ | ⟨g, off, cur, e1, _⟩
        · cases h3
        · injection e1 with e1; subst e1
          have := ho.cut (k := 1) (by omega)
          rw [add_plain]; simpa using this

theorem records_like (A B : Option Addr) (c d : Nat) (l l' : List Rec) (w : World) (F G : Nat → Prop) (ha : SlA recE F w A c l) (hb : SlA recE G w B d l') (hll : l' = l) :
    Calls Tryd.prog 20 #[.slice A l.length c, .slice B l'.length d] w fun e w' => e = .returned (.bool true) ∧ ∃ k, w' = w.drewN k := by
  subst hll; exact records_same A B c d _ w F G ha hb
theorem ints_like (A B : Option Addr) (c d : Nat) (l l' : List Int) (n m : Nat) (w : World) (F G : Nat → Prop) (ha : SlA (intE .i64) F w A c l) (hb : SlA (intE .i64) G w B d l') (hn : n = l.length) (hm : m = l'.length) (hll : l' = l) :
    Calls Tryd.prog 22 #[.slice A n c, .slice B m d] w fun e w' => e = .returned (.bool true) ∧ ∃ k, w' = w.drewN k := by
  subst hn; subst hm; subst hll; exact ints_same A B c d _ w F G ha hb
theorem LawRep.sl_w {w : World} {L : LawSt} {Fb : Nat → Prop} (h : LawRep w L Fb) : SlA recE (· < w.heap.size) w L.Aw L.cw L.wr :=
  h.own_w.sl (E := recE) recCells (fun _ => rfl) rfl (fun k e => h.own_w.lt k e) (fun x hx => ⟨rfl, h.okW x hx⟩)
theorem flat1 {α : Type} (f : α → Value) (l : List α) : l.flatMap (fun x => [f x]) = l.map f := by
  induction l with
  | nil => rfl
  | cons x l ih => simp [ih]
theorem LawRep.sl_i {w : World} {L : LawSt} {Fb : Nat → Prop} (h : LawRep w L Fb) : SlA (intE .i64) (· < w.heap.size) w L.Ai L.ci L.ids := by
  have ho := h.own_i
  rw [← flat1] at ho
  exact OwnS.sl (E := intE .i64) (fun x => [Value.int .i64 x]) (fun _ => rfl) ho rfl (fun k e => ho.lt k e) (fun x hx => ⟨rfl, h.okI x hx⟩)
theorem Side.drewN {B : Nat} {w : World} {gs : Nat} {S : SinkSt} {L : LawSt} (h : Side B w gs S L) (q : Nat) : Side B (w.drewN q) gs S L := h.below (bdrewN (Below.refl _ _) q)

/-! ### Beside them a block of the law's, that neither has -/
def Off (w : World) (L : LawSt) (F Fb : Nat → Prop) (pb : Nat) (o : Obj) : Prop := ¬ F pb ∧ ¬ lawF L Fb pb ∧ w.heap[pb]? = some o
def SideV (B : Nat) (w : World) (gs : Nat) (S : SinkSt) (L : LawSt) (pb : Nat) (o : Obj) : Prop := ∃ F Fb, Both B w gs S L F Fb ∧ Off w L F Fb pb o
theorem SideV.side {B : Nat} {w : World} {gs : Nat} {S : SinkSt} {L : LawSt} {pb : Nat} {o : Obj} (h : SideV B w gs S L pb o) : Side B w gs S L := by
  obtain ⟨F, Fb, h, _⟩ := h; exact ⟨F, Fb, h⟩
theorem SideV.blk {B : Nat} {w : World} {gs : Nat} {S : SinkSt} {L : LawSt} {pb : Nat} {o : Obj} (h : SideV B w gs S L pb o) : w.heap[pb]? = some o := by
  obtain ⟨F, Fb, _, h⟩ := h; exact h.2.2
theorem SideV.below {B : Nat} {w w' : World} {gs : Nat} {S : SinkSt} {L : LawSt} {pb : Nat} {o : Obj} (h : SideV B w gs S L pb o) (hb : Below w.heap.size w w') : SideV B w' gs S L pb o := by
  obtain ⟨F, Fb, h, h1, h2, h3⟩ := h
  exact ⟨F, Fb, h.below hb, h1, h2, (hb.block pb (block_lt h3)).trans h3⟩
/-- Of a side: the sink, and what a method of it leaves. -/
theorem SideV.sink {B : Nat} {w : World} {gs : Nat} {S : SinkSt} {L : LawSt} {pb : Nat} {o : Obj} (h : SideV B w gs S L pb o) (hB : B ≤ w.heap.size) :
    ∃ F, SinkAt w F gs S ∧ (∀ k, F k → k < w.heap.size) ∧ ∀ w' S', SinkAt w' (fun k => F k ∨ (w.heap.size ≤ k ∧ k < w'.heap.size)) gs S' → Frm F w w' → SideV B w' gs S' L pb o ∧ Below B w w' := by
  obtain ⟨F, Fb, h, h1, h2, h3⟩ := h
  refine ⟨F, h.sink, fun k e => (h.ltF k e).2, fun w' S' hs hf => ?_⟩
  refine ⟨⟨_, Fb, ⟨hs, h.law.keep (fun k e => hf.block k (h.law.lt k e) (fun e2 => h.apart k e2 e)) hf.size, ?_, ?_, h.base⟩, ?_, h2, (hf.block pb (block_lt h3) h1).trans h3⟩, hf.below hB fun k e => (h.ltF k e).1⟩
  · rintro k (e | ⟨e1, e2⟩)
    · exact ⟨(h.ltF k e).1, Nat.lt_of_lt_of_le (h.ltF k e).2 hf.size⟩
    · exact ⟨by omega, e2⟩
  · rintro k (e | ⟨e1, e2⟩) e3
    · exact h.apart k e e3
    · have := h.law.lt k e3; omega
  · rintro (e | ⟨e1, e2⟩)
    · exact h1 e
    · have := block_lt h3; omega
/-- Of a side: the law's own, and what a turn of it leaves. -/
theorem SideV.law {B : Nat} {w : World} {gs : Nat} {S : SinkSt} {L : LawSt} {pb : Nat} {o : Obj} (h : SideV B w gs S L pb o) (hB : B ≤ w.heap.size) :
    ∃ Fb, LawRep w L Fb ∧ (∀ w' L' Fb', LawRep w' L' Fb' → Frm (forF L.rows) w w' → NewF w L Fb L' Fb' → SideV B w' gs S L' pb o ∧ Below B w w') ∧ (∀ L' Fb', LawRep w L' Fb' → (∀ k, lawF L' Fb' k → lawF L Fb k) → SideV B w gs S L' pb o) := by
  obtain ⟨F, Fb, h, h1, h2, h3⟩ := h
  refine ⟨Fb, h.law, fun w' L' Fb' hr hf hn => ⟨⟨F, Fb', ⟨h.sink.keep (fun k e => hf.block k (h.ltF k e).2 (fun e2 => h.apart k e (.inl e2))) hf.size, hr, fun k e => ⟨(h.ltF k e).1, Nat.lt_of_lt_of_le (h.ltF k e).2 hf.size⟩, fun k e e2 => ?_, fun k e => ?_⟩, h1, fun e => ?_, (hf.block pb (block_lt h3) (fun e => h2 (.inl e))).trans h3⟩, hf.below hB fun k e => h.base k (.inl e)⟩, fun L' Fb' hr hn => ⟨F, Fb', ⟨h.sink, hr, h.ltF, fun k e e2 => h.apart k e (hn k e2), fun k e => h.base k (hn k e)⟩, h1, fun e => h2 (hn pb e), h3⟩⟩
  · rcases hn k e2 with e3 | e3
    · exact h.apart k e e3
    · have := (h.ltF k e).2; omega
  · rcases hn k e with e3 | e3
    · exact h.base k e3
    · omega
  · rcases hn pb e with e3 | e3
    · exact h2 e3
    · have := block_lt h3; omega
/-- How many records wait in the first j. -/
def bsN (bs : List LBat) (j : Nat) : Nat := ((bs.take j).flatMap (·.recs)).length
theorem bsN_succ (bs : List LBat) (j : Nat) (h : j < bs.length) : bsN bs (j + 1) = bsN bs j + bs[j].recs.length := by
  unfold bsN; rw [List.take_succ_eq_append_getElem h, List.flatMap_append, List.length_append]; simp
theorem bsN_all (bs : List LBat) (S : SinkSt) (h : bs.map (·.recs) = S.sealed.map (·.2)) : bsN bs bs.length = (S.sealed.flatMap (·.2)).length := by
  unfold bsN; rw [List.take_length, List.flatMap_def, List.flatMap_def, h]
theorem bsN_le (bs : List LBat) (j : Nat) : bsN bs j ≤ bsN bs bs.length := by
  have h : bs = bs.take j ++ bs.drop j := (List.take_append_drop j _).symm
  unfold bsN
  rw [List.take_length]
  conv => rhs; rw [h]
  rw [List.flatMap_append, List.length_append]; omega

theorem SideV.fresh {B : Nat} {w : World} {gs : Nat} {S : SinkSt} {L : LawSt} {pb : Nat} {o : Obj} (h : SideV B w gs S L pb o) (X : Obj) : SideV B (w.alloc X) gs S L w.heap.size X := by
  obtain ⟨F, Fb, h, _⟩ := h
  exact ⟨F, Fb, h.below ((Below.refl _ _).alloc (Nat.le_refl _) _), fun e => by have := (h.ltF _ e).2; omega, fun e => by have := h.law.lt _ e; omega, heap_alloc_new w X⟩

theorem commJ_sum (S : SinkSt) (j : Nat) : (commJ S j).opened.length + ((commJ S j).sealed.flatMap (·.2)).length + (commJ S j).written.length = S.opened.length + (S.sealed.flatMap (·.2)).length + S.written.length := by
  have e : S.sealed = S.sealed.take j ++ S.sealed.drop j := (List.take_append_drop j _).symm
  have h := congrArg (fun z => (List.flatMap (·.2) z).length) e
  simp only [List.flatMap_append, List.length_append] at h
  simp only [commJ, List.length_append]
  omega
/-- The heads of what waits. -/
theorem match_head {L : LawSt} {S : SinkSt} {x : Nat} (h : Match L (commJ S x)) (hx : x < S.sealed.length) : ∃ b0 bs' i0 ids', L.bs = b0 :: bs' ∧ L.ids = i0 :: ids' ∧ S.sealed[x] = (i0, b0.recs) ∧ bs'.map (·.recs) = (S.sealed.drop (x + 1)).map (·.2) ∧ ids' = (S.sealed.drop (x + 1)).map (·.1) := by
  have e : (commJ S x).sealed = S.sealed[x] :: S.sealed.drop (x + 1) := List.drop_eq_getElem_cons hx
  obtain ⟨_, h1, h2, _⟩ := h
  rw [e] at h1 h2
  cases hb : L.bs with
  | nil => rw [hb] at h1; cases h1
  | cons b0 bs' =>
    rw [hb] at h1
    simp only [List.map_cons, List.cons.injEq] at h1 h2
    exact ⟨b0, bs', S.sealed[x].1, _, rfl, h2, by rw [h1.1], h1.2, rfl⟩
theorem own_spot {w : World} {e : TypeId} {size cap n : Nat} {A : Option Addr} {xs : List Value} (h : OwnS w e size A cap n xs) : ∀ ad, A = some ad → ad.spot = none := by
  rintro ad rfl
  rcases h.2.2.2 with ⟨h, _⟩ | ⟨g, off, cur, e, _⟩
  · cases h
  · injection e with e; subst e; rfl

theorem match_wr {L : LawSt} {S : SinkSt} {x : Nat} {b0 : LBat} {i0 : Int} (h : L.wr = (commJ S x).written) (hx : x < S.sealed.length) (hsx : S.sealed[x] = (i0, b0.recs)) : L.wr ++ b0.recs = (commJ S (x + 1)).written := by
  show _ = S.written ++ (S.sealed.take (x + 1)).flatMap (·.2)
  rw [List.take_succ_eq_append_getElem hx, List.flatMap_append, ← List.append_assoc, hsx, h]
  simp [commJ]
end Go.Proofs.YtmcmejmfaihclaaDoor
