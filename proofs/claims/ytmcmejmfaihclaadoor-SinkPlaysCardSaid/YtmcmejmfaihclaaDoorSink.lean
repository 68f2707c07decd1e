/-
  Contracts of package sink: a sink as it lies in memory, and what each method makes of it. Conditions: what was written stays short of 2^40 records.
-/
import Derived.Test.YtmcmejmfaihclaaDoorHeap
import Derived.Test.YtmcmejmfaihclaaDoorGroup
import Derived.Deep.RegionLaw
import Derived.Deep.LoopGhost
namespace Go.Proofs.YtmcmejmfaihclaaDoor
open Go.RowKit
set_option linter.unusedVariables false

def recCells (r : Rec) : List Value := [.string r.key, .int .i64 r.num, .int .i64 r.time]
def RecOk (r : Rec) : Prop := r.key.size ≤ maxLen ∧ I64 r.num ∧ I64 r.time
theorem info_rec : (Tryd.prog.info? 47).map (fun i => (i.zero, i.size, i.bytes)) = some (some (.agg #[.string ByteArray.empty, .int .i64 0, .int .i64 0]), 3, 32) := by kernel_rfl
theorem info_batch : (Tryd.prog.info? 71).map (fun i => (i.zero, i.size, i.bytes)) = some (some (.agg #[.int .i64 0, .slice none 0 0]), 2, 32) := by kernel_rfl

structure SinkSt where
  opened : List Rec
  sealed : List (Int × List Rec)
  last : Int
  written : List Rec

/-- A batch: its id, its records, where they lie. -/
structure Bat where
  id : Int
  recs : List Rec
  A : Option Addr
  c : Nat
def batCells (b : Bat) : List Value := [.int .i64 b.id, .slice b.A b.recs.length b.c]

/-- The sink at block g. 'Fb': the blocks of sealed batches. -/
structure SinkRep (w : World) (g : Nat) (S : SinkSt) (Ao : Option Addr) (co : Nat) (As : Option Addr) (cs : Nat) (Aw : Option Addr) (cw : Nat) (bs : List Bat) (Fb : Nat → Prop) : Prop where
  blk : w.heap[g]? = some (.cells #[.slice Ao S.opened.length co, .slice As bs.length cs, .int .i64 S.last, .slice Aw S.written.length cw] 69 (0, 0))
  own : OwnS w 47 3 Ao co S.opened.length (S.opened.flatMap recCells)
  owns : OwnS w 71 2 As cs bs.length (bs.flatMap batCells)
  ownw : OwnS w 47 3 Aw cw S.written.length (S.written.flatMap recCells)
  bats : S.sealed = bs.map fun b => (b.id, b.recs)
  bat : ∀ b ∈ bs, SlA recE Fb w b.A b.c b.recs
  okO : ∀ r ∈ S.opened, RecOk r
  okW : ∀ r ∈ S.written, RecOk r
  ltF : ∀ k, Fb k → k < w.heap.size
  nF : ∀ k, Fb k → k ≠ g ∧ Go.Proofs.YtmcmejmfaihclaaDoor.blk Ao ≠ some k ∧ Go.Proofs.YtmcmejmfaihclaaDoor.blk As ≠ some k ∧ Go.Proofs.YtmcmejmfaihclaaDoor.blk Aw ≠ some k
  nG : Go.Proofs.YtmcmejmfaihclaaDoor.blk Ao ≠ some g ∧ Go.Proofs.YtmcmejmfaihclaaDoor.blk As ≠ some g ∧ Go.Proofs.YtmcmejmfaihclaaDoor.blk Aw ≠ some g
  nOW : ∀ k, Go.Proofs.YtmcmejmfaihclaaDoor.blk Ao = some k → Go.Proofs.YtmcmejmfaihclaaDoor.blk Aw ≠ some k
  nOS : ∀ k, Go.Proofs.YtmcmejmfaihclaaDoor.blk Ao = some k → Go.Proofs.YtmcmejmfaihclaaDoor.blk As ≠ some k
  nSW : ∀ k, Go.Proofs.YtmcmejmfaihclaaDoor.blk As = some k → Go.Proofs.YtmcmejmfaihclaaDoor.blk Aw ≠ some k

/-- All blocks of a sink. -/
def sinkF (g : Nat) (Ao As Aw : Option Addr) (Fb : Nat → Prop) (k : Nat) : Prop := k = g ∨ blk Ao = some k ∨ blk As = some k ∨ blk Aw = some k ∨ Fb k

/-- The sink at g, whose blocks lie in F. -/
def SinkAt (w : World) (F : Nat → Prop) (g : Nat) (S : SinkSt) : Prop :=
  ∃ Ao co As cs Aw cw bs Fb, SinkRep w g S Ao co As cs Aw cw bs Fb ∧ ∀ k, sinkF g Ao As Aw Fb k → F k

theorem SinkAt.more {w : World} {F G : Nat → Prop} {g : Nat} {S : SinkSt} (h : SinkAt w F g S) (hF : ∀ k, F k → G k) : SinkAt w G g S := by
  obtain ⟨Ao, co, As, cs, Aw, cw, bs, Fb, h, hf⟩ := h
  exact ⟨Ao, co, As, cs, Aw, cw, bs, Fb, h, fun k hk => hF k (hf k hk)⟩
theorem SinkAt.keep {w w' : World} {F : Nat → Prop} {g : Nat} {S : SinkSt} (h : SinkAt w F g S) (hs : Same F w w') (hz : w.heap.size ≤ w'.heap.size) : SinkAt w' F g S := by
  obtain ⟨Ao, co, As, cs, Aw, cw, bs, Fb, h, hf⟩ := h
  refine ⟨Ao, co, As, cs, Aw, cw, bs, Fb, ⟨(hs g (hf g (.inl rfl))).trans h.blk, h.own.keep fun k hk => hs k (hf k (.inr (.inl hk))), h.owns.keep fun k hk => hs k (hf k (.inr (.inr (.inl hk)))), h.ownw.keep fun k hk => hs k (hf k (.inr (.inr (.inr (.inl hk))))),
    h.bats, fun b hb => (h.bat b hb).keep (hs.less fun k hk => hf k (.inr (.inr (.inr (.inr hk))))), h.okO, h.okW, fun k hk => Nat.lt_of_lt_of_le (h.ltF k hk) hz, h.nF, h.nG, h.nOW, h.nOS, h.nSW⟩, hf⟩

def sinkNew : SinkSt := ⟨[], [], 0, []⟩
set_option maxRecDepth 100000 in
theorem sinkNew_any (w : World) : Calls Tryd.prog 15 #[] w fun e w' => e = .returned (.pointer (some ⟨w.heap.size, 0, none⟩)) ∧ SinkAt w' (fun k => w.heap.size ≤ k ∧ k < w'.heap.size) w.heap.size sinkNew ∧ Below w.heap.size w w' := by
  go_enter Tryd.func15, Tryd.ntmps15
  go_wp2
  go_ret
  refine ⟨rfl, ⟨none, 0, none, 0, none, 0, [], fun _ => False, ⟨heap_alloc_new w _, OwnS.nil _ _ _, OwnS.nil _ _ _, OwnS.nil _ _ _, rfl, nofun, nofun, nofun, nofun, nofun, ⟨by simp [blk], by simp [blk], by simp [blk]⟩, nofun, nofun, nofun⟩, ?_⟩, (Below.refl _ _).alloc (Nat.le_refl _) _⟩
  rintro k (rfl | h | h | h | h)
  · simp
  · cases h
  · cases h
  · cases h
  · exact h.elim

def addS (S : SinkSt) (r : Rec) : SinkSt := { S with opened := S.opened ++ [r] }
theorem add_rep {w w1 : World} {g : Nat} {S : SinkSt} {Ao As Aw : Option Addr} {co cs cw : Nat} {bs : List Bat} {Fb : Nat → Prop} {r : Rec} {A' : Option Addr} {cap' : Nat} (h : SinkRep w g S Ao co As cs Aw cw bs Fb) (hr : RecOk r)
    (hown : OwnS w1 47 3 A' cap' (S.opened.length + 1) (S.opened.flatMap recCells ++ recCells r)) (hg : w.grownBy w1 (blk Ao)) (hat : blk A' = blk Ao ∨ ∃ k, blk A' = some k ∧ w.heap.size ≤ k) :
    SinkRep (w1.setCell ⟨g, 0, none⟩ (.slice A' (S.opened.length + 1) cap')) g (addS S r) A' cap' As cs Aw cw bs Fb := by
  obtain ⟨hb, hk⟩ := field_store (i := 0) h.blk h.nG.1 hg (.slice A' (S.opened.length + 1) cap')
  have hgl := block_lt h.blk
  have hne : ∀ k, k < w.heap.size → blk Ao ≠ some k → blk A' ≠ some k := by
    intro k hk hn e
    rcases hat with h1 | ⟨j, h1, h2⟩
    · exact hn (h1 ▸ e)
    · rw [h1] at e; injection e with e; omega
  have hsz : w.heap.size ≤ (w1.setCell ⟨g, 0, none⟩ (.slice A' (S.opened.length + 1) cap')).heap.size := by rw [size_setCell]; exact hg.size
  have kS : ∀ k, blk As = some k → (w1.setCell ⟨g, 0, none⟩ (.slice A' (S.opened.length + 1) cap')).heap[k]? = w.heap[k]? := fun k e => hk k (h.owns.lt k e) (fun e2 => h.nG.2.1 (e2 ▸ e)) (fun e2 => h.nOS k e2 e)
  have kW : ∀ k, blk Aw = some k → (w1.setCell ⟨g, 0, none⟩ (.slice A' (S.opened.length + 1) cap')).heap[k]? = w.heap[k]? := fun k e => hk k (h.ownw.lt k e) (fun e2 => h.nG.2.2 (e2 ▸ e)) (fun e2 => h.nOW k e2 e)
  refine ⟨?_, ?_, h.owns.keep kS, h.ownw.keep kW, h.bats, fun b hb' => (h.bat b hb').keep (fun k hF => hk k (h.ltF k hF) (h.nF k hF).1 (h.nF k hF).2.1), ?_, h.okW, fun k hF => Nat.lt_of_lt_of_le (h.ltF k hF) hsz, fun k hF => ⟨(h.nF k hF).1, hne k (h.ltF k hF) (h.nF k hF).2.1, (h.nF k hF).2.2⟩,
    ⟨hne g hgl h.nG.1, h.nG.2⟩, ?_, ?_, h.nSW⟩
  · rw [hb]; simp [addS]
  · have e : (addS S r).opened.flatMap recCells = S.opened.flatMap recCells ++ recCells r := by simp [addS, List.flatMap_append]
    rw [e]
    have e2 : (addS S r).opened.length = S.opened.length + 1 := by simp [addS]
    rw [e2]
    exact hown.setFar (hne g hgl h.nG.1) _
  · intro x hx
    rcases List.mem_append.1 hx with hx | hx
    · exact h.okO x hx
    · simp at hx; subst hx; exact hr
  · intro k e e2
    rcases hat with h1 | ⟨j, h1, h2⟩
    · exact h.nOW k (h1 ▸ e) e2
    · rw [h1] at e; injection e with e; have := h.ownw.lt k e2; omega
  · intro k e e2
    rcases hat with h1 | ⟨j, h1, h2⟩
    · exact h.nOS k (h1 ▸ e) e2
    · rw [h1] at e; injection e with e; have := h.owns.lt k e2; omega

set_option maxHeartbeats 1000000 in
set_option maxRecDepth 100000 in
theorem add_ok (g : Nat) (S : SinkSt) (r : Rec) (F : Nat → Prop) (w : World) (h : SinkAt w F g S) (hr : RecOk r) (hlen : S.opened.length < 400) :
    Calls Tryd.prog 16 #[.pointer (some ⟨g, 0, none⟩), .agg #[.string r.key, .int .i64 r.num, .int .i64 r.time]] w fun e w' => e = .returned .nilIface ∧ SinkAt w' (fun k => F k ∨ (w.heap.size ≤ k ∧ k < w'.heap.size)) g (addS S r) ∧ Frm F w w' := by
  obtain ⟨Ao, co, As, cs, Aw, cw, bs, Fb, h, hf⟩ := h
  have hgl : g < w.heap.size := block_lt h.blk
  have c0 := cell_of_row w g 0 _ _ _ h.blk
  have fz : w.frozen? ⟨g, 0, none⟩ = false := by simp [World.frozen?, h.blk]
  simp at c0
  have H := Lib.hid h
  have HF := Lib.hid hf
  clear h hf
  have hn : S.opened.length ≤ 400 := by omega
  obtain ⟨n, hn'⟩ : ∃ n, n = S.opened.length := ⟨_, rfl⟩
  rw [← hn'] at c0 hlen hn
  have hd : decide (400 ≤ n) = false := by simp; omega
  have HN := Lib.hid hn'
  clear hn'
  go_enter Tryd.func16, Tryd.ntmps16
  have hgo : blk Ao ≠ some g := H.out.nG.1
  go_wp2_with fail
  go_region_law (refine step_push_S (w0 := w.alloc (.cells #[.string r.key, .int .i64 r.num, .int .i64 r.time] 47)) rfl (.tmp 16) (.tmp 18) 42 rfl 47 _ 3 32 Tryd.underlying42 info_rec rfl (by decide) Ao co n _ (by simp [Act.eval]) (by rw [HN.out]; exact H.out.own.grown (World.grownBy_alloc _ _ none) (fun _ _ => by simp)) (recCells r) (by simp [Act.eval]) rfl (by simp [recCells, Value.oneCell']) (by unfold maxLen; omega) (by omega) ?_; intro A' cap' w1 hown1 hg1 hat1; have hg2 : w.grownBy w1 (blk Ao) := (World.grownBy_alloc w _ _).trans hg1; have hgg := hg2.block g hgl (fun e => hgo e.symm); have c1 : w1.cell? ⟨g, 0, none⟩ = some (.slice Ao n co) := (World.cell?_of_block (a := ⟨g, 0, none⟩) hgg).trans c0; have f1 : w1.frozen? ⟨g, 0, none⟩ = false := (World.frozen?_of_block (a := ⟨g, 0, none⟩) hgg).trans fz)
  all_goals
    clear hgg c1 f1
    go_wp2_with fail
    go_ret
    have hsz1 : w.heap.size ≤ w1.heap.size := hg2.size
    have hrep := add_rep (A' := A') (cap' := cap') H.out hr (by rw [← HN.out]; exact hown1) hg2 (hat1.imp_right fun ⟨k, e, hk⟩ => ⟨k, e, by simp at hk; omega⟩)
    rw [← HN.out] at hrep
    refine ⟨rfl, ⟨_, _, _, _, _, _, _, _, hrep, ?_⟩, ?_⟩
    · rintro k (rfl | e | e | e | e)
      · exact .inl (HF.out _ (.inl rfl))
      · rcases hat1 with h1 | ⟨j, h1, h2⟩
        · exact .inl (HF.out k (.inr (.inl (h1 ▸ e))))
        · rw [h1] at e; injection e with e; subst e
          refine .inr ⟨by simp at h2; omega, ?_⟩
          rw [size_setCell]; exact hown1.lt _ h1
      · exact .inl (HF.out k (.inr (.inr (.inl e))))
      · exact .inl (HF.out k (.inr (.inr (.inr (.inl e)))))
      · exact .inl (HF.out k (.inr (.inr (.inr (.inr e)))))
    · exact (Frm.ofGrown hg2 (fun k e => HF.out k (.inr (.inl e)))).setCell (.inl (HF.out _ (.inl rfl))) _

/-! ### Seal -/
def sealS (S : SinkSt) (id : Int) : SinkSt := ⟨[], S.sealed ++ [(id, S.opened)], id, S.written⟩
theorem seal_rep {w w1 : World} {g : Nat} {S : SinkSt} {Ao As Aw : Option Addr} {co cs cw : Nat} {bs : List Bat} {Fb : Nat → Prop} {id : Int} {A' : Option Addr} {cap' : Nat} (h : SinkRep w g S Ao co As cs Aw cw bs Fb)
    (hown : OwnS w1 71 2 A' cap' (bs.length + 1) (bs.flatMap batCells ++ batCells ⟨id, S.opened, Ao, co⟩)) (hg : w.grownBy w1 (blk As)) (hat : blk A' = blk As ∨ ∃ k, blk A' = some k ∧ w.heap.size ≤ k) :
    SinkRep (((w1.setCell ⟨g, 1, none⟩ (.slice A' (bs.length + 1) cap')).setCell ⟨g, 2, none⟩ (.int .i64 id)).setCell ⟨g, 0, none⟩ (.slice none 0 0)) g (sealS S id) none 0 A' cap' Aw cw (bs ++ [⟨id, S.opened, Ao, co⟩]) (fun k => Fb k ∨ blk Ao = some k) := by
  obtain ⟨W, hW⟩ : ∃ W, W = ((w1.setCell ⟨g, 1, none⟩ (.slice A' (bs.length + 1) cap')).setCell ⟨g, 2, none⟩ (.int .i64 id)).setCell ⟨g, 0, none⟩ (.slice none 0 0) := ⟨_, rfl⟩
  obtain ⟨hb, hk⟩ := field_store (i := 1) h.blk h.nG.2.1 hg (.slice A' (bs.length + 1) cap')
  have hgl := block_lt h.blk
  have hWg : W.heap[g]? = some (.cells #[.slice none 0 0, .slice A' (bs.length + 1) cap', .int .i64 id, .slice Aw S.written.length cw] 69 (0, 0)) := by
    have h1 : w1.heap[g]? = some (.cells #[.slice Ao S.opened.length co, .slice As bs.length cs, .int .i64 S.last, .slice Aw S.written.length cw] 69 (0, 0)) := (hg.block g hgl (fun e => h.nG.2.1 e.symm)).trans h.blk
    rw [hW]; simp [World.setCell, Array.getElem?_modify, h1]
  have hWk : ∀ k, k ≠ g → W.heap[k]? = (w1.setCell ⟨g, 1, none⟩ (.slice A' (bs.length + 1) cap')).heap[k]? := by
    intro k hk; rw [hW, Below.heap_setCell _ _ _ _ (by simpa using hk), Below.heap_setCell _ _ _ _ (by simpa using hk)]
  have hWs : W.heap.size = w1.heap.size := by rw [hW, size_setCell, size_setCell, size_setCell]
  rw [← hW]
  have hk2 : ∀ k, k < w.heap.size → k ≠ g → blk As ≠ some k → W.heap[k]? = w.heap[k]? := fun k a b c => (hWk k b).trans (hk k a b c)
  have hne : ∀ k, k < w.heap.size → blk As ≠ some k → blk A' ≠ some k := by
    intro k hk hn e
    rcases hat with h1 | ⟨j, h1, h2⟩
    · exact hn (h1 ▸ e)
    · rw [h1] at e; injection e with e; omega
  have hsz : w.heap.size ≤ W.heap.size := by rw [hWs]; exact hg.size
  have kO : ∀ k, blk Ao = some k → W.heap[k]? = w.heap[k]? := fun k e => hk2 k (h.own.lt k e) (fun e2 => h.nG.1 (e2 ▸ e)) (fun e2 => h.nOS k e e2)
  have kW : ∀ k, blk Aw = some k → W.heap[k]? = w.heap[k]? := fun k e => hk2 k (h.ownw.lt k e) (fun e2 => h.nG.2.2 (e2 ▸ e)) (fun e2 => h.nSW k e2 e)
  refine ⟨?_, OwnS.nil _ _ _, ?_, h.ownw.keep kW, ?_, ?_, nofun, h.okW, ?_, ?_, ⟨by simp [blk], hne g hgl h.nG.2.1, h.nG.2.2⟩, nofun, nofun, ?_⟩
  · rw [hWg]; simp [sealS]
  · rw [List.flatMap_append, List.length_append]
    have h3 : OwnS W 71 2 A' cap' (bs.length + 1) (bs.flatMap batCells ++ batCells ⟨id, S.opened, Ao, co⟩) := hown.keep fun k e => by
      have hkg : k ≠ g := fun e2 => hne g hgl h.nG.2.1 (e2 ▸ e)
      rw [hWk k hkg, Below.heap_setCell _ _ _ _ (by simpa using hkg)]
    simpa using h3
  · simp [sealS, h.bats]
  · intro b hb'
    rcases List.mem_append.1 hb' with hb' | hb'
    · exact ((h.bat b hb').keep (fun k hF => hk2 k (h.ltF k hF) (h.nF k hF).1 (h.nF k hF).2.2.1)).more fun k hF => .inl hF
    · simp at hb'; subst hb'
      exact ((h.own.keep kO).sl (E := recE) recCells (fun _ => rfl) rfl (F := fun k => Fb k ∨ blk Ao = some k) (fun k e => .inr e) (fun x hx => ⟨rfl, h.okO x hx⟩))
  · rintro k (hF | e)
    · exact Nat.lt_of_lt_of_le (h.ltF k hF) hsz
    · exact Nat.lt_of_lt_of_le (h.own.lt k e) hsz
  · rintro k (hF | e)
    · exact ⟨(h.nF k hF).1, by simp [blk], hne k (h.ltF k hF) (h.nF k hF).2.2.1, (h.nF k hF).2.2.2⟩
    · exact ⟨fun e2 => h.nG.1 (e2 ▸ e), by simp [blk], hne k (h.own.lt k e) (fun e2 => h.nOS k e e2), h.nOW k e⟩
  · intro k e e2
    rcases hat with h1 | ⟨j, h1, h2⟩
    · exact h.nSW k (h1 ▸ e) e2
    · rw [h1] at e; injection e with e; have := h.ownw.lt k e2; omega

set_option maxHeartbeats 1000000 in
set_option maxRecDepth 100000 in
theorem seal_ok (g : Nat) (S : SinkSt) (id : Int) (F : Nat → Prop) (w : World) (h : SinkAt w F g S) (h1 : 1 ≤ id) (h2 : S.last < id) (hm : S.sealed.length < 4294967296) :
    Calls Tryd.prog 17 #[.pointer (some ⟨g, 0, none⟩), .int .i64 id] w fun e w' => e = .returned .nilIface ∧ SinkAt w' (fun k => F k ∨ (w.heap.size ≤ k ∧ k < w'.heap.size)) g (sealS S id) ∧ Frm F w w' := by
  obtain ⟨Ao, co, As, cs, Aw, cw, bs, Fb, h, hf⟩ := h
  have hgl : g < w.heap.size := block_lt h.blk
  have c0 := cell_of_row w g 0 _ _ _ h.blk
  have c1 := cell_of_row w g 1 _ _ _ h.blk
  have c2 := cell_of_row w g 2 _ _ _ h.blk
  have fz : ∀ i, w.frozen? ⟨g, i, none⟩ = false := fun i => by simp [World.frozen?, h.blk]
  have fz0 := fz 0
  have fz1 := fz 1
  have fz2 := fz 2
  clear fz
  simp at c0 c1 c2
  have hbl : bs.length < 4294967296 := by have := h.bats; rw [this, List.length_map] at hm; exact hm
  have hgo : blk As ≠ some g := h.nG.2.1
  have H := Lib.hid h
  have HF := Lib.hid hf
  clear h hf hm
  obtain ⟨n, hn'⟩ : ∃ n, n = S.opened.length := ⟨_, rfl⟩
  obtain ⟨m, hm'⟩ : ∃ m, m = bs.length := ⟨_, rfl⟩
  obtain ⟨la, hla⟩ : ∃ la, la = S.last := ⟨_, rfl⟩
  rw [← hn'] at c0
  rw [← hm'] at c1 hbl
  rw [← hla] at c2 h2
  have HN := Lib.hid hn'
  have HM := Lib.hid hm'
  clear hn' hm' hla
  go_enter Tryd.func17, Tryd.ntmps17
  go_wp2_with fail
  go_region_law (refine step_push_S (w0 := w) rfl (.tmp 21) (.tmp 28) 67 rfl 71 _ 2 32 Tryd.underlying67 info_batch rfl (by decide) As cs m _ (by simp [Act.eval]) (by rw [HM.out]; exact H.out.owns) [.int .i64 id, .slice Ao n co] (by simp [Act.eval]) rfl (by simp [Value.oneCell']) (by unfold maxLen; omega) (by omega) ?_; intro A' cap' w1 hown1 hg1 hat1; have hgg := hg1.block g hgl (fun e => hgo e.symm); have c0' : w1.cell? ⟨g, 0, none⟩ = some (.slice Ao n co) := (World.cell?_of_block (a := ⟨g, 0, none⟩) hgg).trans c0; have c1' : w1.cell? ⟨g, 1, none⟩ = some (.slice As m cs) := (World.cell?_of_block (a := ⟨g, 1, none⟩) hgg).trans c1; have c2' : w1.cell? ⟨g, 2, none⟩ = some (.int .i64 la) := (World.cell?_of_block (a := ⟨g, 2, none⟩) hgg).trans c2; have f0 : w1.frozen? ⟨g, 0, none⟩ = false := (World.frozen?_of_block (a := ⟨g, 0, none⟩) hgg).trans fz0; have f1 : w1.frozen? ⟨g, 1, none⟩ = false := (World.frozen?_of_block (a := ⟨g, 1, none⟩) hgg).trans fz1; have f2 : w1.frozen? ⟨g, 2, none⟩ = false := (World.frozen?_of_block (a := ⟨g, 2, none⟩) hgg).trans fz2)
  all_goals
    go_wp2_with fail
    go_ret
    have hrep := seal_rep (id := id) (A' := A') (cap' := cap') H.out (by rw [← HM.out]; simp only [batCells]; rw [← HN.out]; exact hown1) hg1 hat1
    rw [← HM.out] at hrep
    refine ⟨rfl, ⟨_, _, _, _, _, _, _, _, hrep, ?_⟩, ?_⟩
    · rintro k (rfl | e | e | e | e | e)
      · exact .inl (HF.out _ (.inl rfl))
      · cases e
      · rcases hat1 with h1 | ⟨j, h1, h2⟩
        · exact .inl (HF.out k (.inr (.inr (.inl (h1 ▸ e)))))
        · rw [h1] at e; injection e with e; subst e
          refine .inr ⟨h2, ?_⟩
          rw [size_setCell, size_setCell, size_setCell]; exact hown1.lt _ h1
      · exact .inl (HF.out k (.inr (.inr (.inr (.inl e)))))
      · exact .inl (HF.out k (.inr (.inr (.inr (.inr e)))))
      · exact .inl (HF.out k (.inr (.inl e)))
    · exact ((((Frm.ofGrown hg1 (fun k e => HF.out k (.inr (.inr (.inl e))))).setCell (.inl (HF.out _ (.inl rfl))) _).setCell (.inl (HF.out _ (.inl rfl))) _).setCell (.inl (HF.out _ (.inl rfl))) _)

set_option maxRecDepth 100000 in
theorem seal_range (g : Nat) (id : Int) (w : World) (h1 : id < 1) :
    Calls Tryd.prog 17 #[.pointer (some ⟨g, 0, none⟩), .int .i64 id] w fun e w' => e = .returned (.iface 64 (.int .i64 1)) ∧ w = w' := by
  go_enter Tryd.func17, Tryd.ntmps17
  go_wp2_with fail
  go_ret
  exact ⟨rfl, rfl⟩

/-! ### Commit -/
def commJ (S : SinkSt) (j : Nat) : SinkSt := ⟨S.opened, S.sealed.drop j, S.last, S.written ++ (S.sealed.take j).flatMap (·.2)⟩
theorem comm_rep {w w1 : World} {g : Nat} {S : SinkSt} {Ao As Aw : Option Addr} {co cs cw : Nat} {b0 : Bat} {bs : List Bat} {Fb : Nat → Prop} {A' As' : Option Addr} {cap' cs' : Nat} (h : SinkRep w g S Ao co As cs Aw cw (b0 :: bs) Fb)
    (hown : OwnS w1 47 3 A' cap' (S.written.length + b0.recs.length) (S.written.flatMap recCells ++ b0.recs.flatMap recCells)) (hg : w.grownBy w1 (blk Aw)) (hat : blk A' = blk Aw ∨ blk A' = some w.heap.size)
    (hs : OwnS w 71 2 As' cs' bs.length (bs.flatMap batCells)) (hsb : blk As' = blk As) (hok : ∀ r ∈ b0.recs, RecOk r) :
    SinkRep ((w1.setCell ⟨g, 3, none⟩ (.slice A' (S.written.length + b0.recs.length) cap')).setCell ⟨g, 1, none⟩ (.slice As' bs.length cs')) g (commJ S 1) Ao co As' cs' A' cap' bs Fb := by
  obtain ⟨W, hW⟩ : ∃ W, W = (w1.setCell ⟨g, 3, none⟩ (.slice A' (S.written.length + b0.recs.length) cap')).setCell ⟨g, 1, none⟩ (.slice As' bs.length cs') := ⟨_, rfl⟩
  have hgl := block_lt h.blk
  have h1 : w1.heap[g]? = some (.cells #[.slice Ao S.opened.length co, .slice As (b0 :: bs).length cs, .int .i64 S.last, .slice Aw S.written.length cw] 69 (0, 0)) := (hg.block g hgl (fun e => h.nG.2.2 e.symm)).trans h.blk
  have hWg : W.heap[g]? = some (.cells #[.slice Ao S.opened.length co, .slice As' bs.length cs', .int .i64 S.last, .slice A' (S.written.length + b0.recs.length) cap'] 69 (0, 0)) := by
    rw [hW]; simp [World.setCell, Array.getElem?_modify, h1]
  have hWk : ∀ k, k ≠ g → W.heap[k]? = w1.heap[k]? := by
    intro k hk; rw [hW, Below.heap_setCell _ _ _ _ (by simpa using hk), Below.heap_setCell _ _ _ _ (by simpa using hk)]
  have hWs : W.heap.size = w1.heap.size := by rw [hW, size_setCell, size_setCell]
  rw [← hW]
  have hk2 : ∀ k, k < w.heap.size → k ≠ g → blk Aw ≠ some k → W.heap[k]? = w.heap[k]? := fun k a b c => (hWk k b).trans (hg.block k a (fun e => c e.symm))
  have hne : ∀ k, k < w.heap.size → blk Aw ≠ some k → blk A' ≠ some k := by
    intro k hk hn e
    rcases hat with h1 | h1
    · exact hn (h1 ▸ e)
    · rw [h1] at e; injection e with e; omega
  have hsz : w.heap.size ≤ W.heap.size := by rw [hWs]; exact hg.size
  have kO : ∀ k, blk Ao = some k → W.heap[k]? = w.heap[k]? := fun k e => hk2 k (h.own.lt k e) (fun e2 => h.nG.1 (e2 ▸ e)) (h.nOW k e)
  have kS : ∀ k, blk As = some k → W.heap[k]? = w.heap[k]? := fun k e => hk2 k (h.owns.lt k e) (fun e2 => h.nG.2.1 (e2 ▸ e)) (h.nSW k e)
  have hsl : S.sealed = (b0.id, b0.recs) :: bs.map fun b => (b.id, b.recs) := by rw [h.bats]; rfl
  refine ⟨?_, h.own.keep kO, hs.keep (fun k e => kS k (hsb ▸ e)), ?_, ?_, ?_, h.okO, ?_, ?_, ?_, ⟨h.nG.1, hsb ▸ h.nG.2.1, hne g hgl h.nG.2.2⟩, ?_, ?_, ?_⟩
  · rw [hWg]; simp [commJ, hsl]
  · have e : (commJ S 1).written = S.written ++ b0.recs := by simp [commJ, hsl]
    rw [e, List.flatMap_append, List.length_append]
    exact hown.keep fun k e => hWk k (fun e2 => hne g hgl h.nG.2.2 (e2 ▸ e))
  · simp [commJ, hsl]
  · intro b hb'
    exact (h.bat b (List.mem_cons_of_mem _ hb')).keep (fun k hF => hk2 k (h.ltF k hF) (h.nF k hF).1 (h.nF k hF).2.2.2)
  · have e : (commJ S 1).written = S.written ++ b0.recs := by simp [commJ, hsl]
    rw [e]
    intro r hr
    rcases List.mem_append.1 hr with hr | hr
    · exact h.okW r hr
    · exact hok r hr
  · exact fun k hF => Nat.lt_of_lt_of_le (h.ltF k hF) hsz
  · exact fun k hF => ⟨(h.nF k hF).1, (h.nF k hF).2.1, hsb ▸ (h.nF k hF).2.2.1, hne k (h.ltF k hF) (h.nF k hF).2.2.2⟩
  · exact fun k e => hne k (h.own.lt k e) (h.nOW k e)
  · exact fun k e => hsb ▸ h.nOS k e
  · exact fun k e => hne k (h.owns.lt k (hsb ▸ e)) (h.nSW k (hsb ▸ e))

theorem recs_ok {F : Nat → Prop} {w : World} {A : Option Addr} {c : Nat} {l : List Rec} (h : SlA recE F w A c l) : ∀ r ∈ l, RecOk r := by
  intro r hr
  obtain ⟨i, hi⟩ := List.getElem?_of_mem hr
  obtain ⟨_, _, _, _, _, _, _, h⟩ := h.2.2 i r hi
  exact h
theorem commJ_zero (S : SinkSt) : commJ S 0 = S := by simp [commJ]
theorem commJ_succ (S : SinkSt) (j : Nat) (hj : j < S.sealed.length) : commJ (commJ S j) 1 = commJ S (j + 1) := by
  have e : (S.sealed.drop j).take 1 = [S.sealed[j]] := by rw [List.drop_eq_getElem_cons hj]; rfl
  simp only [commJ, List.drop_drop]
  rw [e, List.take_succ_eq_append_getElem hj, List.flatMap_append, List.append_assoc]

/-- How many were written. -/
def commN (S : SinkSt) (j : Nat) : Nat := ((S.sealed.take j).flatMap (·.2)).length
theorem commN_succ (S : SinkSt) (j : Nat) (hj : j < S.sealed.length) : commN S (j + 1) = commN S j + S.sealed[j].2.length := by
  unfold commN; rw [List.take_succ_eq_append_getElem hj, List.flatMap_append, List.length_append]; simp
theorem commN_le (S : SinkSt) (j : Nat) : commN S j ≤ (S.sealed.flatMap (·.2)).length := by
  have h : S.sealed = S.sealed.take j ++ S.sealed.drop j := (List.take_append_drop j _).symm
  unfold commN
  conv => rhs; rw [h]
  rw [List.flatMap_append, List.length_append]; omega

theorem comm_next {g : Nat} {S : SinkSt} {id : Int} {F : Nat → Prop} {w wr w1 : World} {j q wl m0 mm : Nat} {Ao As Aw : Option Addr} {co cs cw : Nat} {b0 : Bat} {bs : List Bat} {Fb : Nat → Prop} {A' As' : Option Addr} {cap' cs' : Nat}
    (h : SinkRep wr g (commJ S j) Ao co As cs Aw cw (b0 :: bs) Fb)
    (hown : OwnS w1 47 3 A' cap' (wl + m0) ((commJ S j).written.flatMap recCells ++ b0.recs.flatMap recCells)) (hg : wr.grownBy w1 (blk Aw)) (hat : blk A' = blk Aw ∨ blk A' = some wr.drew.heap.size)
    (hs : OwnS wr 71 2 As' cs' mm (bs.flatMap batCells)) (hsb : blk As' = blk As) (hwl : wl = (commJ S j).written.length) (hm0 : m0 = b0.recs.length) (hmm : mm = bs.length) (hq : q = commN S j) (hnq : commN S (j + 1) = q + b0.recs.length)
    (hlt : j < S.sealed.length) (hid : S.sealed[j].1 ≤ id) (hI : ∀ i (hi : i < j) (h : i < S.sealed.length), S.sealed[i].1 ≤ id)
    (hF : ∀ k, sinkF g Ao As Aw Fb k → F k ∨ (w.heap.size ≤ k ∧ k < wr.heap.size)) (hfr : Frm F w wr) :
    ∃ j' q' : Nat, j' ≤ S.sealed.length ∧ S.sealed.length - (j + 1) = S.sealed.length - j' ∧ Value.int .i64 ((q : Int) + m0) = .int .i64 q' ∧ Hid (q' = commN S j') ∧ Hid (∀ i (hi : i < j') (h : i < S.sealed.length), S.sealed[i].1 ≤ id) ∧
      Hid (SinkAt ((w1.setCell ⟨g, 3, none⟩ (.slice A' (wl + m0) cap')).setCell ⟨g, 1, none⟩ (.slice As' mm cs')) (fun k => F k ∨ (w.heap.size ≤ k ∧ k < ((w1.setCell ⟨g, 3, none⟩ (.slice A' (wl + m0) cap')).setCell ⟨g, 1, none⟩ (.slice As' mm cs')).heap.size)) g (commJ S j')) ∧
      Hid (Frm F w ((w1.setCell ⟨g, 3, none⟩ (.slice A' (wl + m0) cap')).setCell ⟨g, 1, none⟩ (.slice As' mm cs'))) := by
  subst hwl; subst hm0; subst hmm
  have hrep := comm_rep h hown hg hat hs hsb (recs_ok (h.bat b0 (List.mem_cons_self)))
  rw [commJ_succ S j hlt] at hrep
  have hz : wr.heap.size ≤ w1.heap.size := hg.size
  refine ⟨j + 1, q + b0.recs.length, by omega, rfl, by congr 1, hnq.symm, fun i hi hl => ?_, ⟨_, _, _, _, _, _, _, _, hrep, ?_⟩, ?_⟩
  · by_cases e : i = j
    · subst e; exact hid
    · exact hI i (by omega) hl
  · have up : ∀ k, (F k ∨ (w.heap.size ≤ k ∧ k < wr.heap.size)) → F k ∨ (w.heap.size ≤ k ∧ k < ((w1.setCell ⟨g, 3, none⟩ (.slice A' ((commJ S j).written.length + b0.recs.length) cap')).setCell ⟨g, 1, none⟩ (.slice As' bs.length cs')).heap.size) := by
      rintro k (e | ⟨e1, e2⟩)
      · exact .inl e
      · exact .inr ⟨e1, by rw [size_setCell, size_setCell]; omega⟩
    rintro k (rfl | e | e | e | e)
    · exact up _ (hF _ (.inl rfl))
    · exact up _ (hF _ (.inr (.inl e)))
    · exact up _ (hF _ (.inr (.inr (.inl (hsb ▸ e)))))
    · rcases hat with h1 | h1
      · exact up _ (hF _ (.inr (.inr (.inr (.inl (h1 ▸ e))))))
      · rw [h1] at e; injection e with e; subst e
        have h3 := hown.lt _ h1
        have h4 := hfr.size
        exact .inr ⟨h4, by rw [size_setCell, size_setCell]; exact h3⟩
    · exact up _ (hF _ (.inr (.inr (.inr (.inr e)))))
  · have hgF : F g ∨ w.heap.size ≤ g := (hF g (.inl rfl)).imp_right fun h => h.1
    have h1 : Frm F w w1 := (hfr.trans (Frm.ofGrown (F := fun k => blk Aw = some k) hg (fun k e => e)) (fun k h => h) (fun k e => (hF k (.inr (.inr (.inr (.inl e))))).imp_right fun h => h.1))
    exact (h1.setCell hgF _).setCell hgF _

set_option maxHeartbeats 2000000 in
set_option maxRecDepth 100000 in
theorem commit_ok (g : Nat) (S : SinkSt) (id : Int) (F : Nat → Prop) (w : World) (h : SinkAt w F g S) (h1 : 1 ≤ id) (hFlt : ∀ k, F k → k < w.heap.size) (hm : S.written.length + (S.sealed.flatMap (·.2)).length ≤ 1000000000) (hm2 : S.sealed.length ≤ 1000000000) :
    Calls Tryd.prog 18 #[.pointer (some ⟨g, 0, none⟩), .int .i64 id] w fun e w' => ∃ j, j ≤ S.sealed.length ∧ (∀ i (hi : i < j) (h : i < S.sealed.length), S.sealed[i].1 ≤ id) ∧ (∀ h : j < S.sealed.length, id < S.sealed[j].1) ∧
      e = .returned (.tuple #[.int .i64 (commN S j), .nilIface]) ∧ SinkAt w' (fun k => F k ∨ (w.heap.size ≤ k ∧ k < w'.heap.size)) g (commJ S j) ∧ Frm F w w' := by
  have HSA := Lib.hid h
  have HFL := Lib.hid hFlt
  have HM := Lib.hid hm
  clear h hFlt hm
  go_enter Tryd.func18, Tryd.ntmps18
  go_wp2_with fail
  go_loopg [6] (S.sealed.length) (fun gk n wr => ∃ j q : Nat, j ≤ S.sealed.length ∧ gk = S.sealed.length - j ∧ n = .int .i64 q ∧ Hid (q = commN S j) ∧ Hid (∀ i (hi : i < j) (h : i < S.sealed.length), S.sealed[i].1 ≤ id) ∧ Hid (SinkAt wr (fun k => F k ∨ (w.heap.size ≤ k ∧ k < wr.heap.size)) g (commJ S j)) ∧ Hid (Frm F w wr))
  case atStart => exact ⟨0, 0, by omega, by omega, rfl, rfl, fun i hi => absurd hi (by omega), by rw [commJ_zero]; exact HSA.out.more (fun k hk => .inl hk), Frm.refl _ _⟩
  case round =>
    obtain ⟨j, q, hj, hgk, rfl, HQ, HI, HA, HFR⟩ := hrel
    have HGK := Lib.hid hgk
    clear hgk
    obtain ⟨Ao, co, As, cs, Aw, cw, bs, Fb, h, hf⟩ := HA.out
    have hgl : g < wr.heap.size := block_lt h.blk
    have c1 := cell_of_row wr g 1 _ _ _ h.blk
    have c3 := cell_of_row wr g 3 _ _ _ h.blk
    have fz : ∀ i, wr.frozen? ⟨g, i, none⟩ = false := fun i => by simp [World.frozen?, h.blk]
    have fz1 := fz 1
    have fz3 := fz 3
    clear fz
    simp at c1 c3
    have hbl : bs.length = S.sealed.length - j := by
      have := congrArg List.length h.bats
      simp [commJ] at this; omega
    have HF := Lib.hid hf
    clear hf HA
    by_cases hlt : j < S.sealed.length
    · obtain ⟨b0, bs', rfl⟩ : ∃ b0 bs', bs = b0 :: bs' := by
        cases bs with
        | nil => simp at hbl; omega
        | cons b0 bs' => exact ⟨b0, bs', rfl⟩
      have hb0 : (b0.id, b0.recs) = S.sealed[j] := by
        have h2 : (commJ S j).sealed = S.sealed.drop j := rfl
        have h3 := h.bats
        rw [h2, List.drop_eq_getElem_cons hlt, List.map_cons] at h3
        exact (List.cons.inj h3).1.symm
      obtain ⟨gs, off, rfl, hgs, hcell⟩ := h.owns.head (by simp) (by decide)
      have d0 := hcell 0 (.int .i64 b0.id) (by simp [batCells])
      have d1 := hcell 1 (.slice b0.A b0.recs.length b0.c) (by simp [batCells])
      simp only [Nat.add_zero] at d0
      have hgw : blk Aw ≠ some g := h.nG.2.2
      have hgsw : blk Aw ≠ some gs := h.nSW gs rfl
      have hgsg : gs ≠ g := fun e => h.nG.2.1 (by rw [← e]; rfl)
      have hbat := h.bat b0 (List.mem_cons_self)
      have hsrc := Src.of_sl (P := Tryd.prog) (tx := 42) hbat Tryd.underlying42 recCells (fun cs x hx => hx.1) (fun _ => rfl) (fun x u hu => by simp [recCells] at hu; rcases hu with rfl | rfl | rfl <;> rfl)
      have hsrcD : Src Tryd.prog 3 42 (.slice b0.A b0.recs.length b0.c) b0.recs.length (b0.recs.flatMap recCells) wr.drew :=
        Src.of_sl (P := Tryd.prog) (tx := 42) hbat.drew Tryd.underlying42 recCells (fun cs x hx => hx.1) (fun _ => rfl) (fun x u hu => by simp [recCells] at hu; rcases hu with rfl | rfl | rfl <;> rfl)
      have hnq := commN_succ S j hlt
      have hnl := commN_le S (j + 1)
      have hwl : (commJ S j).written.length = S.written.length + commN S j := by simp [commJ, commN]
      have hb1 : b0.recs.length = S.sealed[j].2.length := by rw [← hb0]
      have hbnd := HM.out
      have hq1 : q = commN S j := HQ.out
      rw [← hb1, ← hq1] at hnq
      rw [← hq1] at hwl
      have hqb : q + b0.recs.length ≤ 1000000000 := by omega
      obtain ⟨wl, hwl'⟩ : ∃ n, n = (commJ S j).written.length := ⟨_, rfl⟩
      have hwb : wl + b0.recs.length ≤ 1000000000 := by omega
      rw [← hwl'] at c3
      obtain ⟨m0, hm0⟩ : ∃ n, n = b0.recs.length := ⟨_, rfl⟩
      have hbl0 : bs'.length ≤ 1000000000 := by simp at hbl; omega
      have HB0 := Lib.hid hb0
      have HH := Lib.hid h
      have HSR := Lib.hid hsrcD
      have HNQ := Lib.hid hnq
      have HWL := Lib.hid hwl'
      have HM0 := Lib.hid hm0
      rw [← hm0] at d1 hqb hwb
      clear hb0 h hsrc hsrcD hnq hwl hwl' hb1 hbnd hq1 hcell hnl hm0 hbl hbat
      obtain ⟨mm, hmm⟩ : ∃ n, n = bs'.length := ⟨_, rfl⟩
      have e2 : (b0 :: bs').length = mm + 1 := by rw [hmm]; rfl
      rw [← hmm] at hbl0
      simp only [List.length_cons, ← hmm] at c1
      have HMM := Lib.hid hmm
      clear hmm e2
      by_cases hid : b0.id ≤ id
      · have hdid : decide (b0.id ≤ id) = true := decide_eq_true hid
        go_wp2_with fail
        go_region_law (refine step_append_S (w := wr.drew) rfl (.tmp 31) (.tmp 38) 42 42 rfl 47 _ 3 32 Tryd.underlying42 info_rec rfl (by decide) Aw cw wl _ (by simp [Act.eval]) (by rw [HWL.out]; exact HH.out.ownw) (.slice b0.A m0 b0.c) (by simp [Act.eval]) m0 (b0.recs.flatMap recCells) (by rw [HM0.out]; exact HSR.out) (by unfold maxLen; omega) (by omega) ?_; intro A' cap' w1 hown1 hg1 hat1; have hgg := hg1.block g hgl (fun e => hgw e.symm); have hgg2 := hg1.block gs hgs (fun e => hgsw e.symm); have c1' : w1.cell? ⟨g, 1, none⟩ = some (.slice (some ⟨gs, off, none⟩) (mm + 1) cs) := (World.cell?_of_block (a := ⟨g, 1, none⟩) hgg).trans c1; have c3' : w1.cell? ⟨g, 3, none⟩ = some (.slice Aw wl cw) := (World.cell?_of_block (a := ⟨g, 3, none⟩) hgg).trans c3; have f1' : w1.frozen? ⟨g, 1, none⟩ = false := (World.frozen?_of_block (a := ⟨g, 1, none⟩) hgg).trans fz1; have f3' : w1.frozen? ⟨g, 3, none⟩ = false := (World.frozen?_of_block (a := ⟨g, 3, none⟩) hgg).trans fz3; have d1' : w1.cell? ⟨gs, off + 1, none⟩ = some (.slice b0.A m0 b0.c) := (World.cell?_of_block (a := ⟨gs, off + 1, none⟩) hgg2).trans d1)
        all_goals
          clear hgg hgg2
          have HG := Lib.hid (show wr.grownBy w1 (blk Aw) from ⟨hg1.os, hg1.tape, hg1.output, hg1.size, hg1.block⟩)
          have HOW := Lib.hid hown1
          clear hg1 hown1
          by_cases hcs : cs = 1
          · subst hcs
            go_wp2_with fail
            go_roundg (S.sealed.length - (j + 1))
            case measure => have := HGK.out; omega
            case rel =>
              have hmz : mm = 0 := by have h5 := HH.out.owns.2.1; simp only [List.length_cons, ← HMM.out] at h5; omega
              have hbs : bs' = [] := List.eq_nil_of_length_eq_zero (by rw [← HMM.out]; exact hmz)
              refine comm_next HH.out HOW.out HG.out hat1 ?_ rfl HWL.out HM0.out HMM.out HQ.out HNQ.out hlt (by rw [← HB0.out]; exact hid) HI.out HF.out HFR.out
              rw [hbs, hmz]; exact HH.out.owns.empty
          · have hdc : (cs == 1) = false := beq_eq_false_iff_ne.2 hcs
            go_wp2_with fail
            go_roundg (S.sealed.length - (j + 1))
            case measure => have := HGK.out; omega
            case rel =>
              have hcut := HH.out.owns.cut (k := 1) (by simp)
              refine comm_next HH.out HOW.out HG.out hat1 ?_ rfl HWL.out HM0.out HMM.out HQ.out HNQ.out hlt (by rw [← HB0.out]; exact hid) HI.out HF.out HFR.out
              simpa [batCells, HMM.out] using hcut
      · have hdid : decide (b0.id ≤ id) = false := decide_eq_false hid
        go_wp2_with fail
        go_ret2
        refine ⟨j, hj, HI.out, fun _ => by rw [← HB0.out]; show id < b0.id; omega, ?_, ⟨_, _, _, _, _, _, _, _, HH.out, HF.out⟩, HFR.out⟩
        rw [← HQ.out]; rfl
    · obtain rfl : j = S.sealed.length := by omega
      have hnil : bs = [] := List.eq_nil_of_length_eq_zero (by omega)
      subst hnil
      have HH := Lib.hid h
      clear h
      simp only [List.length_nil] at c1
      go_wp2_with fail
      go_ret2
      refine ⟨_, Nat.le_refl _, HI.out, fun h => absurd h (by omega), ?_, ⟨_, _, _, _, _, _, _, _, HH.out, HF.out⟩, HFR.out⟩
      rw [← HQ.out]; rfl
end Go.Proofs.YtmcmejmfaihclaaDoor
