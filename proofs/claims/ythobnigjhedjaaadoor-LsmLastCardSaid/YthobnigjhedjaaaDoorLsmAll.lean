/-
  Package lsm: all. Conditions: no more than 1000 fresh ones, 1000 lists, of 400 entries each.
-/
import Derived.Test.YthobnigjhedjaaaDoorLsm
namespace Go.Proofs.YthobnigjhedjaaaDoor
open Go.RowKit Go.ChangeShapes Go.WideShapes
open Go.Sort hiding Below
set_option linter.unusedVariables false

theorem OwnS.src {P : Program} {w : World} {e t : TypeId} {A : Option Addr} {cap n size : Nat} {xs : List Value} (h : OwnS w e size A cap n xs) (hs : 0 < size) (ht : P.underlying t = some (.slice e)) (h1 : ∀ u ∈ xs, u.oneCell' = true) : Src P size t (.slice A n cap) n xs w := by
  rcases h.2.2.2 with ⟨rfl, h0⟩ | ⟨g, off, cur, rfl, hh, hc, hr⟩
  · have h3 := h.2.1
    have hn : n = 0 := by omega
    subst hn; subst h0
    have hx : xs = [] := List.eq_nil_of_length_eq_zero (by have := h.1; omega)
    subst hx
    exact Src.ofNil w ht 0
  · exact Src.ofSlice _ ht _ n cap xs h.1 (fun j u hj => by rw [add_plain]; exact (cell_of_row w g (off + j) cur e (0, 0) hh).trans (hr j u hj)) h1
theorem OwnS.lone {w : World} {b : Nat} {v : Value} {e : TypeId} (h : w.heap[b]? = some (.cells #[v] e (0, 0))) : OwnS w e 1 (some ⟨b, 0, none⟩) 1 1 [v] :=
  ⟨rfl, Nat.le_refl _, by unfold maxLen; omega, .inr ⟨b, 0, _, rfl, h, by simp, fun j u hj => by simpa using hj⟩⟩
theorem EntRow.not {w : World} {k : Nat} {cs : Array Value} {t : TypeId} {fr : Nat × Nat} (h : w.heap[k]? = some (.cells cs t fr)) (ht : t ≠ 67) : ¬ EntRow w k := fun ⟨_, _, hk⟩ => by
  rw [h] at hk
  injection hk with hk
  injection hk with _ hk _
  exact ht hk
theorem SlA.later {w w' : World} {A : Option Addr} {c : Nat} {l : List Ent} (h : SlA entE (EntRow w) w A c l) (hb : Below w.heap.size w w') : SlA entE (EntRow w') w' A c l :=
  (h.keep fun k hk => hb.block k hk.lt).more fun k hk => hk.kept (hb.block k hk.lt)
theorem flat_le {L : List (List Ent)} (h : ∀ l ∈ L, l.length ≤ 400) : L.flatten.length ≤ 400 * L.length := by
  induction L with
  | nil => simp
  | cons l L ih =>
    have h1 := ih fun x hx => h x (List.mem_cons_of_mem _ hx)
    have h2 := h l List.mem_cons_self
    rw [List.flatten_cons, List.length_append, List.length_cons]; omega
theorem apart_le {q m : List Ent} (h : KeysApart q) (hs : ∀ x ∈ q, x ∈ m) : q.length ≤ m.length := apart_len h fun x hx => ⟨x, hs x hx, rfl⟩
theorem mix_cnt {q : List Ent} {F : EMap} {L : List (List Ent)} (h1 : KeysApart q) (h2 : ∀ x ∈ q, x ∈ evals F) (h3 : (evals F).length ≤ 1000) (h4 : L.flatten.length ≤ 400000) : cnt (q :: L) ≤ 1000000 := by
  have := apart_le h1 h2
  unfold cnt
  rw [List.flatten_cons, List.length_append]; omega
theorem mix_of {w : World} {A : Option Addr} {c : Nat} {v : Value} {vs : List Value} {q : List Ent} {L : List (List Ent)} (hv : LVals w (v :: vs) (q :: L)) (ho : OwnS w 68 1 A c (1 + L.length) ([v] ++ vs)) (hc : cnt (q :: L) ≤ 1000000) :
    Calls Tryd.prog 52 #[.slice A (1 + L.length) c, .bool true] w (MixPost w (mixed (q :: L))) := by
  have e : 1 + L.length = (q :: L).length := by rw [List.length_cons]; omega
  rw [e] at ho ⊢
  exact mix_any A c (q :: L) w (hv.sl ho) hc
set_option maxRecDepth 100000 in
set_option maxHeartbeats 2000000 in
theorem all_ok (B g bf : Nat) (A1 : Option Addr) (c1 : Nat) (tvs : List Value) (A2 : Option Addr) (c2 : Nat) (lvs : List Value) (limit : Nat) (F : EMap) (L : List (List Ent)) (w : World)
    (S : LsmAt B w g bf A1 c1 tvs A2 c2 lvs limit F L) (hF : EKeyed F) (hz : ESized F) (hn : F.length ≤ 1000) (hL : L.length ≤ 1000) (hl : ∀ l ∈ L, l.length ≤ 400) :
    Calls Tryd.prog 31 #[.pointer (some ⟨g, 0, none⟩)] w (EntsNew w (evals F ++ L.flatten)) := by
  obtain ⟨x0, x1, x2, x3⟩ := S.cells
  have hgl := block_lt S.obj
  have hNW := news_ok B g bf A1 c1 tvs A2 c2 lvs limit F L w.drew (S.keep fun k hk => rfl) hF hz hn
  have HNW := Lib.hid hNW
  have HS := Lib.hid S
  have HLL : Hid (L.flatten.length ≤ 400000) := by
    show _ ≤ _
    have := flat_le hl
    omega
  have HVL : Hid ((evals F).length ≤ 1000) := by show _ ≤ _; rw [vals_len]; exact hn
  clear hNW S x0 x1 x2 hF hz hl
  go_enter Tryd.func31, Tryd.ntmps31
  go_upto_region 1 with (fail)
  go_region_held3 (fun W => W.cell? ⟨g, 3, none⟩ = some (.slice A2 L.length c2)) (first | exact x3 | exact k3 | exact k4 | exact k5 | exact k6) (first
    | (go_at_call 32; refine HNW.out.mono ?_; rintro e w1 ⟨A', c', q, rfl, q1, q2, q3, q4, q5, q6⟩;
       have k3 := (q6.cell (p := ⟨g, 3, none⟩) hgl).trans x3;
       have k4 : (w1.alloc (.cells #[.slice A' q.length c'] 68)).cell? ⟨g, 3, none⟩ = some (.slice A2 L.length c2) := (World.cell?_of_block (Below.heap_alloc w1 _ _ (Nat.lt_of_lt_of_le hgl q6.size))).trans k3;
       have HB1 : Hid (Below w.heap.size w w1) := (Below.refl _ w).drew.trans q6;
       have HQ1 := Lib.hid q1; have HQ3 := Lib.hid q3; have HQ4 := Lib.hid q4;
       have HQ5 : Hid (SlA entE (EntRow w1) w1 A' c' q) := q5.more fun k hk => hk.2;
       clear q1 q2 q3 q4 q5 q6)
    | (have hb2 : Below w1.heap.size w1 (w1.alloc (.cells #[.slice A' q.length c'] 68)) := (Below.refl _ _).alloc (Nat.le_refl _) _;
       have hx2 := heap_alloc_new w1 (.cells #[.slice A' q.length c'] 68);
       have HB2 : Hid (Below w.heap.size w (w1.alloc (.cells #[.slice A' q.length c'] 68))) := HB1.out.trans (hb2.mono HB1.out.size);
       have hS2 := HS.out.below HB2.out;
       have hO2 : OwnS (w1.alloc (.cells #[.slice A' q.length c'] 68)) 68 1 (some ⟨w1.heap.size, 0, none⟩) 1 1 [.slice A' q.length c'] := OwnS.lone hx2;
       have hsr := hS2.lists.src (P := Tryd.prog) (t := 76) (by decide) Tryd.underlying76 hS2.vals.one;
       have HV2 : Hid (LVals (w1.alloc (.cells #[.slice A' q.length c'] 68)) (.slice A' q.length c' :: lvs) (q :: L)) := hS2.vals.cons (HQ5.out.later hb2);
       refine step_append_S rfl (.tmp 5) (.tmp 9) 76 76 rfl 68 _ 1 24 Tryd.underlying76 info_L rfl (by decide) (some ⟨w1.heap.size, 0, none⟩) 1 1 [.slice A' q.length c'] rfl hO2 (.slice A2 L.length c2) rfl L.length lvs hsr (by unfold maxLen; omega) (by omega) ?_;
       intro A3 c3 w3 ho3 hg3 hat3;
       have HB3 : Hid (Below w.heap.size w w3) := HB2.out.grown hg3 HB2.out.size (fun k e => (by have h5 := HB1.out.size; simp [blk] at e; omega));
       have HV3 : Hid (LVals w3 (.slice A' q.length c' :: lvs) (q :: L)) := HV2.out.keep fun k hk => hg3.block k hk.lt (fun e => (by simp [blk] at e; subst e; exact EntRow.not hx2 (by decide) hk));
       have k5 : w3.cell? ⟨g, 3, none⟩ = some (.slice A2 L.length c2) := (World.cell?_of_block (hg3.block g (Nat.lt_of_lt_of_le hgl HB2.out.size) (by have h5 := HB1.out.size; simp [blk]; omega))).trans k4;
       have hM := mix_of HV3.out ho3 (mix_cnt HQ1.out HQ4.out HVL.out HLL.out);
       clear ho3 hg3 hat3 hsr hO2 hS2 hb2 hx2 HV2)
    | (go_at_call 52; refine hM.mono ?_; rintro e w5 ⟨A5, c5, p, rfl, p1, p2, p3, p4⟩;
       have k6 : w5.cell? ⟨g, 3, none⟩ = some (.slice A2 L.length c2) := (p4.cell (p := ⟨g, 3, none⟩) (Nat.lt_of_lt_of_le hgl HB3.out.size)).trans k5; have HP1 := Lib.hid p1; have HP2 := Lib.hid p2; have HP3 := Lib.hid p3; have HP4 := Lib.hid p4; clear p1 p2 p3 p4 hM))
  go_wp2_with fail
  go_ret
  have hsz := HB3.out.size
  have hp := HP1.out
  refine ⟨A5, c5, p, rfl, apart_perm hp (mixed_apart _), HP2.out, fun k => ?_, fun x hx => ?_, HP3.out.more fun k hk => ⟨by omega, hk.2⟩, HB3.out.trans (HP4.out.mono hsz)⟩
  · rw [efind_perm hp (mixed_apart _), efind_mixed, List.flatten_cons, efind_app, efind_app, HQ3.out]
  · have h1 := mixed_sub _ x (hp.mem_iff.1 hx)
    rw [List.flatten_cons] at h1
    exact (List.mem_append.1 h1).elim (fun h => List.mem_append_left _ (HQ4.out x h)) (List.mem_append_right _)
end Go.Proofs.YthobnigjhedjaaaDoor
