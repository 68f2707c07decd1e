/-
  Package share: Keep(0): all is dropped. Conditions: what counts say; no more than 1000 pictures.
-/
import Derived.Test.YthobnigjhedjaaaDoorShareKeys
namespace Go.Proofs.YthobnigjhedjaaaDoor
open Go.RowKit Go.Shelf
set_option linter.unusedVariables false

theorem pl_del (P : PMapS) (k : Int) : pl (kdel P k) = kdel (pl P) k := kmap_del _ _ _
theorem pl_get (P : PMapS) (k : Int) : kget (pl P) k = (kget P k).map (·.xs) := kmap_get _ _ _
theorem pl_keys (P : PMapS) : kkeys (pl P) = kkeys P := kmap_keys _ _
theorem pl_length (P : PMapS) : (pl P).length = P.length := kmap_length _ _
theorem kget_some {κ α : Type} [DecidableEq κ] {m : List (κ × α)} {k : κ} (h : k ∈ kkeys m) : ∃ v, kget m k = some v := by
  obtain ⟨a, v, b, rfl, ha⟩ := split_kkey h
  exact ⟨v, kget_split ha⟩
/-- Dropped: what is there behind it. -/
structure DropSt (w0 : World) (g bp bc : Nat) (P : PMapS) (ds : List Int) (W : World) (P' : PMapS) (C' : CMap) : Prop where
  at_ : ShAt W g bp bc P' C'
  inv : ShInv (pl P') C'
  keys : ∀ x, x ∈ kkeys P' ↔ x ∈ kkeys P ∧ x ∉ ds
  len : P'.length + ds.length = P.length
  frm : Frm (shF bp bc) w0 W
theorem DropSt.next {w0 : World} {g bp bc : Nat} {P : PMapS} {ds : List Int} {W W' : World} {P' : PMapS} {C' : CMap} (h : DropSt w0 g bp bc P ds W P' C') {k : Int} {r : RowS} (hr : kget P' k = some r) (hs : ShAt W' g bp bc (kdel P' k) (decs C' r.xs)) (hf : Frm (shF bp bc) W W') : DropSt w0 g bp bc P (ds ++ [k]) W' (kdel P' k) (decs C' r.xs) := by
  have hkk : k ∈ kkeys P' := List.mem_map.2 ⟨_, kget_mem hr, rfl⟩
  have hnd : (kkeys P').Nodup := by rw [← pl_keys]; exact h.inv.nodup
  refine ⟨hs, ?_, fun x => ?_, ?_, h.frm.trans hf (fun _ h => h) (fun _ h => .inl h)⟩
  · rw [pl_del]
    exact h.inv.drop (by rw [pl_get, hr]; rfl)
  · rw [kkeys_kdel, h.keys x, List.mem_append, List.mem_singleton]
    constructor
    · rintro ⟨h1, h2, h3⟩; exact ⟨h2, fun h4 => h4.elim h3 h1⟩
    · rintro ⟨h1, h2⟩; exact ⟨fun e => h2 (.inr e), h1, fun h3 => h2 (.inl h3)⟩
  · have := kdel_length hnd hkk
    have h2 := h.len
    rw [List.length_append, List.length_singleton]; omega
theorem DropSt.rows {w0 : World} {g bp bc : Nat} {P : PMapS} {ds : List Int} {W : World} {P' : PMapS} {C' : CMap} (h : DropSt w0 g bp bc P ds W P' C') {k : Int} {r : RowS} (hr : kget P' k = some r) : r.xs.Nodup := h.inv.rows (k, r.xs) (kget_mem (by rw [pl_get, hr]; rfl))
theorem DropSt.small {w0 : World} {g bp bc : Nat} {P : PMapS} {ds : List Int} {W : World} {P' : PMapS} {C' : CMap} (h : DropSt w0 g bp bc P ds W P' C') (hn : P.length ≤ 1000) : ∀ x, 0 ≤ cget C' x ∧ cget C' x ≤ 1000000 := fun x => by
  have h1 := h.inv.le x
  have h2 := h.len
  rw [pl_length] at h1
  omega
theorem kkeys_nil {κ α : Type} [DecidableEq κ] {m : List (κ × α)} (h : ∀ x, x ∉ kkeys m) : m = [] := by
  cases m with
  | nil => rfl
  | cons p r => exact absurd (by simp [kkeys]) (h p.1)
theorem IntRow.off {w : World} {g bp bc : Nat} {P : PMapS} {C : CMap} (h : ShAt w g bp bc P C) {k : Nat} (hk : IntRow w k) : k ≠ bp ∧ k ≠ bc := by
  obtain ⟨cs, fr, hk⟩ := hk
  exact ⟨fun e => h.pics.not_cells (e ▸ hk), fun e => SMapAt.not_cells h.counts (e ▸ hk)⟩
theorem IntRow.lt {w : World} {k : Nat} (h : IntRow w k) : k < w.heap.size := by obtain ⟨cs, fr, h⟩ := h; exact block_lt h
theorem IntRow.kept {w w' : World} {k : Nat} (h : IntRow w k) (hs : w'.heap[k]? = w.heap[k]?) : IntRow w' k := by
  obtain ⟨cs, fr, h⟩ := h
  exact ⟨cs, fr, hs.trans h⟩
theorem ints_stay {w w' : World} {g bp bc : Nat} {P : PMapS} {C : CMap} {A : Option Addr} {c : Nat} {l : List Int} (h : ShAt w g bp bc P C) (hs : SlA (intE .i64) (IntRow w) w A c l) (hf : Frm (shF bp bc) w w') : SlA (intE .i64) (IntRow w') w' A c l := by
  have h1 : ∀ k, IntRow w k → w'.heap[k]? = w.heap[k]? := fun k hk => hf.block k hk.lt fun hF => by
    obtain ⟨h2, h3⟩ := hk.off h
    rcases hF with e | e
    · exact h2 e
    · exact h3 e
  exact (hs.keep h1).more fun k hk => hk.kept (h1 k hk)
set_option maxRecDepth 100000 in
set_option maxHeartbeats 1000000 in
theorem keep0_ok (g bp bc : Nat) (P : PMapS) (C : CMap) (w : World) (S : ShAt w g bp bc P C) (hI : ShInv (pl P) C) (hn : P.length ≤ 1000) :
    Calls Tryd.prog 11 #[.pointer (some ⟨g, 0, none⟩), .int .i64 0] w fun e w' => ∃ A' c', e = .returned (.slice A' P.length c') ∧ ShAt w' g bp bc [] [] ∧ Frm (shF bp bc) w w' := by
  have hP := pictures_ok g bp bc P C w S (by omega)
  have HS := Lib.hid S
  have HI := Lib.hid hI
  clear S hI
  go_enter Tryd.func11, Tryd.ntmps11
  go_wp2_with fail
  refine hP.mono ?_
  rintro e w1 ⟨A, c, ks, rfl, hsl, hpm, hb⟩
  have hkl : ks.length = P.length := by rw [hpm.length_eq]; simp [kkeys]
  have HND : Hid ks.Nodup := hpm.nodup_iff.2 (by rw [← pl_keys]; exact HI.out.nodup)
  have HPM := Lib.hid hpm
  have h1 := hsl.1
  have h2 := hsl.2.1
  have HSL : Hid (SlA (intE .i64) (IntRow w1) w1 A c ks) := hsl.more fun k hk => hk.1
  have HD : Hid (DropSt w g bp bc P [] w1 P C) := ⟨HS.out.below hb, HI.out, fun x => by simp, by simp, Frm.ofBelow hb⟩
  obtain ⟨n, hkn⟩ : ∃ n, n = ks.length := ⟨_, rfl⟩
  have HKN := Lib.hid hkn
  rw [← hkn] at hkl h1 ⊢
  have HPN : Hid (n = P.length) := hkl
  rw [← hkl] at hn
  clear hsl hpm hkn hb hkl hP
  have hm : max (0 : Int) (n : Int) = n := Int.max_eq_right (Int.natCast_nonneg n)
  go_wp2_with fail
  go_loopw [20] (fun iv wr => ∃ i : Nat, i ≤ n ∧ iv = .int .i64 i ∧ Hid (∃ P' C', DropSt w g bp bc P (ks.take i) wr P' C') ∧ Hid (SlA (intE .i64) (IntRow wr) wr A c ks)) (fun iv _ => n - (intOf iv).toNat)
  case atStart => exact ⟨0, Nat.zero_le _, rfl, ⟨P, C, HD.out⟩, HSL⟩
  case round =>
    obtain ⟨i, hi, rfl, HDI, HLI⟩ := hrel
    by_cases hlt : i < n
    · have hli : i < ks.length := by rw [← HKN.out]; exact hlt
      obtain ⟨b0, o0, rfl, hb0, x0, hz⟩ := HLI.out.int_ hli
      obtain ⟨P', C', D⟩ := HDI.out
      have hnt : ks[i] ∉ ks.take i := fun hm => by
        obtain ⟨j, hj, e⟩ := List.mem_iff_getElem.1 hm
        rw [List.length_take] at hj
        rw [List.getElem_take] at e
        have := (List.getElem_inj HND.out).1 e
        omega
      have hin : ks[i] ∈ kkeys P' := (D.keys _).2 ⟨HPM.out.mem_iff.1 (List.getElem_mem hli), hnt⟩
      obtain ⟨r, hr⟩ := kget_some hin
      have hD := drop_ok g bp bc P' C' ks[i] r wr D.at_ hz hr (D.rows hr) (D.small (by rw [← HPN.out]; exact hn))
      have HNX : Hid (∀ W', ShAt W' g bp bc (kdel P' ks[i]) (decs C' r.xs) → Frm (shF bp bc) wr W' → DropSt w g bp bc P (ks.take (i + 1)) W' (kdel P' ks[i]) (decs C' r.xs)) := fun W' hs hf => by
        rw [List.take_succ_eq_append_getElem hli]
        exact D.next hr hs hf
      have HST : Hid (∀ W', Frm (shF bp bc) wr W' → SlA (intE .i64) (IntRow W') W' (some ⟨b0, o0, none⟩) c ks) := fun W' hf => ints_stay D.at_ HLI.out hf
      clear D hnt hin hr hb0 hz HDI HLI
      generalize kdel P' ks[i] = P2 at hD HNX
      generalize ks[i] = y at x0 hD
      go_wp2_with fail
      refine hD.mono ?_
      rintro e w2 ⟨rfl, hs2, hf2⟩
      have H2 := HNX.out w2 hs2 hf2
      have H3 := HST.out w2 hf2
      have HH2 := Lib.hid H2
      have HH3 := Lib.hid H3
      clear H2 H3 hs2 hf2 hD
      go_wp2_with fail
      go_roundw
      case rel => exact ⟨i + 1, by omega, by go_num, ⟨_, _, HH2.out⟩, HH3⟩
      case measure => simp [intOf]; omega
    · go_wp2_with fail
      go_ret
      have e : i = n := by omega
      obtain ⟨P', C', D⟩ := HDI.out
      rw [e, HKN.out, List.take_length] at D
      have hP' : P' = [] := kkeys_nil fun x hx => ((D.keys x).1 hx).2 (HPM.out.mem_iff.2 ((D.keys x).1 hx).1)
      subst hP'
      have hC' : C' = [] := D.inv.empty
      subst hC'
      exact ⟨A, c, by rw [← HPN.out]; rfl, D.at_, D.frm⟩
end Go.Proofs.YthobnigjhedjaaaDoor
