/-
  For KeepPlain: what Save makes of the files, plain; weirsame.Ints at two same lists; rows of numbers cut and put together. No condition: plain definitions and lemmas, and one contract.
-/
import Derived.Test.YtapabhglcdikeaaGreatDoorSaveNo
import Derived.Test.YtapabhglcdikeaaGreatDoorErrAs
namespace Go.Proofs.YtapabhglcdikeaaGreatDoor
open Go.RowKit Go.Shelf
set_option linter.unusedVariables false

theorem fhas_not {fs : SMap} {k : ByteArray} (h : fhas fs k = false) : k ∉ skeys fs := fun hk => by rw [fhas_yes hk] at h; cases h
theorem saveS_now {S : DState} {id : Int} {v : Value} (h1 : fhas S.now halfN = false) (h2 : fhas S.now (picN id) = false) : (saveS S id v 4).now = S.now ++ [(picN id, v)] := by
  have n1 := fhas_not h1
  have n2 := fhas_not h2
  show fset (fdel (fset S.now halfN v) halfN) (picN id) (fgetD zB (fset S.now halfN v) halfN) = _
  rw [fset_none n1, fgetD_split zB n1, fdel_split n1 (by simp [skeys]), List.append_nil, fset_none n2]
theorem idsOf_snoc (fs : SMap) {id : Int} (h : Good id) (v : Value) : idsOf (fs ++ [(picN id, v)]) = idsOf fs ++ [id] := by
  simp [idsOf, skeys, List.filterMap_append, idOf_pic h]
theorem half_snoc {fs : SMap} (h : fhas fs halfN = false) (id : Int) (v : Value) : fhas (fs ++ [(picN id, v)]) halfN = false := by
  unfold fhas at h ⊢
  rw [List.any_append, h]; simp [pic_half id]
theorem pics_snoc {w : World} {fs : SMap} (h : Pics w fs) {id : Int} (hG : Good id) {v : Value} {x : List UInt8} (hv : BlobAt w v (sealB x)) (hx : (sealB x).length ≤ 60000) : Pics w (fs ++ [(picN id, v)]) := fun p hp => by
  rcases List.mem_append.1 hp with hp | hp
  · exact h p hp
  · obtain rfl := List.mem_singleton.1 hp
    exact ⟨.inr ⟨id, hG, rfl⟩, x, hv, hx⟩
theorem ids_full {w : World} {fs : SMap} (hP : Pics w fs) (hh : fhas fs halfN = false) : (idsOf fs).length = fs.length := by
  unfold idsOf skeys
  rw [List.filterMap_map]
  have : ∀ p ∈ fs, ((idOf ∘ (·.1)) p).isSome = true := fun p hp => by
    rcases (hP p hp).1 with e | ⟨id, hG, e⟩
    · have := fhas_not hh
      exact absurd (List.mem_map.2 ⟨p, hp, e⟩) this
    · simp [e, idOf_pic hG]
  clear hP hh
  induction fs with
  | nil => rfl
  | cons p r ih =>
    have h1 := this p (List.mem_cons_self)
    obtain ⟨j, hj⟩ := Option.isSome_iff_exists.1 h1
    rw [List.filterMap_cons_some hj, List.length_cons, List.length_cons, ih fun q hq => this q (List.mem_cons_of_mem _ hq)]
theorem has_ids {w : World} {fs : SMap} (hP : Pics w fs) {id : Int} (hG : Good id) : fhas fs (picN id) = true ↔ id ∈ idsOf fs := by
  constructor
  · intro h
    exact List.mem_filterMap.2 ⟨picN id, fhas_iff.1 h, idOf_pic hG⟩
  · intro h; exact (ids_mem hP h).2
theorem calm_saved {S : DState} {n : Nat} (h : Calm S n) (id : Int) (v : Value) : Calm (saveS S id v 4) (n + 4) :=
  ⟨by have := h.st0; simp only [saveS, syncS, doneS]; omega, by have := h.st1; simp only [saveS, syncS, doneS]; omega, h.stop, by simp [saveS, syncS, doneS]⟩

theorem saveS_stop (S : DState) (id : Int) (v : Value) (j : Nat) : (saveS S id v j).stop = S.stop := by
  match j with
  | 0 => rfl
  | 1 => rfl
  | 2 => rfl
  | 3 => rfl
  | j + 4 => rfl
theorem never_stopped {S : DState} (h : S.stop = -1) : stoppedB S = false := by simp [stoppedB, h]
theorem saved_all {w0 w w' : World} {g : Nat} {S : DState} {id : Int} {x : List UInt8} {v : Value} {j : Nat} (h : Saved w0 w g S id x w' v j) (hs : S.stop = -1) : j = 4 := by
  have h1 := h.le
  rcases Nat.lt_or_ge j 4 with h2 | h2
  · have h3 := h.stop h2
    rw [never_stopped ((saveS_stop S id v j).trans hs)] at h3; cases h3
  · omega

/-! ### Sorted lists -/
theorem sorted_in {zs : List Int} {id : Int} {k : Nat} (hs : zs.Pairwise (· < ·)) (h1 : ∀ j (hj : j < zs.length), j < k → zs[j] < id) (h2 : ∀ hk : k < zs.length, id < zs[k]) : (zs.take k ++ (id :: zs.drop k)).Pairwise (· < ·) := by
  rw [List.pairwise_append]
  have hd : ∀ y ∈ zs.drop k, id < y := fun y hy => by
    obtain ⟨i, hi, rfl⟩ := List.mem_iff_getElem.1 hy
    rw [List.length_drop] at hi
    rw [List.getElem_drop]
    have := h2 (by omega)
    by_cases e : i = 0
    · subst e; simpa using this
    · have := List.pairwise_iff_getElem.1 hs k (k + i) (by omega) (by omega) (by omega)
      omega
  have ht : ∀ x ∈ zs.take k, x < id := fun x hx => by
    obtain ⟨i, hi, rfl⟩ := List.mem_iff_getElem.1 hx
    rw [List.length_take] at hi
    rw [List.getElem_take]
    exact h1 i (by omega) (by omega)
  refine ⟨hs.take, List.pairwise_cons.2 ⟨hd, hs.drop⟩, fun x hx y hy => ?_⟩
  rcases List.mem_cons.1 hy with rfl | hy
  · exact ht x hx
  · have := ht x hx; have := hd y hy; omega
theorem perm_in (zs : List Int) (id : Int) (k : Nat) : (zs.take k ++ (id :: zs.drop k)).Perm (zs ++ [id]) := by
  have h1 : (zs.take k ++ (id :: zs.drop k)).Perm (id :: (zs.take k ++ zs.drop k)) := List.perm_middle
  rw [List.take_append_drop] at h1
  exact h1.trans (List.perm_append_comm (l₁ := [id]) (l₂ := zs))
theorem same_sorted {xs zs : List Int} (h : xs.Perm zs) (h1 : xs.Pairwise (· ≤ ·)) (h2 : zs.Pairwise (· < ·)) : xs = zs :=
  List.Perm.eq_of_pairwise (le := fun a b => a ≤ b) (fun a b _ _ x y => by omega) h1 (h2.imp fun {a b} h => by omega) h

/-! ### Rows of numbers -/
theorem row_ints {w : World} {base : Nat} {v : Value} {zs : List Int} (h : w.ownsRow base 3 1 v zs.length (ints zs)) (hI : ∀ x ∈ zs, I64 x) : ∃ A c, v = .slice A zs.length c ∧ SlA (intE .i64) (Quiet w) w A c zs := by
  obtain ⟨A, c, rfl, hown, hA⟩ := OwnS.of_row h
  have e : ints zs = zs.flatMap fun x => [.int .i64 x] := by
    clear h hown hI hA
    unfold ints
    induction zs with
    | nil => rfl
    | cons x r ih => simp [ih]
  rw [e] at hown
  refine ⟨A, c, rfl, OwnS.sl (E := intE .i64) (fun x => [.int .i64 x]) (fun _ => rfl) hown rfl (fun k e => ?_) (fun x hx => ⟨rfl, hI x hx⟩)⟩
  obtain ⟨cur, hc⟩ := hown.tag e
  exact ⟨_, _, _, hc, by decide, by decide⟩
set_option maxRecDepth 100000 in
theorem ints_same (A B : Option Addr) (c d : Nat) (l : List Int) (w : World) (F G : Nat → Prop) (ha : SlA (intE .i64) F w A c l) (hb : SlA (intE .i64) G w B d l) :
    Calls Tryz.prog 15 #[.slice A l.length c, .slice B l.length d] w fun e w' => e = .returned (.bool true) ∧ Below w.heap.size w w' := by
  have hn := ha.le
  have H := Lib.hid ha
  have H' := Lib.hid hb
  clear ha hb
  go_enter Tryz.func15, Tryz.ntmps15
  go_wp2
  go_loopw [5] (fun i wr => ∃ k q : Nat, k ≤ l.length ∧ i = .int .i64 k ∧ wr = w.drewN q) (fun i _ => l.length - (intOf i).toNat)
  case atStart => exact ⟨0, 0, Nat.zero_le _, rfl, rfl⟩
  case round =>
    obtain ⟨k, q, hk, rfl, rfl⟩ := hrel
    by_cases hlt : k < l.length
    · obtain ⟨b, off, rfl, _, c0, _⟩ := H.out.int_ hlt
      obtain ⟨b', off', rfl, _, d0, _⟩ := H'.out.int_ hlt
      obtain ⟨s, hs⟩ : ∃ s, s = l[k] := ⟨_, rfl⟩
      rw [← hs] at c0 d0
      clear hs
      go_wp2
      go_quiet (fail)
      go_wp2
      go_roundw
      case rel => exact ⟨k + 1, q + nq, by omega, by go_num, by simp⟩
      case measure => simp [intOf]; omega
    · go_wp2
      go_ret
      exact ⟨rfl, bdrewN (Below.refl _ _) q⟩
end Go.Proofs.YtapabhglcdikeaaGreatDoor
