/-
  Package job: the contracts of of, Sinks (and Sources). Conditions: where the job lies; the two variables of Atoi's errors hold errors.
-/
import Derived.Test.YtmbhfadidpkkhaaDoorJobEnds
namespace Go.Proofs.YtmbhfadidpkkhaaDoor
open Go.RowKit Go.Shelf
set_option linter.unusedVariables false

def intV (zs : List Int) : List Value := zs.map fun n => .int .i64 n
theorem intV_len (zs : List Int) : (intV zs).length = zs.length := by simp [intV]
theorem intV_flat (zs : List Int) : intV zs = zs.flatMap fun n => [Value.int .i64 n] := by induction zs with | nil => rfl | cons a r ih => simp [intV] at ih ⊢; exact ih
theorem row_new {w : World} {base : Nat} {v : Value} {zs : List Int} (h : w.ownsRow base 3 1 v zs.length (intV zs)) (hI : ∀ x ∈ zs, I64 x) : ∃ A c, v = .slice A zs.length c ∧ SlA (intE .i64) (fun k => base ≤ k ∧ k < w.heap.size) w A c zs := by
  obtain ⟨A, c, rfl, ho, hb⟩ := OwnS.of_row h
  rw [intV_flat] at ho
  exact ⟨A, c, rfl, OwnS.sl (E := intE .i64) (fun n => [.int .i64 n]) (fun _ => rfl) ho rfl (fun k e => ⟨hb k e, ho.lt k e⟩) (fun x hx => ⟨rfl, hI x hx⟩)⟩
theorem of_take (l : List Nod) (k : Int) {j : Nat} (hj : j < l.length) : ofKind (l.take (j + 1)) k = ofKind (l.take j) k ++ if l[j].kind == k then [(j : Int)] else [] := by
  rw [List.take_succ_eq_append_getElem hj]
  unfold ofKind
  rw [List.zipIdx_append, List.filter_append, List.map_append]
  congr 1
  have e : 0 + (List.take j l).length = j := by rw [List.length_take]; omega
  by_cases h : (l[j].kind == k) = true
  · simp [h]; omega
  · simp [h]
theorem of_len (l : List Nod) (k : Int) : (ofKind l k).length ≤ l.length := by
  unfold ofKind
  rw [List.length_map]
  exact Nat.le_trans (List.length_filter_le _ _) (by simp)
theorem of_mem {l : List Nod} {k x : Int} (h : x ∈ ofKind l k) : 0 ≤ x ∧ x < l.length := by
  unfold ofKind at h
  obtain ⟨p, hp, rfl⟩ := List.mem_map.1 h
  have := List.mem_zipIdx (List.mem_filter.1 hp).1
  omega
theorem info_int : (Tryd.prog.info? 3).map (fun i => (i.zero, i.size, i.bytes)) = some (some (.int .i64 0), 1, 8) := by kernel_rfl
def OfPost (l : List Nod) (k : Int) (w : World) (e : Ending) (w' : World) : Prop :=
  (jobErr l = 0 → ∃ A c, e = .returned (.tuple #[.slice A (ofKind l k).length c, .nilIface]) ∧ SlA (intE .i64) (fun j => w.heap.size ≤ j ∧ j < w'.heap.size) w' A c (ofKind l k)) ∧ (jobErr l ≠ 0 → e = .returned (.tuple #[.slice none 0 0, errV (jobErr l)])) ∧ Below w.heap.size w w'
set_option maxRecDepth 100000 in
set_option maxHeartbeats 2000000 in
theorem of_ok (F : Nat → Prop) (A : Option Addr) (c : Nat) (l : List Nod) (k : Int) (w : World) (hl : SlA nodE F w A c l) (hF : ∀ k, F k → k < w.heap.size) (hv : ErrVars w) :
    Calls Tryd.prog 10 #[.slice A l.length c, .int .i64 k] w (OfPost l k w) := by
  have HL := Lib.hid hl
  have hle := hl.le
  have HC := Lib.hid (jcheck_ok F A c l w hl hF hv)
  clear hl hv
  by_cases h0 : jobErr l = 0
  · rw [h0] at HC
    have H0 := Lib.hid h0
    have hl12 := (job_parts h0).1
    clear h0
    go_enter Tryd.func10, Tryd.ntmps10
    go_wp2_with fail
    refine HC.out.mono ?_
    rintro e w2 ⟨rfl, hb2⟩
    rw [show errJ 0 = .nilIface from rfl]
    have HB2 := Lib.hid hb2
    have HL2 := Lib.hid (HL.out.keep (fun i hi => hb2.block i (hF i hi)))
    have hF2 : Hid (∀ i, F i → i < w2.heap.size) := fun i hi => Nat.lt_of_lt_of_le (hF i hi) hb2.size
    clear hb2 HL HC
    go_wp2_with fail
    go_loopw [7, 17] (fun v jv wr => ∃ j : Nat, j ≤ l.length ∧ jv = .int .i64 j ∧ Hid (wr.ownsRow w2.heap.size 3 1 v (ofKind (l.take j) k).length (intV (ofKind (l.take j) k))) ∧ Hid (Below w2.heap.size w2 wr)) (fun _ jv _ => l.length - (intOf jv).toNat)
    case atStart => exact ⟨0, Nat.zero_le _, rfl, World.ownsRow_nil _ _ _ _, Below.refl _ _⟩
    case round =>
      obtain ⟨j, hj, rfl, HR, HB⟩ := hrel
      by_cases hlt : j < l.length
      · obtain ⟨b, off, A', c', rfl, hFb, x0, x1, x2, x3, htm, hki, hni, hfr⟩ := (HL2.out.keep (fun i hi => HB.out.block i (hF2.out i hi))).nod_ hlt
        have HT := Lib.hid (of_take l k hlt)
        have hm : (ofKind (l.take j) k).length ≤ j := Nat.le_trans (of_len _ _) (List.length_take_le _ _)
        clear hfr hki hni hFb htm
        generalize l[j] = nd at x0 x1 x2 x3 HT
        obtain ⟨kind, from_, text, nn⟩ := nd
        simp only at x0 x1 x2 x3 HT
        generalize ofKind (l.take j) k = zs at HR HT hm
        cases hkk : (kind == k) with
        | false =>
          have HT2 : Hid (ofKind (l.take (j + 1)) k = zs) := by show _ = _; rw [HT.out, hkk]; simp
          go_wp2_with fail
          have hb3 : Below w2.heap.size w2 (wr.alloc (.cells #[.int .i64 kind, .slice A' from_.length c', .string text, .int .i64 nn] 28)) := HB.out.alloc HB.out.size _
          go_roundw
          case rel => exact ⟨j + 1, by omega, by go_num, by show World.ownsRow _ _ _ _ _ _ _; rw [HT2.out]; exact HR.out.alloc _, hb3⟩
          case measure => simp [intOf]; omega
        | true =>
          have HT2 : Hid (ofKind (l.take (j + 1)) k = zs ++ [(j : Int)]) := by show _ = _; rw [HT.out, hkk]; simp
          obtain ⟨W3, hW3⟩ : ∃ W3, W3 = wr.alloc (.cells #[.int .i64 kind, .slice A' from_.length c', .string text, .int .i64 nn] 28) := ⟨_, rfl⟩
          have hb3 : Below w2.heap.size w2 W3 := by rw [hW3]; exact HB.out.alloc HB.out.size _
          have HR3 : Hid (W3.ownsRow w2.heap.size 3 1 u7 zs.length (intV zs)) := by rw [hW3]; exact HR.out.alloc _
          go_upto_region 9 with (fail)
          rw [← hW3]
          clear hW3 x0 x1 x2 x3
          clear HT HR
          go_wp2_with (at_builtin; refine wpList_push rfl _ _ 26 rfl w2.heap.size 3 (.int .i64 0) 1 8 Tryd.underlying26 info_int rfl (by decide) u7 zs.length (intV zs) rfl HR3.out [.int .i64 j] rfl rfl ?_ ?_ ?_ hb3.size hb3 (Nat.le_refl _) ?_)
          · rintro u hu; simp at hu; subst hu; rfl
          · unfold maxLen; omega
          · omega
          · intro v' w8 hown8 hg8 hb8 _
            have HR8 : Hid (w8.ownsRow w2.heap.size 3 1 v' (ofKind (l.take (j + 1)) k).length (intV (ofKind (l.take (j + 1)) k))) := by
              show World.ownsRow _ _ _ _ _ _ _
              rw [HT2.out, List.length_append, show intV (zs ++ [(j : Int)]) = intV zs ++ [.int .i64 j] from by simp [intV]]; exact hown8
            have HB8 := Lib.hid hb8
            clear hown8 hg8 hb8 hb3 HT2
            go_wp2_with fail
            refine ⟨⟨j + 1, by omega, by congr 1, HR8, HB8⟩, ?_⟩
            simp [intOf]; omega
      · have dj : decide (j < l.length) = false := decide_eq_false hlt
        have e : l.take j = l := List.take_of_length_le (by omega)
        rw [e] at HR
        obtain ⟨A3, c3, rfl, hs3⟩ := row_new HR.out (fun x hx => WalkArith.wf_i64 (by have := of_mem hx; omega))
        have HS3 := Lib.hid hs3
        have HB3 := Lib.hid (HB2.out.trans (HB.out.mono HB2.out.size))
        clear hs3 HR e hj hlt
        go_wp2_with fail
        go_ret2
        exact ⟨fun _ => ⟨A3, c3, rfl, HS3.out.more fun i ⟨h1, h2⟩ => ⟨Nat.le_trans HB2.out.size h1, h2⟩⟩, fun h => absurd H0.out h, HB3.out⟩
  · have H0 := Lib.hid h0
    rw [show errJ (jobErr l) = errV (jobErr l) from by unfold errJ; rw [if_neg h0]] at HC
    obtain ⟨je, hje⟩ : ∃ je, je = jobErr l := ⟨_, rfl⟩
    have HJE := Lib.hid hje
    rw [← hje] at HC
    clear h0 hje
    go_enter Tryd.func10, Tryd.ntmps10
    go_wp2_with fail
    refine HC.out.mono ?_
    rintro e w2 ⟨rfl, hb2⟩
    have HB2 := Lib.hid hb2
    clear hb2
    unfold errV
    go_wp2_with fail
    go_ret2
    exact ⟨fun h => absurd h H0.out, fun _ => by rw [← HJE.out]; rfl, HB2.out⟩
end Go.Proofs.YtmbhfadidpkkhaaDoor
