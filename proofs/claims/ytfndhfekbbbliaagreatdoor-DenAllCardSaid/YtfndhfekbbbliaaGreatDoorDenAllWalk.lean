/-
  The walk of DenAll: it returns true. Conditions: the two variables of Atoi's errors hold errors; the table of powers of ten reads as Go's text lays it; errors.errorType is the handle of its type.
-/
import Derived.Test.YtfndhfekbbbliaaGreatDoorPackO
import Derived.Test.YtfndhfekbbbliaaGreatDoorPackI
import Derived.Test.YtfndhfekbbbliaaGreatDoorPackD
namespace Go.Proofs.YtfndhfekbbbliaaGreatDoor
open Go.RowKit Go.Shelf
set_option linter.unusedVariables false

theorem error_sameD (k : Int) (w : World) (hg : ErrVar w) : Calls Tryz.prog 11 #[errV k, .int .i64 k] w fun e w' => e = .returned (.bool true) ∧ Below w.heap.size w w' := by
  refine (error_errno k k w hg).mono ?_
  rintro e w' ⟨rfl, hb⟩
  exact ⟨by simp, hb⟩
theorem error_nil0D (w : World) : Calls Tryz.prog 11 #[.nilIface, .int .i64 0] w fun e w' => e = .returned (.bool true) ∧ w = w' := by
  refine (error_nil 0 w).mono ?_
  rintro e w' ⟨rfl, rfl⟩
  exact ⟨rfl, rfl⟩
theorem sinks_nilD (w : World) : Calls Tryz.prog 34 #[.slice none 0 0, .slice none 0 0] w fun e w' => e = .returned (.bool true) ∧ ∃ k, w' = w.drewN k :=
  sinks_same none none 0 0 [] w (fun _ => True) (fun _ => True) (SlA.nil _ _ _ none 0 (Nat.zero_le _)) (SlA.nil _ _ _ none 0 (Nat.zero_le _))
/-- Both tell the same lines. -/
theorem den_same {J : List Nod} {data : List (List Rec)} (h0 : denErr J data = 0) (hno : ¬ AllOver J data) : ∃ f, flowAll J data = some f ∧ ∀ out out', AllOf J f out → DenIs J data out' → out = out' := by
  obtain ⟨hJ, hl, hd⟩ := den_split h0
  obtain ⟨f, hf, hall⟩ := (all_same hJ hl hd).2 hno
  refine ⟨f, hf, fun out out' ho ho' => List.ext_getElem? fun i => ?_⟩
  have hlen : out.length = out'.length := ho.1.trans ho'.1.symm
  rcases Nat.lt_or_ge i out.length with h | h
  · have hs := List.getElem?_eq_getElem (l := ofKind J 10) (i := i) (by rw [← ho.1]; exact h)
    have e1 := List.getElem?_eq_getElem h
    have e2 := List.getElem?_eq_getElem (l := out') (i := i) (by omega)
    obtain ⟨l, h1, h2⟩ := hall out ho i _ _ hs e1
    have h3 := ho'.2 i _ _ hs e2
    rw [h1] at h3
    rw [e1, e2, h2 _ h3]
  · rw [List.getElem?_eq_none h, List.getElem?_eq_none (by omega)]
set_option maxRecDepth 100000 in
set_option maxHeartbeats 4000000 in
/-- Where something is wrong. -/
theorem denAll_bad (AJ : Option Addr) (cJ : Nat) (J : List Nod) (AD : Option Addr) (cD : Nat) (data : List (List Rec)) (w : World) (j : Int) (hE : ErrVar w)
    (h1 : Calls Tryz.prog 32 #[.slice AJ J.length cJ, .slice AD data.length cD] w fun e w' => e = .returned (.tuple #[.slice none 0 0, .int .i64 j]) ∧ Below w.heap.size w w')
    (h2 : ∀ W, Below w.heap.size w W → Calls Tryz.prog 33 #[.slice AJ J.length cJ, .slice AD data.length cD] W fun e w' => e = .returned (.tuple #[.slice none 0 0, errV j]) ∧ Below W.heap.size W w') :
    Calls Tryz.prog 8 #[.slice AJ J.length cJ, .slice AD data.length cD] w fun e w' => e = .returned (.bool true) ∧ Below w.heap.size w w' := by
  have H1 := Lib.hid h1
  have H2 := Lib.hid h2
  have HE := Lib.hid hE
  clear h1 h2 hE
  go_enter Tryz.func8, Tryz.ntmps8
  go_wp2_with fail
  refine H1.out.mono ?_
  rintro e w1 ⟨rfl, b1⟩
  have B1 := Lib.hid b1
  clear b1
  go_wp2_with fail
  refine (H2.out w1 B1.out).mono ?_
  rintro e w2 ⟨rfl, b2⟩
  have B2 : Hid (Below w.heap.size w w2) := B1.out.trans (b2.mono B1.out.size)
  have HER := Lib.hid (error_sameD j w2 (HE.out.below B2.out HE.out.pos))
  clear b2 B1 H1 H2
  unfold errV at HER ⊢
  go_wp2_with fail
  refine HER.out.mono ?_
  rintro e w3 ⟨rfl, b3⟩
  have B3 : Hid (Below w.heap.size w w3) := B2.out.trans (b3.mono B2.out.size)
  clear b3 B2 HER
  go_wp2_with fail
  refine (sinks_nilD w3).mono ?_
  rintro e w4 ⟨rfl, q, rfl⟩
  have B4 : Hid (Below w.heap.size w (w3.drewN q)) := bdrewN B3.out q
  clear B3
  go_wp2_with fail
  go_ret
  exact ⟨rfl, B4.out⟩
set_option maxRecDepth 100000 in
set_option maxHeartbeats 4000000 in
/-- Where all is right. -/
theorem denAll_good (AJ : Option Addr) (cJ : Nat) (J : List Nod) (AD : Option Addr) (cD : Nat) (data : List (List Rec)) (w : World) (P Q : List (List Lin) → Prop) (hPQ : ∀ out out', Q out → P out' → out = out')
    (h1 : Calls Tryz.prog 32 #[.slice AJ J.length cJ, .slice AD data.length cD] w fun e w' => (∃ A c out, e = .returned (.tuple #[.slice A (List.length out) c, .int .i64 0]) ∧ P out ∧ SlA (slE linE) (· < w'.heap.size) w' A c out) ∧ Below w.heap.size w w')
    (h2 : ∀ W, Below w.heap.size w W → Calls Tryz.prog 33 #[.slice AJ J.length cJ, .slice AD data.length cD] W fun e w' => (∃ A c out, e = .returned (.tuple #[.slice A (List.length out) c, .nilIface]) ∧ Q out ∧ SlA (slE linE) (· < w'.heap.size) w' A c out) ∧ Below W.heap.size W w') :
    Calls Tryz.prog 8 #[.slice AJ J.length cJ, .slice AD data.length cD] w fun e w' => e = .returned (.bool true) ∧ Below w.heap.size w w' := by
  have H1 := Lib.hid h1
  have H2 := Lib.hid h2
  clear h1 h2
  go_enter Tryz.func8, Tryz.ntmps8
  go_wp2_with fail
  refine H1.out.mono ?_
  rintro e w1 ⟨⟨A1, c1, out1, rfl, p1, s1⟩, b1⟩
  have P1 := Lib.hid p1
  have B1 := Lib.hid b1
  have S1 := Lib.hid s1
  clear b1 s1 p1
  go_wp2_with fail
  refine (H2.out w1 B1.out).mono ?_
  rintro e w2 ⟨⟨A2, c2, out, rfl, p2, s2⟩, b2⟩
  obtain rfl : out = out1 := hPQ _ _ p2 P1.out
  have B2 : Hid (Below w.heap.size w w2) := B1.out.trans (b2.mono B1.out.size)
  have S2 := Lib.hid s2
  have S3 : Hid (SlA (slE linE) (· < w1.heap.size) w2 A1 c1 out) := S1.out.keep fun k hk => b2.block k hk
  clear b2 s2 p2 P1 B1 H1 H2 S1
  go_wp2_with fail
  refine (error_nil0D w2).mono ?_
  rintro e w3 ⟨rfl, rfl⟩
  have HSS := Lib.hid (sinks_same A2 A1 c2 c1 out w2 _ _ S2.out S3.out)
  clear S2 S3
  go_wp2_with fail
  refine HSS.out.mono ?_
  rintro e w4 ⟨rfl, q, rfl⟩
  have B4 : Hid (Below w.heap.size w (w2.drewN q)) := bdrewN B2.out q
  clear B2 HSS
  go_wp2_with fail
  go_ret
  exact ⟨rfl, B4.out⟩
theorem denAll_walk (AJ : Option Addr) (cJ : Nat) (J : List Nod) (AD : Option Addr) (cD : Nat) (data : List (List Rec)) (w : World) (hJ : SlA nodE (· < w.heap.size) w AJ cJ J) (hD : SlA (slE recE) (· < w.heap.size) w AD cD data) (hv : ErrVars w) (hT : PowTab w) (hE : ErrVar w) :
    Calls Tryz.prog 8 #[.slice AJ J.length cJ, .slice AD data.length cD] w fun e w' => e = .returned (.bool true) ∧ Below w.heap.size w w' := by
  have hr := rden_ok (· < w.heap.size) AJ cJ J (· < w.heap.size) AD cD data w hJ (fun _ h => h) hD (fun _ h => h)
  have hd : ∀ W, Below w.heap.size w W → Calls Tryz.prog 33 #[.slice AJ J.length cJ, .slice AD data.length cD] W (AllPost J data W) := fun W hb =>
    dall_ok (· < W.heap.size) AJ cJ J (· < W.heap.size) AD cD data W ((hJ.keep fun k hk => hb.block k hk).more fun k hk => Nat.lt_of_lt_of_le hk hb.size) (fun _ h => h) ((hD.keep fun k hk => hb.block k hk).more fun k hk => Nat.lt_of_lt_of_le hk hb.size) (fun _ h => h) (hv.below hb) (hT.below hb)
  by_cases h0 : denErr J data = 0
  · by_cases hov : AllOver J data
    · obtain ⟨hJ0, hl, hd0⟩ := den_split h0
      have hf := (all_same hJ0 hl hd0).1 hov
      exact denAll_bad AJ cJ J AD cD data w 4 hE (hr.mono fun e w' h => ⟨h.2.1 h0 hov, h.2.2.2⟩) fun W hb => (hd W hb).mono fun e w' h => ⟨h.2.1 h0 hf, h.2.2.2⟩
    · obtain ⟨f, hf, hsame⟩ := den_same h0 hov
      refine denAll_good AJ cJ J AD cD data w (DenIs J data) (AllOf J f) hsame (hr.mono fun e w' h => ⟨h.2.2.1 h0 hov, h.2.2.2⟩) fun W hb => (hd W hb).mono fun e w' h => ⟨?_, h.2.2.2⟩
      obtain ⟨A', c', out, e1, e2, e3⟩ := h.2.2.1 h0 f hf
      exact ⟨A', c', out, e1, e2, e3.more fun k hk => hk.2⟩
  · exact denAll_bad AJ cJ J AD cD data w (denErr J data) hE (hr.mono fun e w' h => ⟨h.1 h0, h.2.2.2⟩) fun W hb => (hd W hb).mono fun e w' h => ⟨h.1 h0, h.2.2.2⟩
end Go.Proofs.YtfndhfekbbbliaaGreatDoor
