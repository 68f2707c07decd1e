/-
  Contracts of frame's Reader over bytes that were written: Upto, Text, End. Condition: bytes fewer than 2^40.
-/
import Derived.Test.YthobnigjhedjaaaDoorSeal
import Derived.Deep.CutBlock
namespace Go.Proofs.YthobnigjhedjaaaDoor
open Go.RowKit Go.ChangeShapes Go.WideShapes
set_option linter.unusedVariables false

theorem upto_ok (g c at_ : Nat) (A : Option Addr) (l tail : List UInt8) (F : Nat → Prop) (n most : Int) (w : World) (h : RdAt w g A l.length c at_ .nilIface) (hl : SlA bytE F w A c l) (hF : ¬ F g) (hlt : ∀ k, F k → k < w.heap.size) (h0 : 0 ≤ n) (h1 : n ≤ most) (h2 : n ≤ 9223372036854775807) (hd : l.drop at_ = numB n ++ tail) :
    Calls Tryd.prog 85 #[.pointer (some ⟨g, 0, none⟩), .int .i64 most] w fun e w' => e = .returned (.int .i64 n) ∧ RdAt w' g A l.length c (at_ + (numB n).length) .nilIface ∧ Frm (· = g) w w' := by
  have HN := Lib.hid (rdNum_ok g c at_ A l tail F n w h hl hF hlt (by omega) h2 hd)
  have d1 : decide (n < 0) = false := decide_eq_false (by omega)
  have d2 : decide (most < n) = false := decide_eq_false (by omega)
  clear h hl hF hlt hd
  go_enter Tryd.func85, Tryd.ntmps85
  go_wp2_with fail
  refine HN.out.mono ?_
  rintro e w1 ⟨rfl, hr, hf⟩
  have HR := Lib.hid hr
  have HF := Lib.hid hf
  clear hr hf HN
  go_wp2_with fail
  go_ret
  exact ⟨rfl, HR.out, HF.out⟩
theorem numB_pos (n : Int) : 0 < (numB n).length := by
  rw [numB_length]
  unfold numBytes
  unfold vl
  split <;> simp
theorem textB_length (s : ByteArray) : (textB s).length = (numB s.size).length + s.size := by
  unfold textB; rw [List.length_append, Array.length_toList]; rfl
set_option maxRecDepth 100000 in
theorem rdText_ok (g c at_ : Nat) (A : Option Addr) (l tail : List UInt8) (F : Nat → Prop) (s : ByteArray) (most : Nat) (w : World) (h : RdAt w g A l.length c at_ .nilIface) (hl : SlA bytE F w A c l) (hF : ¬ F g) (hlt : ∀ k, F k → k < w.heap.size) (h1 : s.size ≤ most) (hb : l.length ≤ 1099511627776) (hm : most ≤ 1099511627776) (hd : l.drop at_ = textB s ++ tail) (hat : at_ ≤ l.length) :
    Calls Tryd.prog 86 #[.pointer (some ⟨g, 0, none⟩), .int .i64 most] w fun e w' => e = .returned (.string s) ∧ RdAt w' g A l.length c (at_ + (textB s).length) .nilIface ∧ Frm (· = g) w w' := by
  obtain ⟨m, hm'⟩ : ∃ m, m = (numB s.size).length := ⟨_, rfl⟩
  obtain ⟨n, hn⟩ : ∃ n, n = s.size := ⟨_, rfl⟩
  have hd' : l.drop at_ = numB (n : Int) ++ (s.data.toList ++ tail) := by rw [hd, hn]; unfold textB; rw [List.append_assoc]
  have hUP := upto_ok g c at_ A l (s.data.toList ++ tail) F (n : Int) (most : Int) w h hl hF hlt (by omega) (by omega) (by omega) hd'
  rw [show (numB (n : Int)).length = m by rw [hm', hn]] at hUP
  have hsl : s.data.toList.length = n := by rw [Array.length_toList, hn]; rfl
  have hlen : l.length - at_ = m + n + tail.length := by
    have := congrArg List.length hd'
    rw [List.length_drop, List.length_append, List.length_append, hsl, show (numB (n : Int)).length = m by rw [hm', hn]] at this
    omega
  have hbytes : (l.drop (at_ + m)).take n = s.data.toList := by
    rw [← List.drop_drop, hd', show m = (numB (n : Int)).length by rw [hm', hn], List.drop_left, ← hsl, List.take_left]
  have htl : (textB s).length = m + n := by rw [textB_length, hm', hn]
  rw [htl]
  have hgl := h.lt
  have hpos : 0 < l.length := by
    have h0 : 0 < (numB (n : Int)).length := numB_pos _
    rw [show (numB (n : Int)).length = m by rw [hm', hn]] at h0
    omega
  obtain ⟨b, off, rfl, hbF, _⟩ := hl.byt_ hpos
  have HUP := Lib.hid hUP
  have HL := Lib.hid hl
  have HLT := Lib.hid hlt
  have HNF := Lib.hid hF
  have HBY := Lib.hid hbytes
  have HSL := Lib.hid hsl
  have hp2 : at_ + m + n ≤ l.length := by omega
  obtain ⟨L, hL⟩ : ∃ L, L = l.length := ⟨_, rfl⟩
  have HLL := Lib.hid hL
  have hcap := hl.1
  have hmax := hl.2.1
  rw [← hL] at hb hp2 hcap HUP
  clear h hl hF hlt hd hUP hbytes hm' hn hd' hsl hlen htl h1 hat hL
  go_enter Tryd.func86, Tryd.ntmps86
  go_wp2_with fail
  refine HUP.out.mono ?_
  rintro e w1 ⟨rfl, hr, hf⟩
  obtain ⟨p, hp⟩ : ∃ p, p = at_ + m := ⟨_, rfl⟩
  rw [← hp] at hr hp2
  obtain ⟨x0, x1, x2, xf⟩ := hr.cells
  have xf1 := xf 1
  have hgl1 := hr.lt
  have d1 : decide ((L : Int) - (p : Int) < (n : Int)) = false := decide_eq_false (by omega)
  have hw1 : IntKind.i64.wrap ((L : Int) - (p : Int)) = (L : Int) - (p : Int) := IntWalk.i64_in _ (by omega)
  have HR := Lib.hid hr
  have HF := Lib.hid hf
  have HP := Lib.hid hp
  clear hr hf xf hp HUP
  go_wp2_with fail
  go_quiet (fail)
  go_wp2_with fail
  obtain ⟨W, hW⟩ : ∃ W, W = (w1.drewN nq).setCell ⟨g, 1, none⟩ (.int .i64 ((p : Int) + (n : Int))) := ⟨_, rfl⟩
  rw [← hW]
  have hrW : RdAt W g (some ⟨b, off, none⟩) L c (p + n) .nilIface := by rw [hW]; exact (show RdAt (w1.drewN nq) g (some ⟨b, off, none⟩) L c p .nilIface from HR.out).setAt (p + n)
  have hfW : Frm (· = g) w W := by rw [hW]; exact (HF.out.drewN nq).setCell (.inl rfl) _
  have hlW : SlA bytE F W (some ⟨b, off, none⟩) c l := HL.out.keep (hfW.same HLT.out (fun k hk e => HNF.out (e ▸ hk)))
  have hcut := (hlW.cut (k := p) (by rw [← HLL.out]; omega)).head (k := n) (by rw [List.length_drop, ← HLL.out]; omega)
  rw [HP.out, HBY.out, ← HP.out] at hcut
  have hcv := fun q => conv_string (P := Tryd.prog) (src := 70) (dst := 9) (hcut.drewN q) Tryd.underlying70 Tryd.underlying5 Tryd.underlying9
  have hsl' : s.data.toList.length = n := HSL.out
  rw [string_eq, hsl'] at hcv
  simp only [bytE, Nat.mul_one] at hcv
  have hcw : ∀ q, (convert 70 9 (.slice (if c = p then some ⟨b, off, none⟩ else some ⟨b, off + p, none⟩) n (c - p))).run Tryd.prog (W.drewN q) = .ok (.string s) (W.drewN q) := by
    intro q
    by_cases hcp : c = p
    · have hn0 : n = 0 := by omega
      rw [if_pos hcp]
      have h0 := conv_string (P := Tryd.prog) (src := 70) (dst := 9) (SlA.nil bytE F (W.drewN q) (some ⟨b, off, none⟩) (c - p) (by omega)) Tryd.underlying70 Tryd.underlying5 Tryd.underlying9
      have hs0 : s = ⟨([] : List UInt8).toArray⟩ := by
        rw [hn0] at hsl'
        rw [← string_eq s, List.eq_nil_of_length_eq_zero hsl']
      rw [hn0, hs0]; exact h0
    · rw [if_neg hcp]; exact hcv q
  obtain ⟨y0, y1, y2, yf⟩ := hrW.cells
  simp at y1
  have k1 : IntKind.i64.wrap ((p : Int) + (n : Int) - (n : Int)) = (p : Int) := by rw [IntWalk.i64_in _ (by omega)]; omega
  have k2 : IntKind.i64.wrap (p : Int) = (p : Int) := IntWalk.i64_in _ (by omega)
  have hgW := hrW.lt
  have HRW := Lib.hid hrW
  have HFW := Lib.hid hfW
  clear hW hrW hfW hlW hcut hsl' hcv yf x0 x1 x2 xf1 HR HF d1 hw1
  refine wp_region_quiet_lit (by kernel_rfl) (by kernel_rfl) ?_
  repeat go_big_quiet_step (fail)
  refine wpQuiet_nil ?_
  intro _ hw'
  obtain ⟨nq', hw''⟩ := hw'
  subst hw''
  go_wp2_with fail
  all_goals
    go_ret
    refine ⟨rfl, ?_, HFW.out.drewN _⟩
    have this := HRW.out
    rw [HP.out, HLL.out] at this
    rw [← Nat.add_assoc]
    first
      | exact this
      | (have hcp : c = p := by assumption
         rw [hcp] at this
         exact this)
set_option maxRecDepth 100000 in
theorem rdEnd_ok (g c : Nat) (A : Option Addr) (n : Nat) (w : World) (h : RdAt w g A n c n .nilIface) : Calls Tryd.prog 88 #[.pointer (some ⟨g, 0, none⟩)] w fun e w' => e = .returned .nilIface ∧ ∃ q, w' = w.drewN q := by
  obtain ⟨x0, x1, x2, xf⟩ := h.cells
  have hg := h.lt
  have d1 : decide (n < n) = false := by simp
  clear h xf
  go_enter Tryd.func88, Tryd.ntmps88
  go_wp2_with fail
  go_quiet (fail)
  go_wp2_with fail
  go_ret
  exact ⟨rfl, _, rfl⟩
end Go.Proofs.YthobnigjhedjaaaDoor
