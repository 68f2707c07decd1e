/-
  The walk of GroupKeys: it returns true. Conditions: the variable errors.errorType holds the handle of the type error; the key has no more bytes than there may be.
-/
import Derived.Test.YtbhapjipledioaaDoorBigXor
import Derived.Test.YtbhapjipledioaaDoorErrAs
namespace Go.Proofs.YtbhapjipledioaaDoor
open Go.RowKit Go.ChangeShapes Go.WideShapes
set_option linter.unusedVariables false

theorem i64_xor_nat (a b : Nat) (ha : a < 4294967296) (hb : b < 4294967296) : bits .xor .i64 (a : Int) (b : Int) = ((a ^^^ b : Nat) : Int) := by
  have h3 : ∀ x : Nat, x < 4294967296 → (((x : Int) % ((2 ^ IntKind.i64.bits : Nat) : Int)).toNat) = x := fun x hx => by
    show (((x : Int) % ((18446744073709551616 : Nat) : Int)).toNat) = x
    omega
  unfold bits
  simp only [BitVec.toNat_xor, BitVec.toNat_ofInt]
  rw [h3 a ha, h3 b hb]
  have := Nat.xor_lt_two_pow (n := 32) (x := a) (y := b) (by simpa using ha) (by simpa using hb)
  exact IntWalk.i64_in _ (by omega)
theorem newNat_ok (k : Nat) (w : World) (hk : k < 9223372036854775808) :
    Calls Tryd.prog 8 #[.int .i64 (k : Int)] w fun e w' => ∃ g, e = .returned (.pointer (some ⟨g, 0, none⟩)) ∧ BigAt w' g false k ∧ Below w.heap.size w w' ∧ w.heap.size ≤ g := by
  have HS := Lib.hid (fun W g v0 hg => setInt_ok (k : Int) g false v0 W (by omega) hg)
  go_enter Tryd.func8, Tryd.ntmps8
  go_wp2_with fail
  refine (HS.out _ w.heap.size _ (heap_alloc_new _ _)).mono ?_
  rintro e w2 ⟨rfl, h1, h2⟩
  rw [decide_eq_false (by omega), Int.natAbs_natCast] at h1
  have HR := Lib.hid (And.intro h1 (And.intro (((Below.refl w.heap.size w).alloc (Nat.le_refl _) _).trans (h2.below (by simp) (fun k hk => by omega))) (Nat.le_refl w.heap.size)))
  clear h1 h2
  go_wp2_with fail
  go_ret
  exact ⟨_, rfl, HR.out⟩
theorem hash32_lt (l : List UInt8) : hash32 l < 4294967296 := by
  unfold hash32
  have h : ∀ (l : List UInt8) (x : Nat), x < 4294967296 → l.foldl (fun x c => hstep x c.toNat) x < 4294967296 := fun l => by
    induction l with
    | nil => intro x hx; exact hx
    | cons c l ih => intro x _; exact ih _ (hstep_lt _ _)
  exact h l _ (by omega)
/-- What the reference's loop holds. -/
structure GAt (w W : World) (g0 gx m : Nat) : Prop where
  x : BigAt W gx false m
  md : BigAt W g0 false 4294967296
  ne : gx ≠ g0
  below : Below w.heap.size w W
  hx : w.heap.size ≤ gx
theorem GAt.new {w W W' : World} {g0 gx m : Nat} (h : GAt w W g0 gx m) (hb : Below W.heap.size W W') : GAt w W' g0 gx m :=
  ⟨h.x.below hb, h.md.below hb, h.ne, h.below.trans (hb.mono h.below.size), h.hx⟩
theorem GAt.turn {w W W' : World} {g0 gx m m' : Nat} (h : GAt w W g0 gx m) (hf : Frm (· = gx) W W') (hx : BigAt W' gx false m') : GAt w W' g0 gx m' :=
  ⟨hx, h.md.frm hf (fun e => h.ne e.symm) (fun k hk => by rw [hk]; exact h.x.obj), h.ne, h.below.trans (hf.below h.below.size (fun k hk => by have := h.hx; omega)), h.hx⟩
set_option maxRecDepth 100000 in
set_option maxHeartbeats 1000000 in
theorem refGroup_ok (s : ByteArray) (w : World) (hs : s.size ≤ maxLen) :
    Calls Tryd.prog 5 #[.string s] w fun e w' => e = .returned (.int .i64 (ofKey s)) ∧ Below w.heap.size w w' := by
  unfold maxLen at hs
  have HN := Lib.hid newNat_ok
  go_enter Tryd.func5, Tryd.ntmps5
  go_wp2_with fail
  refine (HN.out 4294967296 w (by decide)).mono ?_
  rintro e w1 ⟨g0, rfl, h0, hb1, hg0⟩
  have H0 := Lib.hid h0
  have HB1 := Lib.hid hb1
  clear h0 hb1
  go_wp2_with fail
  refine (HN.out 2166136261 w1 (by decide)).mono ?_
  rintro e w2 ⟨gx, rfl, hx, hb2, hgx⟩
  have HA : Hid (GAt w w2 g0 gx 2166136261) := ⟨hx, H0.out.below hb2, (by have := (by obtain ⟨_, _, _, _, h⟩ := H0.out.obj; exact block_lt h : g0 < w1.heap.size); omega), HB1.out.trans (hb2.mono HB1.out.size), Nat.le_trans HB1.out.size hgx⟩
  clear hx hb2 H0 HB1
  go_wp2_with fail
  go_loopw [5] (fun iv wx => ∃ k : Nat, k ≤ s.size ∧ iv = .int .i64 k ∧ Hid (GAt w wx g0 gx (hash32 (s.data.toList.take k)))) (fun iv _ => s.size - (intOf iv).toNat)
  case atStart => exact ⟨0, Nat.zero_le _, rfl, (by show GAt _ _ _ _ (hash32 []); exact HA.out)⟩
  case round =>
    clear HA
    obtain ⟨k, hk, rfl, HA⟩ := hrel
    by_cases hlt : k < s.size
    · have HSN := Lib.hid (hash32_snoc s k hlt)
      obtain ⟨m, hm⟩ : ∃ m, m = hash32 (s.data.toList.take k) := ⟨_, rfl⟩
      rw [← hm] at HA HSN
      have hm32 : m < 4294967296 := by
        rw [hm]
        cases k with
        | zero => show hash32 [] < _; decide
        | succ k => rw [hash32_snoc s k (by omega)]; exact hstep_lt _ _
      have hc := s[k].toNat_lt
      clear hm
      obtain ⟨cn, hcn⟩ : ∃ cn, cn = s[k].toNat := ⟨_, rfl⟩
      rw [← hcn] at hc HSN
      have hci : wrap64 (s[k].toNat : Int) = (cn : Int) := by rw [← hcn]; exact IntWalk.wrap64_in _ (by omega)
      clear hcn
      have h100 : ∀ z : Nat, z < 18446744073709551616 → z < 4294967296 ^ 100 := fun z hz => Nat.lt_of_lt_of_le hz (Nat.le_trans (show 18446744073709551616 ≤ 4294967296 ^ 2 by decide) (Nat.pow_le_pow_right (by decide) (by decide)))
      have hxb : m ^^^ cn < 4294967296 := by
        have := Nat.xor_lt_two_pow (n := 32) (x := m) (y := cn) (by simpa using hm32) (by show cn < 4294967296; omega)
        simpa using this
      have H100 := Lib.hid h100
      clear h100
      go_wp2_with fail
      refine (HN.out cn wr (by omega)).mono ?_
      rintro e w3 ⟨gc, rfl, hgc, hb3, hgcw⟩
      have ha3 := HA.out.new hb3
      have HX := Lib.hid (xorN_ok gx gx gc m cn w3 ha3.x.obj ha3.x hgc (H100.out _ (by omega)) (H100.out _ (by omega)))
      have HA3 := Lib.hid ha3
      clear ha3 hgc hb3 HA
      go_wp2_with fail
      refine HX.out.mono ?_
      rintro e w4 ⟨rfl, hx4, hf4⟩
      have HA4 := Lib.hid (HA3.out.turn hf4 hx4)
      clear hx4 hf4 HX HA3
      go_wp2_with fail
      refine (HN.out 16777619 w4 (by decide)).mono ?_
      rintro e w5 ⟨gm, rfl, hgm, hb5, hgmw⟩
      have ha5 := HA4.out.new hb5
      have HX := Lib.hid (mulN_ok gx gx gm (m ^^^ cn) 16777619 w5 ha5.x.obj ha5.x hgm (by have := (by obtain ⟨_, _, _, _, h⟩ := HA4.out.x.obj; exact block_lt h : gx < w4.heap.size); omega) (H100.out _ (by omega)) (H100.out _ (by decide)))
      have HA5 := Lib.hid ha5
      clear ha5 hgm hb5 HA4
      go_wp2_with fail
      refine HX.out.mono ?_
      rintro e w6 ⟨rfl, hx6, hf6⟩
      have ha6 := HA5.out.turn hf6 hx6
      have HX2 := Lib.hid (mod_ok gx g0 ((m ^^^ cn) * 16777619) 4294967296 w6 ha6.x ha6.md (by omega) (by decide))
      have HA6 := Lib.hid ha6
      clear hx6 hf6 HX ha6 HA5
      go_wp2_with fail
      refine HX2.out.mono ?_
      rintro e w7 ⟨rfl, hx7, hf7⟩
      have HA7 : Hid (GAt w w7 g0 gx (hash32 (s.data.toList.take (k + 1)))) := by
        show GAt _ _ _ _ _
        rw [HSN.out]
        exact HA6.out.turn hf7 hx7
      clear hx7 hf7 HX2 HA6
      go_wp2_with fail
      go_roundw
      case rel => exact ⟨k + 1, by omega, by go_num, HA7⟩
      case measure => simp [intOf]; omega
    · have dk : decide (k < s.size) = false := decide_eq_false hlt
      have HV : Hid (GAt w wr g0 gx (hash32 s.data.toList)) := by
        have h1 := HA.out
        rw [List.take_of_length_le (by rw [Array.length_toList]; show s.size ≤ k; omega)] at h1
        exact h1
      obtain ⟨m, hm⟩ : ∃ m, m = hash32 s.data.toList := ⟨_, rfl⟩
      have HOK : Hid (ofKey s = (m / 65536 ^^^ m) % 16) := by show _ = _; rw [hm]; rfl
      rw [← hm] at HV
      have hm32 : m < 4294967296 := by rw [hm]; exact hash32_lt _
      have hI := int64_ok gx false m wr HV.out.x (by omega) (fun _ => by omega)
      rw [if_neg (by decide)] at hI
      have HI := Lib.hid hI
      have HB := Lib.hid HV.out.below
      clear HA hm HV hI
      go_wp2_with fail
      refine HI.out.mono ?_
      rintro e w3 ⟨rfl, rfl⟩
      clear HI
      have hdv : (m : Int).tdiv 65536 = ((m / 65536 : Nat) : Int) := rfl
      have hdv2 : (m : Int) / 65536 = ((m / 65536 : Nat) : Int) := by omega
      obtain ⟨d, hd⟩ : ∃ d, d = m / 65536 := ⟨_, rfl⟩
      rw [← hd] at hdv hdv2 HOK
      have hxr := i64_xor_nat d m (by omega) hm32
      obtain ⟨x, hx⟩ : ∃ x, x = d ^^^ m := ⟨_, rfl⟩
      have hxl : x < 4294967296 := by
        have := Nat.xor_lt_two_pow (n := 32) (x := d) (y := m) (by show d < 4294967296; omega) (by simpa using hm32)
        rw [hx]; simpa using this
      rw [← hx] at hxr HOK
      have hmd : (x : Int).tmod 16 = ((x % 16 : Nat) : Int) := rfl
      have hmd2 : (x : Int) % 16 = ((x % 16 : Nat) : Int) := by omega
      rw [← HOK.out] at hmd hmd2
      have HOF := Lib.hid (ofKey_lt s)
      clear hd hx
      go_wp2_with fail
      go_ret
      exact ⟨by first | rfl | (rw [hmd]; rfl) | (rw [hmd2]; rfl), HB.out⟩
theorem split_ok (s : ByteArray) (n : Nat) (w : World) (hs : s.size ≤ maxLen) (h1 : 1 ≤ n) (h8 : n ≤ 8) :
    Calls Tryd.prog 6 #[.string s, .int .i64 (n : Int)] w fun e w' => e = .returned (.tuple #[.int .i64 ((ofKey s % n : Nat) : Int), .nilIface]) ∧ Below w.heap.size w w' := by
  have HO := Lib.hid (of_any s w hs)
  have d1 : decide (n < 1) = false := decide_eq_false (by omega)
  have d8 : decide (8 < n) = false := decide_eq_false (by omega)
  have hn0 : ((n : Int) == 0) = false := by rw [beq_eq_false_iff_ne]; omega
  have hb := ofKey_lt s
  obtain ⟨m, hm⟩ : ∃ m, m = ofKey s := ⟨_, rfl⟩
  rw [← hm] at hb HO ⊢
  clear hm
  have hmd : (m : Int).tmod (n : Int) = ((m % n : Nat) : Int) := rfl
  have hmd2 : (m : Int) % (n : Int) = ((m % n : Nat) : Int) := rfl
  obtain ⟨r, hr⟩ : ∃ r, r = m % n := ⟨_, rfl⟩
  rw [← hr] at hmd hmd2 ⊢
  clear hr
  go_enter Tryd.func6, Tryd.ntmps6
  go_wp2_with fail
  refine HO.out.mono ?_
  rintro e w2 ⟨rfl, hb2⟩
  have HB := Lib.hid hb2
  clear hb2 HO
  go_wp2_with fail
  go_ret2
  exact ⟨rfl, HB.out⟩
theorem split_bad (s : ByteArray) (n : Int) (w : World) (h : ¬ (1 ≤ n ∧ n ≤ 8)) :
    Calls Tryd.prog 6 #[.string s, .int .i64 n] w fun e w' => e = .returned (.tuple #[.int .i64 0, .iface 36 (.int .i64 1)]) ∧ w = w' := by
  by_cases h1 : n < 1
  · have d1 : decide (n < 1) = true := decide_eq_true h1
    go_enter Tryd.func6, Tryd.ntmps6
    go_wp2_with fail
    go_ret2
    exact ⟨rfl, rfl⟩
  · have d1 : decide (n < 1) = false := decide_eq_false h1
    have d8 : decide (8 < n) = true := decide_eq_true (by omega)
    go_enter Tryd.func6, Tryd.ntmps6
    go_wp2_with fail
    go_ret2
    exact ⟨rfl, rfl⟩
set_option maxRecDepth 100000 in
theorem groupKeys_walk (key : ByteArray) (splits : Int) (w : World) (hkey : key.size ≤ maxLen) (hre : key.size ≤ 140737488351232) (wf : (Lit.int .i64 splits).wf = true) (hv : ErrVar w) :
    Calls Tryd.prog 3 #[.string key, .int .i64 splits] w fun e w' => e = .returned (.bool true) ∧ Below w.heap.size w w' := by
  have HOF := Lib.hid (of_any key w hkey)
  have HRG := Lib.hid (fun W => refGroup_ok key W hkey)
  have HV := Lib.hid hv
  have hpos := hv.pos
  clear hre wf hv
  by_cases h : 1 ≤ splits ∧ splits ≤ 8
  · obtain ⟨n, rfl⟩ : ∃ n : Nat, splits = (n : Int) := ⟨splits.toNat, by omega⟩
    have HSP := Lib.hid (fun W => split_ok key n W hkey (by omega) (by omega))
    have d1 : decide (1 ≤ n) = true := decide_eq_true (by omega)
    have d8 : decide (n ≤ 8) = true := decide_eq_true (by omega)
    have hn0 : ((n : Int) == 0) = false := by rw [beq_eq_false_iff_ne]; omega
    have hb := ofKey_lt key
    obtain ⟨m, hm⟩ : ∃ m, m = ofKey key := ⟨_, rfl⟩
    rw [← hm] at hb HOF HRG HSP
    clear hm hkey
    have hmd : (m : Int).tmod (n : Int) = ((m % n : Nat) : Int) := rfl
    have hmd2 : (m : Int) % (n : Int) = ((m % n : Nat) : Int) := rfl
    obtain ⟨r, hr⟩ : ∃ r, r = m % n := ⟨_, rfl⟩
    rw [← hr] at hmd hmd2 HSP
    clear hr
    go_enter Tryd.func3, Tryd.ntmps3
    go_wp2_with fail
    refine HOF.out.mono ?_
    rintro e w1 ⟨rfl, hb1⟩
    have HB1 := Lib.hid hb1
    clear hb1 HOF
    go_wp2_with fail
    refine (HRG.out w1).mono ?_
    rintro e w2 ⟨rfl, hb2⟩
    have HB2 := Lib.hid (HB1.out.trans (hb2.mono HB1.out.size))
    clear hb2 HRG HB1
    go_wp2_with fail
    refine (HSP.out w2).mono ?_
    rintro e w3 ⟨rfl, hb3⟩
    have HB3 := Lib.hid (HB2.out.trans (hb3.mono HB2.out.size))
    clear hb3 HSP HB2
    go_wp2_with fail
    refine (error_nil 0 w3).mono ?_
    rintro e w4 ⟨rfl, rfl⟩
    go_wp2_with fail
    go_ret
    exact ⟨rfl, HB3.out⟩
  · have HSP := Lib.hid (fun W => split_bad key splits W h)
    have hb := ofKey_lt key
    obtain ⟨m, hm⟩ : ∃ m, m = ofKey key := ⟨_, rfl⟩
    rw [← hm] at hb HOF HRG
    clear hm hkey
    by_cases h1 : 1 ≤ splits
    · have d1 : decide (1 ≤ splits) = true := decide_eq_true h1
      have d8 : decide (splits ≤ 8) = false := decide_eq_false (by omega)
      go_enter Tryd.func3, Tryd.ntmps3
      go_wp2_with fail
      refine HOF.out.mono ?_
      rintro e w1 ⟨rfl, hb1⟩
      have HB1 := Lib.hid hb1
      clear hb1 HOF
      go_wp2_with fail
      refine (HRG.out w1).mono ?_
      rintro e w2 ⟨rfl, hb2⟩
      have HB2 := Lib.hid (HB1.out.trans (hb2.mono HB1.out.size))
      clear hb2 HRG HB1
      go_wp2_with fail
      refine (HSP.out w2).mono ?_
      rintro e w3 ⟨rfl, rfl⟩
      clear HSP
      go_wp2_with fail
      refine (error_errno 1 1 w2 (HV.out.below HB2.out hpos)).mono ?_
      rintro e w4 ⟨rfl, hb4⟩
      have HB4 := Lib.hid (HB2.out.trans (hb4.mono HB2.out.size))
      clear hb4 HB2
      go_wp2_with fail
      go_ret
      exact ⟨rfl, HB4.out⟩
    · have d1 : decide (1 ≤ splits) = false := decide_eq_false h1
      go_enter Tryd.func3, Tryd.ntmps3
      go_wp2_with fail
      refine HOF.out.mono ?_
      rintro e w1 ⟨rfl, hb1⟩
      have HB1 := Lib.hid hb1
      clear hb1 HOF
      go_wp2_with fail
      refine (HRG.out w1).mono ?_
      rintro e w2 ⟨rfl, hb2⟩
      have HB2 := Lib.hid (HB1.out.trans (hb2.mono HB1.out.size))
      clear hb2 HRG HB1
      go_wp2_with fail
      refine (HSP.out w2).mono ?_
      rintro e w3 ⟨rfl, rfl⟩
      clear HSP
      go_wp2_with fail
      refine (error_errno 1 1 w2 (HV.out.below HB2.out hpos)).mono ?_
      rintro e w4 ⟨rfl, hb4⟩
      have HB4 := Lib.hid (HB2.out.trans (hb4.mono HB2.out.size))
      clear hb4 HB2
      go_wp2_with fail
      go_ret
      exact ⟨rfl, HB4.out⟩
end Go.Proofs.YtbhapjipledioaaDoor
