/-
  The contract of weirsame.Lines at equal lists. No condition.
-/
import Derived.Test.YthpgkcfkpglkdaaInts
import Derived.Test.YthpgkcfkpglkdaaElts
namespace Go.Proofs.Ythpgkcfkpglkdaa
open Go.RowKit
set_option linter.unusedVariables false

theorem ints_qq {P : Program} {f : FuncId} {args : Array Value} {w : World} {q n : Nat} {v : Value} (h : Calls P f args (w.drewN (q + n)) fun e w' => e = .returned v ∧ ∃ k, w' = (w.drewN (q + n)).drewN k) :
    Calls P f args (w.drewN (q + n)) fun e w'' => e = .returned v ∧ ∃ m, w'' = w.drewN (q + m) :=
  h.mono fun e w' ⟨he, m, hm⟩ => ⟨he, n + m, by rw [hm, World.drewN_drewN, Nat.add_assoc]⟩
set_option maxRecDepth 100000 in
theorem lines_same (A B : Option Addr) (c d : Nat) (l : List Lin) (w : World) (F G : Nat → Prop) (ha : SlA linE F w A c l) (hb : SlA linE G w B d l) :
    Calls Try.prog 7 #[.slice A l.length c, .slice B l.length d] w fun e w' => e = .returned (.bool true) ∧ ∃ k, w' = w.drewN k := by
  have hn := ha.le
  have hca := ha.1
  have hcb := hb.1
  have H := Lib.hid ha
  have H' := Lib.hid hb
  clear ha hb
  go_enter Try.func7, Try.ntmps7
  go_wp2
  go_loopw [5] (fun i wr => ∃ k q : Nat, k ≤ l.length ∧ i = .int .i64 k ∧ wr = w.drewN q) (fun i _ => l.length - (intOf i).toNat)
  case atStart => exact ⟨0, 0, Nat.zero_le _, rfl, rfl⟩
  case round =>
    obtain ⟨k, q, hk, rfl, rfl⟩ := hrel
    by_cases hlt : k < l.length
    · obtain ⟨b, off, A1, c1, rfl, _, x0, x1, _, hx⟩ := H.out.lin_ hlt
      obtain ⟨b', off', A2, c2, rfl, _, y0, y1, _, hy⟩ := H'.out.lin_ hlt
      obtain ⟨s, hs⟩ : ∃ s, s = l[k] := ⟨_, rfl⟩
      rw [← hs] at x0 x1 hx y0 y1 hy
      obtain ⟨sk, sn⟩ := s
      clear hs
      simp only at x0 x1 hx y0 y1 hy
      have hkk : (sk.toList == sk.toList) = true := beq_self_eq_true _
      have HIS := Lib.hid (fun n => ints_qq (q := q) (n := n) (ints_same A1 A2 c1 c2 sn (w.drewN (q + n)) _ _ (hx.drewN (q + n)) (hy.drewN (q + n))))
      clear hx hy
      go_wp2
      go_quiet ((with_reducible exact HIS.out _))
      go_wp2
      go_quiet (fail)
      go_wp2
      go_roundw
      case rel => exact ⟨k + 1, _, by omega, by go_num, by first | rfl | exact World.drewN_drewN _ _ _⟩
      case measure => simp [intOf]; omega
    · go_wp2
      go_ret
      exact ⟨rfl, q, rfl⟩
end Go.Proofs.Ythpgkcfkpglkdaa
