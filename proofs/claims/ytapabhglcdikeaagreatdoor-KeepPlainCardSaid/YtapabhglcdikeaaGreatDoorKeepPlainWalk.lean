/-
  The walk of KeepPlain: it returns true. Conditions: the table of powers of ten and the variable errors.errorType read as the library's text lays them.
-/
import Derived.Test.YtapabhglcdikeaaGreatDoorKeepPlainMain
namespace Go.Proofs.YtapabhglcdikeaaGreatDoor
open Go.RowKit Go.Shelf
set_option linter.unusedVariables false

set_option maxRecDepth 100000 in
theorem keepPlain_walk (A0 : Option Addr) (c0 : Nat) (ids : List Int) (A1 : Option Addr) (c1 : Nat) (b : List UInt8) (many : Int) (w : World) (hi : SlA (intE .i64) (· < w.heap.size) w A0 c0 ids) (hb : SlA bytE (· < w.heap.size) w A1 c1 b) (hm : (Lit.int .i64 many).wf = true) (hT : PowTab w) (hE : ErrVar w) :
    Calls Tryz.prog 4 #[.slice A0 ids.length c0, .slice A1 b.length c1, .int .i64 many] w fun e w' => e = .returned (.bool true) ∧ Below w.heap.size w w' := by
  by_cases hbl : b.length ≤ 20000
  · exact plain_good A0 c0 ids A1 c1 b many w hi hb hm hT hE hbl
  · have hle := hb.le
    have q0 : decide (20000 < (b.length : Int)) = true := decide_eq_true (by omega)
    clear hi hb hm hT hE hbl
    go_enter Tryz.func4, Tryz.ntmps4
    go_wp2_with fail
    refine (new_in w).mono ?_
    rintro e w1 ⟨g, rfl, hD1⟩
    have D1 := Lib.hid hD1
    clear hD1
    go_wp2_with fail
    go_ret
    exact ⟨rfl, D1.out.all⟩
end Go.Proofs.YtapabhglcdikeaaGreatDoor
