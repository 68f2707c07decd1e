/-
  From what the row lists to what the walks of package expr ask: the two variables of Atoi's errors hold errors. No condition.
-/
import Derived.Test.YtmbhfadidpkkhaaDoorExprParse
import Derived.Test.YtmbhfadidpkkhaaDoorRows
import Derived.LaidLaws
import Derived.Lib.LaidU8
namespace Go.Proofs.YtmbhfadidpkkhaaDoor
open Go.RowKit Go.Shelf
set_option linter.unusedVariables false

theorem err_of_reads {w : World} {n nm : String} {g : Nat} {d : DataW Unit} (hg : Tryd.prog.globalNamed n = some g) (ht : (Tryd.prog.globals[g]?).map (·.type) = some 24) (h : Lib.VarReads Tryd.prog w n (.iface nm d)) :
    ∃ ev, w.cell? ⟨g, 0, none⟩ = some ev ∧ (ev = .nilIface ∨ ∃ te pe, ev = .iface te pe) := by
  obtain ⟨g', t', cs, fuel, p, hg', ht', hvar, hd⟩ := h
  obtain rfl := Option.some.inj (hg.symm.trans hg')
  obtain rfl := Option.some.inj (ht.symm.trans ht')
  obtain ⟨_, u, v, hcs, _, _⟩ := iface_of_trod Tryd.underlying24 hd
  refine ⟨.iface u v, ?_, .inr ⟨u, v, rfl⟩⟩
  obtain ⟨l⟩ := cs
  have hl : l = [.iface u v] := hcs
  subst hl
  simpa using World.var?_cell hg hvar 0
theorem errVars_of_reads {w : World} (h1 : Lib.VarReads Tryd.prog w "strconv.ErrSyntax" Rows.laid_strconv_ErrSyntax) (h2 : Lib.VarReads Tryd.prog w "strconv.ErrRange" Rows.laid_strconv_ErrRange) : ErrVars w :=
  ⟨err_of_reads (g := 1) (by kernel_rfl) (by kernel_rfl) h1, err_of_reads (g := 2) (by kernel_rfl) (by kernel_rfl) h2⟩
end Go.Proofs.YtmbhfadidpkkhaaDoor
