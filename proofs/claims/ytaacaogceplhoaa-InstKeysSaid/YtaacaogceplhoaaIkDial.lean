
/- Songs: dialects, part 1. -/
import Derived.Test.YtaacaogceplhoaaIkLet
set_option linter.unusedSimpArgs false
set_option linter.unusedVariables false
namespace Go.Vm.X
open Go.Am Go.Vm
attribute [local congr] bind_c ifP_c loop_c K1_c

theorem inW_six {d : Int} (h : inW d 1 6 = true) : d = 1 ∨ d = 2 ∨ d = 3 ∨ d = 4 ∨ d = 5 ∨ d = 6 := by
  unfold inW at h
  simp only [Bool.and_eq_true, decide_eq_true_eq] at h
  omega
end Go.Vm.X
