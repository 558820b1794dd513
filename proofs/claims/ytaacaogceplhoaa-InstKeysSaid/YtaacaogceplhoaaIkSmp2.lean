
/- Songs: samples, the program's walk. -/
import Derived.Test.YtaacaogceplhoaaIkSmp
set_option linter.unusedSimpArgs false
set_option linter.unusedVariables false
namespace Go.Vm.X
open Go.Am Go.Vm
attribute [local congr] bind_c ifP_c loop_c K1_c ite_c

theorem fit_bad (x bits : Int) : (decide (x < -topV bits) || decide (x > topV bits - 1)) = !fitV x bits := by
  unfold fitV
  rw [Bool.eq_iff_iff]
  simp only [Bool.or_eq_true, decide_eq_true_eq, Bool.not_eq_true', Bool.and_eq_false_iff, decide_eq_false_iff_not]
  omega
theorem smpR_not (s : Smp) : (((((((decide (s.rate < 1) || decide (s.rate > 65535)) || decide (s.vol < 0)) || decide (s.vol > 64)) || decide (s.pan < -1)) || decide (s.pan > 256)) || decide (s.fine < -64)) || decide (s.fine > 63)) = !smpR s := by
  unfold smpR
  rw [Bool.eq_iff_iff]
  simp only [Bool.or_eq_true, Bool.not_eq_true', decide_eq_true_eq, decide_eq_false_iff_not]
  omega
theorem smpB_not (s : Smp) : ((decide ((s.name.size : Int) > 22) || ((s.bits != 8) && (s.bits != 16))) || decide ((s.data.length : Int) > 4096)) = !(decide (s.name.size ≤ 22) && smpB s) := by
  unfold smpB
  rw [Bool.eq_iff_iff]
  simp only [Bool.or_eq_true, Bool.and_eq_true, Bool.not_eq_true', Bool.and_eq_false_iff, decide_eq_true_eq, decide_eq_false_iff_not, bne_iff_ne, ne_eq]
  omega
end Go.Vm.X
