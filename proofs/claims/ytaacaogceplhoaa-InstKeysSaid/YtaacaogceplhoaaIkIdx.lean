
/- Songs: IndexFunc of numbers and of samples. -/
import Derived.Test.YtaacaogceplhoaaIkSmp2
set_option linter.unusedSimpArgs false
set_option linter.unusedVariables false
namespace Go.Vm.X
open Go.Am Go.Vm
attribute [local congr] bind_c ifP_c loop_c K1_c ite_c

def smpsPV (l : List Smp) : PV := .frz 13 (l.map Smp.cs)
theorem len_smps (l : List Smp) : lenP false (smpsPV l) = some (.int .i64 l.length) := len_map
theorem idx_smps {l : List Smp} {i : Nat} {c : Smp} (k : IntKind) (h : l[i]? = some c) : indexAddrP 13 (smpsPV l) (.int k i) = some (.fptr c.cs 0) := idx_map k h
theorem load_smp (c : Smp) (h : PHeap) : loadP true 13 (.fptr c.cs 0) h = some (.agg c.cs) := by rw [load_fptr]; exact part_all rfl
end Go.Vm.X
