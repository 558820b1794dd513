
/- Songs: the quirks of a dialect, the reference; notes and cells of a dialect. -/
import Derived.Test.YtaacaogceplhoaaIkQuirks
set_option linter.unusedSimpArgs false
set_option linter.unusedVariables false
namespace Go.Vm.X
open Go.Am Go.Vm
attribute [local congr] bind_c ifP_c loop_c K1_c ite_c

end Go.Vm.X
