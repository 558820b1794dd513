
/- Songs: loops and limits of samples. -/
import Derived.Test.YtaacaogceplhoaaIkPat
set_option linter.unusedSimpArgs false
set_option linter.unusedVariables false
namespace Go.Vm.X
open Go.Am Go.Vm
attribute [local congr] bind_c ifP_c loop_c K1_c ite_c

def loopV (k a b n : Int) : Bool := if k = 0 then a == 0 && b == 0 else if k = 1 ∨ k = 2 then decide (0 ≤ a) && decide (a < b) && decide (b ≤ n) else false
theorem fin_ii {h : PHeap} {a b : Int} : finP [.keep, .keep] h h [.int .i64 a, .int .i64 b] = some (.tuple [.int .i64 a, .int .i64 b], h) := by
  simp only [fin_def, fzL_cons, fzL_nil, fz_keep, Option.bind_some, Option.map_some, single_two, trim_self]
def topV (bits : Int) : Int := if bits = 8 then 128 else 32768
def fitV (x bits : Int) : Bool := decide (-topV bits ≤ x) && decide (x < topV bits)
end Go.Vm.X
