
/- Songs: notes of a dialect. -/
import Derived.Test.YtaacaogceplhoaaIkQuirksR
set_option linter.unusedSimpArgs false
set_option linter.unusedVariables false
namespace Go.Vm.X
open Go.Am Go.Vm
attribute [local congr] bind_c ifP_c loop_c K1_c ite_c

def lowQ (d : Int) : Int := if d = 1 then 49 else if d = 2 then 13 else if d = 3 then 1 else if d = 4 then 1 else if d = 5 then 13 else if d = 6 then 13 else 0
def highQ (d : Int) : Int := if d = 1 then 84 else if d = 2 then 108 else if d = 3 then 96 else if d = 4 then 120 else if d = 5 then 72 else if d = 6 then 108 else 0
theorem q_low (d : Int) : (qOf d)[4]? = some (.int .i64 (lowQ d)) := by
  unfold qOf lowQ
  repeat' split
  all_goals rfl
theorem q_high (d : Int) : (qOf d)[5]? = some (.int .i64 (highQ d)) := by
  unfold qOf highQ
  repeat' split
  all_goals rfl
def noteOK (d x : Int) : Bool := if x = 0 then true else if x = 255 then d == 3 || d == 4 || d == 6 else if x = 254 then d == 2 || d == 4 else if x = 253 then d == 4 else inW x (lowQ d) (highQ d)
end Go.Vm.X
