
/- Songs: cells. -/
import Derived.Test.YtaacaogceplhoaaIkGen
set_option linter.unusedSimpArgs false
set_option linter.unusedVariables false
namespace Go.Vm.X
open Go.Am Go.Vm
attribute [local congr] bind_c ifP_c loop_c K1_c

def inW (x lo hi : Int) : Bool := decide (lo ≤ x) && decide (x ≤ hi)
theorem c19 (x lo hi : Int) (h : PHeap) : Γ0 19 [.int .i64 x, .int .i64 lo, .int .i64 hi] h = some (.bool (inW x lo hi), h) := by
  refine gbody (F := A19) (by kernel_rfl) 1 ?_
  rw [s19_eq]
  unfold s19 inW
  simp only [bin_geq, bin_leq, bS, K1_and, fin_bool0, ge_iff_le]
/-- A cell: note, inst, volume's command and number, effect, parameter. -/
structure Cell where
  (note inst vc va ef pa : Int)
def Cell.cs (c : Cell) : List PV := [.int .i64 c.note, .int .i64 c.inst, .int .i64 c.vc, .int .i64 c.va, .int .i64 c.ef, .int .i64 c.pa]
def cellOK (c : Cell) : Bool :=
  (inW c.note 0 120 || c.note == 253 || c.note == 254 || c.note == 255) && inW c.inst 0 31 && (inW c.vc 0 12 && inW c.va 0 99 && (decide (c.vc > 0) || c.va == 0)) && (inW c.ef 0 36 && inW c.pa 0 255 && (decide (c.ef > 0) || c.pa == 0))
section
variable {h : PHeap} {c : Cell} {t : TypeId}
theorem cl0 : loadP false 1 (.ptr h.length 0) (h ++ [.box c.cs t .rw]) = some (.int .i64 c.note) := load_new rfl
theorem cl1 : loadP false 1 (.ptr h.length 1) (h ++ [.box c.cs t .rw]) = some (.int .i64 c.inst) := load_new rfl
theorem cl2 : loadP false 1 (.ptr h.length 2) (h ++ [.box c.cs t .rw]) = some (.int .i64 c.vc) := load_new rfl
theorem cl3 : loadP false 1 (.ptr h.length 3) (h ++ [.box c.cs t .rw]) = some (.int .i64 c.va) := load_new rfl
theorem cl4 : loadP false 1 (.ptr h.length 4) (h ++ [.box c.cs t .rw]) = some (.int .i64 c.ef) := load_new rfl
theorem cl5 : loadP false 1 (.ptr h.length 5) (h ++ [.box c.cs t .rw]) = some (.int .i64 c.pa) := load_new rfl
theorem cells_agg (l : List PV) : cellsP (.agg l) = l := rfl
end
end Go.Vm.X
