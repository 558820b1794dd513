/- Songs: cells. -/
import Derived.Test.YtjfppnnoeebcbaaPsGen
set_option linter.unusedSimpArgs false
set_option linter.unusedVariables false
namespace Go.Vm.X
open Go.Am Go.Vm
attribute [local congr] bind_c ifP_c loop_c K1_c

def inW (x lo hi : Int) : Bool := decide (lo ≤ x) && decide (x ≤ hi)
theorem c42 (x lo hi : Int) (h : PHeap) : Γ0 42 [.int .i64 x, .int .i64 lo, .int .i64 hi] h = some (.bool (inW x lo hi), h) := by
  refine gbody (F := A42) (by kernel_rfl) 1 ?_
  rw [s42_eq]
  unfold s42 inW
  simp only [bin_geq, bin_leq, bS, K1_and, fin_bool0, ge_iff_le]
theorem c64 (x lo hi : Int) (h : PHeap) : Γ0 64 [.int .i64 x, .int .i64 lo, .int .i64 hi] h = some (.bool (inW x lo hi), h) := by
  refine gbody (F := A64) (by kernel_rfl) 1 ?_
  rw [s64_eq]
  unfold s64 inW
  simp only [bin_geq, bin_leq, bS, K1_and, fin_bool0, ge_iff_le]
theorem c77 (x lo hi : Int) (h : PHeap) : Γ0 77 [.int .i64 x, .int .i64 lo, .int .i64 hi] h = some (.bool (inW x lo hi), h) := by
  refine gbody (F := A77) (by kernel_rfl) 1 ?_
  rw [s77_eq]
  unfold s77 inW
  simp only [bin_geq, bin_leq, bS, K1_and, fin_bool0, ge_iff_le]
theorem c33 (x lo hi : Int) (h : PHeap) : Γ0 33 [.int .i64 x, .int .i64 lo, .int .i64 hi] h = some (.bool (inW x lo hi), h) := by
  refine gbody (F := A33) (by kernel_rfl) 1 ?_
  rw [s33_eq]
  unfold s33 inW
  simp only [bin_geq, bin_leq, bS, K1_and, fin_bool0]
theorem c39 (d : Int) (h : PHeap) : Γ0 39 [.int .i64 d] h = some (.bool (inW d 1 6), h) := by
  refine gbody (F := A39) (by kernel_rfl) 1 ?_
  rw [s39_eq]
  unfold s39 inW
  simp only [bin_geq, bin_leq, bS, K1_and, fin_bool0, ge_iff_le]
theorem c63 (x : Int) (h : PHeap) : Γ0 63 [.int .i64 x] h = some (.bool (inW x 1 16), h) := by
  refine gbody (F := A63) (by kernel_rfl) 1 ?_
  rw [s63_eq]
  unfold s63
  simp only [c64, bS, fin_bool0]
/-- A cell: note, inst, volume's command and number, effect, parameter. -/
structure Cell where
  (note inst vc va ef pa : Int)
def Cell.cs (c : Cell) : List PV := [.int .i64 c.note, .int .i64 c.inst, .int .i64 c.vc, .int .i64 c.va, .int .i64 c.ef, .int .i64 c.pa]
def cellOK (c : Cell) : Bool :=
  (inW c.note 0 120 || c.note == 253 || c.note == 254 || c.note == 255) && inW c.inst 0 31 && (inW c.vc 0 12 && inW c.va 0 99 && (decide (c.vc > 0) || c.va == 0)) && (inW c.ef 0 36 && inW c.pa 0 255 && (decide (c.ef > 0) || c.pa == 0))
section
variable {h : PHeap} {c : Cell} {t : TypeId}
theorem cl0 : loadP false 1 (.ptr h.length 0) (h ++ [.box c.cs t .rw]) = some (.int .i64 c.note) := load_new rfl
theorem cl1 : loadP false 1 (.ptr h.length 1) (h ++ [.box c.cs t .rw]) = some (.int .i64 c.inst) := load_new rfl
theorem cl2 : loadP false 1 (.ptr h.length 2) (h ++ [.box c.cs t .rw]) = some (.int .i64 c.vc) := load_new rfl
theorem cl3 : loadP false 1 (.ptr h.length 3) (h ++ [.box c.cs t .rw]) = some (.int .i64 c.va) := load_new rfl
theorem cl4 : loadP false 1 (.ptr h.length 4) (h ++ [.box c.cs t .rw]) = some (.int .i64 c.ef) := load_new rfl
theorem cl5 : loadP false 1 (.ptr h.length 5) (h ++ [.box c.cs t .rw]) = some (.int .i64 c.pa) := load_new rfl
theorem cells_agg (l : List PV) : cellsP (.agg l) = l := rfl
end
theorem c66 (c : Cell) (h : PHeap) : Γ0 66 [.agg c.cs] h = some (.bool (cellOK c), h) := by
  refine gbody (F := A66) (by kernel_rfl) 1 ?_
  rw [s66_eq]
  unfold s66 cellOK
  simp only [fork_def, cells_agg, field_new, cl0, cl1, cl2, cl3, cl4, cl5, c64, bin_eql, bin_gtr, bS, K1_or, K1_and, K1_one, fin_bool]
theorem c89 (c : Cell) (h : PHeap) : Γ0 89 [.agg c.cs] h = some (.bool (cellOK c), h) := by
  refine gbody (F := A89) (by kernel_rfl) 1 ?_
  rw [s89_eq]
  unfold s89
  simp only [fork_def, cells_agg, field_new, cl0, cl1, cl2, cl3, cl4, cl5, bin_eql, bin_leq, bS, K1_or, K1_and, K1_one, fin_bool]
  congr 3
  unfold cellOK inW
  rw [Bool.eq_iff_iff]
  simp only [Bool.and_eq_true, Bool.or_eq_true, decide_eq_true_eq, beq_iff_eq]
  omega
end Go.Vm.X
