
/- Songs: the places of an envelope. -/
import Derived.Test.YtaacaogceplhoaaIkIdx
set_option linter.unusedSimpArgs false
set_option linter.unusedVariables false
namespace Go.Vm.X
open Go.Am Go.Vm
attribute [local congr] bind_c ifP_c loop_c K1_c ite_c

def rightV (is : Bool) (a b n : Int) : Bool := if is = true then decide (0 ≤ a) && decide (a ≤ b) && decide (b < n) else a == 0 && b == 0
theorem c40 (is : Bool) (a b n : Int) (h : PHeap) : Γ0 40 [.bool is, .int .i64 a, .int .i64 b, .int .i64 n] h = some (.bool (rightV is a b n), h) := by
  refine gbody (F := A40) (by kernel_rfl) 1 ?_
  rw [s40_eq]
  unfold s40 rightV
  cases is with
  | true => simp only [unN, Bool.not_true, bS, ↓KLn, ifbN, Bool.false_eq_true, if_false, if_true, bin_leq, bin_lss, K1_and, fin_bool0]
  | false => simp only [unN, Bool.not_false, bS, ↓KLn, ifbN, Bool.false_eq_true, if_false, if_true, bin_eql, K1_and, fin_bool0]
theorem c39 (is : Bool) (a b n : Int) {h : PHeap} {k : Nat} {v : PV} (hl : loadP false 1 (.ptr k 1) h = some v) (hn : lenP false v = some (.int .i64 n)) : Γ0 39 [.bool is, .int .i64 a, .int .i64 b, .ptr k 0] h = some (.bool (rightV is a b n), h) := by
  refine gbody (F := A39) (by kernel_rfl) 1 ?_
  rw [s39_eq]
  unfold s39 rightV
  cases is with
  | true => simp only [unN, Bool.not_true, bS, ↓KLn, ifbN, Bool.false_eq_true, if_false, if_true, bin_geq, bin_leq, bin_lss, field_new, hl, hn, K1_and, fin_bool0, ge_iff_le]
  | false => simp only [unN, Bool.not_false, bS, ↓KLn, ifbN, Bool.false_eq_true, if_false, if_true, bin_eql, K1_and, fin_bool0]
end Go.Vm.X
