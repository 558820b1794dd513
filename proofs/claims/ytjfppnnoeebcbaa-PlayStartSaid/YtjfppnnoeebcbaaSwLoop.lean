/- Songs: loops and limits of samples. -/
import Derived.Test.YtjfppnnoeebcbaaSwPat
set_option linter.unusedSimpArgs false
set_option linter.unusedVariables false
namespace Go.Vm.X
open Go.Am Go.Vm
attribute [local congr] bind_c ifP_c loop_c K1_c ite_c

def loopV (k a b n : Int) : Bool := if k = 0 then a == 0 && b == 0 else if k = 1 ∨ k = 2 then decide (0 ≤ a) && decide (a < b) && decide (b ≤ n) else false
theorem c74 (k a b n : Int) (h : PHeap) : Γ0 74 [.int .i64 k, .int .i64 a, .int .i64 b, .int .i64 n] h = some (.bool (loopV k a b n), h) := by
  refine gbody (F := A74) (by kernel_rfl) 1 ?_
  rw [s74_eq]
  unfold s74 loopV
  by_cases h0 : k = 0
  · subst h0
    simp only [bin_eql, bS, ↓KLn, if_bool, beq_self_eq_true, if_true, K1_and, fin_bool0]
  · have e0 : (k == 0) = false := by rw [beq_eq_false_iff_ne]; exact h0
    by_cases h1 : k = 1
    · subst h1
      simp only [bin_eql, bin_leq, bin_lss, bS, ↓KLn, if_bool, e0, h0, beq_self_eq_true, Bool.false_eq_true, if_false, if_true, true_or, nth_zero, K1_and, fin_bool0]
    · have e1 : (k == 1) = false := by rw [beq_eq_false_iff_ne]; exact h1
      by_cases h2 : k = 2
      · subst h2
        simp only [bin_eql, bin_leq, bin_lss, bS, ↓KLn, if_bool, e0, e1, h0, h1, beq_self_eq_true, Bool.false_eq_true, if_false, if_true, or_true, nth_zero, K1_and, fin_bool0]
      · have e2 : (k == 2) = false := by rw [beq_eq_false_iff_ne]; exact h2
        simp only [bin_eql, bS, ↓KLn, if_bool, e0, e1, e2, h0, h1, h2, Bool.false_eq_true, if_false, or_self, nth_zero, fin_bool0]
theorem c84 (k a b n : Int) (h : PHeap) : Γ0 84 [.int .i64 k, .int .i64 a, .int .i64 b, .int .i64 n] h = some (.bool (loopV k a b n), h) := by
  refine gbody (F := A84) (by kernel_rfl) 1 ?_
  rw [s84_eq]
  unfold s84 loopV
  by_cases h0 : k = 0
  · subst h0
    simp only [bin_eql, bS, ↓KLn, if_bool, beq_self_eq_true, if_true, K1_and, fin_bool0]
  · have e0 : (k == 0) = false := by rw [beq_eq_false_iff_ne]; exact h0
    by_cases h1 : k = 1
    · subst h1
      simp only [bin_eql, bin_leq, bin_lss, bS, ↓KLn, if_bool, e0, h0, beq_self_eq_true, Bool.false_eq_true, if_false, if_true, true_or, nth_zero, K1_and, fin_bool0]
    · have e1 : (k == 1) = false := by rw [beq_eq_false_iff_ne]; exact h1
      by_cases h2 : k = 2
      · subst h2
        simp only [bin_eql, bin_leq, bin_lss, bS, ↓KLn, if_bool, e0, e1, h0, h1, beq_self_eq_true, Bool.false_eq_true, if_false, if_true, or_true, nth_zero, K1_and, fin_bool0]
      · have e2 : (k == 2) = false := by rw [beq_eq_false_iff_ne]; exact h2
        simp only [bin_eql, bS, ↓KLn, if_bool, e0, e1, e2, h0, h1, h2, Bool.false_eq_true, if_false, or_self, nth_zero, fin_bool0]
theorem fin_ii {h : PHeap} {a b : Int} : finP [.keep, .keep] h h [.int .i64 a, .int .i64 b] = some (.tuple [.int .i64 a, .int .i64 b], h) := by
  simp only [fin_def, fzL_cons, fzL_nil, fz_keep, Option.bind_some, Option.map_some, single_two, trim_self]
def topV (bits : Int) : Int := if bits = 8 then 128 else 32768
theorem c73 {bits : Int} (hb : bits = 8 ∨ bits = 16) (h : PHeap) : Γ0 73 [.int .i64 bits] h = some (.tuple [.int .i64 (-topV bits), .int .i64 (topV bits - 1)], h) := by
  refine gbody (F := A73) (by kernel_rfl) 1 ?_
  rw [s73_eq]
  rcases hb with rfl | rfl
  · exact Eq.trans (show _ = finP [.keep, .keep] h h [.int .i64 (-topV 8), .int .i64 (topV 8 - 1)] by kernel_rfl) fin_ii
  · exact Eq.trans (show _ = finP [.keep, .keep] h h [.int .i64 (-topV 16), .int .i64 (topV 16 - 1)] by kernel_rfl) fin_ii
def fitV (x bits : Int) : Bool := decide (-topV bits ≤ x) && decide (x < topV bits)
theorem c83 {bits : Int} (hb : bits = 8 ∨ bits = 16) (x : Int) (h : PHeap) : Γ0 83 [.int .i64 x, .int .i64 bits] h = some (.bool (fitV x bits), h) := by
  refine gbody (F := A83) (by kernel_rfl) 1 ?_
  rw [s83_eq]
  unfold s83 fitV
  have e1 : binP .sub (.int .i64 bits) (.int .i64 1) = some (.int .i64 (bits - 1)) := by rcases hb with rfl | rfl <;> rfl
  have e2 : binP .shl (.int .i64 1) (.int .i64 (bits - 1)) = some (.int .i64 (topV bits)) := by rcases hb with rfl | rfl <;> rfl
  have e3 : unP .neg (.int .i64 (topV bits)) = some (.int .i64 (-topV bits)) := by rcases hb with rfl | rfl <;> rfl
  simp only [e1, e2, e3, bin_leq, bin_lss, bS, K1_and, fin_bool0]
end Go.Vm.X
