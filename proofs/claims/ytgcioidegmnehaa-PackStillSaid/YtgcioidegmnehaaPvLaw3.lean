/- Packing: the law PackWrites, as the value machine has it. -/
import Derived.Test.YtgcioidegmnehaaPvProg
set_option linter.unusedSimpArgs false
set_option linter.unusedVariables false
namespace Go.Vm.X
open Go.Am Go.Vm

theorem ex20 (a b : PV) : extractP (.tuple [a, b]) 0 = some a := rfl
theorem ex21 (a b : PV) : extractP (.tuple [a, b]) 1 = some b := rfl
theorem c8 (h : PHeap) : Γ0 8 [] h = some (.bool true, h) := by
  refine gbody (F := A8) (by kernel_rfl) 1 ?_
  rw [s8_eq]
  unfold s8
  have f : fillP (repP [.int .i64 0] 3) [(0, 1, (.int .i64 1 : PV)), (1, 1, (.int .i64 2 : PV)), (2, 1, (.int .i64 3 : PV))] = some [.int .i64 1, .int .i64 2, .int .i64 3] := rfl
  have g : PV.frz 1 (chunk 1 3 [.int .i64 1, .int .i64 2, .int .i64 3]) = ints [1, 2, 3] := rfl
  have hp : ([.int .i64 1, .int .i64 2, .int .i64 3] : List PV).all pure1 = true := rfl
  have e1 : blocksE [1, 2, 3] 8 2 = 0 := by decide +kernel
  have e2 : blocksOf [1, 2, 3] 8 2 = [2, 1] := by decide +kernel
  have e3 : ((byteStr [2, 1]).toList == (⟨#[2, 1]⟩ : ByteArray).toList) = true := by decide +kernel
  simp only [f, Option.bind_some, hp, guard_true, fork_def, g, c11 (l := [1, 2, 3]) 8 2 (by decide) h, e1, e2, ex20, ex21, bin_eql, beq_self_eq_true, K1_def, sc_and, if_true, str_u8s, bin_seq, e3, fin_bool0]
theorem beq_str (s : ByteArray) : (s.toList == s.toList) = true := by simp
theorem c3 {l : List Int} (bits v : Int) (hm : l.length ≤ maxLen) (h : PHeap) : Γ0 3 [ints l, .int .i64 bits, .int .i64 v] h = some (.bool true, h) := by
  refine gbody (F := A3) (by kernel_rfl) 1 ?_
  rw [s3_eq]
  unfold s3
  simp only [len_ints, bin_gtr, Option.bind_some, KL_def, if_bool, decide_eq_true_eq, c8, fin_bool0]
  by_cases h6 : (l.length : Int) > 6000
  · rw [if_pos h6]
  · rw [if_neg h6]
    simp only [c9 bits (show l.length < 9223372036854775808 by omega), c10 bits (show l.length < 4294967296 by omega), c11 bits v (show l.length < 9223372036854775808 by omega), c12 bits v (show l.length < 4294967296 by omega), Option.bind_some, ex20, ex21, bin_eql, beq_self_eq_true, K1_def, sc_and, if_true, str_u8s, bin_seq, beq_str, c8, fin_bool0]
end Go.Vm.X
