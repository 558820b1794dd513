/- Songs: the quirks of a dialect, the reference; notes and cells of a dialect. -/
import Derived.Test.YtjfppnnoeebcbaaSwQuirks
set_option linter.unusedSimpArgs false
set_option linter.unusedVariables false
namespace Go.Vm.X
open Go.Am Go.Vm
attribute [local congr] bind_c ifP_c loop_c K1_c ite_c

theorem q_end (d e : Int) (h : PHeap) (t : TypeId) : ((storeP 29 (.ptr h.length 0) (.agg (qOf d)) (h ++ [.box Z29 t .rw])).bind fun h12 => (loadP true 29 (.ptr h.length 0) h12).bind fun v13 => finP [.keep, .keep] h h12 [v13, .int .i64 e]) = some (.tuple [.agg (qOf d), .int .i64 e], h) := by
  have hz : Z29.length = 29 := rfl
  rw [box_set hz (qOf_len d) (by decide) (qOf_one d), bS, box_all (qOf_len d), bS, fin_qe]
theorem c29 (d : Int) (h : PHeap) : Γ0 29 [.int .i64 d] h = some (.tuple [.agg (qOf d), .int .i64 (kindE d)], h) := by
  refine gbody (F := A29) (by kernel_rfl) 1 ?_
  rw [s29_eq]
  cases hd : inW d 1 6 with
  | true =>
    rcases inW_six hd with rfl | rfl | rfl | rfl | rfl | rfl
    · exact Eq.trans (show _ = (storeP 29 (.ptr h.length 0) (.agg (qOf 1)) (h ++ [.box Z29 82 .rw])).bind fun h12 => (loadP true 29 (.ptr h.length 0) h12).bind fun v13 => finP [.keep, .keep] h h12 [v13, .int .i64 (kindE 1)] by kernel_rfl) (q_end 1 (kindE 1) h 82)
    · exact Eq.trans (show _ = (storeP 29 (.ptr h.length 0) (.agg (qOf 2)) (h ++ [.box Z29 82 .rw])).bind fun h12 => (loadP true 29 (.ptr h.length 0) h12).bind fun v13 => finP [.keep, .keep] h h12 [v13, .int .i64 (kindE 2)] by kernel_rfl) (q_end 2 (kindE 2) h 82)
    · exact Eq.trans (show _ = (storeP 29 (.ptr h.length 0) (.agg (qOf 3)) (h ++ [.box Z29 82 .rw])).bind fun h12 => (loadP true 29 (.ptr h.length 0) h12).bind fun v13 => finP [.keep, .keep] h h12 [v13, .int .i64 (kindE 3)] by kernel_rfl) (q_end 3 (kindE 3) h 82)
    · exact Eq.trans (show _ = (storeP 29 (.ptr h.length 0) (.agg (qOf 4)) (h ++ [.box Z29 82 .rw])).bind fun h12 => (loadP true 29 (.ptr h.length 0) h12).bind fun v13 => finP [.keep, .keep] h h12 [v13, .int .i64 (kindE 4)] by kernel_rfl) (q_end 4 (kindE 4) h 82)
    · exact Eq.trans (show _ = (storeP 29 (.ptr h.length 0) (.agg (qOf 5)) (h ++ [.box Z29 82 .rw])).bind fun h12 => (loadP true 29 (.ptr h.length 0) h12).bind fun v13 => finP [.keep, .keep] h h12 [v13, .int .i64 (kindE 5)] by kernel_rfl) (q_end 5 (kindE 5) h 82)
    · exact Eq.trans (show _ = (storeP 29 (.ptr h.length 0) (.agg (qOf 6)) (h ++ [.box Z29 82 .rw])).bind fun h12 => (loadP true 29 (.ptr h.length 0) h12).bind fun v13 => finP [.keep, .keep] h h12 [v13, .int .i64 (kindE 6)] by kernel_rfl) (q_end 6 (kindE 6) h 82)
  | false =>
    have hd' := hd
    unfold inW at hd'
    simp only [Bool.and_eq_false_iff, decide_eq_false_iff_not] at hd'
    have e1 : (d == 1) = false := by rw [beq_eq_false_iff_ne]; omega
    have e2 : (d == 2) = false := by rw [beq_eq_false_iff_ne]; omega
    have e3 : (d == 3) = false := by rw [beq_eq_false_iff_ne]; omega
    have e4 : (d == 4) = false := by rw [beq_eq_false_iff_ne]; omega
    have e5 : (d == 5) = false := by rw [beq_eq_false_iff_ne]; omega
    have e6 : (d == 6) = false := by rw [beq_eq_false_iff_ne]; omega
    have hk : kindE d = 6 := by unfold kindE; rw [hd]; rfl
    have hq := q_end d 6 h 82
    rw [qOf_out hd] at hq ⊢
    rw [hk]
    unfold s29
    simp only [fork_def, bin_eql, bS, ↓KLn, if_bool, e1, e2, e3, e4, e5, e6, Bool.false_eq_true, if_false]
    exact Eq.trans (show _ = (storeP 29 (.ptr h.length 0) (.agg qrow0) (h ++ [.box Z29 82 .rw])).bind fun h12 => (loadP true 29 (.ptr h.length 0) h12).bind fun v13 => finP [.keep, .keep] h h12 [v13, .int .i64 6] from rfl) hq
end Go.Vm.X
