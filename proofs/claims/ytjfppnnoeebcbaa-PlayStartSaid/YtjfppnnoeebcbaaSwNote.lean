/- Songs: notes of a dialect. -/
import Derived.Test.YtjfppnnoeebcbaaSwQuirksR
set_option linter.unusedSimpArgs false
set_option linter.unusedVariables false
namespace Go.Vm.X
open Go.Am Go.Vm
attribute [local congr] bind_c ifP_c loop_c K1_c ite_c

def lowQ (d : Int) : Int := if d = 1 then 49 else if d = 2 then 13 else if d = 3 then 1 else if d = 4 then 1 else if d = 5 then 13 else if d = 6 then 13 else 0
def highQ (d : Int) : Int := if d = 1 then 84 else if d = 2 then 108 else if d = 3 then 96 else if d = 4 then 120 else if d = 5 then 72 else if d = 6 then 108 else 0
theorem q_low (d : Int) : (qOf d)[4]? = some (.int .i64 (lowQ d)) := by
  unfold qOf lowQ
  repeat' split
  all_goals rfl
theorem q_high (d : Int) : (qOf d)[5]? = some (.int .i64 (highQ d)) := by
  unfold qOf highQ
  repeat' split
  all_goals rfl
def noteOK (d x : Int) : Bool := if x = 0 then true else if x = 255 then d == 3 || d == 4 || d == 6 else if x = 254 then d == 2 || d == 4 else if x = 253 then d == 4 else inW x (lowQ d) (highQ d)
theorem c68 {d : Int} (hd : inW d 1 6 = true) (x : Int) (h : PHeap) : Γ0 68 [.int .i64 d, .int .i64 x] h = some (.bool (noteOK d x), h) := by
  refine gbody (F := A68) (by kernel_rfl) 1 ?_
  rw [s68_eq]
  unfold s68 noteOK inW
  have hz : Z29.length = 29 := rfl
  have f0 := box_set (h := h) (n := 29) (cs := qOf d) (vs := Z29) (t := 82) hz (qOf_len d) (by decide) (qOf_one d)
  have l4 : loadP false 1 (.ptr h.length 4) (h ++ [.box (qOf d) 82 .rw]) = some (.int .i64 (lowQ d)) := load_new (q_low d)
  have l5 : loadP false 1 (.ptr h.length 5) (h ++ [.box (qOf d) 82 .rw]) = some (.int .i64 (highQ d)) := load_new (q_high d)
  simp only [c40, arr_q hd, fork_def, f0, bS, ↓KLn, bin_eql, if_bool, beq_iff_eq, fin_bool]
  by_cases h0 : x = 0
  · simp only [h0, if_true]
  · by_cases h1 : x = 255
    · simp only [h0, h1, if_true, if_false, K1_or, K1_one, bS, bin_eql, fin_bool, show ((255 : Int) = 0) = False from eq_false (by decide)]
    · by_cases h2 : x = 254
      · simp only [h0, h1, h2, if_true, if_false, K1_or, K1_one, bS, bin_eql, fin_bool, ↓KLn, if_bool, beq_iff_eq, show ((254 : Int) = 0) = False from eq_false (by decide), show ((254 : Int) = 255) = False from eq_false (by decide)]
      · by_cases h3 : x = 253
        · simp only [h0, h1, h2, h3, if_true, if_false, K1_or, K1_one, bS, bin_eql, fin_bool, ↓KLn, if_bool, beq_iff_eq, show ((253 : Int) = 0) = False from eq_false (by decide), show ((253 : Int) = 255) = False from eq_false (by decide), show ((253 : Int) = 254) = False from eq_false (by decide)]
        · simp only [h0, h1, h2, h3, if_true, if_false, K1_and, K1_one, bS, bin_eql, bin_geq, bin_leq, fin_bool, ↓KLn, if_bool, beq_iff_eq, field_new, l4, l5, ge_iff_le]
theorem c90 (d x : Int) (h : PHeap) : Γ0 90 [.int .i64 d, .int .i64 x] h = some (.bool (noteOK d x), h) := by
  refine gbody (F := A90) (by kernel_rfl) 1 ?_
  rw [s90_eq]
  unfold s90 noteOK inW
  have hz : Z29.length = 29 := rfl
  have f0 := box_set (h := h) (n := 29) (cs := qOf d) (vs := Z29) (t := 82) hz (qOf_len d) (by decide) (qOf_one d)
  have l4 : loadP false 1 (.ptr h.length 4) (h ++ [.box (qOf d) 82 .rw]) = some (.int .i64 (lowQ d)) := load_new (q_low d)
  have l5 : loadP false 1 (.ptr h.length 5) (h ++ [.box (qOf d) 82 .rw]) = some (.int .i64 (highQ d)) := load_new (q_high d)
  simp only [c29, y20, y21, fork_def, f0, bS, ↓KLn, bin_eql, if_bool, beq_iff_eq, fin_bool]
  by_cases h0 : x = 0
  · simp only [h0, if_true]
  · by_cases h1 : x = 255
    · simp only [h0, h1, if_true, if_false, K1_or, K1_one, bS, bin_eql, fin_bool, show ((255 : Int) = 0) = False from eq_false (by decide)]
    · by_cases h2 : x = 254
      · simp only [h0, h1, h2, if_true, if_false, K1_or, K1_one, bS, bin_eql, fin_bool, ↓KLn, if_bool, beq_iff_eq, show ((254 : Int) = 0) = False from eq_false (by decide), show ((254 : Int) = 255) = False from eq_false (by decide)]
      · by_cases h3 : x = 253
        · simp only [h0, h1, h2, h3, if_true, if_false, K1_or, K1_one, bS, bin_eql, fin_bool, ↓KLn, if_bool, beq_iff_eq, show ((253 : Int) = 0) = False from eq_false (by decide), show ((253 : Int) = 255) = False from eq_false (by decide), show ((253 : Int) = 254) = False from eq_false (by decide)]
        · simp only [h0, h1, h2, h3, if_true, if_false, K1_and, K1_one, bS, bin_eql, bin_geq, bin_leq, fin_bool, ↓KLn, if_bool, beq_iff_eq, field_new, l4, l5, ge_iff_le]
end Go.Vm.X
