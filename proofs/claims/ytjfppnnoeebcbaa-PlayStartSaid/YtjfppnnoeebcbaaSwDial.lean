/- Songs: dialects, part 1. -/
import Derived.Test.YtjfppnnoeebcbaaSwLet
set_option linter.unusedSimpArgs false
set_option linter.unusedVariables false
namespace Go.Vm.X
open Go.Am Go.Vm
attribute [local congr] bind_c ifP_c loop_c K1_c

theorem inW_six {d : Int} (h : inW d 1 6 = true) : d = 1 ∨ d = 2 ∨ d = 3 ∨ d = 4 ∨ d = 5 ∨ d = 6 := by
  unfold inW at h
  simp only [Bool.and_eq_true, decide_eq_true_eq] at h
  omega
theorem c71 (d : Int) (h : PHeap) : Γ0 71 [.int .i64 d] h = some (strOf (lettersL d), h) := by
  refine gbody (F := A71) (by kernel_rfl) 1 ?_
  rw [s71_eq]
  unfold s71
  simp only [c39, bS, un_not, ↓KLn, if_bool]
  cases hd : inW d 1 6 with
  | false =>
    have e : lettersL d = [] := by
      unfold inW at hd
      simp only [Bool.and_eq_false_iff, decide_eq_false_iff_not] at hd
      unfold lettersL
      rw [if_neg (by omega), if_neg (by omega), if_neg (by omega), if_neg (by omega), if_neg (by omega), if_neg (by omega)]
    rw [e]
    simp only [Bool.not_false, if_true]
    exact Eq.trans (show _ = finP [.keep] h h [strOf []] from rfl) fin_str0
  | true =>
    simp only [Bool.not_true, Bool.false_eq_true, if_false]
    rcases inW_six hd with rfl | rfl | rfl | rfl | rfl | rfl
    · exact Eq.trans (show _ = finP [.keep] h h [strOf (lettersL 1)] from rfl) fin_str0
    · exact Eq.trans (show _ = finP [.keep] h h [strOf (lettersL 2)] from rfl) fin_str0
    · exact Eq.trans (show _ = finP [.keep] h h [strOf (lettersL 3)] from rfl) fin_str0
    · exact Eq.trans (show _ = finP [.keep] h h [strOf (lettersL 4)] from rfl) fin_str0
    · exact Eq.trans (show _ = finP [.keep] h h [strOf (lettersL 5)] from rfl) fin_str0
    · exact Eq.trans (show _ = finP [.keep] h h [strOf (lettersL 6)] from rfl) fin_str0
theorem c69 (d : Int) (h : PHeap) : Γ0 69 [.int .i64 d] h = some (.int .i64 (volc d), h) := by
  refine gbody (F := A69) (by kernel_rfl) 1 ?_
  rw [s69_eq]
  unfold s69
  have k1 : insMapP .int (.int .i64 2) (.int .i64 1) [] = some [(.int .i64 2, .int .i64 1)] := rfl
  have k2 : insMapP .int (.int .i64 3) (.int .i64 8) [(.int .i64 2, .int .i64 1)] = some [(.int .i64 2, .int .i64 1), (.int .i64 3, .int .i64 8)] := rfl
  have k3 : insMapP .int (.int .i64 4) (.int .i64 10) [(.int .i64 2, .int .i64 1), (.int .i64 3, .int .i64 8)] = some [(.int .i64 2, .int .i64 1), (.int .i64 3, .int .i64 8), (.int .i64 4, .int .i64 10)] := rfl
  have sm : ∀ (es es' : List (PV × PV)) (i v : PV), insMapP .int i v es = some es' → setMapP .int (.map h.length) i v (h ++ [.map es .rw]) = some (h ++ [.map es' .rw]) := fun es es' i v e => by
    simp only [setMapP, get_new0, List.getElem?_cons_zero, e, Option.map_some, set_new0, List.set_cons_zero]
  have lk : lookupP .int (.int .i64 0) false (.map h.length) (.int .i64 d) (h ++ [.map [(.int .i64 2, .int .i64 1), (.int .i64 3, .int .i64 8), (.int .i64 4, .int .i64 10)] .rw]) = some (.int .i64 (volc d)) := by
    unfold lookupP mapOfP volc
    simp only [get_new0, List.getElem?_cons_zero, Option.bind_some, findMapP, keyEqP, if_true]
    by_cases h2 : d = 2
    · subst h2; rfl
    · have e2 : (d == 2) = false := by simp [h2]
      by_cases h3 : d = 3
      · subst h3; rfl
      · have e3 : (d == 3) = false := by simp [h3]
        by_cases h4 : d = 4
        · subst h4; rfl
        · have e4 : (d == 4) = false := by simp [h4]
          simp [e2, e3, e4, h2, h3, h4]
  simp only [fork_def, sm _ _ _ _ k1, sm _ _ _ _ k2, sm _ _ _ _ k3, bS, lk, fin_int]
end Go.Vm.X
