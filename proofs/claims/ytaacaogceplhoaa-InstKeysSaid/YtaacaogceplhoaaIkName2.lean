
/- Songs: names, the two other walks. -/
import Derived.Test.YtaacaogceplhoaaIkValid
set_option linter.unusedSimpArgs false
set_option linter.unusedVariables false
namespace Go.Vm.X
open Go.Am Go.Vm
attribute [local congr] bind_c ifP_c loop_c K1_c ite_c

theorem by_bad (b : UInt8) : (decide ((b.toNat : Int) < 32) || decide ((b.toNat : Int) > 126)) = !byOK b := by
  unfold byOK inW
  rw [Bool.eq_iff_iff]
  simp only [Bool.or_eq_true, decide_eq_true_eq, Bool.not_eq_true', Bool.and_eq_false_iff, decide_eq_false_iff_not]
  omega
theorem c21 {s : ByteArray} (hs : s.size < 9223372036854775808) (h : PHeap) : Γ0 21 [.str s] h = some (.bool (nameOK s), h) := by
  have hbl := bys_len s
  refine gbody (F := A21) (by kernel_rfl) (s.size + 1) ?_
  rw [s21_eq]
  unfold s21 nameOK
  simp only [len_str, bS, ↓KLn]
  obtain ⟨k, h1, h2, h3⟩ := first_not byOK (bys s)
  refine loop_pure (fun i => [.int .i64 (i : Int)]) k (by omega) rfl (fun i hi K => ?_) fun K => ?_
  · obtain ⟨b, hb⟩ := lt_l (show i < (bys s).length by omega)
    have hlt : ((i : Int) < (s.size : Int)) = True := eq_true (by omega)
    have hok : byOK b = true := h2 i b hi hb
    unfold s21_L0
    simp only [nth_zero, nth_one, nth_two, nth_three, bin_lss, bin_gtr, hlt, decide_true, bS, ↓KLn, if_bool, if_true, idx_by hb, K1_or, by_bad, hok, Bool.not_true, Bool.false_eq_true, if_false, bin_add, succ63 (show i < 9223372036854775807 by omega), trim_self]
  · rcases h3 with ⟨rfl, h4⟩ | ⟨b, h3, h4, h5⟩
    · have hlt : (((bys s).length : Int) < (s.size : Int)) = False := eq_false (by omega)
      have hle : decide ((s.size : Int) ≤ 22) = decide (s.size ≤ 22) := by rw [decide_eq_decide]; omega
      unfold s21_L0
      simp only [nth_zero, bin_lss, hlt, decide_false, bS, ↓KLn, if_bool, Bool.false_eq_true, if_false, bin_leq, h4, Bool.true_and, hle, fin_bool0]
    · have hk : k < (bys s).length := by
        obtain ⟨hh, _⟩ := List.getElem?_eq_some_iff.1 h3
        exact hh
      have hlt : ((k : Int) < (s.size : Int)) = True := eq_true (by omega)
      unfold s21_L0
      simp only [nth_zero, bin_lss, bin_gtr, hlt, decide_true, bS, ↓KLn, if_bool, if_true, idx_by h3, K1_or, by_bad, h4, Bool.not_false, h5, Bool.false_and, fin_bool0]
theorem c25 {s : ByteArray} (hs : s.size < 9223372036854775808) (h : PHeap) : Γ0 25 [.str s] h = some (.bool (nameOK s), h) := by
  have hbl := bys_len s
  refine gbody (F := A25) (by kernel_rfl) (s.size + 1) ?_
  rw [s25_eq]
  unfold s25 nameOK
  simp only [len_str, bS, ↓KLn, bin_gtr, if_bool, decide_eq_true_eq, fin_bool0]
  by_cases h22 : (s.size : Int) > 22
  · have : decide (s.size ≤ 22) = false := decide_eq_false (by omega)
    rw [if_pos h22, this, Bool.and_false]
  · have hd : decide (s.size ≤ 22) = true := decide_eq_true (by omega)
    rw [if_neg h22, hd, Bool.and_true]
    obtain ⟨k, h1, h2, h3⟩ := first_not byOK (bys s)
    refine loop_pure (fun i => [.int .i64 (i : Int)]) k (by omega) rfl (fun i hi K => ?_) fun K => ?_
    · obtain ⟨b, hb⟩ := lt_l (show i < (bys s).length by omega)
      have hlt : ((i : Int) < (s.size : Int)) = True := eq_true (by omega)
      have hok : byOK b = true := h2 i b hi hb
      unfold s25_L0
      simp only [nth_zero, nth_one, nth_two, nth_three, len_str, bin_lss, bin_gtr, hlt, decide_true, bS, ↓KLn, if_bool, if_true, idx_by hb, K1_or, by_bad, hok, Bool.not_true, Bool.false_eq_true, if_false, bin_add, succ63 (show i < 9223372036854775807 by omega), trim_self]
    · rcases h3 with ⟨rfl, h4⟩ | ⟨b, h3, h4, h5⟩
      · have hlt : (((bys s).length : Int) < (s.size : Int)) = False := eq_false (by omega)
        unfold s25_L0
        simp only [nth_zero, len_str, bin_lss, hlt, decide_false, bS, ↓KLn, if_bool, Bool.false_eq_true, if_false, h4, fin_bool0]
      · have hk : k < (bys s).length := by
          obtain ⟨hh, _⟩ := List.getElem?_eq_some_iff.1 h3
          exact hh
        have hlt : ((k : Int) < (s.size : Int)) = True := eq_true (by omega)
        unfold s25_L0
        simp only [nth_zero, len_str, bin_lss, bin_gtr, hlt, decide_true, bS, ↓KLn, if_bool, if_true, idx_by h3, K1_or, by_bad, h4, Bool.not_false, h5, fin_bool0]
end Go.Vm.X
