/- Songs: samples, the program's walk. -/
import Derived.Test.YtjfppnnoeebcbaaSwSmp
set_option linter.unusedSimpArgs false
set_option linter.unusedVariables false
namespace Go.Vm.X
open Go.Am Go.Vm
attribute [local congr] bind_c ifP_c loop_c K1_c ite_c

theorem fit_bad (x bits : Int) : (decide (x < -topV bits) || decide (x > topV bits - 1)) = !fitV x bits := by
  unfold fitV
  rw [Bool.eq_iff_iff]
  simp only [Bool.or_eq_true, decide_eq_true_eq, Bool.not_eq_true', Bool.and_eq_false_iff, decide_eq_false_iff_not]
  omega
theorem smpR_not (s : Smp) : (((((((decide (s.rate < 1) || decide (s.rate > 65535)) || decide (s.vol < 0)) || decide (s.vol > 64)) || decide (s.pan < -1)) || decide (s.pan > 256)) || decide (s.fine < -64)) || decide (s.fine > 63)) = !smpR s := by
  unfold smpR
  rw [Bool.eq_iff_iff]
  simp only [Bool.or_eq_true, Bool.not_eq_true', decide_eq_true_eq, decide_eq_false_iff_not]
  omega
theorem smpB_not (s : Smp) : ((decide ((s.name.size : Int) > 22) || ((s.bits != 8) && (s.bits != 16))) || decide ((s.data.length : Int) > 4096)) = !(decide (s.name.size ≤ 22) && smpB s) := by
  unfold smpB
  rw [Bool.eq_iff_iff]
  simp only [Bool.or_eq_true, Bool.and_eq_true, Bool.not_eq_true', Bool.and_eq_false_iff, decide_eq_true_eq, decide_eq_false_iff_not, bne_iff_ne, ne_eq]
  omega
theorem c55 (s : Smp) (hn : s.name.size < 9223372036854775808) (hm : s.data.length < 9223372036854775808) (h : PHeap) : Γ0 55 [.agg s.cs] h = some (.bool (smpOK s), h) := by
  have hbl := bys_len s.name
  obtain ⟨N, hN1, hN2⟩ : ∃ N : Nat, s.data.length < N ∧ s.name.size < N := ⟨s.data.length + s.name.size + 1, by omega, by omega⟩
  refine gbody (F := A55) (by kernel_rfl) N ?_
  rw [s55_eq]
  unfold s55 smpOK nameOK
  simp only [forkN, cellsN, field_new, sl0, sl1, sl2, len_ints, len_str, bS, bin_neq, bin_gtr, K1_and, K1_or, K1oneN, ↓KLn, ifbN, smpB_not]
  cases hc : (decide (s.name.size ≤ 22) && smpB s) with
  | false =>
    have : ((bys s.name).all byOK && decide (s.name.size ≤ 22) && smpB s && s.data.all (fun x => fitV x s.bits) && (smpR s && smpL s)) = false := by
      revert hc
      cases (bys s.name).all byOK <;> cases decide (s.name.size ≤ 22) <;> cases smpB s <;> simp
    simp only [Bool.not_false, if_true, this, fin_bool]
  | true =>
    rw [Bool.and_eq_true] at hc
    obtain ⟨c1, c2⟩ := hc
    rw [c1, c2]
    have hb : (s.bits = 8 ∨ s.bits = 16) := by
      unfold smpB at c2
      exact (of_decide_eq_true c2).1
    simp only [Bool.not_true, Bool.false_eq_true, if_false, Bool.and_true]
    obtain ⟨k, h1, h2, h3⟩ := first_not byOK (bys s.name)
    refine loop_pure (fun i => [.int .i64 (i : Int)]) k (by omega) rfl (fun i hi K => ?_) fun K => ?_
    · obtain ⟨b, hb⟩ := lt_l (show i < (bys s.name).length by omega)
      have hlt : ((i : Int) < (s.name.size : Int)) = True := eq_true (by omega)
      have hok : byOK b = true := h2 i b hi hb
      unfold s55_L1
      simp only [nth_zero, nth_one, nth_two, nth_three, nth_four, field_new, sl0, bin_lss, bin_gtr, hlt, decide_true, bS, ↓KLn, ifbN, if_true, idx_by hb, K1_or, by_bad, hok, Bool.not_true, Bool.false_eq_true, if_false, bin_add, succ63 (show i < 9223372036854775807 by omega), trim_self]
    · rcases h3 with ⟨rfl, h4⟩ | ⟨b, h3, h4, h5⟩
      · have hlt : (((bys s.name).length : Int) < (s.name.size : Int)) = False := eq_false (by omega)
        unfold s55_L1
        simp only [nth_zero, bin_lss, hlt, decide_false, bS, ↓KLn, ifbN, Bool.false_eq_true, if_false, field_new, sl1, sl2, c73 hb, y20, y21, len_ints, h4, Bool.true_and]
        obtain ⟨k2, g1, g2, g3⟩ := first_not (fun x => fitV x s.bits) s.data
        refine loop_pure (fun i => [.int .i64 (i : Int)]) k2 (by omega) rfl (fun i hi K => ?_) fun K => ?_
        · obtain ⟨a, ha⟩ := lt_l (show i < s.data.length by omega)
          have hp := g2 i a hi ha
          unfold s55_L0
          simp only [nth_zero, nth_one, nth_two, bin_lss, bin_gtr, ltT (show i < s.data.length by omega), decide_true, bS, ↓KLn, ifbN, if_true, idx_ints _ ha, load_iV, K1_or, fit_bad, hp, Bool.not_true, Bool.false_eq_true, if_false, bin_add, succ63 (show i < 9223372036854775807 by omega), trim_self]
        · rcases g3 with ⟨rfl, g4⟩ | ⟨a, g3, g4, g5⟩
          · unfold s55_L0
            simp only [nth_zero, bin_lss, ltF, decide_false, bS, ↓KLn, ifbN, Bool.false_eq_true, if_false, field_new, sl1, sl3, sl4, sl5, sl6, bin_gtr, K1_or, smpR_not, g4, Bool.true_and]
            cases hR : smpR s with
            | false => simp only [Bool.not_false, if_true, Bool.false_and, fin_bool]
            | true => simp only [Bool.not_true, Bool.false_eq_true, if_false, field_new, sl1, sl7, sl8, sl9, sl10, sl11, sl12, len_ints, c74, bS, K1_and, Bool.true_and, smpL, fin_bool]
          · have hk : k2 < s.data.length := by
              obtain ⟨hh, _⟩ := List.getElem?_eq_some_iff.1 g3
              exact hh
            unfold s55_L0
            simp only [nth_zero, bin_lss, bin_gtr, ltT hk, decide_true, bS, ↓KLn, ifbN, if_true, idx_ints _ g3, load_iV, K1_or, fit_bad, g4, Bool.not_false, g5, Bool.false_and, fin_bool]
      · have hk : k < (bys s.name).length := by
          obtain ⟨hh, _⟩ := List.getElem?_eq_some_iff.1 h3
          exact hh
        have hlt : ((k : Int) < (s.name.size : Int)) = True := eq_true (by omega)
        unfold s55_L1
        simp only [nth_zero, field_new, sl0, bin_lss, bin_gtr, hlt, decide_true, bS, ↓KLn, ifbN, if_true, idx_by h3, K1_or, by_bad, h4, Bool.not_false, h5, Bool.false_and, fin_bool]
end Go.Vm.X
