/- Packing: the law PackStill, as the value machine has it. -/
import Derived.Test.YtgcioidegmnehaaPvStill
set_option linter.unusedSimpArgs false
set_option linter.unusedVariables false
namespace Go.Vm.X
open Go.Am Go.Vm
attribute [local congr] bind_congr1 ifP_congr1 scP_congr1 ite_congr1 loop_congr1

theorem hasLoop {t : List Int} (ht : t.length = 16) (htr : ∀ x ∈ t, -128 ≤ x ∧ x ≤ 127) {d : Int} (hd : -256 ≤ d ∧ d ≤ 256) (z1 z2 z3 z4 z5 : PV) (H : PHeap) (j : List PV → PHeap → Pt) (n fuel : Nat) (hf : 16 < fuel) :
    loopP (s4_L0 Γ0 n (ints t) H (.int .i64 d) (.int .i64 (t.length : Int)) j) fuel [.bool false, .int .i64 0, z1, z2, z3, z4, z5] H = j [.bool (hasD t d 16), .junk, .junk, .junk, .junk, .junk] H := by
  refine loop_pure (fun k => [.bool (hasD t d k), .int .i64 (k : Int), if k = 0 then z1 else .junk, if k = 0 then z2 else .junk, if k = 0 then z3 else .junk, if k = 0 then z4 else .junk, if k = 0 then z5 else .junk]) 16 hf rfl (fun k hk K => ?_) fun K => ?_
  · obtain ⟨a, ha⟩ := lt_len (show k < t.length by omega)
    have har := htr a (List.mem_of_getElem? ha)
    have e1 : IntKind.i64.wrap (a - d) = a - d := wrap64 (by unfold isI64; omega)
    have hr : binP .rem (.int .i64 (a - d)) (.int .i64 256) = some (.int .i64 ((a - d).tmod 256)) := bin_rem _ _ _ (by decide)
    have hlt : ((k : Int) < (t.length : Int)) = True := eq_true (by omega)
    have hs : hasD t d (k + 1) = (hasD t d k || ((a - d).tmod 256 == 0)) := by
      show (hasD t d k || ((t.getD k 0 - d).tmod 256 == 0)) = _
      rw [getD_of ha]
    unfold s4_L0
    rw [hs]
    cases hk2 : hasD t d k with
    | true =>
      simp only [nth_zero, nth_one, nth_two, bin_lss, hlt, decide_true, bS, ↓KLn, ↓K1n, if_bool, if_true, idx_ints _ ha, load_iV, sc_or, Bool.true_eq_false, if_false, bin_add, succ64 (show k < 4294967297 by omega), trim_self]
      rfl
    | false =>
      simp only [nth_zero, nth_one, nth_two, bin_lss, hlt, decide_true, bS, ↓KLn, ↓K1n, if_bool, if_true, idx_ints _ ha, load_iV, sc_or, bin_sub, e1, hr, bin_eql, bin_add, succ64 (show k < 4294967297 by omega), trim_self]
      rfl
  · have hlt : (((16 : Nat) : Int) < (t.length : Int)) = False := eq_false (by omega)
    unfold s4_L0
    simp only [nth_zero, nth_one, nth_two, bin_lss, hlt, decide_false, bS, ↓KLn, ↓K1n, if_bool, Bool.false_eq_true, if_false]
    rfl
theorem prev_in {l : List Int} (hl : ∀ x ∈ l, -128 ≤ x ∧ x ≤ 127) {i : Nat} (hi : i ≤ l.length) : -128 ≤ prevOf l i ∧ prevOf l i ≤ 127 := by
  cases i with
  | zero => show -128 ≤ (0 : Int) ∧ (0 : Int) ≤ 127; omega
  | succ i =>
    obtain ⟨a, ha⟩ := lt_len (show i < l.length by omega)
    show -128 ≤ l.getD i 0 ∧ l.getD i 0 ≤ 127
    rw [getD_of ha]
    exact hl a (List.mem_of_getElem? ha)
theorem allLoop {t l : List Int} (ht : t.length = 16) (htr : ∀ x ∈ t, -128 ≤ x ∧ x ≤ 127) (hl : ∀ x ∈ l, -128 ≤ x ∧ x ≤ 127) (h4 : l.length ≤ 4096) (z1 z2 z3 z4 z5 z6 : PV) (H : PHeap) (j : List PV → PHeap → Pt) (n fuel : Nat) (hn : 16 < n) (hf : l.length < fuel) :
    loopP (s4_L1 Γ0 n (ints l) (ints t) H (.int .i64 (l.length : Int)) j) fuel [.int .i64 0, .bool true, .int .i64 0, z1, z2, z3, z4, z5, z6] H = j [.bool (allF t l l.length)] H := by
  refine loop_pure (fun i => [.int .i64 (prevOf l i), .bool (allF t l i), .int .i64 (i : Int), if i = 0 then z1 else .junk, if i = 0 then z2 else .junk, if i = 0 then z3 else .junk, if i = 0 then z4 else .junk, if i = 0 then z5 else .junk, if i = 0 then z6 else .junk]) l.length hf rfl (fun i hi K => ?_) fun K => ?_
  · obtain ⟨a, ha⟩ := lt_len hi
    have har := hl a (List.mem_of_getElem? ha)
    have hp := prev_in hl (Nat.le_of_lt hi)
    have e1 : IntKind.i64.wrap (a - prevOf l i) = a - prevOf l i := wrap64 (by unfold isI64; omega)
    have hs : allF t l (i + 1) = (allF t l i && hasD t (a - prevOf l i) 16) := by
      show (allF t l i && hasD t (l.getD i 0 - prevOf l i) 16) = _
      rw [getD_of ha]
    have hpv : prevOf l (i + 1) = a := getD_of ha
    unfold s4_L1
    rw [hs, hpv]
    simp only [nth_zero, nth_one, nth_two, nth_three, nth_four, nth_five, nth_six, nth_seven, bin_lss, ltT hi, decide_true, bS, ↓KLn, ↓K1n, if_bool, if_true, idx_ints _ ha, load_iV, bin_sub, e1, len_ints]
    rw [hasLoop ht htr (by omega) _ _ _ _ _ _ _ _ _ hn]
    cases hA : allF t l i with
    | true =>
      simp only [nth_zero, nth_one, nth_two, nth_three, nth_four, nth_five, nth_six, sc_and, if_true, bin_add, succ64 (show i < 4294967297 by omega), bS, trim_self]
      rfl
    | false =>
      simp only [nth_zero, nth_one, nth_two, nth_three, nth_four, nth_five, nth_six, sc_and, Bool.false_eq_true, if_false, bin_add, succ64 (show i < 4294967297 by omega), bS, trim_self]
      rfl
  · unfold s4_L1
    simp only [nth_zero, nth_one, nth_two, bin_lss, ltF, decide_false, bS, ↓KLn, ↓K1n, if_bool, Bool.false_eq_true, if_false]
theorem posL_all {t l : List Int} (hl : ∀ x ∈ l, -128 ≤ x ∧ x ≤ 127) (h : allF t l l.length = true) : posL t l = l := by
  have mono : ∀ i, allF t l i = false → ∀ k, allF t l (i + k) = false := fun i hi k => by
    induction k with
    | zero => exact hi
    | succ k ih =>
      show (allF t l (i + k) && _) = false
      rw [ih, Bool.false_and]
  refine posL_of rfl fun i hi => ?_
  have : allF t l (i + 1) = true := by
    cases hc : allF t l (i + 1) with
    | true => rfl
    | false =>
      have := mono (i + 1) hc (l.length - (i + 1))
      rw [show i + 1 + (l.length - (i + 1)) = l.length by omega, h] at this
      cases this
  exact all_pos hl (i + 1) (by omega) this
theorem c4 {l t : List Int} (hm : l.length < 9223372036854775808) (htm : t.length < 9223372036854775808) (h : PHeap) : Γ0 4 [ints l, ints t] h = some (.bool true, h) := by
  obtain ⟨N, hN⟩ : ∃ N : Nat, 5000 ≤ N := ⟨5000, Nat.le_refl _⟩
  refine gbody (F := A4) (by kernel_rfl) N ?_
  rw [s4_eq]
  unfold s4
  simp only [c13 hm htm, bS, y20, y21, bin_neq, ↓KLn, ↓K1n, if_bool, ne0]
  by_cases h0 : nibE l t = 0
  · obtain ⟨hb, hT, h4⟩ := nibE_zero h0
    obtain ⟨ht, htr⟩ := isTab_get hT
    have hl := any_bad hb
    have h1 := nibE_again h0
    have hpm : (posL t l).length < 9223372036854775808 := by rw [posL_len]; omega
    have u1 := unn_back h0
    have u2 := unn_back h1
    rw [posL_len, posL_again] at u2
    have k15 := c15 (posL t l) (show (posL t l).length < 4294967297 by rw [posL_len]; omega)
    rw [if_neg (fun q => q h0)]
    simp only [len_ints, bS, c14 (nibO_256 l t) htm, u1, y30, y31, y32, c13 hpm htm, h1, y20, y21, c14 (nibO_256 (posL t l) t) htm, u2, bin_neq, bne_self_eq_false, ↓KLn, ↓K1n, sc_or, if_true, k15, un_not, Bool.not_true, if_bool, Bool.false_eq_true, if_false]
    rw [allLoop ht htr hl h4 _ _ _ _ _ _ _ _ _ _ (by omega) (by omega)]
    cases hA : allF t l l.length with
    | true =>
      have hP := posL_all hl hA
      have k15l := c15 l (show l.length < 4294967297 by omega)
      simp only [nth_zero, un_not, bS, Bool.not_true, ↓KLn, ↓K1n, sc_or, sc_and, if_true, hP, k15l, c8, fin_bool0]
    | false =>
      simp only [nth_zero, un_not, bS, Bool.not_false, ↓KLn, ↓K1n, sc_or, sc_and, if_true, Bool.true_eq_false, if_false, c8, fin_bool0]
  · rw [if_pos h0]
    simp only [c8, bS, fin_bool0]
theorem c4m {l t : List Int} (hm : l.length ≤ maxLen) (htm : t.length ≤ maxLen) (h : PHeap) : Γ0 4 [ints l, ints t] h = some (.bool true, h) := c4 (by unfold maxLen at hm; omega) (by unfold maxLen at htm; omega) h
end Go.Vm.X
