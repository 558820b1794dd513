/- Packing: the law PackBack, as the value machine has it. -/
import Derived.Test.YtgcioidegmnehaaPvBack
set_option linter.unusedSimpArgs false
set_option linter.unusedVariables false
namespace Go.Vm.X
open Go.Am Go.Vm
attribute [local congr] bind_congr1 ifP_congr1 scP_congr1 ite_congr1 loop_congr1

theorem and_low (x : Int) : ∃ K : Nat, binP .and (.int .i64 x) (.int .i64 1048575) = some (.int .i64 (K : Int)) := by
  refine ⟨(x % ((2 ^ 20 : Nat) : Int)).toNat, ?_⟩
  have h := and_mask x (b := 20) (by decide)
  have hp : (0 : Int) < ((2 ^ 20 : Nat) : Int) := by decide
  rw [Int.toNat_of_nonneg (Int.emod_nonneg _ (by omega))]
  exact h
theorem backLoop {l : List Int} (hl : l.length ≤ 4096) {M1 M2 : Nat} (h1 : M1 ≤ l.length) (h2 : M2 ≤ l.length) (h0 h : PHeap) (n fuel : Nat) (hf : l.length < fuel) (r : Pt) (j : List PV → PHeap → Pt) (hj : j [] h = r) :
    loopP (s6_L0 Γ0 n (ints l) h0 (ints (padL (l.take M1) l.length)) (.int .i64 ((l.length - M1 : Nat) : Int)) (ints (padL (l.take M2) l.length)) (.int .i64 ((l.length - M2 : Nat) : Int)) h (.int .i64 (l.length : Int)) j) fuel (.int .i64 0 :: List.replicate 52 undefP) h = r := by
  refine loop_pure (fun i => .int .i64 (i : Int) :: List.replicate 52 (if i = 0 then undefP else .junk)) l.length hf rfl (fun i hi K => ?_) fun K => ?_
  · obtain ⟨a, ha⟩ := lt_len hi
    have e1 := padL_get h1 hi
    have e2 := padL_get h2 hi
    rw [getD_of ha] at e1 e2
    have s1 : IntKind.i64.wrap ((l.length : Int) - ((l.length - M1 : Nat) : Int)) = (M1 : Int) := by rw [wrap64 (by unfold isI64; omega)]; omega
    have s2 : IntKind.i64.wrap ((l.length : Int) - ((l.length - M2 : Nat) : Int)) = (M2 : Int) := by rw [wrap64 (by unfold isI64; omega)]; omega
    generalize List.replicate 52 (if i = 0 then undefP else PV.junk) = zs
    unfold s6_L0
    simp only [nth_zero, bin_lss, ltT hi, decide_true, Option.bind_some, ↓KL_def, ↓K1_def, if_bool, if_true, len_ints, bin_sub, s1, sc_and, sc_or]
    have fin1 : ∀ q : Pt, q = q := fun _ => rfl
    by_cases c1 : i < M1
    · have k1 : ((i : Int) < (M1 : Int)) = True := eq_true (by omega)
      have g1 : ((i : Int) ≥ (M1 : Int)) = False := eq_false (by omega)
      rw [if_pos c1] at e1
      by_cases c2 : i < M2
      · have k2 : ((i : Int) < (M2 : Int)) = True := eq_true (by omega)
        have g2 : ((i : Int) ≥ (M2 : Int)) = False := eq_false (by omega)
        rw [if_pos c2] at e2
        simp only [k1, g1, k2, g2, decide_true, decide_false, if_true, Bool.false_eq_true, if_false, idx_ints _ e1, idx_ints _ e2, idx_ints _ ha, load_iV, Option.bind_some, bin_neq, bne_self_eq_false, bin_geq, bin_lss, bin_sub, len_ints, s1, s2, ↓KL_def, ↓K1_def, if_bool, sc_and, sc_or, bin_add, succ64 (show i < 4294967297 by omega), trim_self]
        rfl
      · have k2 : ((i : Int) < (M2 : Int)) = False := eq_false (by omega)
        have g2 : ((i : Int) ≥ (M2 : Int)) = True := eq_true (by omega)
        rw [if_neg c2] at e2
        simp only [k1, g1, k2, g2, decide_true, decide_false, if_true, Bool.false_eq_true, if_false, idx_ints _ e1, idx_ints _ e2, idx_ints _ ha, load_iV, Option.bind_some, bin_neq, bne_self_eq_false, bin_geq, bin_lss, bin_sub, len_ints, s1, s2, ↓KL_def, ↓K1_def, if_bool, sc_and, sc_or, bin_add, succ64 (show i < 4294967297 by omega), trim_self]
        rfl
    · have k1 : ((i : Int) < (M1 : Int)) = False := eq_false (by omega)
      have g1 : ((i : Int) ≥ (M1 : Int)) = True := eq_true (by omega)
      rw [if_neg c1] at e1
      by_cases c2 : i < M2
      · have k2 : ((i : Int) < (M2 : Int)) = True := eq_true (by omega)
        have g2 : ((i : Int) ≥ (M2 : Int)) = False := eq_false (by omega)
        rw [if_pos c2] at e2
        simp only [k1, g1, k2, g2, decide_true, decide_false, if_true, Bool.false_eq_true, if_false, idx_ints _ e1, idx_ints _ e2, idx_ints _ ha, load_iV, Option.bind_some, bin_neq, bne_self_eq_false, bin_geq, bin_lss, bin_sub, len_ints, s1, s2, ↓KL_def, ↓K1_def, if_bool, sc_and, sc_or, bin_add, succ64 (show i < 4294967297 by omega), trim_self]
        rfl
      · have k2 : ((i : Int) < (M2 : Int)) = False := eq_false (by omega)
        have g2 : ((i : Int) ≥ (M2 : Int)) = True := eq_true (by omega)
        rw [if_neg c2] at e2
        simp only [k1, g1, k2, g2, decide_true, decide_false, if_true, Bool.false_eq_true, if_false, idx_ints _ e1, idx_ints _ e2, idx_ints _ ha, load_iV, Option.bind_some, bin_neq, bne_self_eq_false, bin_geq, bin_lss, bin_sub, len_ints, s1, s2, ↓KL_def, ↓K1_def, if_bool, sc_and, sc_or, bin_add, succ64 (show i < 4294967297 by omega), trim_self]
        rfl
  · unfold s6_L0
    simp only [nth_zero, bin_lss, ltF, decide_false, Option.bind_some, ↓KL_def, ↓K1_def, if_bool, Bool.false_eq_true, if_false]
    exact hj

theorem min_nat (k n : Nat) : min (k : Int) (n : Int) = ((min k n : Nat) : Int) := by omega
theorem take_min {l : List Nat} (k : Nat) : l.take (min k l.length) = l.take k := by rw [List.take_eq_take_iff]; omega
/-! Words that the kernel need not see through: no step of theirs is checked by unfolding both sides. -/
theorem bS {α β : Type} (a : α) (f : α → Option β) : (some a).bind f = f a := Eq.trans (Option.bind_some a f) (Eq.refl _)
theorem KLn {R : Type} (k : List PV → PHeap → Option R) (b : (List PV → PHeap → Option R) → Option R) : KL k b = b k := Eq.trans (KL_def k b) (Eq.refl _)
theorem K1n {R : Type} (k : PV → PHeap → Option R) (b : (PV → PHeap → Option R) → Option R) : K1 k b = b k := Eq.trans (K1_def k b) (Eq.refl _)
theorem y20 (a b : PV) : extractP (.tuple [a, b]) 0 = some a := Eq.trans (x20 a b) (Eq.refl _)
theorem y21 (a b : PV) : extractP (.tuple [a, b]) 1 = some b := Eq.trans (x21 a b) (Eq.refl _)
theorem y30 (a b c : PV) : extractP (.tuple [a, b, c]) 0 = some a := Eq.trans (x30 a b c) (Eq.refl _)
theorem y31 (a b c : PV) : extractP (.tuple [a, b, c]) 1 = some b := Eq.trans (x31 a b c) (Eq.refl _)
theorem y32 (a b c : PV) : extractP (.tuple [a, b, c]) 2 = some c := Eq.trans (x32 a b c) (Eq.refl _)
theorem y40 (a b c d : PV) : extractP (.tuple [a, b, c, d]) 0 = some a := Eq.trans (x40 a b c d) (Eq.refl _)
theorem y41 (a b c d : PV) : extractP (.tuple [a, b, c, d]) 1 = some b := Eq.trans (x41 a b c d) (Eq.refl _)
theorem y42 (a b c d : PV) : extractP (.tuple [a, b, c, d]) 2 = some c := Eq.trans (x42 a b c d) (Eq.refl _)
theorem y43 (a b c d : PV) : extractP (.tuple [a, b, c, d]) 3 = some d := Eq.trans (x43 a b c d) (Eq.refl _)
theorem c6 {l : List Int} (bits v k : Int) (hm : l.length < 9223372036854775808) (h : PHeap) : Γ0 6 [ints l, .int .i64 bits, .int .i64 v, .int .i64 k] h = some (.bool true, h) := by
  obtain ⟨N, hN⟩ : ∃ N : Nat, 5000 ≤ N := ⟨5000, Nat.le_refl _⟩
  refine gbody (F := A6) (by kernel_rfl) N ?_
  rw [s6_eq]
  unfold s6
  simp only [c9 bits hm, c11 bits v hm, bS, y20, y21, bin_neq, ↓KLn, ↓K1n]
  by_cases h0 : chk l bits = 0 ∧ blocksE l bits v = 0
  · obtain ⟨ha, hb⟩ := h0
    obtain ⟨kb, hkb, hk, hall, h4⟩ := chk_zero ha
    have hd := deltaOf_256 l bits
    have hB := blocks_256 l bits v
    obtain ⟨A1, a1, a2, a3⟩ := und_back ha (deltaOf l bits).length
    obtain ⟨B1, U1, b1, b2, b3⟩ := unb_backs hb (blocksOf l bits v).length
    obtain rfl := a2 (Nat.le_refl _)
    obtain ⟨rfl, rfl⟩ := b2 (Nat.le_refl _)
    rw [List.take_length, padL_all, Nat.sub_self] at a3 b3
    obtain ⟨K, hK⟩ := and_low k
    obtain ⟨A2, p1, p2, p3⟩ := und_back ha K
    obtain ⟨B2, U2, q1, q2, q3⟩ := unb_backs hb K
    have hsl1 : sliceP 1 (u8s (deltaOf l bits)) none (some (.int .i64 ((min K (deltaOf l bits).length : Nat) : Int))) none = some (u8s ((deltaOf l bits).take K)) := by
      rw [← take_min]; exact slice_hi (Nat.min_le_right _ _)
    have hsl2 : sliceP 1 (u8s (blocksOf l bits v)) none (some (.int .i64 ((min K (blocksOf l bits v).length : Nat) : Int))) none = some (u8s ((blocksOf l bits v).take K)) := by
      rw [← take_min]; exact slice_hi (Nat.min_le_right _ _)
    have hd2 : ∀ x ∈ (deltaOf l bits).take K, x < 256 := fun x hx => hd x (List.mem_of_mem_take hx)
    have hB2 : ∀ x ∈ (blocksOf l bits v).take K, x < 256 := fun x hx => hB x (List.mem_of_mem_take hx)
    simp only [ha, hb, bne_self_eq_false, sc_or, sc_and, if_true, if_bool, Bool.false_eq_true, if_false, len_ints, len_u8s, bS, c16 hd, a3, y30, y31, y32, c18 hB, b3, y40, y41, y42, y43, c15 _ (show l.length < 4294967297 by omega), un_not, Bool.not_true, bin_neq, ↓KLn, ↓K1n, Int.natCast_zero, hK, fold1_two, min2_i, min_nat, hsl1, hsl2, c16 hd2, p3, c18 hB2, q3, padL_len]
    refine backLoop h4 p1 q1 _ _ _ _ (by omega) _ _ ?_
    simp only [c8, bS, fin_bool0]
  · have hor := err_or h0
    have hne : ¬ (chk l bits = 0) ∨ (chk l bits = 0 ∧ ¬ (blocksE l bits v = 0)) := by
      by_cases q : chk l bits = 0
      · exact .inr ⟨q, fun q2 => h0 ⟨q, q2⟩⟩
      · exact .inl q
    generalize chk l bits = e at *
    generalize blocksE l bits v = f at *
    have d1 : (e != 0) = !(e == 0) := rfl
    have d2 : (f != 0) = !(f == 0) := rfl
    simp only [sc_or, sc_and, if_bool, bin_eql, bin_neq, bS, ↓KLn, ↓K1n]
    rcases hor with rfl | rfl | ⟨rfl, rfl⟩
    · have q : (e != 0) = true := by rw [ne0]; rintro rfl; exact h0 ⟨rfl, rfl⟩
      simp only [q, if_true, Bool.true_eq_false, if_false, beq_self_eq_true, if_bool, sc_or, sc_and, bin_eql, bin_neq, bS, ↓KLn, ↓K1n, c8, fin_bool0]
    · have q : (f != 0) = true := by rw [ne0]; rintro rfl; exact h0 ⟨rfl, rfl⟩
      have q2 : ((0 : Int) == f) = false := by rw [beq_eq_false_iff_ne]; rintro rfl; exact h0 ⟨rfl, rfl⟩
      simp only [q, q2, bne_self_eq_false, Bool.false_eq_true, if_true, Bool.true_eq_false, if_false, beq_self_eq_true, if_bool, sc_or, sc_and, bin_eql, bin_neq, bS, ↓KLn, ↓K1n, c8, fin_bool0]
    · have r1 : ((3 : Int) != 0) = true := rfl
      have r2 : ((3 : Int) == 1) = false := rfl
      have r3 : ((3 : Int) == 0) = false := rfl
      simp only [r1, r2, r3, bne_self_eq_false, Bool.false_eq_true, if_true, Bool.true_eq_false, if_false, beq_self_eq_true, if_bool, sc_or, sc_and, bin_eql, bin_neq, bS, ↓KLn, ↓K1n, c8, fin_bool0]
theorem c6m {l : List Int} (bits v k : Int) (hm : l.length ≤ maxLen) (h : PHeap) : Γ0 6 [ints l, .int .i64 bits, .int .i64 v, .int .i64 k] h = some (.bool true, h) := c6 bits v k (by unfold maxLen at hm; omega) h
end Go.Vm.X
