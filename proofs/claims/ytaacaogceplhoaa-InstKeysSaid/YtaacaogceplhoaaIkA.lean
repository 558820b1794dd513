/- Instruments: which note and sample a key plays; lists that are the same. -/
import Derived.Test.YtaacaogceplhoaaIkInst
import Derived.Test.YtaacaogceplhoaaMvE
set_option linter.unusedSimpArgs false
set_option linter.unusedVariables false
namespace Go.Vm.X
open Go.Am Go.Vm
attribute [local congr] bind_c ifP_c loop_c K1_c ite_c fork_c guard_c unl_c

theorem ic0 (i : Ins) : i.cs[0]? = some (.str i.name) := nr rfl
theorem ic1 (i : Ins) : i.cs[1]? = some (keysPV i.keys) := nr rfl
theorem ic_len (i : Ins) : i.cs.length = 33 := nr rfl
theorem ic_whole (i : Ins) : partP true 0 33 i.cs = some (.agg i.cs) := part_all rfl
def keyAt (i : Ins) (n : Nat) (own : Int) : Int × Int := if i.keys.length = 0 then ((n : Int), own) else i.keys.getD n (0, 0)
def keyV (i : Ins) (n own : Int) : Int × Int := if insOK i = true ∧ 0 ≤ n ∧ n ≤ 119 then keyAt i n.toNat own else (0, 0)
def pairV (p : Int × Int) : PV := .tuple [.int .i64 p.1, .int .i64 p.2]
theorem kc0 (c : Int × Int) : (keyC c)[0]? = some (.int .i64 c.1) := nr rfl
theorem kc1 (c : Int × Int) : (keyC c)[1]? = some (.int .i64 c.2) := nr rfl
theorem fin_ii' {h l : PHeap} {a b : Int} : finP [.keep, .keep] h (h ++ l) [.int .i64 a, .int .i64 b] = some (.tuple [.int .i64 a, .int .i64 b], h) := fin_k2 rfl rfl
theorem keys_120 {i : Ins} (h : insOK i = true) : i.keys.length = 0 ∨ i.keys.length = 120 := by
  unfold insOK at h
  simp only [Bool.and_eq_true, Bool.or_eq_true, beq_iff_eq] at h
  omega
theorem keys_ok {i : Ins} (h : insOK i = true) {k : Int × Int} (hk : k ∈ i.keys) : 0 ≤ k.1 ∧ k.1 ≤ 119 ∧ 0 ≤ k.2 ∧ k.2 ≤ 31 := by
  unfold insOK at h
  simp only [Bool.and_eq_true, Bool.not_eq_true', List.any_eq_false] at h
  have := h.1 k hk
  unfold keyBad inW at this
  simp only [Bool.or_eq_true, Bool.not_eq_true', Bool.and_eq_false_iff, decide_eq_false_iff_not] at this
  omega
theorem c20 (i : Ins) (n : Nat) (own : Int) (h : PHeap) (hn : i.keys.length = 0 ∨ n < i.keys.length) : Γ0 20 [.agg i.cs, .int .i64 (n : Int), .int .i64 own] h = some (pairV (keyAt i n own), h) := by
  refine gbody (F := A20) (by kernel_rfl) 1 ?_
  rw [s20_eq]; unfold s20 keyAt pairV
  by_cases h0 : i.keys.length = 0
  · simp only [words, ↓KLn, Nat.reduceAdd, ic1, len_keys, h0, if_true, fin_ii']
    rfl
  · obtain ⟨k, hk⟩ := lt_l (hn.resolve_left h0)
    have e0 : ((i.keys.length : Int) == 0) = false := by rw [beq_eq_false_iff_ne]; omega
    simp only [words, ↓KLn, Nat.reduceAdd, ic1, len_keys, e0, if_neg h0, Bool.false_eq_true, if_false, idx_keys _ hk, kc0, kc1, fin_ii', getD_of hk]
theorem inW_of {n : Int} (h : inW n 0 119 = true) : 0 ≤ n ∧ n ≤ 119 := by
  unfold inW at h
  simpa only [Bool.and_eq_true, decide_eq_true_eq] using h
theorem c5 (i : Ins) (hl : InsLen i) (n own : Int) (h : PHeap) : Γ0 5 [.agg i.cs, .int .i64 n, .int .i64 own] h = some (pairV (keyV i n own), h) := by
  refine gbody (F := A5) (by kernel_rfl) 1 ?_
  rw [s5_eq]; unfold s5 keyV
  cases hv : insOK i with
  | false =>
    simp only [words, ↓KLn, Nat.reduceAdd, ↓K1n, sc_or, ic_whole, c7 i hl, hv, Bool.not_false, if_true, fin_ii', Bool.false_eq_true, false_and, if_false]
    rfl
  | true =>
    cases hn : inW n 0 119 with
    | false =>
      have hne : ¬ (0 ≤ n ∧ n ≤ 119) := fun hh => by
        unfold inW at hn
        simp [hh.1, hh.2] at hn
      simp only [words, ↓KLn, Nat.reduceAdd, ↓K1n, sc_or, ic_whole, c7 i hl, hv, Bool.not_true, c19, hn, Bool.not_false, if_true, fin_ii', Bool.false_eq_true, if_false, true_and, if_neg hne]
      rfl
    | true =>
      obtain ⟨m, rfl⟩ : ∃ m : Nat, n = (m : Int) := ⟨n.toNat, by have := inW_of hn; omega⟩
      have hb := inW_of hn
      by_cases h0 : i.keys.length = 0
      · have e0 : ((i.keys.length : Int) == 0) = true := by rw [beq_iff_eq]; omega
        simp only [words, ↓KLn, Nat.reduceAdd, ↓K1n, sc_or, ic_whole, c7 i hl, hv, Bool.not_true, c19, hn, if_true, fin_ii', Bool.false_eq_true, if_false, true_and, if_pos hb, ic1, len_keys, e0]
        unfold keyAt
        rw [if_pos h0]
        rfl
      · obtain ⟨k, hk⟩ := lt_l (show m < i.keys.length by have := keys_120 hv; omega)
        have e0 : ((i.keys.length : Int) == 0) = false := by rw [beq_eq_false_iff_ne]; omega
        simp only [words, ↓KLn, Nat.reduceAdd, ↓K1n, sc_or, ic_whole, c7 i hl, hv, Bool.not_true, c19, hn, if_true, fin_ii', Bool.false_eq_true, if_false, true_and, if_pos hb, ic1, len_keys, e0, idx_keys _ hk, kc0, kc1]
        unfold keyAt
        rw [if_neg h0, Int.toNat_natCast, getD_of hk]
        rfl
theorem c6 (i : Ins) (hl : InsLen i) (n own : Int) (h : PHeap) : Γ0 6 [.agg i.cs, .int .i64 n, .int .i64 own] h = some (pairV (keyV i n own), h) := by
  refine gbody (F := A6) (by kernel_rfl) 1 ?_
  rw [s6_eq]; unfold s6 keyV
  cases hv : insOK i with
  | false =>
    simp only [words, ↓KLn, Nat.reduceAdd, ↓K1n, sc_or, ic_whole, c8 i hl, hv, Bool.not_false, if_true, fin_ii', Bool.false_eq_true, false_and, if_false]
    rfl
  | true =>
    by_cases h1 : n < 0
    · simp only [words, ↓KLn, Nat.reduceAdd, ↓K1n, sc_or, ic_whole, c8 i hl, hv, Bool.not_true, h1, decide_true, if_true, fin_ii', Bool.false_eq_true, if_false, true_and, if_neg (show ¬ (0 ≤ n ∧ n ≤ 119) by omega)]
      rfl
    · by_cases h2 : n > 119
      · simp only [words, ↓KLn, Nat.reduceAdd, ↓K1n, sc_or, ic_whole, c8 i hl, hv, Bool.not_true, h1, h2, decide_true, decide_false, if_true, fin_ii', Bool.false_eq_true, if_false, true_and, if_neg (show ¬ (0 ≤ n ∧ n ≤ 119) by omega)]
        rfl
      · obtain ⟨m, rfl⟩ : ∃ m : Nat, n = (m : Int) := ⟨n.toNat, by omega⟩
        simp only [words, ↓KLn, Nat.reduceAdd, ↓K1n, sc_or, ic_whole, c8 i hl, hv, Bool.not_true, h1, h2, decide_true, decide_false, if_true, fin_ii', Bool.false_eq_true, if_false, true_and, if_pos (show (0 ≤ (m : Int) ∧ (m : Int) ≤ 119) by omega), c20 i m own _ (by have := keys_120 hv; omega), pairV, Int.toNat_natCast]
theorem c30 (x lo hi : Int) (h : PHeap) : Γ0 30 [.int .i64 x, .int .i64 lo, .int .i64 hi] h = some (.int .i64 (if x < lo then lo else if x > hi then hi else x), h) := by
  refine gbody (F := A30) (by kernel_rfl) 1 ?_
  rw [s30_eq]; unfold s30
  by_cases h1 : x < lo
  · simp only [words, ↓KLn, Nat.reduceAdd, ↓K1n, sc_or, h1, decide_true, if_true, fin_int0]
  · by_cases h2 : x > hi
    · simp only [words, ↓KLn, Nat.reduceAdd, ↓K1n, sc_or, h1, h2, decide_true, decide_false, Bool.false_eq_true, if_false, if_true, fin_int0]
    · simp only [words, ↓KLn, Nat.reduceAdd, ↓K1n, sc_or, h1, h2, decide_false, Bool.false_eq_true, if_false, fin_int0]
theorem eq_pair (x y : Int × Int) : eqAggP [.int, .int] true (.agg (keyC x)) (.agg (keyC y)) = some (.bool (decide (x ≠ y))) := by
  obtain ⟨a, b⟩ := x
  obtain ⟨c, d⟩ := y
  simp only [eqAggP, eqCellsP, keyC]
  by_cases h1 : a = c <;> by_cases h2 : b = d <;> simp [h1, h2]
theorem key_part (c : Int × Int) : partP true 0 2 (keyC c) = some (.agg (keyC c)) := part_all rfl
theorem same_or {α : Type} [DecidableEq α] {a b : List α} (hlen : a.length = b.length) {i : Nat} {x y : α} (h1 : a[i]? = some x) (h2 : b[i]? = some y) (hne : x ≠ y) : decide (a = b) = false := by
  rw [decide_eq_false_iff_not]
  rintro rfl
  rw [h1] at h2
  cases h2
  exact hne rfl
theorem same_all {α : Type} [DecidableEq α] {a b : List α} (hlen : a.length = b.length) (h : ∀ (i : Nat) (x y : α), a[i]? = some x → b[i]? = some y → x = y) : decide (a = b) = true := by
  rw [decide_eq_true_eq]
  apply List.ext_getElem hlen
  intro i h1 h2
  exact h i _ _ (List.getElem?_eq_getElem h1) (List.getElem?_eq_getElem h2)
theorem len_ne {α : Type} [DecidableEq α] {a b : List α} (h : a.length ≠ b.length) : decide (a = b) = false := by
  rw [decide_eq_false_iff_not]
  rintro rfl
  exact h rfl
def neAt {α : Type} [DecidableEq α] (a b : List α) (i : Nat) : Bool := match a[i]?, b[i]? with
  | some x, some y => decide (x ≠ y)
  | _, _ => false
theorem c15 (a b : List (Int × Int)) (hm : a.length < 9223372036854775808) (h : PHeap) : Γ0 15 [keysPV a, keysPV b] h = some (.bool (decide (a = b)), h) := by
  obtain ⟨N, hN⟩ : ∃ N : Nat, a.length < N := ⟨_, Nat.lt_succ_self _⟩
  refine gbody (F := A15) (by kernel_rfl) N ?_
  rw [s15_eq]; unfold s15
  by_cases hlen : a.length = b.length
  · have e0 : ((a.length : Int) != (b.length : Int)) = false := by rw [hlen]; simp
    simp only [words, ↓KLn, Nat.reduceAdd, len_keys, bin_neq, e0, Bool.false_eq_true, if_false]
    have stp : ∀ (i : Nat) (K : List PV → PHeap → Pt) (j7 : List PV → PHeap → Pt), i < a.length → s15_L0 Γ0 N (keysPV a) (keysPV b) h h (.int .i64 a.length) j7 K [.int .i64 i] h = if neAt a b i = true then some (.bool false, h) else K [.int .i64 ((i + 1 : Nat) : Int)] h := fun i K j7 hi => by
      obtain ⟨x, hx⟩ := lt_l hi
      obtain ⟨y, hy⟩ := lt_l (show i < b.length by omega)
      unfold s15_L0 neAt
      simp only [words, ↓KLn, Nat.reduceAdd, ltT hi, decide_true, if_true, idx_keys _ hx, idx_keys _ hy, key_part, eq_pair, hx, hy, fin_bool0, succ63 (show i < 9223372036854775807 by omega)]
      cases decide (x ≠ y) <;> simp only [if_true, Bool.false_eq_true, if_false, trim_self]
    refine loop_until (neAt a b) (fun i => [.int .i64 (i : Int)]) (fun _ => h) a.length hN rfl rfl (fun i hi hb K => ?_) (fun i hi hb hj K => ?_) (fun hj K => ?_)
    · rw [stp i K _ hi, if_neg (by rw [hb]; decide)]
    · rw [stp i K _ hi, if_pos hb]
      obtain ⟨x, hx⟩ := lt_l hi
      obtain ⟨y, hy⟩ := lt_l (show i < b.length by omega)
      unfold neAt at hb
      simp only [hx, hy, decide_eq_true_eq] at hb
      rw [same_or hlen hx hy hb]
    · unfold s15_L0
      simp only [words, ↓KLn, Nat.reduceAdd, ltF, decide_false, Bool.false_eq_true, if_false, fin_bool0]
      rw [same_all hlen]
      intro i x y hx hy
      have := hj i (List.getElem?_eq_some_iff.1 hx).1
      unfold neAt at this
      simpa only [hx, hy, decide_eq_false_iff_not, Decidable.not_not] using this
  · have e0 : ((a.length : Int) != (b.length : Int)) = true := by rw [bne_iff_ne]; omega
    simp only [words, ↓KLn, Nat.reduceAdd, len_keys, bin_neq, e0, if_true, fin_bool0, len_ne hlen]
theorem pt_part (c : Int × Int) : partP true 0 2 (ptC c) = some (.agg (ptC c)) := part_all rfl
theorem eq_pairP (x y : Int × Int) : eqAggP [.int, .int] true (.agg (ptC x)) (.agg (ptC y)) = some (.bool (decide (x ≠ y))) := eq_pair x y
theorem c31 (a b : List (Int × Int)) (hm : a.length < 9223372036854775808) (h : PHeap) : Γ0 31 [ptsPV a, ptsPV b] h = some (.bool (decide (a = b)), h) := by
  obtain ⟨N, hN⟩ : ∃ N : Nat, a.length < N := ⟨_, Nat.lt_succ_self _⟩
  refine gbody (F := A31) (by kernel_rfl) N ?_
  rw [s31_eq]; unfold s31
  by_cases hlen : a.length = b.length
  · have e0 : ((a.length : Int) != (b.length : Int)) = false := by rw [hlen]; simp
    simp only [words, ↓KLn, Nat.reduceAdd, len_pts, bin_neq, e0, Bool.false_eq_true, if_false]
    have stp : ∀ (i : Nat) (K : List PV → PHeap → Pt) (j7 : List PV → PHeap → Pt), i < a.length → s31_L0 Γ0 N (ptsPV a) (ptsPV b) h h (.int .i64 a.length) j7 K [.int .i64 i] h = if neAt a b i = true then some (.bool false, h) else K [.int .i64 ((i + 1 : Nat) : Int)] h := fun i K j7 hi => by
      obtain ⟨x, hx⟩ := lt_l hi
      obtain ⟨y, hy⟩ := lt_l (show i < b.length by omega)
      unfold s31_L0 neAt
      simp only [words, ↓KLn, Nat.reduceAdd, ltT hi, decide_true, if_true, idx_pts _ hx, idx_pts _ hy, pt_part, eq_pairP, hx, hy, fin_bool0, succ63 (show i < 9223372036854775807 by omega)]
      cases decide (x ≠ y) <;> simp only [if_true, Bool.false_eq_true, if_false, trim_self]
    refine loop_until (neAt a b) (fun i => [.int .i64 (i : Int)]) (fun _ => h) a.length hN rfl rfl (fun i hi hb K => ?_) (fun i hi hb hj K => ?_) (fun hj K => ?_)
    · rw [stp i K _ hi, if_neg (by rw [hb]; decide)]
    · rw [stp i K _ hi, if_pos hb]
      obtain ⟨x, hx⟩ := lt_l hi
      obtain ⟨y, hy⟩ := lt_l (show i < b.length by omega)
      unfold neAt at hb
      simp only [hx, hy, decide_eq_true_eq] at hb
      rw [same_or hlen hx hy hb]
    · unfold s31_L0
      simp only [words, ↓KLn, Nat.reduceAdd, ltF, decide_false, Bool.false_eq_true, if_false, fin_bool0]
      rw [same_all hlen]
      intro i x y hx hy
      have := hj i (List.getElem?_eq_some_iff.1 hx).1
      unfold neAt at this
      simpa only [hx, hy, decide_eq_false_iff_not, Decidable.not_not] using this
  · have e0 : ((a.length : Int) != (b.length : Int)) = true := by rw [bne_iff_ne]; omega
    simp only [words, ↓KLn, Nat.reduceAdd, len_pts, bin_neq, e0, if_true, fin_bool0, len_ne hlen]
end Go.Vm.X
