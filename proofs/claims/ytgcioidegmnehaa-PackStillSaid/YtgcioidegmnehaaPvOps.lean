/- Packing: numbers, data asked, differences and sums, both sides. -/
import Derived.Test.YtgcioidegmnehaaPkGen
import Derived.Test.YtgcioidegmnehaaPvBits
set_option linter.unusedSimpArgs false
set_option linter.unusedVariables false
namespace Go.Vm.X
open Go.Am Go.Vm
theorem succ63 {i : Nat} (h : i < 9223372036854775807) : IntKind.i64.wrap ((i : Int) + 1) = ((i + 1 : Nat) : Int) := by rw [wrap64 (by unfold isI64; omega)]; omega

theorem wrap_half {b : Nat} (h1 : 1 ≤ b) (h2 : b ≤ 16) : isI64 (2 * half b) ∧ isI64 (2 * half b - 1) ∧ isI64 (half b) ∧ isI64 (-half b) := by
  have := half_pos b
  have := half_16 h2
  unfold isI64
  omega
theorem sub_one {b : Nat} (h1 : 1 ≤ b) (h2 : b ≤ 62) : IntKind.i64.wrap ((b : Int) - 1) = ((b - 1 : Nat) : Int) := by
  rw [wrap64 (by unfold isI64; omega)]; omega
theorem shl_half {b : Nat} (h1 : 1 ≤ b) (h2 : b ≤ 16) : binP .shl (.int .i64 1) (.int .i64 ((b - 1 : Nat) : Int)) = some (.int .i64 (half b)) := by
  have := wrap_half h1 h2
  rw [shl_pow _ _ _ (by omega), Int.one_mul, wrap64 (by have := this.2.2.1; unfold half at this; exact this)]
  rfl
theorem shl_nhalf {b : Nat} (h1 : 1 ≤ b) (h2 : b ≤ 16) : binP .shl (.int .i64 (-1)) (.int .i64 ((b - 1 : Nat) : Int)) = some (.int .i64 (-half b)) := by
  have := wrap_half h1 h2
  rw [shl_pow _ _ _ (by omega), Int.neg_one_mul, wrap64 (by have := this.2.2.2; unfold half at this; exact this)]
  rfl
theorem shl_full {b : Nat} (h1 : 1 ≤ b) (h2 : b ≤ 16) : binP .shl (.int .i64 1) (.int .i64 (b : Int)) = some (.int .i64 (2 * half b)) := by
  have := wrap_half h1 h2
  rw [shl_pow _ _ _ (by omega), Int.one_mul, ← half_two h1, wrap64 this.1]
theorem c38 {b : Nat} (h1 : 1 ≤ b) (h2 : b ≤ 16) (x : Int) (h : PHeap) : Γ0 38 [.int .i64 x, .int .i64 b] h = some (.int .i64 (wrapB b x), h) := by
  refine gbody (F := A38) (by kernel_rfl) 1 ?_
  rw [s38_eq]
  unfold s38
  have hw := wrap_half h1 h2
  have hp := half_pos b
  have hand := and_mask x (show b ≤ 62 by omega)
  rw [← half_two h1] at hand
  have hq : IntKind.i64.wrap ((2 * half b).tdiv 2) = half b := by
    rw [Int.mul_comm, Int.mul_tdiv_cancel _ (by decide), wrap64 hw.2.2.1]
  simp only [shl_full h1 h2, Option.bind_some, bin_sub, wrap64 hw.2.1, hand, bin_quo _ _ _ (show (2 : Int) ≠ 0 by decide), hq, bin_geq, KL_def, if_bool, decide_eq_true_eq, nth_zero, fin_int0]
  rw [wrapB_low]
  have g1 := Int.emod_nonneg x (show 2 * half b ≠ 0 by omega)
  have g2 := Int.emod_lt_of_pos x (show 0 < 2 * half b by omega)
  have g3 := hw.1
  split
  · rw [wrap64 (by unfold isI64 at *; omega)]
  · rfl
theorem c64 {a b : Int} (hb : 0 < b) (ha : isI64 a) (h : PHeap) : Γ0 64 [.int .i64 a, .int .i64 b] h = some (.int .i64 (a / b), h) := by
  refine gbody (F := A64) (by kernel_rfl) 1 ?_
  rw [s64_eq]
  unfold s64
  simp only [bin_quo _ _ _ (show b ≠ 0 by omega), bin_rem _ _ _ (show b ≠ 0 by omega), Option.bind_some, wrap64 (tdiv64 hb ha), bin_lss, KL_def, if_bool, decide_eq_true_eq, nth_zero, bin_sub, fin_int0]
  have e := floor_eq (a := a) hb
  split
  · rename_i hc
    rw [if_pos hc] at e
    rw [e, wrap64 (div64 hb ha)]
  · rename_i hc
    rw [if_neg hc] at e
    rw [e]
theorem c60 {a b : Int} (hb : 0 < b) (ha : isI64 a) (hb2 : isI64 b) (h : PHeap) : Γ0 60 [.int .i64 a, .int .i64 b] h = some (.int .i64 (a % b), h) := by
  refine gbody (F := A60) (by kernel_rfl) 1 ?_
  rw [s60_eq]
  unfold s60
  have e : a - b * (a / b) = a % b := by have := Int.emod_add_mul_ediv a b; omega
  have h1 := Int.emod_nonneg a (show b ≠ 0 by omega)
  have h2 := Int.emod_lt_of_pos a hb
  simp only [c64 hb ha, Option.bind_some, bin_mul, bin_sub, wrap64_sub, e, fin_int0]
  rw [wrap64 (by unfold isI64 at *; omega)]
theorem c43 {b : Nat} (h1 : 1 ≤ b) (h2 : b ≤ 16) (x : Int) (h : PHeap) : Γ0 43 [.int .i64 x, .int .i64 b] h = some (.int .i64 (wrapB b x), h) := by
  refine gbody (F := A43) (by kernel_rfl) 1 ?_
  rw [s43_eq]
  unfold s43
  have hw := wrap_half h1 h2
  have hp := half_pos b
  have e : (IntKind.i64.wrap (x + half b)) % (2 * half b) = (x + half b) % (2 * half b) := by
    have k1 := emod64 (show b ≤ 64 by omega) (IntKind.i64.wrap (x + half b))
    rw [wrap64_emod, emod64 (show b ≤ 64 by omega), ← half_two h1] at k1
    exact k1.symm
  have hr := wrapB_range b x
  unfold inR at hr
  simp only [Bool.and_eq_true, decide_eq_true_eq] at hr
  have e2 : (x + half b) % (2 * half b) - half b = wrapB b x := rfl
  simp only [bin_sub, sub_one h1 (show b ≤ 62 by omega), Option.bind_some, shl_half h1 h2, bin_add, bin_mul, wrap64 hw.1, c60 (show 0 < 2 * half b by omega) (wrap64_range _) hw.1, e, e2, fin_int0]
  rw [wrap64 (by have := hw.2.2.1; have := hw.2.2.2; unfold isI64 at *; omega)]
theorem c54 {b : Nat} (h1 : 1 ≤ b) (h2 : b ≤ 16) (x : Int) (h : PHeap) : Γ0 54 [.int .i64 x, .int .i64 b] h = some (.bool (inR b x), h) := by
  refine gbody (F := A54) (by kernel_rfl) 1 ?_
  rw [s54_eq]
  unfold s54
  simp only [c43 h1 h2, Option.bind_some, bin_eql, wrapB_fits, fin_bool0]
theorem c53 {b : Nat} (h1 : 1 ≤ b) (h2 : b ≤ 16) (x : Int) {h : PHeap} {b0 : Nat} (hb : boxAt h b0 = some [.int .i64 b]) : Γ0 53 [.int .i64 x, .ptr b0 0] h = some (.bool (!inR b x), h) := by
  refine gbody (F := A53) (by kernel_rfl) 1 ?_
  rw [s53_eq]
  unfold s53
  simp only [load_box, hb, part_cell, List.getElem?_cons_zero, Option.bind_some, bin_sub, sub_one h1 (show b ≤ 62 by omega), shl_half h1 h2, shl_nhalf h1 h2, bin_lss, bin_geq, K1_def, sc_or, fin_bool0]
  unfold inR
  by_cases g1 : x < -half b
  · have g2 : ¬ -half b ≤ x := by omega
    simp [g1, g2]
  · have g2 : -half b ≤ x := by omega
    by_cases g3 : x ≥ half b
    · have g4 : ¬ x < half b := by omega
      simp [g1, g2, g3, g4]
    · have g4 : x < half b := by omega
      simp [g1, g2, g3, g4]

/-- 8 or 16 bits. -/
def right (bits : Int) : Bool := bits == 8 || bits == 16
theorem right_nat {bits : Int} (h : right bits = true) : ∃ b : Nat, bits = b ∧ (b = 8 ∨ b = 16) := by
  unfold right at h
  simp only [Bool.or_eq_true, beq_iff_eq] at h
  rcases h with h | h
  · exact ⟨8, by omega, .inl rfl⟩
  · exact ⟨16, by omega, .inr rfl⟩
theorem c32 (bits : Int) (h : PHeap) : Γ0 32 [.int .i64 bits] h = some (.bool (right bits), h) := by
  refine gbody (F := A32) (by kernel_rfl) 1 ?_
  rw [s32_eq]
  unfold s32 right
  simp only [bin_eql, Option.bind_some, K1_def, sc_or, fin_bool0]
  by_cases h1 : bits = 8 <;> simp [h1]
theorem c33 (v : Int) (h : PHeap) : Γ0 33 [.int .i64 v] h = some (.bool (v == 1 || v == 2), h) := by
  refine gbody (F := A33) (by kernel_rfl) 1 ?_
  rw [s33_eq]
  unfold s33
  simp only [bin_eql, Option.bind_some, K1_def, sc_or, fin_bool0]
  by_cases h1 : v = 1 <;> simp [h1]
/-- What data's check says. -/
def chk (l : List Int) (bits : Int) : Int := if right bits then (if l.all (inR bits.toNat) then (if l.length > 4096 then 3 else 0) else 1) else 1
theorem all_not {α : Type} {l : List α} {p : α → Bool} {i : Nat} {a : α} (hi : l[i]? = some a) (hp : p a = false) : l.all p = false := by
  rw [List.all_eq_false]
  exact ⟨a, List.mem_of_getElem? hi, by simp [hp]⟩
/-- Where a list first has something, or its end. -/
theorem first_not {α : Type} (p : α → Bool) (l : List α) : ∃ k, k ≤ l.length ∧ (∀ i a, i < k → l[i]? = some a → p a = true) ∧ (k = l.length ∧ l.all p = true ∨ ∃ a, l[k]? = some a ∧ p a = false ∧ l.all p = false) := by
  induction l with
  | nil => exact ⟨0, Nat.le_refl _, fun i a h => by omega, .inl ⟨rfl, rfl⟩⟩
  | cons x l ih =>
    cases hx : p x with
    | false => exact ⟨0, Nat.zero_le _, fun i a h => by omega, .inr ⟨x, rfl, hx, by simp [hx]⟩⟩
    | true =>
      obtain ⟨k, h1, h2, h3⟩ := ih
      refine ⟨k + 1, by simp; omega, fun i a hi ha => ?_, ?_⟩
      · cases i with
        | zero => cases ha; exact hx
        | succ i => exact h2 i a (by omega) ha
      · rcases h3 with ⟨h3, h4⟩ | ⟨a, h3, h4, h5⟩
        · exact .inl ⟨by simp [h3], by simp [hx, h4]⟩
        · exact .inr ⟨a, h3, h4, by simp [h5]⟩
/-- IndexFunc and ContainsFunc of numbers. -/
theorem c58 {f : PV} {p : Int → Bool} {l : List Int} {h : PHeap} (hm : l.length < 9223372036854775808) (hf : ∀ x, callVP Γ0 f [.int .i64 x] h = some (.bool (p x), h)) :
    ∃ k : Int, Γ0 58 [ints l, f] h = some (.int .i64 k, h) ∧ (decide (k ≥ 0) = l.any p) := by
  obtain ⟨k, h1, h2, h3⟩ := first_not (fun x => !p x) l
  have e : l.any p = !l.all (fun x => !p x) := by rw [List.not_all_eq_any_not]; simp
  have step : ∀ i, i < k → ∀ K j, s58_L0 Γ0 (l.length + 1) (ints l) f h (.int .i64 l.length) j K [.int .i64 i] h = K [.int .i64 ((i + 1 : Nat) : Int)] h := by
    intro i hi K j
    obtain ⟨a, ha⟩ := lt_len (show i < l.length by omega)
    have hp := h2 i a hi ha
    have hp' : p a = false := by simpa using hp
    unfold s58_L0
    simp only [nth_zero, bin_lss, ltT (show i < l.length by omega), decide_true, Option.bind_some, KL_def, if_bool, if_true, idx_ints _ ha, load_iV, hf, hp', Bool.false_eq_true, if_false, bin_add, succ63 (show i < 9223372036854775807 by omega), trim_self]
  rcases h3 with ⟨h3, h4⟩ | ⟨a, h3, h4, h5⟩
  · refine ⟨-1, ?_, by rw [e, h4]; rfl⟩
    refine gbody (F := A58) (by kernel_rfl) (l.length + 1) ?_
    rw [s58_eq]
    unfold s58
    simp only [len_ints, Option.bind_some, KL_def]
    refine loop_pure (fun i => [.int .i64 i]) k (by omega) rfl (fun i hi K => step i hi K _) fun K => ?_
    subst h3
    unfold s58_L0
    simp only [nth_zero, bin_lss, ltF, decide_false, Option.bind_some, KL_def, if_bool, Bool.false_eq_true, if_false, fin_int0]
  · refine ⟨k, ?_, by rw [e, h5]; simp⟩
    have hk := some_lt h3
    refine gbody (F := A58) (by kernel_rfl) (l.length + 1) ?_
    rw [s58_eq]
    unfold s58
    simp only [len_ints, Option.bind_some, KL_def]
    refine loop_pure (fun i => [.int .i64 i]) k (by omega) rfl (fun i hi K => step i hi K _) fun K => ?_
    have hp' : p a = true := by simpa using h4
    unfold s58_L0
    simp only [nth_zero, bin_lss, ltT hk, decide_true, Option.bind_some, KL_def, if_bool, if_true, idx_ints _ h3, load_iV, hf, hp', fin_int0]
theorem c35 {f : PV} {p : Int → Bool} {l : List Int} {h : PHeap} (hm : l.length < 9223372036854775808) (hf : ∀ x, callVP Γ0 f [.int .i64 x] h = some (.bool (p x), h)) : Γ0 35 [ints l, f] h = some (.bool (l.any p), h) := by
  obtain ⟨k, h1, h2⟩ := c58 hm hf
  refine gbody (F := A35) (by kernel_rfl) 1 ?_
  rw [s35_eq]
  unfold s35
  simp only [h1, Option.bind_some, bin_geq, h2, fin_bool0]
theorem c24 {l : List Int} (bits : Int) (hm : l.length < 9223372036854775808) (h : PHeap) : Γ0 24 [ints l, .int .i64 bits] h = some (.int .i64 (chk l bits), h) := by
  refine gbody (F := A24) (by kernel_rfl) 1 ?_
  rw [s24_eq]
  unfold s24
  have hb : boxAt (h ++ [.box [.int .i64 bits] 3 .rw]) h.length = some [.int .i64 bits] := boxAt_some (by rw [get_new0]; rfl)
  simp only [fork_def, cellsP, load_box, hb, part_cell, List.getElem?_cons_zero, Option.bind_some, bin_neq, K1_def, KL_def, sc_and, if_bool, fin_int]
  cases hr : right bits with
  | false =>
    have n1 : (bits != 8) = true := by unfold right at hr; simp at hr ⊢; exact hr.1
    have n2 : (bits != 16) = true := by unfold right at hr; simp at hr ⊢; exact hr.2
    simp only [n1, n2, if_true]
    unfold chk
    rw [hr]
    rfl
  | true =>
    obtain ⟨b, rfl, hb8⟩ := right_nat hr
    have k35 := c35 (f := .func 53 [] [.ptr h.length 0]) (p := fun x => !inR b x) (h := h ++ [.box [.int .i64 b] 3 .rw]) hm fun x => by rw [callV_func Γ0 53]; exact c53 (by omega) (by omega) x hb
    rw [show (l.any fun x => !inR b x) = !l.all (inR b) by rw [List.not_all_eq_any_not]] at k35
    have go : ∀ A B : Pt, (if ((b : Int) != 8) = true then (if ((b : Int) != 16) = true then A else B) else if false = true then A else B) = B := fun A B => by
      rcases hb8 with rfl | rfl <;> rfl
    simp only [k35, Option.bind_some, len_ints, bin_gtr, decide_eq_true_eq, go]
    unfold chk
    rw [hr, Int.toNat_natCast]
    cases ha : l.all (inR b) with
    | false => simp only [Bool.not_false, if_bool, if_true, fin_int, Bool.false_eq_true, if_false]
    | true =>
      simp only [Bool.not_true, if_bool, decide_eq_true_eq, if_true, Bool.false_eq_true, if_false, fin_int]
      by_cases h4 : l.length > 4096
      · rw [if_pos (by omega), if_pos h4]
      · rw [if_neg (by omega), if_neg h4]
theorem c26 {l : List Int} (bits : Int) (hm : l.length < 9223372036854775808) (h : PHeap) : Γ0 26 [ints l, .int .i64 bits] h = some (.int .i64 (chk l bits), h) := by
  refine gbody (F := A26) (by kernel_rfl) (l.length + 1) ?_
  rw [s26_eq]
  unfold s26
  simp only [c32, Option.bind_some, un_not, KL_def, if_bool, fin_int0]
  cases hr : right bits with
  | false => unfold chk; rw [hr]; rfl
  | true =>
    obtain ⟨b, rfl, hb⟩ := right_nat hr
    simp only [Bool.not_true, Bool.false_eq_true, if_false]
    obtain ⟨k, h1, h2, h3⟩ := first_not (inR b) l
    have h54 := fun x h => c54 (b := b) (by omega) (by omega) x h
    refine loop_pure (fun i => [.int .i64 i]) k (by omega) rfl (fun i hi K => ?_) fun K => ?_
    · obtain ⟨a, ha⟩ := lt_len (show i < l.length by omega)
      unfold s26_L0
      simp only [len_ints, nth_zero, bin_lss, ltT (show i < l.length by omega), decide_true, Option.bind_some, KL_def, if_bool, if_true, idx_ints _ ha, load_iV, h54, h2 i a hi ha, un_not, Bool.not_true, Bool.false_eq_true, if_false, bin_add, succ63 (show i < 9223372036854775807 by omega), trim_self]
    · unfold chk
      rw [hr, Int.toNat_natCast]
      rcases h3 with ⟨rfl, h4⟩ | ⟨a, h3, h4, h5⟩
      · rw [h4]
        unfold s26_L0
        simp only [len_ints, nth_zero, bin_lss, ltF, decide_false, Option.bind_some, KL_def, if_bool, Bool.false_eq_true, if_false, if_true, bin_gtr, decide_eq_true_eq, fin_int0]
        by_cases h4 : l.length > 4096
        · rw [if_pos (by omega), if_pos h4]
        · rw [if_neg (by omega), if_neg h4]
      · rw [h5]
        unfold s26_L0
        simp only [len_ints, nth_zero, bin_lss, ltT (some_lt h3), decide_true, Option.bind_some, KL_def, if_bool, if_true, idx_ints _ h3, load_iV, h54, h4, un_not, Bool.not_false, fin_int0, Bool.false_eq_true, if_false]
end Go.Vm.X
