/- Songs: patterns. -/
import Derived.Test.YtjfppnnoeebcbaaSwName2
set_option linter.unusedSimpArgs false
set_option linter.unusedVariables false
namespace Go.Vm.X
open Go.Am Go.Vm
attribute [local congr] bind_c ifP_c loop_c K1_c ite_c

/-- Where a list first has something, or -1. -/
def firstI {α : Type} (p : α → Bool) : List α → Int
  | [] => -1
  | a :: l => if p a then 0 else if firstI p l = -1 then -1 else firstI p l + 1
theorem first_at {α : Type} (p : α → Bool) (l : List α) : ∃ k, k ≤ l.length ∧ (∀ i a, i < k → l[i]? = some a → p a = false) ∧ (k = l.length ∧ firstI p l = -1 ∧ l.any p = false ∨ ∃ a, l[k]? = some a ∧ p a = true ∧ firstI p l = (k : Int) ∧ l.any p = true) := by
  induction l with
  | nil => exact ⟨0, Nat.le_refl _, fun i a h => by omega, .inl ⟨rfl, rfl, rfl⟩⟩
  | cons x l ih =>
    cases hx : p x with
    | true => exact ⟨0, Nat.zero_le _, fun i a h => by omega, .inr ⟨x, rfl, hx, by simp [firstI, hx], by simp [hx]⟩⟩
    | false =>
      obtain ⟨k, h1, h2, h3⟩ := ih
      refine ⟨k + 1, by simp; omega, fun i a hi ha => ?_, ?_⟩
      · cases i with
        | zero => cases ha; exact hx
        | succ i => exact h2 i a (by omega) ha
      · rcases h3 with ⟨h3, h4, h5⟩ | ⟨a, h3, h4, h5, h6⟩
        · exact .inl ⟨by simp [h3], by simp [firstI, hx, h4], by simp [hx, h5]⟩
        · refine .inr ⟨a, h3, h4, ?_, by simp [h6]⟩
          have : ¬ (firstI p l = -1) := by omega
          simp only [firstI, hx, this, Bool.false_eq_true, if_false]
          omega
theorem first_any {α : Type} (p : α → Bool) (l : List α) : decide (firstI p l ≥ 0) = l.any p := by
  obtain ⟨k, _, _, h3⟩ := first_at p l
  rcases h3 with ⟨_, h4, h5⟩ | ⟨_, _, _, h5, h6⟩
  · rw [h4, h5]; rfl
  · rw [h5, h6]; exact decide_eq_true (by omega)
def cellsPV (l : List Cell) : PV := .frz 6 (l.map Cell.cs)
theorem len_cells (l : List Cell) : lenP false (cellsPV l) = some (.int .i64 l.length) := len_map
theorem idx_cells {l : List Cell} {i : Nat} {c : Cell} (k : IntKind) (h : l[i]? = some c) : indexAddrP 6 (cellsPV l) (.int k i) = some (.fptr c.cs 0) := idx_map k h
theorem load_cell (c : Cell) (h : PHeap) : loadP true 6 (.fptr c.cs 0) h = some (.agg c.cs) := by rw [load_fptr]; exact part_all rfl
theorem c67 {f : PV} {p : Cell → Bool} {l : List Cell} {h : PHeap} (hm : l.length < 9223372036854775808) (hf : ∀ c, callVP Γ0 f [.agg c.cs] h = some (.bool (p c), h)) : Γ0 67 [cellsPV l, f] h = some (.int .i64 (firstI p l), h) := by
  refine gbody (F := A67) (by kernel_rfl) (l.length + 1) ?_
  rw [s67_eq]
  unfold s67
  simp only [len_cells, bS, ↓KLn]
  obtain ⟨k, h1, h2, h3⟩ := first_at p l
  refine loop_pure (fun i => [.int .i64 (i : Int)]) k (by omega) rfl (fun i hi K => ?_) fun K => ?_
  · obtain ⟨c, hc⟩ := lt_l (show i < l.length by omega)
    have hp := h2 i c hi hc
    unfold s67_L0
    simp only [nth_zero, bin_lss, ltT (show i < l.length by omega), decide_true, bS, ↓KLn, if_bool, if_true, idx_cells _ hc, load_cell, hf, hp, Bool.false_eq_true, if_false, bin_add, succ63 (show i < 9223372036854775807 by omega), trim_self]
  · rcases h3 with ⟨rfl, h4, h5⟩ | ⟨c, h3, h4, h5, h6⟩
    · unfold s67_L0
      simp only [nth_zero, bin_lss, ltF, decide_false, bS, ↓KLn, if_bool, Bool.false_eq_true, if_false, h4, fin_int0]
    · have hk : k < l.length := by
        obtain ⟨hh, _⟩ := List.getElem?_eq_some_iff.1 h3
        exact hh
      unfold s67_L0
      simp only [nth_zero, bin_lss, ltT hk, decide_true, bS, ↓KLn, if_bool, if_true, idx_cells _ h3, load_cell, hf, h4, h5, fin_int0]
theorem c44 {f : PV} {p : Cell → Bool} {l : List Cell} {h : PHeap} (hm : l.length < 9223372036854775808) (hf : ∀ c, callVP Γ0 f [.agg c.cs] h = some (.bool (p c), h)) : Γ0 44 [cellsPV l, f] h = some (.bool (l.any p), h) := by
  refine gbody (F := A44) (by kernel_rfl) 1 ?_
  rw [s44_eq]
  unfold s44
  simp only [c67 hm hf, bS, bin_geq, first_any, fin_bool0]
theorem c65 (c : Cell) (h : PHeap) : Γ0 65 [.agg c.cs] h = some (.bool (!cellOK c), h) := by
  refine gbody (F := A65) (by kernel_rfl) 1 ?_
  rw [s65_eq]
  unfold s65
  have hb : loadP true 6 (.ptr h.length 0) (h ++ [.box c.cs 107 .rw]) = some (.agg c.cs) := box_all rfl
  simp only [fork_def, cells_agg, hb, c66, bS, un_not, fin_bool]
theorem c88 (x : Int) (h : PHeap) : Γ0 88 [.int .i64 x] h = some (.bool (inW x 1 16), h) := by
  refine gbody (F := A88) (by kernel_rfl) 1 ?_
  rw [s88_eq]
  unfold s88 inW
  simp only [bin_leq, bS, K1_and, fin_bool0]
def patV (r : Int) (l : List Cell) : PV := .agg [.int .i64 r, cellsPV l]
def patOK (r : Int) (l : List Cell) (ch : Int) : Bool := inW ch 1 16 && inW r 1 64 && ((l.length : Int) == IntKind.i64.wrap (r * ch)) && l.all cellOK
theorem any_not_all (l : List Cell) : (!l.any fun c => !cellOK c) = l.all cellOK := by rw [List.not_any_eq_all_not]; simp
theorem c43 (r : Int) {l : List Cell} (hm : l.length < 9223372036854775808) (ch : Int) (h : PHeap) : Γ0 43 [patV r l, .int .i64 ch] h = some (.bool (patOK r l ch), h) := by
  refine gbody (F := A43) (by kernel_rfl) 1 ?_
  rw [s43_eq]
  unfold s43 patOK patV
  have l0 : loadP false 1 (.ptr h.length 0) (h ++ [.box [.int .i64 r, cellsPV l] 46 .rw]) = some (.int .i64 r) := load_new rfl
  have l1 : loadP false 1 (.ptr h.length 1) (h ++ [.box [.int .i64 r, cellsPV l] 46 .rw]) = some (cellsPV l) := load_new rfl
  have k32 := c44 (f := .func 65 [] []) (p := fun c => !cellOK c) (h := h ++ [.box [.int .i64 r, cellsPV l] 46 .rw]) hm fun c => by rw [callV_func Γ0 65]; exact c65 c _
  simp only [fork_def, cells_agg, c63, c64, field_new, l0, l1, len_cells, bin_mul, bin_eql, k32, un_not, any_not_all, bS, K1_and, fin_bool]
theorem c80 (r : Int) {l : List Cell} (hm : l.length < 9223372036854775808) (ch : Int) (h : PHeap) : Γ0 80 [patV r l, .int .i64 ch] h = some (.bool (patOK r l ch), h) := by
  refine gbody (F := A80) (by kernel_rfl) (l.length + 1) ?_
  rw [s80_eq]
  unfold s80 patOK patV
  have l0 : loadP false 1 (.ptr h.length 0) (h ++ [.box [.int .i64 r, cellsPV l] 46 .rw]) = some (.int .i64 r) := load_new rfl
  have l1 : loadP false 1 (.ptr h.length 1) (h ++ [.box [.int .i64 r, cellsPV l] 46 .rw]) = some (cellsPV l) := load_new rfl
  simp only [fork_def, cells_agg, c88, field_new, l0, l1, len_cells, bin_mul, bin_neq, bin_lss, bin_gtr, un_not, bS, K1_or, if_bool, ↓KLn]
  have hcond : ((((!inW ch 1 16) || decide (r < 1)) || decide (r > 64)) || ((l.length : Int) != IntKind.i64.wrap (r * ch))) = !(inW ch 1 16 && inW r 1 64 && ((l.length : Int) == IntKind.i64.wrap (r * ch))) := by
    unfold inW
    rw [Bool.eq_iff_iff]
    simp only [Bool.or_eq_true, Bool.not_eq_true', Bool.and_eq_false_iff, decide_eq_true_eq, decide_eq_false_iff_not, bne_iff_ne, beq_eq_false_iff_ne, ne_eq]
    omega
  rw [hcond]
  cases hc : (inW ch 1 16 && inW r 1 64 && ((l.length : Int) == IntKind.i64.wrap (r * ch))) with
  | false => simp only [Bool.not_false, if_true, Bool.false_and, fin_bool]
  | true =>
    simp only [Bool.not_true, Bool.false_eq_true, if_false, Bool.true_and]
    obtain ⟨k, h1, h2, h3⟩ := first_not cellOK l
    refine loop_pure (fun i => [.int .i64 (i : Int)]) k (by omega) rfl (fun i hi K => ?_) fun K => ?_
    · obtain ⟨c, hc⟩ := lt_l (show i < l.length by omega)
      have hp := h2 i c hi hc
      unfold s80_L0
      simp only [nth_zero, field_new, l1, len_cells, bin_lss, ltT (show i < l.length by omega), decide_true, bS, ↓KLn, if_bool, if_true, idx_cells _ hc, load_cell, c89, hp, un_not, Bool.not_true, Bool.false_eq_true, if_false, bin_add, succ63 (show i < 9223372036854775807 by omega), trim_self]
    · rcases h3 with ⟨rfl, h4⟩ | ⟨c, h3, h4, h5⟩
      · unfold s80_L0
        simp only [nth_zero, field_new, l1, len_cells, bin_lss, ltF, decide_false, bS, ↓KLn, if_bool, Bool.false_eq_true, if_false, h4, fin_bool]
      · have hk : k < l.length := by
          obtain ⟨hh, _⟩ := List.getElem?_eq_some_iff.1 h3
          exact hh
        unfold s80_L0
        simp only [nth_zero, field_new, l1, len_cells, bin_lss, ltT hk, decide_true, bS, ↓KLn, if_bool, if_true, idx_cells _ h3, load_cell, c89, h4, un_not, Bool.not_false, h5, fin_bool]
end Go.Vm.X
