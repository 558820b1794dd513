
/- Songs: patterns. -/
import Derived.Test.YtaacaogceplhoaaIkName2
set_option linter.unusedSimpArgs false
set_option linter.unusedVariables false
namespace Go.Vm.X
open Go.Am Go.Vm
attribute [local congr] bind_c ifP_c loop_c K1_c ite_c

/-- Where a list first has something, or -1. -/
def firstI {α : Type} (p : α → Bool) : List α → Int
  | [] => -1
  | a :: l => if p a then 0 else if firstI p l = -1 then -1 else firstI p l + 1
theorem first_at {α : Type} (p : α → Bool) (l : List α) : ∃ k, k ≤ l.length ∧ (∀ i a, i < k → l[i]? = some a → p a = false) ∧ (k = l.length ∧ firstI p l = -1 ∧ l.any p = false ∨ ∃ a, l[k]? = some a ∧ p a = true ∧ firstI p l = (k : Int) ∧ l.any p = true) := by
  induction l with
  | nil => exact ⟨0, Nat.le_refl _, fun i a h => by omega, .inl ⟨rfl, rfl, rfl⟩⟩
  | cons x l ih =>
    cases hx : p x with
    | true => exact ⟨0, Nat.zero_le _, fun i a h => by omega, .inr ⟨x, rfl, hx, by simp [firstI, hx], by simp [hx]⟩⟩
    | false =>
      obtain ⟨k, h1, h2, h3⟩ := ih
      refine ⟨k + 1, by simp; omega, fun i a hi ha => ?_, ?_⟩
      · cases i with
        | zero => cases ha; exact hx
        | succ i => exact h2 i a (by omega) ha
      · rcases h3 with ⟨h3, h4, h5⟩ | ⟨a, h3, h4, h5, h6⟩
        · exact .inl ⟨by simp [h3], by simp [firstI, hx, h4], by simp [hx, h5]⟩
        · refine .inr ⟨a, h3, h4, ?_, by simp [h6]⟩
          have : ¬ (firstI p l = -1) := by omega
          simp only [firstI, hx, this, Bool.false_eq_true, if_false]
          omega
theorem first_any {α : Type} (p : α → Bool) (l : List α) : decide (firstI p l ≥ 0) = l.any p := by
  obtain ⟨k, _, _, h3⟩ := first_at p l
  rcases h3 with ⟨_, h4, h5⟩ | ⟨_, _, _, h5, h6⟩
  · rw [h4, h5]; rfl
  · rw [h5, h6]; exact decide_eq_true (by omega)
def cellsPV (l : List Cell) : PV := .frz 6 (l.map Cell.cs)
theorem len_cells (l : List Cell) : lenP false (cellsPV l) = some (.int .i64 l.length) := len_map
theorem idx_cells {l : List Cell} {i : Nat} {c : Cell} (k : IntKind) (h : l[i]? = some c) : indexAddrP 6 (cellsPV l) (.int k i) = some (.fptr c.cs 0) := idx_map k h
theorem load_cell (c : Cell) (h : PHeap) : loadP true 6 (.fptr c.cs 0) h = some (.agg c.cs) := by rw [load_fptr]; exact part_all rfl
def patV (r : Int) (l : List Cell) : PV := .agg [.int .i64 r, cellsPV l]
def patOK (r : Int) (l : List Cell) (ch : Int) : Bool := inW ch 1 16 && inW r 1 64 && ((l.length : Int) == IntKind.i64.wrap (r * ch)) && l.all cellOK
theorem any_not_all (l : List Cell) : (!l.any fun c => !cellOK c) = l.all cellOK := by rw [List.not_any_eq_all_not]; simp
end Go.Vm.X
