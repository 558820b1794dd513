
/- Songs: letters of effects, and where a letter stands. -/
import Derived.Test.YtaacaogceplhoaaIkName
set_option linter.unusedSimpArgs false
set_option linter.unusedVariables false
namespace Go.Vm.X
open Go.Am Go.Vm
attribute [local congr] bind_c ifP_c loop_c K1_c

theorem pcall_base {Γ : PCallee} {T : PTable} {f : FuncId} (hf : Nat.beq f yieldId = false) (hT : T.get f = none) (args : List PV) (h : PHeap) : ∀ n, pcall Γ T n f args h = Γ f args h
  | 0 => by unfold pcall; rw [hf, hT]; rfl
  | n + 1 => by unfold pcall; rw [hf, hT]; rfl
theorem prun_base {Γ : PCallee} {T : PTable} {f : FuncId} (hf : Nat.beq f yieldId = false) (hT : T.get f = none) {args : List PV} {h : PHeap} {r : PV × PHeap} (hr : Γ f args h = some r) : prun Γ T f args h = some r := by
  unfold prun
  have H : ∃ n, (pcall Γ T n f args h).isSome = true := ⟨0, by rw [pcall_base hf hT, hr]; rfl⟩
  rw [dif_pos H, pcall_base hf hT, hr]
theorem index_has : ∀ (l : List UInt8) (c : UInt8), decide (Lib.indexByte l c ≥ 0) = l.contains c ∧ (Lib.indexByte l c = -1 ∨ 0 ≤ Lib.indexByte l c)
  | [], c => ⟨rfl, .inl rfl⟩
  | b :: l, c => by
    obtain ⟨h1, h2⟩ := index_has l c
    unfold Lib.indexByte
    by_cases hb : (b == c) = true
    · rw [if_pos hb]
      refine ⟨?_, .inr (by decide)⟩
      have : c = b := by rw [beq_iff_eq] at hb; exact hb.symm
      simp [this]
    · rw [if_neg hb]
      have hcb : (c == b) = false := by
        rw [beq_eq_false_iff_ne]
        intro e
        exact hb (by rw [e]; simp)
      rw [List.contains_cons, hcb, Bool.false_or, ← h1]
      rcases h2 with h2 | h2
      · rw [h2]; exact ⟨rfl, .inl rfl⟩
      · have : ¬ ((Lib.indexByte l c == -1) = true) := by rw [beq_iff_eq]; omega
        rw [if_neg this]
        refine ⟨?_, .inr (by omega)⟩
        rw [decide_eq_decide]; omega
/-- The letter of an effect from 1 to 36. -/
def letterU (e : Int) : Nat := if e ≤ 10 then (47 + e).toNat else (54 + e).toNat
end Go.Vm.X
