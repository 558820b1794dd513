/- Songs: IndexFunc of numbers and of samples. -/
import Derived.Test.YtjfppnnoeebcbaaSwSmp2
set_option linter.unusedSimpArgs false
set_option linter.unusedVariables false
namespace Go.Vm.X
open Go.Am Go.Vm
attribute [local congr] bind_c ifP_c loop_c K1_c ite_c

theorem c49 {f : PV} {p : Int → Bool} {l : List Int} {h : PHeap} (hm : l.length < 9223372036854775808) (hf : ∀ x, callVP Γ0 f [.int .i64 x] h = some (.bool (p x), h)) : Γ0 49 [ints l, f] h = some (.int .i64 (firstI p l), h) := by
  refine gbody (F := A49) (by kernel_rfl) (l.length + 1) ?_
  rw [s49_eq]
  unfold s49
  simp only [len_ints, bS, ↓KLn]
  obtain ⟨k, h1, h2, h3⟩ := first_at p l
  refine loop_pure (fun i => [.int .i64 (i : Int)]) k (by omega) rfl (fun i hi K => ?_) fun K => ?_
  · obtain ⟨c, hc⟩ := lt_l (show i < l.length by omega)
    have hp := h2 i c hi hc
    unfold s49_L0
    simp only [nth_zero, bin_lss, ltT (show i < l.length by omega), decide_true, bS, ↓KLn, ifbN, if_true, idx_ints _ hc, load_iV, hf, hp, Bool.false_eq_true, if_false, bin_add, succ63 (show i < 9223372036854775807 by omega), trim_self]
  · rcases h3 with ⟨rfl, h4, h5⟩ | ⟨c, h3, h4, h5, h6⟩
    · unfold s49_L0
      simp only [nth_zero, bin_lss, ltF, decide_false, bS, ↓KLn, ifbN, Bool.false_eq_true, if_false, h4, fin_int0]
    · have hk : k < l.length := by
        obtain ⟨hh, _⟩ := List.getElem?_eq_some_iff.1 h3
        exact hh
      unfold s49_L0
      simp only [nth_zero, bin_lss, ltT hk, decide_true, bS, ↓KLn, ifbN, if_true, idx_ints _ h3, load_iV, hf, h4, h5, fin_int0]
def smpsPV (l : List Smp) : PV := .frz 13 (l.map Smp.cs)
theorem len_smps (l : List Smp) : lenP false (smpsPV l) = some (.int .i64 l.length) := len_map
theorem idx_smps {l : List Smp} {i : Nat} {c : Smp} (k : IntKind) (h : l[i]? = some c) : indexAddrP 13 (smpsPV l) (.int k i) = some (.fptr c.cs 0) := idx_map k h
theorem load_smp (c : Smp) (h : PHeap) : loadP true 13 (.fptr c.cs 0) h = some (.agg c.cs) := by rw [load_fptr]; exact part_all rfl
theorem c53 {f : PV} {p : Smp → Bool} {l : List Smp} {h : PHeap} (hm : l.length < 9223372036854775808) (hf : ∀ c ∈ l, callVP Γ0 f [.agg c.cs] h = some (.bool (p c), h)) : Γ0 53 [smpsPV l, f] h = some (.int .i64 (firstI p l), h) := by
  refine gbody (F := A53) (by kernel_rfl) (l.length + 1) ?_
  rw [s53_eq]
  unfold s53
  simp only [len_smps, bS, ↓KLn]
  obtain ⟨k, h1, h2, h3⟩ := first_at p l
  refine loop_pure (fun i => [.int .i64 (i : Int)]) k (by omega) rfl (fun i hi K => ?_) fun K => ?_
  · obtain ⟨c, hc⟩ := lt_l (show i < l.length by omega)
    have hp := h2 i c hi hc
    unfold s53_L0
    simp only [nth_zero, bin_lss, ltT (show i < l.length by omega), decide_true, bS, ↓KLn, ifbN, if_true, idx_smps _ hc, load_smp, hf c (List.mem_of_getElem? hc), hp, Bool.false_eq_true, if_false, bin_add, succ63 (show i < 9223372036854775807 by omega), trim_self]
  · rcases h3 with ⟨rfl, h4, h5⟩ | ⟨c, h3, h4, h5, h6⟩
    · unfold s53_L0
      simp only [nth_zero, bin_lss, ltF, decide_false, bS, ↓KLn, ifbN, Bool.false_eq_true, if_false, h4, fin_int0]
    · have hk : k < l.length := by
        obtain ⟨hh, _⟩ := List.getElem?_eq_some_iff.1 h3
        exact hh
      unfold s53_L0
      simp only [nth_zero, bin_lss, ltT hk, decide_true, bS, ↓KLn, ifbN, if_true, idx_smps _ h3, load_smp, hf c (List.mem_of_getElem? h3), h4, h5, fin_int0]
end Go.Vm.X
