
/- Songs: the keys of an instrument. -/
import Derived.Test.YtaacaogceplhoaaIkEnv
set_option linter.unusedSimpArgs false
set_option linter.unusedVariables false
namespace Go.Vm.X
open Go.Am Go.Vm
attribute [local congr] bind_c ifP_c loop_c K1_c ite_c

/-- A key: note, sample. -/
def keyC (k : Int × Int) : List PV := [.int .i64 k.1, .int .i64 k.2]
def keysPV (l : List (Int × Int)) : PV := .frz 2 (l.map keyC)
theorem len_keys (l : List (Int × Int)) : lenP false (keysPV l) = some (.int .i64 l.length) := len_map
theorem idx_keys {l : List (Int × Int)} {i : Nat} {c : Int × Int} (k : IntKind) (h : l[i]? = some c) : indexAddrP 2 (keysPV l) (.int k i) = some (.fptr (keyC c) 0) := idx_map k h
theorem load_key (c : Int × Int) (h : PHeap) : loadP true 2 (.fptr (keyC c) 0) h = some (.agg (keyC c)) := by rw [load_fptr]; exact part_all rfl
theorem c23 (k : Int × Int) (h : PHeap) : Γ0 23 [.agg (keyC k)] h = some (.bool (!inW k.1 0 119 || !inW k.2 0 31), h) := by
  refine gbody (F := A23) (by kernel_rfl) 1 ?_
  rw [s23_eq]
  unfold s23
  have l0 : loadP false 1 (.ptr h.length 0) (h ++ [.box (keyC k) 42 .rw]) = some (.int .i64 k.1) := load_new rfl
  have l1 : loadP false 1 (.ptr h.length 1) (h ++ [.box (keyC k) 42 .rw]) = some (.int .i64 k.2) := load_new rfl
  simp only [forkN, cellsN, field_new, l0, l1, c19, unN, bS, K1_or, fin_bool]
theorem c38 {f : PV} {p : Int × Int → Bool} {l : List (Int × Int)} {h : PHeap} (hm : l.length < 9223372036854775808) (hf : ∀ c, callVP Γ0 f [.agg (keyC c)] h = some (.bool (p c), h)) : Γ0 38 [keysPV l, f] h = some (.int .i64 (firstI p l), h) := by
  refine gbody (F := A38) (by kernel_rfl) (l.length + 1) ?_
  rw [s38_eq]
  unfold s38
  simp only [len_keys, bS, ↓KLn]
  obtain ⟨k, h1, h2, h3⟩ := first_at p l
  refine loop_pure (fun i => [.int .i64 (i : Int)]) k (by omega) rfl (fun i hi K => ?_) fun K => ?_
  · obtain ⟨c, hc⟩ := lt_l (show i < l.length by omega)
    have hp := h2 i c hi hc
    unfold s38_L0
    simp only [nth_zero, bin_lss, ltT (show i < l.length by omega), decide_true, bS, ↓KLn, ifbN, if_true, idx_keys _ hc, load_key, hf, hp, Bool.false_eq_true, if_false, bin_add, succ63 (show i < 9223372036854775807 by omega), trim_self]
  · rcases h3 with ⟨rfl, h4, h5⟩ | ⟨c, h3, h4, h5, h6⟩
    · unfold s38_L0
      simp only [nth_zero, bin_lss, ltF, decide_false, bS, ↓KLn, ifbN, Bool.false_eq_true, if_false, h4, fin_int0]
    · have hk : k < l.length := by
        obtain ⟨hh, _⟩ := List.getElem?_eq_some_iff.1 h3
        exact hh
      unfold s38_L0
      simp only [nth_zero, bin_lss, ltT hk, decide_true, bS, ↓KLn, ifbN, if_true, idx_keys _ h3, load_key, hf, h4, h5, fin_int0]
theorem c22 {f : PV} {p : Int × Int → Bool} {l : List (Int × Int)} {h : PHeap} (hm : l.length < 9223372036854775808) (hf : ∀ c, callVP Γ0 f [.agg (keyC c)] h = some (.bool (p c), h)) : Γ0 22 [keysPV l, f] h = some (.bool (l.any p), h) := by
  refine gbody (F := A22) (by kernel_rfl) 1 ?_
  rw [s22_eq]
  unfold s22
  simp only [c38 hm hf, bS, bin_geq, first_any, fin_bool0]
end Go.Vm.X
