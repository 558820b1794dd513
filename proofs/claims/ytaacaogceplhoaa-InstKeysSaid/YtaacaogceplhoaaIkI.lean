/- Instruments with other keys: copies. -/
import Derived.Test.YtaacaogceplhoaaIkH
set_option linter.unusedSimpArgs false
set_option linter.unusedVariables false
namespace Go.Vm.X
open Go.Am Go.Vm
attribute [local congr] bind_c ifP_c loop_c K1_c ite_c fork_c guard_c unl_c

theorem emp_keys {t : TypeId} {l : List (Int × Int)} (h : PHeap) (h0 : l ≠ []) (hm : l.length ≤ mostLen) : appendP t 2 .emp (.frz 2 (l.map keyC)) h = some (.ref h.length 0 l.length l.length 2, h ++ [.log (l.map keyC) 2 t .rw]) := by
  have hn : ¬ (l.map keyC).length = 0 := by rw [List.length_map]; intro h; exact h0 (List.eq_nil_of_length_eq_zero h)
  have hone : (l.map keyC).flatten.all oneP = true := by
    rw [List.all_eq_true]
    intro x hx
    rw [List.mem_flatten] at hx
    obtain ⟨r, hr, hx⟩ := hx
    rw [List.mem_map] at hr
    obtain ⟨z, _, rfl⟩ := hr
    simp only [keyC, List.mem_cons, List.not_mem_nil, or_false] at hx
    rcases hx with rfl | rfl <;> rfl
  unfold appendP
  simp only [rows_frz, Option.bind_some, appendRows]
  rw [if_pos ⟨by rw [List.length_map]; exact hm, by decide, hone⟩, if_neg hn, List.length_map]
theorem c43n (h : PHeap) : Γ0 43 [keysPV []] h = some (.emp, h) := by
  refine gbody (F := A43) (by kernel_rfl) 1 ?_
  rw [s43_eq]; unfold s43
  have e : appendP 42 2 .emp (keysPV []) h = some (.emp, h) := rfl
  refine isNil_frz (rows := [].map keyC) (fun _ => ?_) ?_
  · simp only [↓KLn, if_bool, Bool.not_false, if_true, fin_def, fzL_cons, fzL_nil, fz_rawN, Option.bind_some, Option.map_some, single_one, trim_self]
  · show KL _ (fun j => ifP (.bool false) _ _) = _
    simp only [↓KLn, if_bool, Bool.false_eq_true, if_false, e, bS, fin_def, fzL_cons, fzL_nil, fz_rawE, Option.bind_some, Option.map_some, single_one, trim_self]
theorem c43 {l : List (Int × Int)} (h0 : l ≠ []) (hm : l.length ≤ mostLen) (h : PHeap) : Γ0 43 [keysPV l] h = some (.ref h.length 0 l.length l.length 2, h ++ [.log (l.map keyC) 2 42 .rw]) := by
  refine gbody (F := A43) (by kernel_rfl) 1 ?_
  rw [s43_eq]; unfold s43
  refine isNil_frz (rows := l.map keyC) (fun e => absurd (List.map_eq_nil_iff.1 e) h0) ?_
  have e : appendP 42 2 .emp (keysPV l) h = some (.ref h.length 0 l.length l.length 2, h ++ [.log (l.map keyC) 2 42 .rw]) := emp_keys h h0 hm
  simp only [↓KLn, if_bool, Bool.false_eq_true, if_false, e, bS, fin_def, fzL_cons, fzL_nil, fz_rawR, Option.bind_some, Option.map_some, single_one]
  rw [trim_ref ⟨_, List.mem_singleton.2 rfl, by simp [ltV]⟩]
theorem c44 {l : List (Int × Int)} (hm : l.length ≤ mostLen) (h : PHeap) : Γ0 44 [ptsPV l] h = some (ptsPV l, h) := by
  refine gbody (F := A44) (by kernel_rfl) 1 ?_
  rw [s44_eq]; unfold s44
  by_cases h0 : l = []
  · subst h0
    have hf : ∀ v, (v = .nilS ∨ v = .emp) → finP [.flat 2] h h [v] = some (ptsPV [], h) := fun v hv => by
      rcases hv with rfl | rfl <;> (rw [fin_def]; simp only [fzL, fz, Option.bind_some, Option.map_some, trim_self]; rfl)
    refine isNil_frz (rows := [].map ptC) (fun _ => ?_) ?_
    · simp only [↓KLn, if_bool, Bool.not_false, if_true]
      exact hf _ (.inl rfl)
    · simp only [↓KLn, if_bool, Bool.false_eq_true, if_false]
      rw [show appendP 46 2 PV.emp (ptsPV []) h = some (.emp, h) from rfl]
      exact hf _ (.inr rfl)
  · refine isNil_frz (rows := l.map ptC) (fun e => absurd (List.map_eq_nil_iff.1 e) h0) ?_
    have e : appendP 46 2 .emp (ptsPV l) h = some (.ref h.length 0 l.length l.length 2, h ++ [.log (l.map ptC) 2 46 .rw]) := emp_keys h h0 hm
    simp only [↓KLn, if_bool, Bool.false_eq_true, if_false, e, bS]
    have hz := fz_logF (h := h) (l := [.log (l.map ptC) 2 46 .rw]) (k := 0) (sz := 2) (s := 2) (t := 46) (rows := l.map ptC) rfl (by simpa using h0) (pure_keys l)
    rw [List.length_map] at hz
    exact fin_new (show fzL [.flat 2] [.ref h.length 0 l.length l.length 2] _ = some ([ptsPV l], _) from by simp only [fzL]; rw [show h.length = h.length + 0 from rfl, hz]; rfl) (by simp [ltV, ptsPV])
end Go.Vm.X
