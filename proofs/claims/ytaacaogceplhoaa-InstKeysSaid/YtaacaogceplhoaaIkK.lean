/- Instruments with other keys: the program's loops. -/
import Derived.Test.YtaacaogceplhoaaIkJ
set_option linter.unusedSimpArgs false
set_option linter.unusedVariables false
namespace Go.Vm.X
open Go.Am Go.Vm
attribute [local congr] bind_c ifP_c loop_c K1_c ite_c fork_c guard_c unl_c

theorem box_load {h l : PHeap} {q o : Nat} {vs : List PV} {t : TypeId} {md : Md} {v : PV} (e : l[q]? = some (.box vs t md)) (hv : vs[o]? = some v) : loadP false 1 (.ptr (h.length + q) o) (h ++ l) = some v := by
  simp only [loadP, boxAt, get_new, e, Option.bind_some, partC, hv]
def updK (i : Ins) (A : Nat) (s m : Int) (j : Nat) : List (Int × Int) := (List.range 120).map fun n => if A ≤ n ∧ n < A + j then (clampV ((n : Int) + s), m) else keyAt i n 0
theorem updK_len (i : Ins) (A : Nat) (s m : Int) (j : Nat) : (updK i A s m j).length = 120 := by simp [updK]
theorem updK_set (i : Ins) (A : Nat) (s m : Int) {j : Nat} (h : A + j < 120) : (updK i A s m j).set (A + j) (clampV (((A + j : Nat) : Int) + s), m) = updK i A s m (j + 1) := by
  apply List.ext_getElem?
  intro n
  by_cases hn : n < 120
  · by_cases e : A + j = n
    · subst e
      rw [List.getElem?_set_self (by rw [updK_len]; exact hn)]
      simp [updK, hn]
    · rw [List.getElem?_set_ne e]
      simp only [updK, List.getElem?_map, List.getElem?_range hn, Option.map_some]
      by_cases h1 : A ≤ n ∧ n < A + j
      · rw [if_pos h1, if_pos (by omega)]
      · rw [if_neg h1, if_neg (by omega)]
  · rw [List.getElem?_eq_none (by rw [List.length_set, updK_len]; omega), List.getElem?_eq_none (by rw [updK_len]; omega)]
theorem updK_all (i : Ins) (A B : Nat) (s m : Int) (h : A ≤ B) : updK i A s m (B - A + 1) = newKeys i (A : Int) (B : Int) s m := by
  unfold updK newKeys newKey
  apply List.map_congr_left
  intro n _
  by_cases h1 : A ≤ n ∧ n < A + (B - A + 1)
  · rw [if_pos h1, if_pos (by omega)]
  · rw [if_neg h1, if_neg (by omega)]
theorem minmax (x : Int) : (fold1P max2P [.int .i64 0, .int .i64 x]).bind (fun v => fold1P min2P [v, .int .i64 119]) = some (.int .i64 (clampV x)) := by
  simp only [fold1P, foldP, max2P, min2P, if_true, Option.bind_some]
  unfold clampV
  by_cases h1 : x > 0
  · by_cases h2 : 119 < x
    · rw [if_pos h1, if_pos h2, if_neg (by omega)]
    · rw [if_pos h1, if_neg h2, if_neg (by omega)]
  · rw [if_neg h1, if_neg (by omega)]
    by_cases h2 : x < 0
    · rw [if_pos h2]
    · rw [if_neg h2, if_neg (by omega), show x = 0 by omega]
theorem max_w (x : Int) : fold1P max2P [.int .i64 0, .int .i64 x] = some (.int .i64 (if x > 0 then x else 0)) := by
  simp only [fold1P, foldP, max2P, if_true, Option.bind_some]
theorem min_w (x : Int) : fold1P min2P [.int .i64 (if x > 0 then x else 0), .int .i64 119] = some (.int .i64 (clampV x)) := by
  have := minmax x
  rw [max_w, Option.bind_some] at this
  exact this
theorem set_loop {h l : PHeap} {k q N : Nat} {i : Ins} {A B : Nat} {s m : Int} {j36 : List PV → PHeap → Pt} (hN : 121 < N) (hAB : A ≤ B) (hB : B ≤ 119) (q5 : -119 ≤ s) (q6 : s ≤ 119) (hkq : k ≠ q) (hk : l[k]? = some (.log ((updK i A s m 0).map keyC) 2 42 .rw)) (hq : l[q]? = some (.box (i.ck (.ref (h.length + k) 0 120 120 2)) 27 .rw)) :
    loopP (s12_L0 Γ0 N (.int .i64 (B : Int)) (.int .i64 s) (.int .i64 m) (.ptr (h.length + q) 0) (h ++ l) j36) N [.int .i64 (A : Int)] (h ++ l) = j36 [] (h ++ l.set k (.log ((newKeys i (A : Int) (B : Int) s m).map keyC) 2 42 .rw)) := by
  have hlt := (List.getElem?_eq_some_iff.1 hk).1
  refine loop_run (fun j => [.int .i64 ((A + j : Nat) : Int)]) (fun j => h ++ l.set k (.log ((updK i A s m j).map keyC) 2 42 .rw)) (B - A + 1) (by omega) rfl ?_ (fun j hj K => ?_) fun K => ?_
  · congr 1
    apply List.ext_getElem?
    intro n
    by_cases e : k = n
    · subst e; rw [List.getElem?_set_self hlt, hk]
    · rw [List.getElem?_set_ne e]
  · have hq2 : (l.set k (.log ((updK i A s m j).map keyC) 2 42 .rw))[q]? = some (.box (i.ck (.ref (h.length + k) 0 120 120 2)) 27 .rw) := by rw [List.getElem?_set_ne hkq]; exact hq
    have hk2 : (l.set k (.log ((updK i A s m j).map keyC) 2 42 .rw))[k]? = some (.log ((updK i A s m j).map keyC) 2 42 .rw) := List.getElem?_set_self hlt
    have e1 : decide (((A + j : Nat) : Int) ≤ (B : Int)) = true := by rw [decide_eq_true_eq]; omega
    have hst := fun v => store_key (h := h) hk2 (updK_len i A s m j).symm (show A + j < 120 by omega) v
    have hld := fun o v (hv : (i.ck (.ref (h.length + k) 0 120 120 2))[o]? = some v) => box_load (h := h) hq2 hv
    unfold s12_L0
    simp only [words, ↓KLn, Nat.reduceAdd, e1, if_true, hld 1 _ (ck1 i _), add_sh (show A + j < 120 by omega) q5 q6, max_w, min_w, fill_kv, rf_idx2 (show A + j < 120 by omega), hst, updK_set i A s m (show A + j < 120 by omega), List.set_set, succ63 (show A + j < 9223372036854775807 by omega)]
    rw [trim_len _ (by simp)]
    rfl
  · have e1 : decide (((A + (B - A + 1) : Nat) : Int) ≤ (B : Int)) = false := by rw [decide_eq_false_iff_not]; omega
    unfold s12_L0
    simp only [words, ↓KLn, Nat.reduceAdd, e1, Bool.false_eq_true, if_false, updK_all i A B s m hAB]
end Go.Vm.X
