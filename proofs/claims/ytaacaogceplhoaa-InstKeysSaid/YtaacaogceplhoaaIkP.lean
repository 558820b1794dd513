/- InstKeys: the law. -/
import Derived.Test.YtaacaogceplhoaaIkO
set_option linter.unusedSimpArgs false
set_option linter.unusedVariables false
namespace Go.Vm.X
open Go.Am Go.Vm
attribute [local congr] bind_c ifP_c loop_c K1_c ite_c fork_c guard_c unl_c

def zeroK (ks : List (Int × Int)) (n : Nat) : List (Int × Int) := List.replicate n (0, 0) ++ ks.drop n
theorem zeroK_len {ks : List (Int × Int)} {n : Nat} (h : n ≤ ks.length) : (zeroK ks n).length = ks.length := by
  unfold zeroK; rw [List.length_append, List.length_replicate, List.length_drop]; omega
theorem zeroK_set {ks : List (Int × Int)} {n : Nat} (h : n < ks.length) : (zeroK ks n).set n (0, 0) = zeroK ks (n + 1) := by
  unfold zeroK
  rw [List.set_append_right _ _ (by simp), List.length_replicate, Nat.sub_self, List.drop_eq_getElem_cons h, List.replicate_succ', List.append_assoc]
  rfl
theorem zero_loop {h l : PHeap} {k q N : Nat} {i : Ins} {ks : List (Int × Int)} {j97 : List PV → PHeap → Pt} (hN : 121 < N) (hks : ks.length = 120) (hkq : k ≠ q) (hk : l[k]? = some (.log (ks.map keyC) 2 42 .rw)) (hq : l[q]? = some (.box (i.ck (.ref (h.length + k) 0 120 120 2)) 27 .rw)) :
    loopP (s3_L0 Γ0 N (.ptr (h.length + q) 0) (h ++ l) (.int .i64 ((120 : Nat) : Int)) j97) N [.int .i64 0] (h ++ l) = j97 [] (h ++ l.set k (.log ((zeroK ks 120).map keyC) 2 42 .rw)) := by
  have hlt := (List.getElem?_eq_some_iff.1 hk).1
  refine loop_run (fun j => [.int .i64 (j : Int)]) (fun j => h ++ l.set k (.log ((zeroK ks j).map keyC) 2 42 .rw)) 120 (by omega) rfl ?_ (fun j hj K => ?_) fun K => ?_
  · congr 1
    apply List.ext_getElem?
    intro n
    by_cases e : k = n
    · subst e; rw [List.getElem?_set_self hlt, hk]; rfl
    · rw [List.getElem?_set_ne e]
  · have hq2 : (l.set k (.log ((zeroK ks j).map keyC) 2 42 .rw))[q]? = some (.box (i.ck (.ref (h.length + k) 0 120 120 2)) 27 .rw) := by rw [List.getElem?_set_ne hkq]; exact hq
    have hk2 : (l.set k (.log ((zeroK ks j).map keyC) 2 42 .rw))[k]? = some (.log ((zeroK ks j).map keyC) 2 42 .rw) := List.getElem?_set_self hlt
    have hst := store_key (h := h) (n := 120) hk2 (by rw [zeroK_len (by omega), hks]) hj (0, 0)
    have hld := fun o v (hv : (i.ck (.ref (h.length + k) 0 120 120 2))[o]? = some v) => box_load (h := h) hq2 hv
    have hfl : fillP [.int .i64 0, .int .i64 0] [] = some (keyC (0, 0)) := nr rfl
    unfold s3_L0
    simp only [words, ↓KLn, Nat.reduceAdd, ltT hj, decide_true, if_true, hld 1 _ (ck1 i _), hfl, rf_idx2 hj, hst, zeroK_set (show j < ks.length by omega), List.set_set, succ63 (show j < 9223372036854775807 by omega)]
    rw [trim_len _ (by simp)]
  · unfold s3_L0
    simp only [words, ↓KLn, Nat.reduceAdd, ltF, decide_false, Bool.false_eq_true, if_false]
theorem new_ok {i : Ins} {a b s m : Int} (h : insOK i = true) (hask : askOK a b s m) : insOK { i with keys := newKeys i a b s m } = true := by
  have h2 := h
  unfold insOK at h2 ⊢
  simp only [Bool.and_eq_true, Bool.or_eq_true, beq_iff_eq, Bool.not_eq_true', List.any_eq_false] at h2 ⊢
  refine ⟨fun k hk => ?_, h2.2.1, .inr (by simp [newKeys]), h2.2.2.2⟩
  unfold newKeys at hk
  rw [List.mem_map] at hk
  obtain ⟨n, hn, rfl⟩ := hk
  rw [List.mem_range] at hn
  have hr : 0 ≤ (newKey i a b s m n).1 ∧ (newKey i a b s m n).1 ≤ 119 ∧ 0 ≤ (newKey i a b s m n).2 ∧ (newKey i a b s m n).2 ≤ 31 := by
    unfold newKey
    unfold askOK at hask
    split
    · unfold clampV
      simp only
      split <;> (try split) <;> omega
    · unfold keyAt
      split
      · simp only; omega
      · rename_i h0
        obtain ⟨k, hk⟩ := lt_l (show n < i.keys.length by have := keys_120 h; omega)
        rw [getD_of hk]
        exact keys_ok h (List.mem_of_getElem? hk)
  unfold keyBad inW
  simp only [Bool.or_eq_true, Bool.not_eq_true', Bool.and_eq_false_iff, decide_eq_false_iff_not]
  omega
end Go.Vm.X
