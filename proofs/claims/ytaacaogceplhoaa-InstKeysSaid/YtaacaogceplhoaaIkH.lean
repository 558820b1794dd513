/- Instruments with other keys: the reference's walk. -/
import Derived.Test.YtaacaogceplhoaaIkG
set_option linter.unusedSimpArgs false
set_option linter.unusedVariables false
namespace Go.Vm.X
open Go.Am Go.Vm
attribute [local congr] bind_c ifP_c loop_c K1_c ite_c fork_c guard_c unl_c

theorem lenZ33 : Z33.length = 33 := nr rfl
theorem cs_over (i : Ins) (vs : List PV) (hl : vs.length = 33) : putAt vs 0 i.cs = some i.cs := ck_over i (keysPV i.keys) vs hl rfl
theorem st33 (o : Nat) (cs vs : List PV) (hc : cs.length = 33) (t : TypeId) (l : PHeap) : storeP 33 (.ptr 0 o) (.agg cs) (.box vs t .rw :: l) = (putAt vs o cs).map fun vs' => .box vs' t .rw :: l := storeC0 (by rw [cells_agg, hc]) (by decide)
theorem trim4 (h : PHeap) (a b c d a' b' c' d' : PBlk) (r : List PV) : trim (h ++ [a, b, c, d]) r (h ++ [a', b', c', d']) = h ++ [a', b', c', d'] := trim_len _ (by simp)
theorem clamp_is (x : Int) : (if x < 0 then 0 else if x > 119 then 119 else x) = clampV x := rfl
theorem add_sh {n : Nat} {s : Int} (hn : n < 120) (h1 : -119 ≤ s) (h2 : s ≤ 119) : IntKind.i64.wrap ((n : Int) + s) = (n : Int) + s := wrap64 (by unfold isI64; omega)
theorem pure_keys (l : List (Int × Int)) : ((l.map keyC).flatten).all pure1 = true := by
  rw [List.all_eq_true]
  intro x hx
  rw [List.mem_flatten] at hx
  obtain ⟨r, hr, hx⟩ := hx
  rw [List.mem_map] at hr
  obtain ⟨z, _, rfl⟩ := hr
  simp only [keyC, List.mem_cons, List.not_mem_nil, or_false] at hx
  rcases hx with rfl | rfl <;> rfl
def fillK (i : Ins) (a b s m : Int) (n : Nat) : List (Int × Int) := filled (newKey i a b s m) (0, 0) 120 n
theorem fillK_set (i : Ins) (a b s m : Int) {n : Nat} (hn : n < 120) : (fillK i a b s m n).set n (newKey i a b s m n) = fillK i a b s m (n + 1) := filled_set hn
theorem fillK_len (i : Ins) (a b s m : Int) (n : Nat) : (fillK i a b s m n).length = 120 := filled_len _ _ _ _
theorem fillK_0 (i : Ins) (a b s m : Int) : (fillK i a b s m 0).map keyC = List.replicate 120 [.int .i64 0, .int .i64 0] := by
  unfold fillK
  rw [filled_zero, List.map_replicate]
  rfl
theorem fillK_all (i : Ins) (a b s m : Int) : fillK i a b s m 120 = newKeys i a b s m := filled_all _ _ _
theorem c13 (i : Ins) (hl : InsLen i) (a b s m : Int) (h : PHeap) : Γ0 13 [.agg i.cs, .int .i64 a, .int .i64 b, .int .i64 s, .int .i64 m] h = some (setR (setV i a b s m), h) := by
  obtain ⟨N, hN⟩ : ∃ N : Nat, 120 < N := ⟨121, by omega⟩
  refine gbody (F := A13) (by kernel_rfl) N ?_
  rw [s13_eq]; unfold s13 setV
  have hbad : ∀ (c : Int), finP [.agg SA33, .keep] h (h ++ [.box i.cs 27 .rw, .box Z33 27 .rw]) [.agg Z33, .int .i64 c] = some (setR (insZ, c), h) := fun c => fin_set (fz_Z33 _)
  cases hv : insOK i with
  | false => simp only [words, ↓KLn, Nat.reduceAdd, ic_whole, c8 i hl, hv, Bool.not_false, if_true, fill_Z33, st33 _ Z33 _ lenZ33, Z33_over, Z33_whole, hbad, Bool.false_eq_true, if_false]
  | true =>
    by_cases hask : askOK a b s m
    · have hq := hask
      unfold askOK at hq
      obtain ⟨q1, q2, q3, q4, q5, q6, q7, q8⟩ := hq
      have d1 : decide (a < 0) = false := by rw [decide_eq_false_iff_not]; omega
      have d2 : decide (a > 119) = false := by rw [decide_eq_false_iff_not]; omega
      have d3 : decide (b > 119) = false := by rw [decide_eq_false_iff_not]; omega
      have d4 : decide (b < a) = false := by rw [decide_eq_false_iff_not]; omega
      have d5 : decide (s < -119) = false := by rw [decide_eq_false_iff_not]; omega
      have d6 : decide (s > 119) = false := by rw [decide_eq_false_iff_not]; omega
      have d7 : decide (m < 0) = false := by rw [decide_eq_false_iff_not]; omega
      have d8 : decide (m > 31) = false := by rw [decide_eq_false_iff_not]; omega
      have hmk : mkSliceP 42 [.int .i64 0, .int .i64 0] (.int .i64 120) (.int .i64 120) (h ++ [.box i.cs 27 .rw, .box Z33 27 .rw, .box i.cs 27 .rw]) = some (.ref (h.length + 3) 0 120 120 2, h ++ [.box i.cs 27 .rw, .box Z33 27 .rw, .box i.cs 27 .rw, .log (List.replicate 120 [.int .i64 0, .int .i64 0]) 2 42 .rw]) := by
        have := mkSlice_new (t := 42) (zero := [.int .i64 0, .int .i64 0]) (n := 120) (h := h ++ [.box i.cs 27 .rw, .box Z33 27 .rw, .box i.cs 27 .rw]) (by decide)
        rw [len3, List.append_assoc] at this
        exact this
      simp only [words, ↓KLn, Nat.reduceAdd, ic_whole, c8 i hl, hv, Bool.not_true, Bool.false_eq_true, if_false, d1, d2, d3, d4, d5, d6, d7, d8, st33 _ i.cs _ (ic_len i), cs_over i Z33 lenZ33, hmk, if_pos hask, if_true]
      have hor : (false || false || false || false || false || false || false || false) = false := rfl
      rw [hor, if_neg (by decide)]
      have hp : putAt i.cs 1 [.ref (h.length + 3) 0 120 120 2] = some (i.ck (.ref (h.length + 3) 0 120 120 2)) := ck_put i (keysPV i.keys) _ rfl
      simp only [words, ↓KLn, Nat.reduceAdd, st1 (cells_ref _ _ _ _ _), hp]
      refine loop_run (fun n => [.int .i64 (n : Int)]) (fun n => h ++ [.box i.cs 27 .rw, .box Z33 27 .rw, .box (i.ck (.ref (h.length + 3) 0 120 120 2)) 27 .rw, .log ((fillK i a b s m n).map keyC) 2 42 .rw]) 120 hN rfl (by rw [fillK_0]) (fun n hn K => ?_) fun K => ?_
      · have e1 : decide ((n : Int) < 120) = true := by rw [decide_eq_true_eq]; omega
        have hst : ∀ v, storeP 2 (.lptr (h.length + 3) n 0 120 2) (.agg (keyC v)) (h ++ [.box i.cs 27 .rw, .box Z33 27 .rw, .box (i.ck (.ref (h.length + 3) 0 120 120 2)) 27 .rw, .log ((fillK i a b s m n).map keyC) 2 42 .rw]) = some (h ++ [.box i.cs 27 .rw, .box Z33 27 .rw, .box (i.ck (.ref (h.length + 3) 0 120 120 2)) 27 .rw, .log (((fillK i a b s m n).set n v).map keyC) 2 42 .rw]) := fun v => store_key rfl (fillK_len _ _ _ _ _ _).symm hn v
        have h20 := fun hh => c20 i n 0 hh (by have := keys_120 hv; omega)
        have hset := fillK_set i a b s m hn
        unfold s13_L0
        simp only [words, ↓KLn, Nat.reduceAdd, nth_one, e1, if_true, ic_whole, h20, ext0, ext1]
        cases hc : (decide (a ≤ (n : Int)) && decide ((n : Int) ≤ b)) with
        | true =>
          have hc' : a ≤ (n : Int) ∧ (n : Int) ≤ b := by simpa using hc
          have hnew : newKey i a b s m n = (clampV ((n : Int) + s), m) := if_pos hc'
          rw [hnew] at hset
          simp only [words, ↓KLn, Nat.reduceAdd, nth_one, if_true, add_sh hn q5 q6, c30, clamp_is, ck1, fill_kv, rf_idx2 hn, hst, hset, succ63 (show n < 9223372036854775807 by omega), trim4]
        | false =>
          have hc' : ¬ (a ≤ (n : Int) ∧ (n : Int) ≤ b) := by
            intro hx
            simp [hx.1, hx.2] at hc
          have hnew : newKey i a b s m n = keyAt i n 0 := if_neg hc'
          rw [hnew] at hset
          simp only [words, ↓KLn, Nat.reduceAdd, nth_one, if_false, Bool.false_eq_true, ck1, fill_kv, rf_idx2 hn, hst, hset, succ63 (show n < 9223372036854775807 by omega), trim4]
      · have e1 : decide (((120 : Nat) : Int) < 120) = false := by decide
        unfold s13_L0
        simp only [words, ↓KLn, Nat.reduceAdd, nth_one, e1, Bool.false_eq_true, if_false, ck_whole, st33 _ (i.ck _) _ (ck_len i _), ck_over i (.ref (h.length + 3) 0 120 120 2) Z33 lenZ33 rfl]
        rw [fillK_all]
        have hz := fz_logF (h := h) (l := [.box i.cs 27 .rw, .box (i.ck (.ref (h.length + 3) 0 120 120 2)) 27 .rw, .box (i.ck (.ref (h.length + 3) 0 120 120 2)) 27 .rw, .log ((newKeys i a b s m).map keyC) 2 42 .rw]) (k := 3) (sz := 2) (s := 2) (t := 42) (rows := (newKeys i a b s m).map keyC) rfl (by simp [newKeys]) (pure_keys _)
        have hlen : ((newKeys i a b s m).map keyC).length = 120 := by simp [newKeys]
        rw [hlen] at hz
        exact fin_set (i := { i with keys := newKeys i a b s m }) (fz_ck hz)
    · have hne : (decide (a < 0) || (decide (a > 119) || (decide (b > 119) || (decide (b < a) || (decide (s < -119) || (decide (s > 119) || (decide (m < 0) || decide (m > 31)))))))) = true := by
        unfold askOK at hask
        simp only [Bool.or_eq_true, decide_eq_true_eq]
        omega
      simp only [words, ↓KLn, Nat.reduceAdd, ic_whole, c8 i hl, hv, Bool.not_true, Bool.false_eq_true, if_false, if_neg hask, if_true]
      rw [if_pos (by simpa only [Bool.or_assoc] using hne)]
      simp only [words, ↓KLn, Nat.reduceAdd, fill_Z33, st33 _ Z33 _ lenZ33, Z33_over, Z33_whole, hbad]
end Go.Vm.X
