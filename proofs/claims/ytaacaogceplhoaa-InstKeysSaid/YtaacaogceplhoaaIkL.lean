/- Instruments with other keys: the program. -/
import Derived.Test.YtaacaogceplhoaaIkK
set_option linter.unusedSimpArgs false
set_option linter.unusedVariables false
namespace Go.Vm.X
open Go.Am Go.Vm
attribute [local congr] bind_c ifP_c loop_c K1_c ite_c fork_c guard_c unl_c

def ksN (n : Nat) : List (Int × Int) := (List.range n).map fun (k : Nat) => ((k : Int), (0 : Int))
theorem ksN_len (n : Nat) : (ksN n).length = n := by simp [ksN]
theorem ksN_succ (n : Nat) : ksN (n + 1) = ksN n ++ [((n : Int), (0 : Int))] := by
  unfold ksN; rw [List.range_succ, List.map_append]; rfl
def stV (h : PHeap) (i : Ins) (n : Nat) : PV := if n = 0 then .emp else .ref (h.length + 3) 0 n n 2
def stL (h : PHeap) (i : Ins) (b0 b1 : PBlk) (n : Nat) : PHeap := if n = 0 then [b0, b1, .box (i.ck .emp) 27 .rw] else [b0, b1, .box (i.ck (.ref (h.length + 3) 0 n n 2)) 27 .rw, .log ((ksN n).map keyC) 2 42 .rw]
theorem fill_k (n : Int) : fillP [.int .i64 0, .int .i64 0] [(0, 1, .int .i64 n)] = some (keyC (n, 0)) := nr rfl
theorem fill_1k (c : Int × Int) : fillP (repP [.int .i64 0, .int .i64 0] 1) [(0, 2, .agg (keyC c))] = some (keyC c) := fill_agg rfl rfl (by decide)
theorem chunk_k (c : Int × Int) : chunk 2 1 (keyC c) = [keyC c] := nr rfl
theorem all_k (c : Int × Int) : (keyC c).all pure1 = true := nr rfl
theorem fill_loop {h : PHeap} {b0 b1 : PBlk} {N : Nat} {i : Ins} {j61 : List PV → PHeap → Pt} (hN : 121 < N) :
    loopP (s12_L1 Γ0 N (.ptr (h.length + 2) 0) (h ++ [b0, b1, .box (i.ck .emp) 27 .rw]) j61) N [.int .i64 0] (h ++ [b0, b1, .box (i.ck .emp) 27 .rw]) = j61 [] (h ++ [b0, b1, .box (i.ck (.ref (h.length + 3) 0 120 120 2)) 27 .rw, .log ((ksN 120).map keyC) 2 42 .rw]) := by
  refine loop_run (fun n => [.int .i64 (n : Int)]) (fun n => h ++ stL h i b0 b1 n) 120 (by omega) rfl rfl (fun n hn K => ?_) fun K => ?_
  · have e1 : decide ((n : Int) < 120) = true := by rw [decide_eq_true_eq]; omega
    have htr : ∀ (lv : PV) (w : List PV) (L : PBlk), trim (h ++ [b0, b1, .box (i.ck .emp) 27 .rw]) w (h ++ [b0, b1, .box (i.ck (.ref (h.length + 3) 0 (n + 1) (n + 1) 2)) 27 .rw, L]) = h ++ [b0, b1, .box (i.ck (.ref (h.length + 3) 0 (n + 1) (n + 1) 2)) 27 .rw, L] := fun lv w L => by
      refine trim_keep (b := h.length + 2) (blk := .box (i.ck (.ref (h.length + 3) 0 (n + 1) (n + 1) 2)) 27 .rw) (by simp) (by rw [get_new]; rfl) ?_ ?_
      · rw [get_new]
        intro hh
        simp only [List.getElem?_cons_succ, List.getElem?_cons_zero, Option.some.injEq, PBlk.box.injEq, Ins.ck, List.cons_append, List.nil_append, List.cons.injEq] at hh
        exact absurd hh.1.2.1 (by simp)
      · exact not_ltB (b := h.length + 3) (lo := 0) (m := n + 1) (v := n + 1) (sz := 2) (by simp [Ins.ck]) (by simp)
    by_cases h0 : n = 0
    · subst h0
      have ea : appendP 42 2 .emp (.frz 2 [keyC (0, 0)]) (h ++ [b0, b1, .box (i.ck .emp) 27 .rw]) = some (.ref (h.length + 3) 0 1 1 2, h ++ [b0, b1, .box (i.ck .emp) 27 .rw, .log [keyC (0, 0)] 2 42 .rw]) := by
        have := emp_keys (t := 42) (l := [((0 : Int), (0 : Int))]) (h ++ [b0, b1, .box (i.ck .emp) 27 .rw]) (by simp) (by decide)
        rw [len3, List.append_assoc] at this
        exact this
      have hl : loadP false 1 (.ptr (h.length + 2) 1) (h ++ [b0, b1, .box (i.ck .emp) 27 .rw]) = some .emp := box_load rfl (ck1 i _)
      have hp : putAt (i.ck .emp) 1 [.ref (h.length + 3) 0 1 1 2] = some (i.ck (.ref (h.length + 3) 0 1 1 2)) := ck_put i _ _ rfl
      show s12_L1 _ _ _ _ _ K _ (h ++ [b0, b1, .box (i.ck .emp) 27 .rw]) = _
      unfold s12_L1
      simp only [words, ↓KLn, Nat.reduceAdd, e1, if_true, hl, fill_k, fill_1k, all_k, chunk_k, Int.natCast_zero, ea, st1 (cells_ref _ _ _ _ _), hp, succ63 (show 0 < 9223372036854775807 by omega), htr .emp]
      have hn := succ63 (show 0 < 9223372036854775807 by omega)
      rw [show ((0 : Nat) : Int) = 0 from rfl] at hn
      simp only [hn]
      rfl
    · obtain ⟨m, rfl⟩ : ∃ m, n = m + 1 := ⟨n - 1, by omega⟩
      have ea : appendP 42 2 (.ref (h.length + 3) 0 (m + 1) (m + 1) 2) (.frz 2 [keyC (((m + 1 : Nat) : Int), 0)]) (h ++ [b0, b1, .box (i.ck (.ref (h.length + 3) 0 (m + 1) (m + 1) 2)) 27 .rw, .log ((ksN (m + 1)).map keyC) 2 42 .rw]) = some (.ref (h.length + 3) 0 (m + 1 + 1) (m + 1 + 1) 2, h ++ [b0, b1, .box (i.ck (.ref (h.length + 3) 0 (m + 1) (m + 1) 2)) 27 .rw, .log ((ksN (m + 1 + 1)).map keyC) 2 42 .rw]) := by
        have := append_new (h := h) (l := [b0, b1, .box (i.ck (.ref (h.length + 3) 0 (m + 1) (m + 1) 2)) 27 .rw, .log ((ksN (m + 1)).map keyC) 2 42 .rw]) (k := 3) (sz := 2) (t := 42) (rows := (ksN (m + 1)).map keyC) (row := keyC (((m + 1 : Nat) : Int), 0)) rfl (by decide) rfl (by rw [List.length_map, ksN_len]; unfold mostLen; omega)
        rw [List.length_map, ksN_len] at this
        rw [this, ksN_succ (m + 1), List.map_append]
        rfl
      have hl : loadP false 1 (.ptr (h.length + 2) 1) (h ++ [b0, b1, .box (i.ck (.ref (h.length + 3) 0 (m + 1) (m + 1) 2)) 27 .rw, .log ((ksN (m + 1)).map keyC) 2 42 .rw]) = some (.ref (h.length + 3) 0 (m + 1) (m + 1) 2) := box_load rfl (ck1 i _)
      have hp : putAt (i.ck (.ref (h.length + 3) 0 (m + 1) (m + 1) 2)) 1 [.ref (h.length + 3) 0 (m + 1 + 1) (m + 1 + 1) 2] = some (i.ck (.ref (h.length + 3) 0 (m + 1 + 1) (m + 1 + 1) 2)) := ck_put i _ _ rfl
      show s12_L1 _ _ _ _ _ K _ (h ++ [b0, b1, .box (i.ck (.ref (h.length + 3) 0 (m + 1) (m + 1) 2)) 27 .rw, .log ((ksN (m + 1)).map keyC) 2 42 .rw]) = _
      unfold s12_L1
      simp only [words, ↓KLn, Nat.reduceAdd, e1, if_true, hl, fill_k, fill_1k, all_k, chunk_k, ea, st1 (cells_ref _ _ _ _ _), hp, succ63 (show m + 1 < 9223372036854775807 by omega)]
      rw [htr .emp]
      rfl
  · have e1 : decide (((120 : Nat) : Int) < 120) = false := by decide
    show s12_L1 _ _ _ _ _ K _ (h ++ [b0, b1, .box (i.ck (.ref (h.length + 3) 0 120 120 2)) 27 .rw, .log ((ksN 120).map keyC) 2 42 .rw]) = _
    unfold s12_L1
    simp only [words, ↓KLn, Nat.reduceAdd, e1, Bool.false_eq_true, if_false]
theorem ks_keyAt {i : Ins} (h0 : i.keys = []) (A : Nat) (s m : Int) : ksN 120 = updK i A s m 0 := by
  unfold ksN updK
  apply List.map_congr_left
  intro n _
  rw [if_neg (by omega)]
  unfold keyAt
  rw [if_pos (by rw [h0]; rfl)]
theorem keys_keyAt {i : Ins} (h0 : i.keys.length = 120) (A : Nat) (s m : Int) : i.keys = updK i A s m 0 := by
  apply List.ext_getElem?
  intro n
  by_cases hn : n < 120
  · obtain ⟨k, hk⟩ := lt_l (show n < i.keys.length by omega)
    simp only [updK, List.getElem?_map, List.getElem?_range hn, Option.map_some]
    rw [if_neg (by omega), hk]
    unfold keyAt
    rw [if_neg (by omega), getD_of hk]
  · rw [List.getElem?_eq_none (by omega), List.getElem?_eq_none (by rw [updK_len]; omega)]
theorem ask_W (a b s m : Int) : (inW a 0 119 && (inW b a 119 && (inW s (-119) 119 && inW m 0 31))) = decide (askOK a b s m) := by
  rw [Bool.eq_iff_iff, decide_eq_true_iff]
  unfold inW askOK
  simp only [Bool.and_eq_true, decide_eq_true_eq]
  omega
theorem fin_raw {h H : PHeap} {i : Ins} {c : Nat} : finP [.keep, .keep] h H [.agg (i.ck (.ref (h.length + c) 0 120 120 2)), .int .i64 0] = some (.tuple [.agg (i.ck (.ref (h.length + c) 0 120 120 2)), .int .i64 0], H) := by
  rw [fin_def]
  simp only [fzL_cons, fzL_nil, fz_keep, Option.bind_some, Option.map_some]
  rw [trim_ref ⟨.agg (i.ck (.ref (h.length + c) 0 120 120 2)), by simp, fun hh => by
    unfold ltV at hh
    have := hh (.ref (h.length + c) 0 120 120 2) (by simp [Ins.ck])
    simp only [ltV] at this
    omega⟩]
  rfl
theorem pts_most {i : Ins} (h : insOK i = true) : PtsMost i := by
  have key : ∀ (e : Env) (lo hi : Int), envOK e lo hi = true → e.pts.length ≤ mostLen := fun e lo hi he => by
    unfold envOK at he
    simp only [Bool.and_eq_true, Bool.not_eq_true', Bool.or_eq_false_iff, decide_eq_false_iff_not] at he
    have := he.1.1
    unfold mostLen
    omega
  unfold insOK at h
  simp only [Bool.and_eq_true] at h
  exact ⟨key _ _ _ h.2.2.2.1, key _ _ _ h.2.2.2.2.1, key _ _ _ h.2.2.2.2.2.1⟩
theorem c12 (i : Ins) (hl : InsLen i) (a b s m : Int) (h : PHeap) :
    (setV i a b s m).2 = 0 ∧ (∃ c L, L[c]? = some (.log ((newKeys i a b s m).map keyC) 2 42 .rw) ∧ Γ0 12 [.agg i.cs, .int .i64 a, .int .i64 b, .int .i64 s, .int .i64 m] h = some (.tuple [.agg (i.ck (.ref (h.length + c) 0 120 120 2)), .int .i64 0], h ++ L)) ∧ setV i a b s m = ({ i with keys := newKeys i a b s m }, 0) ∨
    (setV i a b s m).2 ≠ 0 ∧ (setV i a b s m).1 = insZ ∧ Γ0 12 [.agg i.cs, .int .i64 a, .int .i64 b, .int .i64 s, .int .i64 m] h = some (.tuple [.agg Z33, .int .i64 (setV i a b s m).2], h) := by
  obtain ⟨N, hN⟩ : ∃ N : Nat, 121 < N := ⟨122, by omega⟩
  have hfin : ∀ (c : Int) (l : PHeap), finP [.keep, .keep] h (h ++ l) [.agg Z33, .int .i64 c] = some (.tuple [.agg Z33, .int .i64 c], h) := fun c l => fin_k2 rfl rfl
  cases hv : insOK i with
  | false =>
    have hs : setV i a b s m = (insZ, 1) := by unfold setV; rw [hv]; rfl
    refine .inr ⟨by rw [hs]; decide, by rw [hs], gbody (F := A12) (by kernel_rfl) N ?_⟩
    rw [s12_eq, hs]; unfold s12
    simp only [words, ↓KLn, Nat.reduceAdd, ic_whole, c7 i hl, hv, Bool.not_false, if_true, fill_Z33, st33 _ Z33 _ lenZ33, Z33_over, Z33_whole, hfin]
  | true =>
    have hm := pts_most hv
    by_cases hask : askOK a b s m
    · have hs : setV i a b s m = ({ i with keys := newKeys i a b s m }, 0) := by unfold setV; rw [hv, if_pos rfl, if_pos hask]
      refine .inl ⟨by rw [hs], ?_, hs⟩
      have hw := ask_W a b s m
      rw [decide_eq_true hask] at hw
      have hor : (!inW a 0 119 || !inW b a 119 || !inW s (-119) 119 || !inW m 0 31) = false := by
        revert hw
        cases inW a 0 119 <;> cases inW b a 119 <;> cases inW s (-119) 119 <;> cases inW m 0 31 <;> decide
      have hq := hask
      unfold askOK at hq
      obtain ⟨q1, q2, q3, q4, q5, q6, q7, q8⟩ := hq
      obtain ⟨A, rfl⟩ : ∃ A : Nat, a = (A : Int) := ⟨a.toNat, by omega⟩
      obtain ⟨B, rfl⟩ : ∃ B : Nat, b = (B : Int) := ⟨b.toNat, by omega⟩
      rcases keys_120 hv with h0 | h0
      · have hnil := List.eq_nil_of_length_eq_zero h0
        refine ⟨3, [.box i.cs 27 .rw, .box (i.ck (.ref (h.length + 3) 0 120 120 2)) 27 .rw, .box (i.ck (.ref (h.length + 3) 0 120 120 2)) 27 .rw, .log ((newKeys i A B s m).map keyC) 2 42 .rw], rfl, gbody (F := A12) (by kernel_rfl) N ?_⟩
        rw [s12_eq]; unfold s12
        simp only [words, ↓KLn, Nat.reduceAdd, ic_whole, c7 i hl, hv, Bool.not_true, Bool.false_eq_true, if_false, c19]
        rw [hor, if_neg (by decide)]
        have hlen : lenP false .emp = some (.int .i64 0) := rfl
        have heq : ((0 : Int) == 0) = true := rfl
        simp only [words, ↓KLn, Nat.reduceAdd, c29n i hnil hm, st33 _ (i.ck _) _ (ck_len i _), ck_over i .emp Z33 lenZ33 rfl, ck1, hlen, heq, if_true]
        rw [fill_loop hN]
        rw [set_loop (k := 3) (q := 2) hN (by omega) (by omega) q5 q6 (by decide) (by rw [← ks_keyAt hnil A s m]; rfl) rfl]
        simp only [words, ↓KLn, Nat.reduceAdd, List.set_cons_succ, List.set_cons_zero, ck_whole, st33 _ (i.ck _) _ (ck_len i _), ck_over i (.ref (h.length + 3) 0 120 120 2) Z33 lenZ33 rfl, fin_raw]
      · have hne : i.keys ≠ [] := by rintro e; rw [e] at h0; cases h0
        refine ⟨4, [.box i.cs 27 .rw, .box (i.ck (.ref (h.length + 4) 0 120 120 2)) 27 .rw, .box (i.ck (.ref (h.length + 4) 0 120 120 2)) 27 .rw, .box (i.ck (.ref (h.length + 4) 0 120 120 2)) 27 .rw, .log ((newKeys i A B s m).map keyC) 2 42 .rw, .log (ptrs (h.length + 2)) 1 80 .rw, .box (i.ck (.ref (h.length + 4) 0 120 120 2)) 27 .rw], rfl, gbody (F := A12) (by kernel_rfl) N ?_⟩
        · rw [s12_eq]; unfold s12
          simp only [words, ↓KLn, Nat.reduceAdd, ic_whole, c7 i hl, hv, Bool.not_true, Bool.false_eq_true, if_false, c19]
          rw [hor, if_neg (by decide)]
          have heq : (((120 : Nat) : Int) == 0) = false := rfl
          have hlen : ∀ b, lenP false (.ref b 0 120 120 2) = some (.int .i64 ((120 : Nat) : Int)) := fun b => rfl
          have h29 := fun hh => c29 i hne (by rw [h0]; decide) hm hh
          rw [h0] at h29
          have hkk := keys_keyAt h0 A s m
          simp only [words, ↓KLn, Nat.reduceAdd, len6, len7, h29, st33 _ (i.ck _) _ (ck_len i _), ck_over i (.ref (h.length + 4) 0 120 120 2) Z33 lenZ33 rfl, ck1, hlen, heq, Bool.false_eq_true, if_false]
          rw [set_loop (k := 4) (q := 6) hN (by omega) (by omega) q5 q6 (by decide) (by rw [← hkk]; rfl) rfl]
          simp only [words, ↓KLn, Nat.reduceAdd, List.set_cons_succ, List.set_cons_zero, ck_whole, st33 _ (i.ck _) _ (ck_len i _), ck_over i (.ref (h.length + 4) 0 120 120 2) Z33 lenZ33 rfl, fin_raw]
    · have hs : setV i a b s m = (insZ, 5) := by unfold setV; rw [hv, if_pos rfl, if_neg hask]
      refine .inr ⟨by rw [hs]; decide, by rw [hs], gbody (F := A12) (by kernel_rfl) N ?_⟩
      rw [s12_eq, hs]; unfold s12
      have hw := ask_W a b s m
      rw [decide_eq_false hask] at hw
      have hor : (!inW a 0 119 || !inW b a 119 || !inW s (-119) 119 || !inW m 0 31) = true := by
        revert hw
        cases inW a 0 119 <;> cases inW b a 119 <;> cases inW s (-119) 119 <;> cases inW m 0 31 <;> decide
      simp only [words, ↓KLn, Nat.reduceAdd, ic_whole, c7 i hl, hv, Bool.not_true, Bool.false_eq_true, if_false, c19]
      rw [if_pos hor]
      simp only [words, ↓KLn, Nat.reduceAdd, fill_Z33, st33 _ Z33 _ lenZ33, Z33_over, Z33_whole, hfin]
end Go.Vm.X
