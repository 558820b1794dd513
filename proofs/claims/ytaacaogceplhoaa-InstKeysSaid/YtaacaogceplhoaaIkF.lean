/- The samples that an instrument plays: the reference. -/
import Derived.Test.YtaacaogceplhoaaIkE
set_option linter.unusedSimpArgs false
set_option linter.unusedVariables false
namespace Go.Vm.X
open Go.Am Go.Vm
attribute [local congr] bind_c ifP_c loop_c K1_c ite_c fork_c guard_c unl_c

def seenK (ks : List (Int × Int)) (s : Int) : Bool := ks.any fun k => k.2 == s
def sn (ks : List (Int × Int)) : List PV := (List.range 32).map fun (s : Nat) => .bool (seenK ks (s : Int))
theorem sn_nil : sn [] = Z32 := by kernel_rfl
theorem sn_len (ks : List (Int × Int)) : (sn ks).length = 32 := by simp [sn]
theorem sn_get (ks : List (Int × Int)) {s : Nat} (h : s < 32) : (sn ks)[s]? = some (.bool (seenK ks (s : Int))) := by simp [sn, h]
theorem sn_put (ks : List (Int × Int)) {k : Int × Int} {s : Nat} (e : k.2 = (s : Int)) (h : s < 32) : putAt (sn ks) s [.bool true] = some (sn (ks ++ [k])) := by
  unfold putAt
  rw [if_pos ⟨by rw [sn_len]; simp; omega, rfl⟩]
  congr 1
  apply List.ext_getElem?
  intro j
  by_cases hj : j < 32
  · rw [sn_get _ hj]
    have e2 : seenK (ks ++ [k]) (j : Int) = (seenK ks (j : Int) || decide (s = j)) := by
      unfold seenK
      rw [List.any_append]
      congr 1
      simp only [List.any_cons, List.any_nil, Bool.or_false, e]
      by_cases q : s = j <;> simp [q]
      omega
    rw [e2]
    by_cases h1 : j < s
    · rw [List.append_assoc, List.getElem?_append_left (by rw [List.length_take, sn_len]; omega), List.getElem?_take_of_lt h1, sn_get _ hj, decide_eq_false (by omega), Bool.or_false]
    · by_cases h2 : j = s
      · subst h2
        rw [List.append_assoc, List.getElem?_append_right (by rw [List.length_take, sn_len]; omega), List.length_take, sn_len, show j - min j 32 = 0 by omega, decide_eq_true rfl, Bool.or_true]
        rfl
      · rw [List.getElem?_append_right (by rw [List.length_append, List.length_take, sn_len]; simp; omega), List.getElem?_drop, List.length_append, List.length_take, sn_len]
        rw [show s + [PV.bool true].length + (j - (min s 32 + [PV.bool true].length)) = j by simp; omega, sn_get _ hj, decide_eq_false (by omega), Bool.or_false]
  · rw [List.getElem?_eq_none (by simp [sn_len]; omega), List.getElem?_eq_none (by rw [sn_len]; omega)]
theorem arr_idx {b : Nat} {s : Nat} (h : s < 32) : indexAddrArrP 32 1 (.ptr b 0) (.int .i64 (s : Int)) = some (.ptr b s) := by
  simp only [indexAddrArrP]
  rw [if_pos ⟨by omega, by omega⟩, Int.toNat_natCast]
  simp only [fieldAddrP, Nat.mul_one, Nat.zero_add]
def outR (i : Ins) (j : Nat) : List Int := ((List.range j).map fun (s : Nat) => ((s + 1 : Nat) : Int)).filter (seenK i.keys)
theorem outR_succ (i : Ins) (j : Nat) : outR i (j + 1) = if seenK i.keys ((j + 1 : Nat) : Int) = true then outR i j ++ [((j + 1 : Nat) : Int)] else outR i j := by
  unfold outR
  rw [List.range_succ, List.map_append, List.filter_append]
  cases h : seenK i.keys ((j + 1 : Nat) : Int) with
  | true => simp only [List.map_cons, List.map_nil, List.filter_cons, h, if_true, List.filter_nil]
  | false => simp only [List.map_cons, List.map_nil, List.filter_cons, h, if_false, List.filter_nil, List.append_nil, Bool.false_eq_true]
theorem outR_le (i : Ins) (m : Nat) : (outR i m).length ≤ m := by
  unfold outR
  exact Nat.le_trans (List.length_filter_le _ _) (by simp)
def refV (i : Ins) (own : Int) : List Int := if insOK i = true then (if i.keys.length = 0 then (if own > 0 then [own] else []) else outR i 31) else []
theorem lg3 (h : PHeap) (a b : PBlk) (l : List Int) : h ++ [a, b, .log (l.map iV) 1 3 .rw] = lg (h ++ [a, b]) l .rw := by unfold lg; simp
theorem app_ints3 (h : PHeap) (a b : PBlk) (l : List Int) (v : Int) (hm : l.length < 4294967296) : appendP 3 1 (.ref (h.length + 2) 0 l.length l.length 1) (.frz 1 [[.int .i64 v]]) (h ++ [a, b, .log (l.map iV) 1 3 .rw]) = some (.ref (h.length + 2) 0 (l.length + 1) (l.length + 1) 1, h ++ [a, b, .log ((l ++ [v]).map iV) 1 3 .rw]) := by
  rw [append_one (k := 2) (rows := l.map iV) l.length (by simp) rfl rfl (by simpa [mostLen] using hm)]
  simp [iV]
theorem trim3 (h : PHeap) (a b c a' b' c' : PBlk) (r : List PV) : trim (h ++ [a, b, c]) r (h ++ [a', b', c']) = h ++ [a', b', c'] := trim_len _ (by simp)
theorem fin_log3 {h : PHeap} {a b : PBlk} {l : List Int} : finP [.flat 1] h (h ++ [a, b, .log (l.map iV) 1 3 .rw]) [.ref (h.length + 2) 0 l.length l.length 1] = some (ints l, h) := by
  by_cases h0 : l.length = 0
  · obtain rfl := List.eq_nil_of_length_eq_zero h0
    exact fin_new (show fzL [.flat 1] _ _ = some ([ints []], h ++ [a, b, .log [] 1 3 .rw]) from by simp only [fzL, fz, List.length_nil, if_true, Option.bind_some, Option.map_some]; rfl) (by simp [ltV, ints])
  · have e := fz_logF (h := h) (l := [a, b, .log (l.map iV) 1 3 .rw]) (k := 2) (sz := 1) (s := 1) (t := 3) (rows := l.map iV) rfl (by simpa using h0) (pure_ints l)
    rw [List.length_map] at e
    exact fin_new (show fzL [.flat 1] _ _ = some ([ints l], _) from by simp only [fzL, e, Option.bind_some, Option.map_some]; rfl) (by simp [ltV, ints])
theorem c11 (i : Ins) (hl : InsLen i) (own : Int) (h : PHeap) : Γ0 11 [.agg i.cs, .int .i64 own] h = some (ints (refV i own), h) := by
  obtain ⟨N, hN⟩ : ∃ N : Nat, 120 < N := ⟨121, by omega⟩
  refine gbody (F := A11) (by kernel_rfl) N ?_
  rw [s11_eq]; unfold s11 refV
  cases hv : insOK i with
  | false => simp only [words, ↓KLn, Nat.reduceAdd, ic_whole, c8 i hl, hv, Bool.not_false, if_true, fin_nilL, Bool.false_eq_true, if_false]
  | true =>
    by_cases h0 : i.keys.length = 0
    · have e0 : ((i.keys.length : Int) == 0) = true := by rw [beq_iff_eq]; omega
      by_cases ho : own > 0
      · simp only [words, ↓KLn, Nat.reduceAdd, ic_whole, c8 i hl, hv, Bool.not_true, Bool.false_eq_true, if_false, if_true, ic1, len_keys, e0, h0, ho, decide_true, fill_int, all_int, chunk1]
        exact fin_intsL h _ [own]
      · simp only [words, ↓KLn, Nat.reduceAdd, ic_whole, c8 i hl, hv, Bool.not_true, Bool.false_eq_true, if_false, if_true, ic1, len_keys, e0, if_pos h0, ho, decide_false, fin_nilL]
    · have e0 : ((i.keys.length : Int) == 0) = false := by rw [beq_eq_false_iff_ne]; omega
      have hk120 : i.keys.length = 120 := (keys_120 hv).resolve_left h0
      simp only [words, ↓KLn, Nat.reduceAdd, ic_whole, c8 i hl, hv, Bool.not_true, Bool.false_eq_true, if_false, if_true, ic1, len_keys, e0, h0]
      refine loop_run (fun m => [.int .i64 (m : Int)]) (fun m => h ++ [.box i.cs 27 .rw, .box (sn (i.keys.take m)) 57 .rw]) i.keys.length (by omega) rfl (by rw [List.take_zero, sn_nil]) (fun m hm K => ?_) fun K => ?_
      · obtain ⟨k, hk⟩ := lt_l hm
        have hr := keys_ok hv (List.mem_of_getElem? hk)
        obtain ⟨s, hs⟩ : ∃ s : Nat, k.2 = (s : Int) := ⟨k.2.toNat, by omega⟩
        unfold s11_L1
        simp only [words, ↓KLn, Nat.reduceAdd, ic1, len_keys, ltT hm, decide_true, if_true, idx_keys _ hk, kc1, hs, arr_idx (show s < 32 by omega), st1 (v := .bool true) rfl, sn_put _ hs (show s < 32 by omega), succ63 (show m < 9223372036854775807 by omega), trim2]
        rw [List.take_add_one, hk]
        rfl
      · unfold s11_L1
        simp only [words, ↓KLn, Nat.reduceAdd, ic1, len_keys, ltF, decide_false, Bool.false_eq_true, if_false, List.take_length]
        refine loop_run (fun m => [.ref (h.length + 2) 0 (outR i m).length (outR i m).length 1, .int .i64 ((m + 1 : Nat) : Int)]) (fun m => h ++ [.box i.cs 27 .rw, .box (sn i.keys) 57 .rw, .log ((outR i m).map iV) 1 3 .rw]) 31 (by omega) rfl rfl (fun m hm K => ?_) fun K => ?_
        · have hle := outR_le i m
          have e1 : decide (((m + 1 : Nat) : Int) ≤ 31) = true := by rw [decide_eq_true_eq]; omega
          unfold s11_L0
          simp only [words, ↓KLn, Nat.reduceAdd, nth_one, e1, if_true, arr_idx (show m + 1 < 32 by omega), sn_get _ (show m + 1 < 32 by omega)]
          rw [outR_succ]
          cases seenK i.keys ((m + 1 : Nat) : Int) with
          | true =>
            simp only [words, ↓KLn, Nat.reduceAdd, nth_one, if_true, fill_int, chunk1, all_int, app_ints3 _ _ _ _ _ (show (outR i m).length < 4294967296 by omega), succ63 (show m + 1 < 9223372036854775807 by omega), trim3, List.length_append]
            rfl
          | false => simp only [words, ↓KLn, Nat.reduceAdd, nth_one, if_false, Bool.false_eq_true, succ63 (show m + 1 < 9223372036854775807 by omega), trim3]
        · have e1 : decide (((31 + 1 : Nat) : Int) ≤ 31) = false := by decide
          unfold s11_L0
          simp only [words, ↓KLn, Nat.reduceAdd, nth_one, e1, Bool.false_eq_true, if_false, fin_log3]
/-! ### They are the same -/
theorem outR_sorted (i : Ins) (m : Nat) : (outR i m).Pairwise (· < ·) := by
  unfold outR
  refine List.Pairwise.filter _ ?_
  rw [List.pairwise_map]
  exact List.pairwise_lt_range.imp fun h => by omega
theorem seen_iff {i : Ins} {x : Int} : seenK i.keys x = true ↔ ∃ k, k ∈ i.keys ∧ k.2 = x := by
  unfold seenK
  rw [List.any_eq_true]
  constructor
  · rintro ⟨k, h1, h2⟩; exact ⟨k, h1, by simpa using h2⟩
  · rintro ⟨k, h1, h2⟩; exact ⟨k, h1, by simpa using h2⟩
theorem mem_play {i : Ins} {own x : Int} : x ∈ playL i own 120 ↔ x > 0 ∧ ∃ n : Nat, n < 120 ∧ (keyV i (n : Int) own).2 = x := by
  unfold playL
  rw [List.mem_filter, List.mem_map]
  constructor
  · rintro ⟨⟨n, h1, h2⟩, h3⟩
    exact ⟨by simpa using h3, n, by simpa using h1, h2⟩
  · rintro ⟨h3, n, h1, h2⟩
    exact ⟨⟨n, by simpa using h1, h2⟩, by simpa using h3⟩
theorem smp_same (i : Ins) (own : Int) : smpV i own = refV i own := by
  unfold smpV refV
  by_cases hv : insOK i = true
  · rw [if_pos hv, if_pos hv]
    have hkv : ∀ n : Nat, n < 120 → keyV i (n : Int) own = keyAt i n own := fun n hn => by
      unfold keyV
      rw [if_pos ⟨hv, by omega, by omega⟩, Int.toNat_natCast]
    by_cases h0 : i.keys.length = 0
    · rw [if_pos h0]
      have hk : ∀ n : Nat, n < 120 → (keyV i (n : Int) own).2 = own := fun n hn => by rw [hkv n hn]; unfold keyAt; rw [if_pos h0]
      refine dd_srt (by split <;> simp) fun x => ?_
      rw [mem_play]
      constructor
      · rintro ⟨h1, n, h2, h3⟩
        rw [hk n h2] at h3
        subst h3
        rw [if_pos h1]
        simp
      · intro h
        split at h
        · rename_i ho
          have : x = own := by simpa using h
          subst this
          exact ⟨ho, 0, by omega, hk 0 (by omega)⟩
        · cases h
    · rw [if_neg h0]
      have h120 := (keys_120 hv).resolve_left h0
      refine dd_srt (outR_sorted i 31) fun x => ?_
      rw [mem_play]
      unfold outR
      rw [List.mem_filter, List.mem_map, seen_iff]
      constructor
      · rintro ⟨h1, n, h2, h3⟩
        obtain ⟨k, hk⟩ := lt_l (show n < i.keys.length by omega)
        rw [hkv n h2] at h3
        unfold keyAt at h3
        rw [if_neg h0, getD_of hk] at h3
        have := keys_ok hv (List.mem_of_getElem? hk)
        exact ⟨⟨x.toNat - 1, by rw [List.mem_range]; omega, by omega⟩, k, List.mem_of_getElem? hk, h3⟩
      · rintro ⟨⟨s, h1, h2⟩, k, h3, h4⟩
        obtain ⟨n, hn⟩ := List.getElem?_of_mem h3
        have hlt := (List.getElem?_eq_some_iff.1 hn).1
        refine ⟨by omega, n, by omega, ?_⟩
        rw [hkv n (by omega)]
        unfold keyAt
        rw [if_neg h0, getD_of hn]
        exact h4
  · rw [if_neg hv, if_neg hv]
end Go.Vm.X
