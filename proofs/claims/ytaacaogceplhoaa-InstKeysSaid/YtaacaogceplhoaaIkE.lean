/- The samples that an instrument plays. -/
import Derived.Test.YtaacaogceplhoaaIkD
set_option linter.unusedSimpArgs false
set_option linter.unusedVariables false
namespace Go.Vm.X
open Go.Am Go.Vm
attribute [local congr] bind_c ifP_c loop_c K1_c ite_c fork_c guard_c unl_c

/-! ### The program -/
def playL (i : Ins) (own : Int) (m : Nat) : List Int := ((List.range m).map fun (n : Nat) => (keyV i (n : Int) own).2).filter fun s => decide (s > 0)
theorem playL_succ (i : Ins) (own : Int) (m : Nat) : playL i own (m + 1) = if (keyV i (m : Int) own).2 > 0 then playL i own m ++ [(keyV i (m : Int) own).2] else playL i own m := by
  unfold playL
  rw [List.range_succ, List.map_append, List.filter_append]
  split
  · rename_i h; simp [h]
  · rename_i h; simp [h]
theorem playL_le (i : Ins) (own : Int) (m : Nat) : (playL i own m).length ≤ m := by
  unfold playL
  exact Nat.le_trans (List.length_filter_le _ _) (by simp)
def smpV (i : Ins) (own : Int) : List Int := if insOK i = true then ddN (srt (playL i own 120)) (srt (playL i own 120)).length else []
theorem c27 (p : PHeap) (l : List Int) : Γ0 27 [.ref p.length 0 l.length l.length 1] (lg p l .rw) = some (undefP, lg p (srt l) .rw) := by
  refine prun_base rfl (by kernel_rfl) ?_
  unfold sortP
  simp only [Nat.beq_refl, cond_true]
  by_cases h0 : l.length = 0
  · obtain rfl := List.eq_nil_of_length_eq_zero h0
    rw [if_pos h0]
    have : srt [] = [] := List.eq_nil_of_length_eq_zero (srt_len [])
    rw [this]
  · rw [if_neg h0, lg_at]
    have e1 : (l.map iV).flatten = l.map (PV.int .i64) := flat_ones l
    simp only [List.length_map]
    rw [if_pos ⟨trivial, trivial, trivial, trivial, trivial, by omega⟩, e1, intsP_map, Option.map_some]
    rw [← lg_set p l (srt l) .rw .rw]
    rfl
theorem lg2 (h : PHeap) (b : PBlk) (l : List Int) : h ++ [b, .log (l.map iV) 1 3 .rw] = lg (h ++ [b]) l .rw := by unfold lg; simp
theorem chunk1 (v : PV) : chunk 1 1 [v] = [[v]] := nr rfl
theorem all_int (k : IntKind) (v : Int) : [PV.int k v].all pure1 = true := nr rfl
theorem ext0 (p : Int × Int) : extractP (pairV p) 0 = some (.int .i64 p.1) := nr rfl
theorem ext1 (p : Int × Int) : extractP (pairV p) 1 = some (.int .i64 p.2) := nr rfl
theorem app_ints (h : PHeap) (b : PBlk) (l : List Int) (v : Int) (hm : l.length < 4294967296) : appendP 3 1 (.ref (h.length + 1) 0 l.length l.length 1) (.frz 1 [[.int .i64 v]]) (h ++ [b, .log (l.map iV) 1 3 .rw]) = some (.ref (h.length + 1) 0 (l.length + 1) (l.length + 1) 1, h ++ [b, .log ((l ++ [v]).map iV) 1 3 .rw]) := by
  rw [append_one (k := 1) (rows := l.map iV) l.length (by simp) rfl rfl (by simpa [mostLen] using hm)]
  simp [iV]
theorem fin_nilL (h l : PHeap) : finP [.flat 1] h (h ++ l) [.nilS] = some (ints [], h) := fin_new (show fzL [.flat 1] [.nilS] (h ++ l) = some ([ints []], h ++ l) from by simp only [fzL, fz, Option.bind_some, Option.map_some]; rfl) (by simp [ltV, ints])
theorem fin_intsL (h l : PHeap) (xs : List Int) : finP [.flat 1] h (h ++ l) [ints xs] = some (ints xs, h) := fin_new (show fzL [.flat 1] [ints xs] (h ++ l) = some ([ints xs], h ++ l) from by simp only [fzL, fz, ints, Option.bind_some, Option.map_some]) (by simp [ltV, ints])
theorem trim2 (h : PHeap) (a b c d : PBlk) (r : List PV) : trim (h ++ [a, b]) r (h ++ [c, d]) = h ++ [c, d] := trim_len _ (by simp)
theorem c10 (i : Ins) (hl : InsLen i) (own : Int) (h : PHeap) : Γ0 10 [.agg i.cs, .int .i64 own] h = some (ints (smpV i own), h) := by
  obtain ⟨N, hN⟩ : ∃ N : Nat, 120 < N := ⟨121, by omega⟩
  refine gbody (F := A10) (by kernel_rfl) N ?_
  rw [s10_eq]; unfold s10 smpV
  cases hv : insOK i with
  | false =>
    simp only [words, ↓KLn, Nat.reduceAdd, ic_whole, c7 i hl, hv, Bool.not_false, if_true, fin_nilL, Bool.false_eq_true, if_false]
  | true =>
    simp only [words, ↓KLn, Nat.reduceAdd, ic_whole, c7 i hl, hv, Bool.not_true, Bool.false_eq_true, if_false, if_true]
    refine loop_run (fun m => [.ref (h.length + 1) 0 (playL i own m).length (playL i own m).length 1, .int .i64 (m : Int)]) (fun m => h ++ [.box i.cs 27 .rw, .log ((playL i own m).map iV) 1 3 .rw]) 120 hN rfl rfl (fun m hm K => ?_) fun K => ?_
    · unfold s10_L0
      have hle := playL_le i own m
      have e1 : decide ((m : Int) < 120) = true := by rw [decide_eq_true_eq]; omega
      simp only [words, ↓KLn, Nat.reduceAdd, nth_one, e1, if_true, ic_whole, c5 i hl, ext0, ext1]
      rw [playL_succ]
      by_cases hp : (keyV i (m : Int) own).2 > 0
      · simp only [words, ↓KLn, Nat.reduceAdd, nth_one, hp, decide_true, if_true, fill_int, chunk1, all_int, app_ints _ _ _ _ (show (playL i own m).length < 4294967296 by omega), succ63 (show m < 9223372036854775807 by omega), trim2, List.length_append]
        rfl
      · simp only [words, ↓KLn, Nat.reduceAdd, nth_one, hp, decide_false, if_false, Bool.false_eq_true, succ63 (show m < 9223372036854775807 by omega), trim2]
    · unfold s10_L0
      have hle := playL_le i own 120
      have e1 : decide (((120 : Nat) : Int) < 120) = false := by decide
      obtain ⟨blk, hb⟩ := c28 (h ++ [.box i.cs 27 .rw]) (srt (playL i own 120)) (by rw [srt_len]; omega)
      have e2 : (h ++ [PBlk.box i.cs 27 .rw]).length = h.length + 1 := by simp
      have e3 := c27 (h ++ [.box i.cs 27 .rw]) (playL i own 120)
      rw [e2] at e3 hb
      rw [srt_len] at hb
      simp only [words, ↓KLn, Nat.reduceAdd, nth_one, e1, Bool.false_eq_true, if_false]
      rw [lg2, e3]
      simp only [bS, hb, srt_len]
      rw [List.append_assoc, fin_intsL]
end Go.Vm.X
