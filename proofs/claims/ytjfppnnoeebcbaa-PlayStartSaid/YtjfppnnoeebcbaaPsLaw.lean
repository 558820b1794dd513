/- Where a song starts: the law. -/
import Derived.Test.YtjfppnnoeebcbaaPsRef
set_option linter.unusedSimpArgs false
set_option linter.unusedVariables false
set_option maxRecDepth 20000
namespace Go.Vm.X
open Go.Am Go.Vm
attribute [local congr] bind_c ifP_c loop_c K1_c ite_c fork_c guard_c unl_c

/-! Equality -/
def kOK : List BK → List PV → Bool
  | [], [] => true
  | .int :: ks, .int _ _ :: cs => kOK ks cs
  | .bool :: ks, .bool _ :: cs => kOK ks cs
  | _, _ => false
theorem kOK_self : ∀ {ks : List BK} {cs : List PV}, kOK ks cs = true → eqCellsP ks cs cs = some true
  | [], [], _ => rfl
  | .int :: ks, .int k n :: cs, h => by
    have ih := kOK_self (ks := ks) (cs := cs) h
    simp only [eqCellsP, if_true, ih, Option.map_some, beq_self_eq_true, Bool.and_self]
  | .bool :: ks, .bool b :: cs, h => by
    have ih := kOK_self (ks := ks) (cs := cs) h
    simp only [eqCellsP, ih, Option.map_some, beq_self_eq_true, Bool.and_self]
theorem eq_self {ks : List BK} {cs : List PV} (h : kOK ks cs = true) : eqAggP ks true (.agg cs) (.agg cs) = some (.bool false) := by
  simp only [eqAggP, kOK_self h, Option.map_some]
  rfl
theorem clk_eq (a b c d : Int) : eqAggP BK37 true (.agg (clkC a b c d)) (.agg (clkC a b c d)) = some (.bool false) := eq_self rfl
theorem z37_eq : eqAggP BK37 true (.agg Z37) (.agg Z37) = some (.bool false) := eq_self rfl
theorem step_eq : eqAggP [.int, .int, .int, .int, .int] true (.agg [.int .i64 0, .int .i64 0, .int .i64 0, .int .i64 0, .int .i64 0]) (.agg [.int .i64 0, .int .i64 0, .int .i64 0, .int .i64 0, .int .i64 0]) = some (.bool false) := eq_self rfl
section
variable (a b c d g : Int) (ch vo : List (List PV))
theorem sp0 : partP true 0 37 (stF a b c d ch vo g) = some (.agg (clkC a b c d)) := nr rfl
theorem sp37 : partP true 37 37 (stF a b c d ch vo g) = some (.agg Z37) := nr rfl
theorem sp74 : partP true 74 5 (stF a b c d ch vo g) = some (.agg [.int .i64 0, .int .i64 0, .int .i64 0, .int .i64 0, .int .i64 0]) := nr rfl
theorem sp79 : (stF a b c d ch vo g)[79]? = some (.int .i64 0) := nr rfl
theorem sp80 : (stF a b c d ch vo g)[80]? = some (.frz 1 []) := nr rfl
theorem sp81 : (stF a b c d ch vo g)[81]? = some (.frz 51 ch) := nr rfl
theorem sp82 : (stF a b c d ch vo g)[82]? = some (.frz 21 vo) := nr rfl
theorem sp83 : (stF a b c d ch vo g)[83]? = some (.int .i64 g) := nr rfl
end
theorem len_frzW {sz : Nat} {rows : List (List PV)} : lenP false (.frz sz rows) = some (.int .i64 rows.length) := nr rfl
theorem c14 {rows : List (List PV)} (hm : rows.length < 9223372036854775807) (hk : ∀ r ∈ rows, kOK BK51 r = true ∧ r.length = 51) (h : PHeap) : Γ0 14 [.frz 51 rows, .frz 51 rows] h = some (.bool true, h) := by
  obtain ⟨N, hN⟩ : ∃ N : Nat, rows.length < N := ⟨_, Nat.lt_succ_self _⟩
  refine gbody (F := A14) (by kernel_rfl) N ?_
  rw [s14_eq]; unfold s14
  have e0 : ((rows.length : Int) != (rows.length : Int)) = false := by simp
  simp only [words, ↓KLn, Nat.reduceAdd, len_frzW, e0, Bool.false_eq_true, if_false]
  refine loop_pure (fun i => [.int .i64 (i : Int)]) rows.length hN rfl (fun i hi K => ?_) fun K => ?_
  · obtain ⟨r, hr⟩ := lt_l' hi
    have hkr := hk r (List.mem_of_getElem? hr)
    unfold s14_L0
    simp only [words, ↓KLn, Nat.reduceAdd, ltT hi, decide_true, if_true, idx_frz _ hr, part_all hkr.2, eq_self hkr.1, Bool.false_eq_true, if_false, succ63 (show i < 9223372036854775807 by omega), trim_self]
  · unfold s14_L0
    simp only [words, ↓KLn, Nat.reduceAdd, ltF, decide_false, Bool.false_eq_true, if_false, fin_bool0]
theorem c15 {rows : List (List PV)} (hm : rows.length < 9223372036854775807) (hk : ∀ r ∈ rows, kOK BK21 r = true ∧ r.length = 21) (h : PHeap) : Γ0 15 [.frz 21 rows, .frz 21 rows] h = some (.bool true, h) := by
  obtain ⟨N, hN⟩ : ∃ N : Nat, rows.length < N := ⟨_, Nat.lt_succ_self _⟩
  refine gbody (F := A15) (by kernel_rfl) N ?_
  rw [s15_eq]; unfold s15
  have e0 : ((rows.length : Int) != (rows.length : Int)) = false := by simp
  simp only [words, ↓KLn, Nat.reduceAdd, len_frzW, e0, Bool.false_eq_true, if_false]
  refine loop_pure (fun i => [.int .i64 (i : Int)]) rows.length hN rfl (fun i hi K => ?_) fun K => ?_
  · obtain ⟨r, hr⟩ := lt_l' hi
    have hkr := hk r (List.mem_of_getElem? hr)
    unfold s15_L0
    simp only [words, ↓KLn, Nat.reduceAdd, ltT hi, decide_true, if_true, idx_frz _ hr, part_all hkr.2, eq_self hkr.1, Bool.false_eq_true, if_false, succ63 (show i < 9223372036854775807 by omega), trim_self]
  · unfold s15_L0
    simp only [words, ↓KLn, Nat.reduceAdd, ltF, decide_false, Bool.false_eq_true, if_false, fin_bool0]
theorem c7 (a b c d g : Int) {ch vo : List (List PV)} (m1 : ch.length < 9223372036854775807) (m2 : vo.length < 9223372036854775807) (h1 : ∀ r ∈ ch, kOK BK51 r = true ∧ r.length = 51) (h2 : ∀ r ∈ vo, kOK BK21 r = true ∧ r.length = 21) (h : PHeap) : Γ0 7 [.agg (stF a b c d ch vo g), .agg (stF a b c d ch vo g)] h = some (.bool true, h) := by
  refine gbody (F := A7) (by kernel_rfl) 1 ?_
  rw [s7_eq]; unfold s7
  have e1 : ((0 : Int) != 0) = false := rfl
  have e2 : (g != g) = false := by simp
  have e3 : decide ((((([] : List (List PV)).length) : Nat) : Int) < ((([] : List (List PV)).length : Nat) : Int)) = false := rfl
  have e4 : (((([] : List (List PV)).length : Nat) : Int) != ((([] : List (List PV)).length : Nat) : Int)) = false := rfl
  simp only [words, ↓KLn, Nat.reduceAdd, sp0, sp37, sp74, sp79, sp80, sp81, sp82, sp83, clk_eq, z37_eq, step_eq, e1, e2, e4, len_frzW, Bool.or_self, Bool.false_eq_true, if_false]
  refine loop_pure (fun i => [.int .i64 (i : Int)]) 0 (by decide) rfl (fun i hi K => by omega) fun K => ?_
  unfold s7_L0
  have e5 : decide (((0 : Nat) : Int) < ((([] : List (List PV)).length : Nat) : Int)) = false := rfl
  simp only [words, ↓KLn, Nat.reduceAdd, e5, Bool.false_eq_true, if_false, sp81, sp82, c14 m1 h1, c15 m2 h2, fin_bool, Bool.and_self]
/-! Start -/
def stR (s : Sng) (a b c d e : Int) : PV := if (e != 0) = true then .tuple [.agg (stF 0 0 0 0 [] [] 0), .int .i64 e] else .tuple [.agg (stF a b c d (s.pans.map chC) vo32 s.glb), .int .i64 0]
theorem startR_form (s : Sng) (x : Int) : ∃ a b c d e, startR s x = .tuple [.agg (clkC a b c d), .int .i64 e] ∧ (e = 0 → okS s = true) := by
  unfold startR
  cases okS s with
  | false => exact ⟨0, 0, 0, 0, 1, rfl, fun h => by cases h⟩
  | true =>
    simp only [Bool.not_true, Bool.false_eq_true, if_false]
    split
    · exact ⟨0, 0, 0, 0, 5, rfl, fun h => by cases h⟩
    · split
      · exact ⟨_, _, _, _, 0, rfl, fun _ => trivial⟩
      · exact ⟨0, 0, 0, 0, 7, rfl, fun h => by cases h⟩
theorem stZ_st (vs : List PV) (t : TypeId) (l : PHeap) : storeP 84 (.ptr 0 0) (.agg Z84) (.box vs t .rw :: l) = (putAt vs 0 Z84).map fun vs' => .box vs' t .rw :: l := storeC0 rfl (by decide)
theorem stZ_put : putAt Z84 0 Z84 = some Z84 := put_whole rfl rfl
theorem stZ_whole : partP true 0 84 Z84 = some (.agg Z84) := part_all rfl
theorem fillZ84 : fillP Z84 [] = some Z84 := nr rfl
theorem stZ_form : Z84 = stB 0 0 0 0 .nilS .nilS .nilS 0 := rfl
theorem fin_z (h l : PHeap) (e : Int) : finP [(.agg SA84), .keep] h (h ++ l) [.agg Z84, .int .i64 e] = some (.tuple [.agg (stF 0 0 0 0 [] [] 0), .int .i64 e], h) := by
  refine fin_new (ws := [.agg (stF 0 0 0 0 [] [] 0), .int .i64 e]) (l := l) ?_ (fun v hv => ?_)
  · rw [stZ_form, fzL_cons, fz_st (chs := []) (vs := []) (fz_nil 51 (h ++ l)) (fz_nil 21 (h ++ l)), Option.bind_some, fzL_cons, fz_keep, Option.bind_some, fzL_nil]; rfl
  · simp only [List.mem_cons, List.not_mem_nil, or_false] at hv
    rcases hv with rfl | rfl
    · exact plainP_lt rfl
    · exact plainP_lt rfl
theorem fin_s (h l : PHeap) (a b c d g e : Int) (ch vo : List (List PV)) : finP [(.agg SA84), .keep] h (h ++ l) [.agg (stF a b c d ch vo g), .int .i64 e] = some (.tuple [.agg (stF a b c d ch vo g), .int .i64 e], h) := by
  refine fin_new (ws := [.agg (stF a b c d ch vo g), .int .i64 e]) (l := l) ?_ (fun v hv => ?_)
  · rw [fzL_cons, fz_stF, Option.bind_some, fzL_cons, fz_keep, Option.bind_some, fzL_nil]; rfl
  · simp only [List.mem_cons, List.not_mem_nil, or_false] at hv
    rcases hv with rfl | rfl
    · exact plainP_lt (st_plain _ _ _ _ _ _ _)
    · exact plainP_lt rfl
theorem c5 (s : Sng) (hl : SngLen s) {x a b c d e : Int} (hs : startR s x = .tuple [.agg (clkC a b c d), .int .i64 e]) (hok : e = 0 → okS s = true) (h : PHeap) : Γ0 5 [.agg s.cs, .int .i64 x] h = some (stR s a b c d e, h) := by
  refine gbody (F := A5) (by kernel_rfl) 1 ?_
  rw [s5_eq]; unfold s5 stR
  simp only [words, ↓KLn, Nat.reduceAdd, s_whole, sng_fz, c8 s hl, hs, clk_st, clk_put]
  cases he : (e != 0) with
  | true => simp only [if_true, words, ↓KLn, Nat.reduceAdd, fillZ84, stZ_st, stZ_put, stZ_whole, fin_z]
  | false =>
    have e0 : e = 0 := by rwa [bne_eq_false_iff_eq] at he
    have ok := sng_ok (hok e0)
    have k9 := fun l => c9 ok (bb := h.length) (h := h ++ .box s.cs 27 .rw :: l) (fun k v hk => by rw [loadN0, partC]; exact hk) a b c d
    simp only [Bool.false_eq_true, if_false, words, ↓KLn, Nat.reduceAdd, clk_whole, k9, stF_st, stF_put, stF_whole, fin_s]
theorem c6 (s : Sng) (hl : SngLen s) {x a b c d e : Int} (hs : startR s x = .tuple [.agg (clkC a b c d), .int .i64 e]) (hok : e = 0 → okS s = true) (h : PHeap) : Γ0 6 [.agg s.cs, .int .i64 x] h = some (stR s a b c d e, h) := by
  obtain ⟨N, hN⟩ : ∃ N : Nat, s.pans.length < N := ⟨_, Nat.lt_succ_self _⟩
  refine gbody (F := A6) (by kernel_rfl) N ?_
  rw [s6_eq]; unfold s6 stR
  simp only [words, ↓KLn, Nat.reduceAdd, s_whole, c10 s hl, hs, clk_st, clk_put]
  cases he : (e != 0) with
  | true => simp only [if_true, words, ↓KLn, Nat.reduceAdd, fillZ84, stZ_st, stZ_put, stZ_whole, fin_z]
  | false =>
    have e0 : e = 0 := by rwa [bne_eq_false_iff_eq] at he
    have ok := sng_ok (hok e0)
    simp only [Bool.false_eq_true, if_false, words, ↓KLn, Nat.reduceAdd, clk_whole, c11, sc7, fill_stZ, st_st, st_put3]
    exact c6a hl (hok e0) ok hN a b c d
theorem c3 (s : Sng) (hl : SngLen s) (x : Int) (h : PHeap) : Γ0 3 [.agg s.cs, .int .i64 x] h = some (.bool true, h) := by
  refine gbody (F := A3) (by kernel_rfl) 1 ?_
  rw [s3_eq]; unfold s3
  obtain ⟨a, b, c, d, e, hs, hok⟩ := startR_form s x
  simp only [words, ↓KLn, Nat.reduceAdd, s_whole, c4 s hl, fin_bool, c5 s hl hs hok, c6 s hl hs hok]
  cases tameB s with
  | false => rfl
  | true =>
    simp only [Bool.not_true, Bool.false_eq_true, if_false]
    have hpm : (s.pans.map chC).length < 9223372036854775807 ∨ (e != 0) = true := by
      cases he : (e != 0) with
      | true => exact .inr rfl
      | false =>
        have e0 : e = 0 := by rwa [bne_eq_false_iff_eq] at he
        have ok := sng_ok (hok e0)
        have hnp := ok.npans
        have hch := ok.ch
        unfold inW at hch
        simp only [Bool.and_eq_true, decide_eq_true_eq] at hch
        have hq : qI s.dia 1 ≤ 16 := by
          refine qOf_cases (fun r => rI r 1 ≤ 16) ?_ ?_ ?_ ?_ ?_ ?_ ?_ s.dia <;> decide
        exact .inl (by rw [List.length_map]; omega)
    cases he : (e != 0) with
    | true =>
      have k7 := c7 0 0 0 0 0 (ch := []) (vo := []) (by decide) (by decide) (fun r hr => by cases hr) (fun r hr => by cases hr)
      have e1 : stR s a b c d e = .tuple [.agg (stF 0 0 0 0 [] [] 0), .int .i64 e] := by unfold stR; rw [if_pos he]
      simp only [words, ↓KLn, Nat.reduceAdd, e1, s_whole, c6 s hl hs hok, stF_st, stF_put, stF_whole, beq_self_eq_true, k7, Bool.and_self, fin_bool]
    | false =>
      rw [he] at hpm
      have hpm2 : (s.pans.map chC).length < 9223372036854775807 := by
        rcases hpm with h | h
        · exact h
        · cases h
      have k7 := c7 a b c d s.glb (ch := s.pans.map chC) (vo := vo32) hpm2 (by decide) (fun r hr => by obtain ⟨p, _, rfl⟩ := List.mem_map.1 hr; exact ⟨rfl, rfl⟩) (fun r hr => by rw [List.eq_of_mem_replicate hr]; exact ⟨rfl, rfl⟩)
      have e1 : stR s a b c d e = .tuple [.agg (stF a b c d (s.pans.map chC) vo32 s.glb), .int .i64 0] := by unfold stR; rw [if_neg (by rw [he]; decide)]
      simp only [words, ↓KLn, Nat.reduceAdd, e1, s_whole, c6 s hl hs hok, stF_st, stF_put, stF_whole, beq_self_eq_true, k7, Bool.and_self, fin_bool]
end Go.Vm.X
