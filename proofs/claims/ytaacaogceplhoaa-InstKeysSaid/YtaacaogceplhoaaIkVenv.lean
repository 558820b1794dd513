
/- Songs: envelopes are valid. -/
import Derived.Test.YtaacaogceplhoaaIkKey
import Derived.Test.YtaacaogceplhoaaMvE
set_option linter.unusedSimpArgs false
set_option linter.unusedVariables false
namespace Go.Vm.X
open Go.Am Go.Vm
attribute [local congr] bind_c ifP_c loop_c K1_c ite_c

theorem pred63 {i : Nat} (h : i < 9223372036854775807) : IntKind.i64.wrap (((i + 1 : Nat) : Int) - 1) = (i : Int) := by rw [wrap64 (by unfold isI64; omega)]; omega
/-- Points: tick, value. -/
def ptC (p : Int × Int) : List PV := [.int .i64 p.1, .int .i64 p.2]
def ptsPV (l : List (Int × Int)) : PV := .frz 2 (l.map ptC)
theorem len_pts (l : List (Int × Int)) : lenP false (ptsPV l) = some (.int .i64 l.length) := len_map
theorem idx_pts {l : List (Int × Int)} {i : Nat} {c : Int × Int} (k : IntKind) (h : l[i]? = some c) : indexAddrP 2 (ptsPV l) (.int k i) = some (.fptr (ptC c) 0) := idx_map k h
theorem load_pt (c : Int × Int) (h : PHeap) : loadP true 2 (.fptr (ptC c) 0) h = some (.agg (ptC c)) := by rw [load_fptr]; exact part_all rfl
theorem field_new2 (k : Nat) (row : List PV) : fieldAddrP k (.fptr row 0) = some (.fptr row k) := by rw [field_fptr, Nat.zero_add]
theorem load_pt0 (c : Int × Int) (h : PHeap) : loadP false 1 (.fptr (ptC c) 0) h = some (.int .i64 c.1) := rfl
theorem load_pt1 (c : Int × Int) (h : PHeap) : loadP false 1 (.fptr (ptC c) 1) h = some (.int .i64 c.2) := rfl
structure Env where
  on : Bool
  pts : List (Int × Int)
  sus : Bool
  (ss se : Int)
  lp : Bool
  (ls le : Int)
def Env.cs (e : Env) : List PV := [.bool e.on, ptsPV e.pts, .bool e.sus, .int .i64 e.ss, .int .i64 e.se, .bool e.lp, .int .i64 e.ls, .int .i64 e.le]
def ptBad (l : List (Int × Int)) (lo hi : Int) (i : Nat) : Bool :=
  (((match i with | 0 => (l.getD 0 (0, 0)).1 != 0 | j + 1 => decide ((l.getD (j + 1) (0, 0)).1 ≤ (l.getD j (0, 0)).1)) || decide ((l.getD i (0, 0)).1 > 9999)) || decide ((l.getD i (0, 0)).2 < lo)) || decide ((l.getD i (0, 0)).2 > hi)
def ptsOK (l : List (Int × Int)) (lo hi : Int) : Bool := (List.range l.length).all fun i => !ptBad l lo hi i
theorem ptsOK_not {l : List (Int × Int)} {lo hi : Int} {i : Nat} (h1 : i < l.length) (h2 : ptBad l lo hi i = true) : ptsOK l lo hi = false := by
  unfold ptsOK
  rw [Bool.eq_false_iff]
  intro h
  have := List.all_eq_true.1 h i (List.mem_range.2 h1)
  rw [h2] at this
  cases this
theorem ptsOK_is {l : List (Int × Int)} {lo hi : Int} (h : ∀ j, j < l.length → ptBad l lo hi j = false) : ptsOK l lo hi = true := by
  unfold ptsOK
  exact List.all_eq_true.2 fun i hi => by rw [h i (List.mem_range.1 hi)]; rfl
def envOK (e : Env) (lo hi : Int) : Bool := !(decide ((e.pts.length : Int) > 16) || (e.on && ((e.pts.length : Int) == 0))) && (ptsOK e.pts lo hi && (rightV e.sus e.ss e.se e.pts.length && rightV e.lp e.ls e.le e.pts.length))
section
variable {h : PHeap} {e : Env} {t : TypeId}
theorem el0 : loadP false 1 (.ptr h.length 0) (h ++ [.box e.cs t .rw]) = some (.bool e.on) := load_new rfl
theorem el1 : loadP false 1 (.ptr h.length 1) (h ++ [.box e.cs t .rw]) = some (ptsPV e.pts) := load_new rfl
theorem el2 : loadP false 1 (.ptr h.length 2) (h ++ [.box e.cs t .rw]) = some (.bool e.sus) := load_new rfl
theorem el3 : loadP false 1 (.ptr h.length 3) (h ++ [.box e.cs t .rw]) = some (.int .i64 e.ss) := load_new rfl
theorem el4 : loadP false 1 (.ptr h.length 4) (h ++ [.box e.cs t .rw]) = some (.int .i64 e.se) := load_new rfl
theorem el5 : loadP false 1 (.ptr h.length 5) (h ++ [.box e.cs t .rw]) = some (.bool e.lp) := load_new rfl
theorem el6 : loadP false 1 (.ptr h.length 6) (h ++ [.box e.cs t .rw]) = some (.int .i64 e.ls) := load_new rfl
theorem el7 : loadP false 1 (.ptr h.length 7) (h ++ [.box e.cs t .rw]) = some (.int .i64 e.le) := load_new rfl
theorem el1' {l : PHeap} : loadP false 1 (.ptr h.length 1) ((h ++ [.box e.cs t .rw]) ++ l) = some (ptsPV e.pts) := load_new2 rfl
end
theorem box_pt (h : PHeap) (c : Int × Int) : storeP 2 (.ptr h.length 0) (.agg (ptC c)) (h ++ [.box [.int .i64 0, .int .i64 0] 46 .rw]) = some (h ++ [.box (ptC c) 46 .rw]) := box_set rfl rfl (by decide) rfl
theorem pl0 {h : PHeap} {c : Int × Int} {t : TypeId} : loadP false 1 (.ptr h.length 0) (h ++ [.box (ptC c) t .rw]) = some (.int .i64 c.1) := load_new rfl
theorem pl1 {h : PHeap} {c : Int × Int} {t : TypeId} : loadP false 1 (.ptr h.length 1) (h ++ [.box (ptC c) t .rw]) = some (.int .i64 c.2) := load_new rfl
theorem getD_of {α : Type} {l : List α} {i : Nat} {d a : α} (h : l[i]? = some a) : l.getD i d = a := by rw [List.getD_eq_getElem?_getD, h]; rfl
theorem s24_round {e : Env} {lo hi : Int} {h : PHeap} {n : Nat} {j15 : List PV → PHeap → Pt} (hm : e.pts.length < 9223372036854775808) {i : Nat} (hi' : i < e.pts.length) (K : List PV → PHeap → Pt) :
    s24_L0 Γ0 n (.int .i64 lo) (.int .i64 hi) h (.ptr h.length 0) (h ++ [.box e.cs 25 .rw]) (ptsPV e.pts) (.int .i64 e.pts.length) j15 K [.int .i64 i] (h ++ [.box e.cs 25 .rw]) = if ptBad e.pts lo hi i = true then some (.bool false, h) else K [.int .i64 ((i + 1 : Nat) : Int)] (h ++ [.box e.cs 25 .rw]) := by
  obtain ⟨p, hp⟩ := lt_l' hi'
  unfold s24_L0 ptBad
  cases i with
  | zero =>
    have e0 : (((0 : Nat) : Int) == 0) = true := rfl
    have g0 : decide (((0 : Nat) : Int) > 0) = false := rfl
    simp only [nth_zero, bin_lss, ltT hi', decide_true, bS, ↓KLn, ifbN, if_true, idx_pts _ hp, load_pt, forkN, box_pt, bin_eql, e0, scTT, K1oneN, field_new, pl0, pl1, bin_neq, bin_gtr, g0, scFT, K1_or, bin_lss, getD_of hp, fin_bool2, bin_add, succ63 (show 0 < 9223372036854775807 by omega), trim_i1, Bool.true_and, Bool.or_false]
  | succ j =>
    have e0 : (((j + 1 : Nat) : Int) == 0) = false := by rw [beq_eq_false_iff_ne]; omega
    have g0 : decide (((j + 1 : Nat) : Int) > 0) = true := decide_eq_true (by omega)
    obtain ⟨q, hq⟩ := lt_l' (show j < e.pts.length by omega)
    simp only [nth_zero, bin_lss, ltT hi', decide_true, bS, ↓KLn, ifbN, if_true, idx_pts _ hp, load_pt, forkN, box_pt, bin_eql, e0, scFT, K1oneN, scFF, field_new, field_new2, pl0, pl1, bin_neq, bin_gtr, g0, scTT, el1', bin_sub, pred63 (show j < 9223372036854775807 by omega), idx_pts _ hq, load_pt0, bin_leq, K1_or, bin_lss, getD_of hp, getD_of hq, fin_bool2, bin_add, succ63 (show j + 1 < 9223372036854775807 by omega), trim_i1, Bool.false_and]
theorem c24 (e : Env) (hm : e.pts.length < 9223372036854775808) (lo hi : Int) (h : PHeap) : Γ0 24 [.agg e.cs, .int .i64 lo, .int .i64 hi] h = some (.bool (envOK e lo hi), h) := by
  obtain ⟨N, hN⟩ : ∃ N : Nat, e.pts.length < N := ⟨_, Nat.lt_succ_self _⟩
  refine gbody (F := A24) (by kernel_rfl) N ?_
  rw [s24_eq]
  unfold s24 envOK
  simp only [forkN, cellsN, field_new, el0, el1, len_pts, bS, bin_gtr, bin_eql, K1_and, K1oneN, K1_or, ↓KLn, ifbN]
  cases hc : (decide ((e.pts.length : Int) > 16) || (e.on && ((e.pts.length : Int) == 0))) with
  | true => simp only [if_true, Bool.not_true, Bool.false_and, fin_bool]
  | false =>
    simp only [Bool.false_eq_true, if_false, Bool.not_false, Bool.true_and]
    refine loop_until (ptBad e.pts lo hi) (fun i => [.int .i64 (i : Int)]) (fun _ => h ++ [.box e.cs 25 .rw]) e.pts.length hN rfl rfl (fun i hi' hb K => ?_) (fun i hi' hb hj K => ?_) (fun hj K => ?_)
    · rw [s24_round hm hi' K, hb]; rfl
    · rw [s24_round hm hi' K, hb, ptsOK_not hi' hb]; rfl
    · have k75 : ∀ (b : Bool) (x y : Int), callVP Γ0 (.func 39 [] [.ptr h.length 0]) [.bool b, .int .i64 x, .int .i64 y] (h ++ [.box e.cs 25 .rw]) = some (.bool (rightV b x y e.pts.length), h ++ [.box e.cs 25 .rw]) := fun b x y => by
        rw [callV_func Γ0 39]
        exact c39 b x y e.pts.length el1 (len_pts _)
      unfold s24_L0
      simp only [nth_zero, bin_lss, ltF, decide_false, bS, ↓KLn, ifbN, Bool.false_eq_true, if_false, field_new, el2, el3, el4, el5, el6, el7, k75, K1_and, ptsOK_is hj, Bool.true_and, fin_bool]
theorem s26_round {e : Env} {lo hi : Int} {h : PHeap} {n : Nat} {j12 : List PV → PHeap → Pt} (hm : e.pts.length < 9223372036854775808) {i : Nat} (hi' : i < e.pts.length) (K : List PV → PHeap → Pt) :
    s26_L0 Γ0 n (.int .i64 lo) (.int .i64 hi) h (.ptr h.length 0) (.int .i64 e.pts.length) (h ++ [.box e.cs 25 .rw]) j12 K [.int .i64 i] (h ++ [.box e.cs 25 .rw]) = if ptBad e.pts lo hi i = true then some (.bool false, h) else K [.int .i64 ((i + 1 : Nat) : Int)] (h ++ [.box e.cs 25 .rw]) := by
  obtain ⟨p, hp⟩ := lt_l' hi'
  unfold s26_L0 ptBad
  cases i with
  | zero =>
    have e0 : (((0 : Nat) : Int) == 0) = true := rfl
    have g0 : decide (((0 : Nat) : Int) > 0) = false := rfl
    simp only [nth_zero, bin_lss, ltT hi', decide_true, bS, ↓KLn, ifbN, if_true, field_new, el1, idx_pts _ hp, load_pt, forkN, box_pt, bin_eql, e0, scTT, K1oneN, field_new, pl0, pl1, bin_neq, bin_gtr, g0, scFT, K1_or, bin_lss, getD_of hp, fin_bool2, bin_add, succ63 (show 0 < 9223372036854775807 by omega), trim_i1, Bool.true_and, Bool.or_false]
  | succ j =>
    have e0 : (((j + 1 : Nat) : Int) == 0) = false := by rw [beq_eq_false_iff_ne]; omega
    have g0 : decide (((j + 1 : Nat) : Int) > 0) = true := decide_eq_true (by omega)
    obtain ⟨q, hq⟩ := lt_l' (show j < e.pts.length by omega)
    simp only [nth_zero, bin_lss, ltT hi', decide_true, bS, ↓KLn, ifbN, if_true, field_new, el1, idx_pts _ hp, load_pt, forkN, box_pt, bin_eql, e0, scFT, K1oneN, scFF, field_new, field_new2, pl0, pl1, bin_neq, bin_gtr, g0, scTT, el1', bin_sub, pred63 (show j < 9223372036854775807 by omega), idx_pts _ hq, load_pt0, bin_leq, K1_or, bin_lss, getD_of hp, getD_of hq, fin_bool2, bin_add, succ63 (show j + 1 < 9223372036854775807 by omega), trim_i1, Bool.false_and]
theorem c26 (e : Env) (hm : e.pts.length < 9223372036854775808) (lo hi : Int) (h : PHeap) : Γ0 26 [.agg e.cs, .int .i64 lo, .int .i64 hi] h = some (.bool (envOK e lo hi), h) := by
  obtain ⟨N, hN⟩ : ∃ N : Nat, e.pts.length < N := ⟨_, Nat.lt_succ_self _⟩
  refine gbody (F := A26) (by kernel_rfl) N ?_
  rw [s26_eq]
  unfold s26 envOK
  simp only [forkN, cellsN, field_new, el0, el1, len_pts, bS, bin_gtr, bin_eql, K1_and, K1oneN, K1_or, ↓KLn, ifbN]
  cases hc : (decide ((e.pts.length : Int) > 16) || (e.on && ((e.pts.length : Int) == 0))) with
  | true => simp only [if_true, Bool.not_true, Bool.false_and, fin_bool]
  | false =>
    simp only [Bool.false_eq_true, if_false, Bool.not_false, Bool.true_and]
    refine loop_until (ptBad e.pts lo hi) (fun i => [.int .i64 (i : Int)]) (fun _ => h ++ [.box e.cs 25 .rw]) e.pts.length hN rfl rfl (fun i hi' hb K => ?_) (fun i hi' hb hj K => ?_) (fun hj K => ?_)
    · rw [s26_round hm hi' K, hb]; rfl
    · rw [s26_round hm hi' K, hb, ptsOK_not hi' hb]; rfl
    · unfold s26_L0
      simp only [nth_zero, bin_lss, ltF, decide_false, bS, ↓KLn, ifbN, Bool.false_eq_true, if_false, field_new, el2, el3, el4, el5, el6, el7, c40, K1_and, ptsOK_is hj, Bool.true_and, fin_bool]
end Go.Vm.X
