/- Packing: the program's Blocks, and the law PackWrites. -/
import Derived.Test.YtgcioidegmnehaaPvBlocks
set_option linter.unusedSimpArgs false
set_option linter.unusedVariables false
namespace Go.Vm.X
open Go.Am Go.Vm

def fn25 : PV := .func 25 [] []
def fn41 : PV := .func 41 [] []
def fn56 (b : Nat) : PV := .func 56 [] [.ptr b 0]
theorem c55 (f : PV) (hc : cellsP f = [f]) (h : PHeap) : Γ0 55 [f] h = some (fn56 h.length, h ++ [.box [f] 43 .rw]) := by
  refine gbody (F := A55) (by kernel_rfl) 1 ?_
  rw [s55_eq]
  unfold s55
  simp only [fork_def, hc, fin_def, fzL_cons, fzL_nil, fz_keep, Option.bind_some, Option.map_some, single_one]
  rw [trim_ref ⟨_, List.mem_singleton.2 rfl, by simp [ltV]⟩]
  rfl
/-- The ways, by version. -/
def waysM (h : PHeap) : List (PV × PV) := [(.int .i64 1, .agg [fn25, fn41]), (.int .i64 2, .agg [fn56 (h.length + 1), fn56 (h.length + 2)])]
def HW (h : PHeap) : PHeap := h ++ [.map (waysM h) .rw, .box [fn25] 43 .rw, .box [fn41] 43 .rw]
theorem c28 (h : PHeap) : Γ0 28 [] h = some (.map h.length, HW h) := by
  refine gbody (F := A28) (by kernel_rfl) 1 ?_
  rw [s28_eq]
  unfold s28
  have f1 : fillP [.nilF, .nilF] [(0, 1, fn25), (1, 1, fn41)] = some [fn25, fn41] := rfl
  have f2 : ∀ a b : Nat, fillP [.nilF, .nilF] [(0, 1, fn56 a), (1, 1, fn56 b)] = some [fn56 a, fn56 b] := fun a b => rfl
  have m1 : setMapP .int (.map h.length) (.int .i64 1) (.agg [fn25, fn41]) (h ++ [.map [] .rw]) = some (h ++ [.map [(.int .i64 1, .agg [fn25, fn41])] .rw]) := by
    unfold setMapP
    simp only [get_new0, set_new0]
    rfl
  have m2 : ∀ (l : PHeap) v, setMapP .int (.map h.length) (.int .i64 2) v (h ++ (.map [(.int .i64 1, .agg [fn25, fn41])] .rw :: l)) = some (h ++ (.map [(.int .i64 1, .agg [fn25, fn41]), (.int .i64 2, v)] .rw :: l)) := fun l v => by
    unfold setMapP
    simp only [get_new0, set_new0]
    rfl
  have k1 := c55 fn25 rfl (h ++ [.map [(.int .i64 1, .agg [fn25, fn41])] .rw])
  have k2 := c55 fn41 rfl (h ++ [.map [(.int .i64 1, .agg [fn25, fn41])] .rw] ++ [PBlk.box [fn25] 43 .rw])
  have l1 : (h ++ [PBlk.map [(.int .i64 1, .agg [fn25, fn41])] .rw]).length = h.length + 1 := by simp
  have l2 : (h ++ [PBlk.map [(.int .i64 1, .agg [fn25, fn41])] .rw] ++ [PBlk.box [fn25] 43 .rw]).length = h.length + 2 := by simp
  have e3 : h ++ [PBlk.map [(.int .i64 1, .agg [fn25, fn41])] .rw] ++ [PBlk.box [fn25] 43 .rw] ++ [PBlk.box [fn41] 43 .rw] = h ++ (PBlk.map [(.int .i64 1, .agg [fn25, fn41])] .rw :: [PBlk.box [fn25] 43 .rw, PBlk.box [fn41] 43 .rw]) := by simp
  rw [l1] at k1
  rw [l2, e3] at k2
  have g1 : PV.func 25 [] [] = fn25 := rfl
  have g2 : PV.func 41 [] [] = fn41 := rfl
  simp only [fork_def, f1, Option.bind_some, m1, callV_func Γ0 55, List.nil_append, List.append_nil, g1, g2, k1, k2, f2, m2, fin_def, fzL_cons, fzL_nil, fz_keep, Option.map_some, single_one]
  rw [trim_ref ⟨_, List.mem_singleton.2 rfl, by simp [ltV]⟩]
  rfl
theorem c56 {b : Nat} (h1 : 1 ≤ b) (h2 : b ≤ 16) {l : List Int} (hs : Small l) (hm : l.length < 4294967296) {h : PHeap} {k : Nat} (hb : boxAt h k = some [fn25]) : Γ0 56 [ints l, .int .i64 b, .ptr k 0] h = some (ints (diffs b (diffs b l)), h) := by
  refine gbody (F := A56) (by kernel_rfl) 1 ?_
  rw [s56_eq]
  unfold s56
  simp only [load_box, hb, part_cell, List.getElem?_cons_zero, Option.bind_some]
  unfold fn25
  simp only [callV_func Γ0 25, List.nil_append, List.append_nil, c25 h1 h2 hs hm, Option.bind_some, unl_self, c25 h1 h2 (small_diffs h2 l) (show (diffs b l).length < 4294967296 by rw [diffs_len]; exact hm), fin_def, fzL_cons, fzL_nil, fz_ints, Option.map_some, single_one, trim_self]
theorem c56s {b : Nat} (h1 : 1 ≤ b) (h2 : b ≤ 16) {l : List Int} (hs : Small l) (hm : l.length < 4294967296) {h : PHeap} {k : Nat} (hb : boxAt h k = some [fn41]) : Γ0 56 [ints l, .int .i64 b, .ptr k 0] h = some (ints (sums b (sums b l)), h) := by
  refine gbody (F := A56) (by kernel_rfl) 1 ?_
  rw [s56_eq]
  unfold s56
  simp only [load_box, hb, part_cell, List.getElem?_cons_zero, Option.bind_some]
  unfold fn41
  simp only [callV_func Γ0 41, List.nil_append, List.append_nil, c41 h1 h2 hs hm, Option.bind_some, unl_self, c41 h1 h2 (small_sums h2 l) (show (sums b l).length < 4294967296 by rw [sums_len]; exact hm), fin_def, fzL_cons, fzL_nil, fz_ints, Option.map_some, single_one, trim_self]
theorem c29 (l : List Int) (h : PHeap) : Γ0 29 [ints l, .int .i64 256] h = some (.func 57 [] [.ptr h.length 0, .ptr (h.length + 1) 0], h ++ [.box [ints l] 22 .rw, .box [.int .i64 256] 3 .rw]) := by
  refine gbody (F := A29) (by kernel_rfl) 1 ?_
  rw [s29_eq]
  unfold s29
  have l1 : (h ++ [PBlk.box [ints l] 22 .rw]).length = h.length + 1 := by simp
  have e1 : h ++ [PBlk.box [ints l] 22 .rw] ++ [PBlk.box [.int .i64 256] 3 .rw] = h ++ [.box [ints l] 22 .rw, .box [.int .i64 256] 3 .rw] := by simp
  have hb : boxAt (h ++ [.box [ints l] 22 .rw, .box [.int .i64 256] 3 .rw]) (h.length + 1) = some [.int .i64 256] := boxAt_some (by rw [get_new]; rfl)
  have hlt : ((256 : Int) < 1) = False := by simp
  simp only [fork_def, cells_ints, cells_int, l1, e1, load_box, hb, part_cell, List.getElem?_cons_zero, Option.bind_some, bin_lss, hlt, decide_false, KL_def, if_bool, Bool.false_eq_true, if_false, fin_def, fzL_cons, fzL_nil, fz_keep, Option.map_some, single_one]
  rw [trim_ref ⟨_, List.mem_singleton.2 rfl, by simp [ltV]⟩]
/-- The program's loop. -/
theorem c57 {l : List Int} (hs : Small l) (hm : l.length ≤ 6000) {h : PHeap} {m b1 b2 b3 : PBlk} :
    Γ0 57 [.yield (h.length + 8), .ptr (h.length + 6) 0, .ptr (h.length + 7) 0] (HB h m b1 b2 b3 (.box [ints l] 22 .rw) (.box [.int .i64 256] 3 .rw) .ready none []) = some (.tuple [], HB h m b1 b2 b3 (.box [ints l] 22 .rw) (.box [.int .i64 256] 3 .rw) .ready none (blocksB l)) := by
  refine gbody (F := A57) (by kernel_rfl) (nBlocks l + 1) ?_
  rw [s57_eq]
  unfold s57
  simp only [KL_def]
  have hnb : nBlocks l = (l.length + 255) / 256 := rfl
  have r1 : ∀ o, loadP false 1 (.ptr (h.length + 6) 0) (HB h m b1 b2 b3 (.box [ints l] 22 .rw) (.box [.int .i64 256] 3 .rw) .ready none o) = some (ints l) := fun o => by
    rw [load_box, boxAt_some (vs := [ints l]) (t := 22) (md := .rw) (by unfold HB; rw [get_new]; rfl)]; rfl
  have r2 : ∀ o, loadP false 1 (.ptr (h.length + 7) 0) (HB h m b1 b2 b3 (.box [ints l] 22 .rw) (.box [.int .i64 256] 3 .rw) .ready none o) = some (.int .i64 256) := fun o => by
    rw [load_box, boxAt_some (vs := [.int .i64 256]) (t := 3) (md := .rw) (by unfold HB; rw [get_new]; rfl)]; rfl
  refine loop_run (fun k => [.int .i64 ((256 * k : Nat) : Int)]) (fun k => HB h m b1 b2 b3 (.box [ints l] 22 .rw) (.box [.int .i64 256] 3 .rw) .ready none (blocksN l k)) (nBlocks l) (by omega) rfl rfl (fun k hk K => ?_) fun K => ?_
  · have hlt : 256 * k < l.length := by omega
    have hlen : (l.drop (256 * k)).length = l.length - 256 * k := by simp
    have hmin : min (256 : Int) ((l.drop (256 * k)).length : Int) = ((min 256 (l.drop (256 * k)).length : Nat) : Int) := by omega
    have hadd : IntKind.i64.wrap (((256 * k : Nat) : Int) + ((min 256 (l.drop (256 * k)).length : Nat) : Int)) = ((256 * k + min 256 (l.drop (256 * k)).length : Nat) : Int) := by rw [wrap64 (by unfold isI64; omega)]; omega
    have hadd2 : IntKind.i64.wrap (((256 * k : Nat) : Int) + 256) = ((256 * (k + 1) : Nat) : Int) := by rw [wrap64 (by unfold isI64; omega)]; omega
    have hcl := ints_clip (l := l) (a := 256 * k) (b := 256 * k + min 256 (l.drop (256 * k)).length) (by omega) (by omega)
    have hpart : (l.take (256 * k + min 256 (l.drop (256 * k)).length)).drop (256 * k) = (l.drop (256 * k)).take 256 := by
      rw [← drop_take_swap, List.take_eq_take_iff]; omega
    rw [hpart] at hcl
    have hrd := cRound (h := h) (m := m) (b1 := b1) (b2 := b2) (b3 := b3) (c1 := .box [ints l] 22 .rw) (c2 := .box [.int .i64 256] 3 .rw) (small_part hs (256 * k) 256) (show ((l.drop (256 * k)).take 256).length ≤ 256 by simp; omega) (out := blocksN l k) (by have := blocksN_len l k; omega)
    rw [← blocksN_succ] at hrd
    have hyv : ∀ args H, callVP Γ0 (.yield (h.length + 8)) args H = Γ0 yieldId (.ptr (h.length + 8) 0 :: args) H := fun _ _ => rfl
    unfold s57_L0
    simp only [r1, r2, Option.bind_some, len_ints, nth_zero, bin_lss, ltT hlt, decide_true, KL_def, if_bool, if_true, ints_lo (Nat.le_of_lt hlt), fold1_two, min2_i, hmin, bin_add, hadd, hcl, fz_ints, hyv, hrd, un_not, Bool.not_true, Bool.false_eq_true, if_false, hadd2]
    rw [trim_len _ (by unfold HB; simp)]
  · have hlt : ((((256 * nBlocks l : Nat) : Int)) < (l.length : Int)) = False := eq_false (by omega)
    unfold s57_L0
    simp only [r1, Option.bind_some, len_ints, nth_zero, bin_lss, hlt, decide_false, KL_def, if_bool, Bool.false_eq_true, if_false, fin_def, fzL_nil, Option.map_some]
    rw [trim_len _ (by unfold HB; simp)]
    rfl
theorem look1 (h : PHeap) (v : Int) : lookupP .int (.agg [.nilF, .nilF]) true (.map h.length) (.int .i64 v) (HW h) = some (.tuple [.agg (if v = 1 then [fn25, fn41] else if v = 2 then [fn56 (h.length + 1), fn56 (h.length + 2)] else [.nilF, .nilF]), .bool (isVer v)]) := by
  unfold lookupP mapOfP HW
  simp only [get_new0, List.getElem?_cons_zero, Option.bind_some, waysM, findMapP, keyEqP, if_true, isVer]
  by_cases h1 : v = 1
  · subst h1; rfl
  · have e1 : (v == 1) = false := by simp [h1]
    by_cases h2 : v = 2
    · subst h2; rfl
    · have e2 : (v == 2) = false := by simp [h2]
      simp [e1, e2, h1, h2]
theorem fin_errN {h l : PHeap} {e : Int} : finP [.flat 1, .keep] h (h ++ l) [.nilS, .int .i64 e] = some (.tuple [u8s [], .int .i64 e], h) := by
  simp only [fin_def, fzL_cons, fzL_nil, fz_keep, fz_nil, Option.bind_some, Option.map_some, single_two]
  rw [trim_new _ (fun x hx => by simp only [List.mem_cons, List.not_mem_nil, or_false] at hx; rcases hx with rfl | rfl <;> first | exact lt_frz _ _ _ | exact lt_int _ _ _)]
  rfl
theorem c11 {l : List Int} (bits v : Int) (hm : l.length < 9223372036854775808) (h : PHeap) : Γ0 11 [ints l, .int .i64 bits, .int .i64 v] h = some (.tuple [u8s (blocksOf l bits v), .int .i64 (blocksE l bits v)], h) := by
  refine gbody (F := A11) (by kernel_rfl) 1 ?_
  rw [s11_eq]
  unfold s11
  obtain ⟨fs, hfs, hfl⟩ : ∃ fs : List PV, fs = (if v = 1 then [fn25, fn41] else if v = 2 then [fn56 (h.length + 1), fn56 (h.length + 2)] else [.nilF, .nilF]) ∧ fs.length = 2 ∧ fs.all oneP = true := ⟨_, rfl, by split <;> first | (split <;> exact ⟨rfl, rfl⟩) | exact ⟨rfl, rfl⟩⟩
  have ex0 : ∀ a b : PV, extractP (.tuple [a, b]) 0 = some a := fun _ _ => rfl
  have ex1 : ∀ a b : PV, extractP (.tuple [a, b]) 1 = some b := fun _ _ => rfl
  have l1 : (HW h).length = h.length + 3 := by unfold HW; simp
  have H5 : HW h ++ [PBlk.box [.nilF, .nilF] 45 .rw] = h ++ [.map (waysM h) .rw, .box [fn25] 43 .rw, .box [fn41] 43 .rw, .box [.nilF, .nilF] 45 .rw] := by unfold HW; simp
  have st : storeP 2 (.ptr (h.length + 3) 0) (.agg fs) (h ++ [.map (waysM h) .rw, .box [fn25] 43 .rw, .box [fn41] 43 .rw, .box [.nilF, .nilF] 45 .rw]) = some (h ++ [.map (waysM h) .rw, .box [fn25] 43 .rw, .box [fn41] 43 .rw, .box fs 45 .rw]) := by
    rw [store_whole (n := 2) (vs := [.nilF, .nilF]) (t := 45) (by rw [get_new]; rfl) rfl hfl.1 (by decide) hfl.2, set_new]
    rfl
  simp only [c28, Option.bind_some, look1, ← hfs, ex0, ex1, fork_def, l1, H5, st, bin_neq, K1_def, KL_def, sc_and, sc_or, if_bool, un_not, ne0]
  unfold blocksOf blocksE
  cases hr : right bits with
  | false =>
    have n1 : (bits != 8) = true := by unfold right at hr; simp at hr ⊢; exact hr.1
    have n2 : (bits != 16) = true := by unfold right at hr; simp at hr ⊢; exact hr.2
    simp only [n1, n2, if_true, Bool.true_eq_false, if_false, fin_errN, Bool.false_and, Bool.false_eq_true]
    rfl
  | true =>
    obtain ⟨b, rfl, hb⟩ := right_nat hr
    cases hv : isVer v with
    | false =>
      rcases hb with rfl | rfl <;>
      · simp (config := { decide := true }) only [if_true, if_false, Bool.not_false, fin_errN, Bool.and_false, Bool.false_eq_true]
    | true =>
      have c24b := c24 (l := l) (b : Int) (by omega) (h ++ [.map (waysM h) .rw, .box [fn25] 43 .rw, .box [fn41] 43 .rw, .box fs 45 .rw])
      have hpq : (((b : Int) != 8) = true ∧ ((b : Int) != 16) = false) ∨ ((b : Int) != 8) = false := by rcases hb with rfl | rfl <;> simp
      have hF : (false = true) = False := by simp
      have hT : (true = false) = False := by simp
      simp only [Bool.not_true, c24b, Option.bind_some, bin_neq, if_bool, ne0, Bool.and_self, if_true, hF, hT, if_false]
      have collapse : ∀ (A B C : Pt), (if ((b : Int) != 8) = true then (if ((b : Int) != 16) = false then A else B) else A) = A := fun A B C => by
        rcases hpq with ⟨h1, h2⟩ | h1
        · rw [if_pos h1, if_pos h2]
        · rw [if_neg (by rw [h1]; simp)]
      simp only [collapse _ _ none]
      by_cases h0 : chk l (b : Int) = 0
      · obtain ⟨b', hbb, hb8, hall, h4⟩ := chk_zero h0
        obtain rfl : b = b' := by omega
        have hs := small_all (show b ≤ 16 by omega) hall
        have l4 : (h ++ [PBlk.map (waysM h) .rw, .box [fn25] 43 .rw, .box [fn41] 43 .rw, .box fs 45 .rw]).length = h.length + 4 := by simp
        have e6 : h ++ [PBlk.map (waysM h) .rw, .box [fn25] 43 .rw, .box [fn41] 43 .rw, .box fs 45 .rw] ++ [PBlk.log [] 1 5 .rw, PBlk.box [.ref (h.length + 4) 0 0 0 1] 24 .rw] = h ++ [.map (waysM h) .rw, .box [fn25] 43 .rw, .box [fn41] 43 .rw, .box fs 45 .rw, .log [] 1 5 .rw, .box [.ref (h.length + 4) 0 0 0 1] 24 .rw] := by simp
        have ia : indexAddrArrP 2 1 (.ptr (h.length + 3) 0) (.int .i64 0) = some (.ptr (h.length + 3) 0) := rfl
        have ld : loadP false 1 (.ptr (h.length + 3) 0) (h ++ [.map (waysM h) .rw, .box [fn25] 43 .rw, .box [fn41] 43 .rw, .box fs 45 .rw, .log [] 1 5 .rw, .box [.ref (h.length + 4) 0 0 0 1] 24 .rw]) = fs[0]? := by
          rw [load_box, boxAt_some (vs := fs) (t := 45) (md := .rw) (by rw [get_new]; rfl)]; rfl
        have call : ∃ f, fs[0]? = some f ∧ callVP Γ0 f [ints l, .int .i64 b] (h ++ [.map (waysM h) .rw, .box [fn25] 43 .rw, .box [fn41] 43 .rw, .box fs 45 .rw, .log [] 1 5 .rw, .box [.ref (h.length + 4) 0 0 0 1] 24 .rw]) = some (ints (codedL v b l), h ++ [.map (waysM h) .rw, .box [fn25] 43 .rw, .box [fn41] 43 .rw, .box fs 45 .rw, .log [] 1 5 .rw, .box [.ref (h.length + 4) 0 0 0 1] 24 .rw]) := by
          unfold isVer at hv
          simp only [Bool.or_eq_true, beq_iff_eq] at hv
          rcases hv with rfl | rfl
          · rw [hfs]
            refine ⟨fn25, rfl, ?_⟩
            unfold fn25
            rw [callV_func Γ0 25]
            simp only [List.nil_append, List.append_nil]
            rw [c25 (b := b) (by omega) (by omega) hs (show l.length < 4294967296 by omega)]
            rfl
          · rw [hfs]
            refine ⟨fn56 (h.length + 1), rfl, ?_⟩
            unfold fn56
            rw [callV_func Γ0 56]
            simp only [List.nil_append, List.cons_append]
            rw [c56 (b := b) (by omega) (by omega) hs (show l.length < 4294967296 by omega) (boxAt_some (t := 43) (md := .rw) (by rw [get_new]; rfl))]
            rfl
        obtain ⟨f, hf0, hf⟩ := call
        have l6 : (h ++ [PBlk.map (waysM h) .rw, .box [fn25] 43 .rw, .box [fn41] 43 .rw, .box fs 45 .rw, .log [] 1 5 .rw, .box [.ref (h.length + 4) 0 0 0 1] 24 .rw]).length = h.length + 6 := by simp
        have k29 := c29 (codedL v b l) (h ++ [PBlk.map (waysM h) .rw, .box [fn25] 43 .rw, .box [fn41] 43 .rw, .box fs 45 .rw, .log [] 1 5 .rw, .box [.ref (h.length + 4) 0 0 0 1] 24 .rw])
        have e8 : h ++ [PBlk.map (waysM h) .rw, .box [fn25] 43 .rw, .box [fn41] 43 .rw, .box fs 45 .rw, .log [] 1 5 .rw, .box [.ref (h.length + 4) 0 0 0 1] 24 .rw] ++ [PBlk.box [ints (codedL v b l)] 22 .rw, PBlk.box [.int .i64 256] 3 .rw] = h ++ [.map (waysM h) .rw, .box [fn25] 43 .rw, .box [fn41] 43 .rw, .box fs 45 .rw, .log [] 1 5 .rw, .box [.ref (h.length + 4) 0 0 0 1] 24 .rw, .box [ints (codedL v b l)] 22 .rw, .box [.int .i64 256] 3 .rw] := by simp
        rw [e8, l6] at k29
        have l8 : (h ++ [PBlk.map (waysM h) .rw, .box [fn25] 43 .rw, .box [fn41] 43 .rw, .box fs 45 .rw, .log [] 1 5 .rw, .box [.ref (h.length + 4) 0 0 0 1] 24 .rw, .box [ints (codedL v b l)] 22 .rw, .box [.int .i64 256] 3 .rw]).length = h.length + 8 := by simp
        have e9 : h ++ [PBlk.map (waysM h) .rw, .box [fn25] 43 .rw, .box [fn41] 43 .rw, .box fs 45 .rw, .log [] 1 5 .rw, .box [.ref (h.length + 4) 0 0 0 1] 24 .rw, .box [ints (codedL v b l)] 22 .rw, .box [.int .i64 256] 3 .rw] ++ [PBlk.loop [.ptr (h.length + 4 + 1) 0] [11] [47] L11_0a L11_0b .ready none .rw] = HB h (.map (waysM h) .rw) (.box [fn25] 43 .rw) (.box [fn41] 43 .rw) (.box fs 45 .rw) (.box [ints (codedL v b l)] 22 .rw) (.box [.int .i64 256] 3 .rw) .ready none [] := by unfold HB; simp
        have k57 := c57 (l := codedL v b l) (codedL_small (by omega) v l) (by rw [codedL_len]; omega) (h := h) (m := .map (waysM h) .rw) (b1 := .box [fn25] 43 .rw) (b2 := .box [fn41] 43 .rw) (b3 := .box fs 45 .rw)
        generalize hout : blocksB (codedL v b l) = out at k57
        have pe : pendOfP (h.length + 8) (HB h (.map (waysM h) .rw) (.box [fn25] 43 .rw) (.box [fn41] 43 .rw) (.box fs 45 .rw) (.box [ints (codedL v b l)] 22 .rw) (.box [.int .i64 256] 3 .rw) .ready none out) = some none := by
          unfold pendOfP HB
          rw [get_new]
          rfl
        have tr : trim (h ++ [PBlk.map (waysM h) .rw, .box [fn25] 43 .rw, .box [fn41] 43 .rw, .box fs 45 .rw, .log [] 1 5 .rw, .box [.ref (h.length + 4) 0 0 0 1] 24 .rw, .box [ints (codedL v b l)] 22 .rw, .box [.int .i64 256] 3 .rw]) [] ((HB h (.map (waysM h) .rw) (.box [fn25] 43 .rw) (.box [fn41] 43 .rw) (.box fs 45 .rw) (.box [ints (codedL v b l)] 22 .rw) (.box [.int .i64 256] 3 .rw) .ready none out).set (h.length + 8) .dead) =
            h ++ [.map (waysM h) .rw, .box [fn25] 43 .rw, .box [fn41] 43 .rw, .box fs 45 .rw, .log (out.map u8V) 1 5 .rw, .box [.ref (h.length + 4) 0 out.length out.length 1] 24 .rw, .box [ints (codedL v b l)] 22 .rw, .box [.int .i64 256] 3 .rw] := by
          have e10 : (HB h (.map (waysM h) .rw) (.box [fn25] 43 .rw) (.box [fn41] 43 .rw) (.box fs 45 .rw) (.box [ints (codedL v b l)] 22 .rw) (.box [.int .i64 256] 3 .rw) .ready none out).set (h.length + 8) .dead =
              h ++ ([.map (waysM h) .rw, .box [fn25] 43 .rw, .box [fn41] 43 .rw, .box fs 45 .rw, .log (out.map u8V) 1 5 .rw, .box [.ref (h.length + 4) 0 out.length out.length 1] 24 .rw, .box [ints (codedL v b l)] 22 .rw, .box [.int .i64 256] 3 .rw] ++ [.dead]) := by
            unfold HB
            rw [set_new]
            rfl
          rw [e10, trim_app2 (by rfl) (fun v hv => by cases hv) fun k x hx => ?_]
          match k, hx with
          | 0, hx => exact .inl hx
          | 1, hx => exact .inl hx
          | 2, hx => exact .inl hx
          | 3, hx => exact .inl hx
          | 4, hx =>
            cases hx
            refine .inr fun x hx => ?_
            obtain ⟨r, h1, h2⟩ := List.mem_flatten.1 hx
            obtain ⟨a, _, rfl⟩ := List.mem_map.1 h1
            simp only [u8V, List.mem_singleton] at h2
            subst h2
            exact lt_int _ _ _
          | 5, hx =>
            cases hx
            refine .inr fun x hx => ?_
            simp only [List.mem_singleton] at hx
            subst hx
            simp [ltV]
          | 6, hx => exact .inl hx
          | 7, hx => exact .inl hx
          | k + 8, hx => simp at hx
        have ld5 : loadP false 1 (.ptr (h.length + 4 + 1) 0) (h ++ [.map (waysM h) .rw, .box [fn25] 43 .rw, .box [fn41] 43 .rw, .box fs 45 .rw, .log (out.map u8V) 1 5 .rw, .box [.ref (h.length + 4) 0 out.length out.length 1] 24 .rw, .box [ints (codedL v b l)] 22 .rw, .box [.int .i64 256] 3 .rw]) = some (.ref (h.length + 4) 0 out.length out.length 1) := by
          rw [load_box, boxAt_some (vs := [.ref (h.length + 4) 0 out.length out.length 1]) (t := 24) (md := .rw) (by rw [show h.length + 4 + 1 = h.length + 5 from rfl, get_new]; rfl)]; rfl
        have ff := fz_logB (h := h) (l := [.map (waysM h) .rw, .box [fn25] 43 .rw, .box [fn41] 43 .rw, .box fs 45 .rw, .log (out.map u8V) 1 5 .rw, .box [.ref (h.length + 4) 0 out.length out.length 1] 24 .rw, .box [ints (codedL v b l)] 22 .rw, .box [.int .i64 256] 3 .rw]) (k := 4) (s := 1) out.length rfl rfl
        rw [if_neg (fun k => absurd h0 k)]
        simp only [l4, e6, ia, Option.bind_some, ld, hf0, hf, k29, l8, e9, callF_func Γ0 57, List.nil_append, List.cons_append, k57, pe, endF, tr, ld5, fin_def, fzL_cons, fzL_nil, fz_keep, ff, Option.map_some, single_two, h0, if_true, Int.toNat_natCast]
        rw [trim_new _ (fun x hx => by simp only [List.mem_cons, List.not_mem_nil, or_false] at hx; rcases hx with rfl | rfl <;> first | exact lt_u8s _ _ | exact lt_int _ _ _), hout]
      · rw [if_pos h0, if_neg h0, fin_errN]
end Go.Vm.X
