/- Where a song starts: the state (the reference). -/
import Derived.Test.YtjfppnnoeebcbaaPsState
set_option linter.unusedSimpArgs false
set_option linter.unusedVariables false
set_option maxRecDepth 20000
namespace Go.Vm.X
open Go.Am Go.Vm
attribute [local congr] bind_c ifP_c loop_c K1_c ite_c fork_c guard_c unl_c

theorem c11 (h : PHeap) : Γ0 11 [] h = some (.frz 21 vo32, h) := by
  refine gbody (F := A11) (by kernel_rfl) 1 ?_
  rw [s11_eq]; unfold s11
  simp only [mk32, bS, z21len]
  have z2 : fz (.flat 21) (.ref (h.length + 0) 0 32 32 21) (h ++ [.log vo32 21 74 .rw]) = some (.frz 21 vo32, h ++ [.log vo32 21 74 .ro]) := fz_logF (k := 0) (rows := vo32) rfl (by decide) vo_pure
  refine fin_new (ws := [.frz 21 vo32]) (l := [.log vo32 21 74 .ro]) ?_ (fun v hv => ?_)
  · rw [fzL_cons]
    rw [Nat.add_zero] at z2
    show Option.bind (fz (.flat 21) (.ref h.length 0 32 32 21) (h ++ [.log vo32 21 74 .rw])) _ = _
    rw [z2, Option.bind_some, fzL_nil]; rfl
  · simp only [List.mem_singleton] at hv
    subst hv
    exact plainP_lt rfl
/-- The reference's heap: what it made and did not give back stays. -/
def hsR (h : PHeap) (s : Sng) (a b c d : Int) : Nat → PHeap
  | 0 => h ++ [.box s.cs 27 .rw, .box Z84 38 .rw, .box (clkC a b c d) 31 .rw, .box (stB a b c d .nilS .nilS (.frz 21 vo32) s.glb) 38 .rw]
  | i + 1 => h ++ .box s.cs 27 .rw :: .box Z84 38 .rw :: .box (clkC a b c d) 31 .rw :: .box (stB a b c d .nilS (.ref (h.length + 5) 0 (i + 1) (i + 1) 51) (.frz 21 vo32) s.glb) 38 .rw :: .box (chC (s.pans.headD 0)) 64 .rw :: .log ((s.pans.take (i + 1)).map chC) 51 64 .rw :: ((s.pans.take (i + 1)).drop 1).map fun p => .box (chC p) 64 .rw
theorem hsR_succ (h : PHeap) (s : Sng) (a b c d : Int) (i : Nat) : hsR h s a b c d (i + 1) = h ++ .box s.cs 27 .rw :: .box Z84 38 .rw :: .box (clkC a b c d) 31 .rw :: .box (stB a b c d .nilS (.ref (h.length + 5) 0 (i + 1) (i + 1) 51) (.frz 21 vo32) s.glb) 38 .rw :: .box (chC (s.pans.headD 0)) 64 .rw :: .log ((s.pans.take (i + 1)).map chC) 51 64 .rw :: ((s.pans.take (i + 1)).drop 1).map fun p => .box (chC p) 64 .rw := rfl
theorem s6_round {N : Nat} {h : PHeap} {s : Sng} (hl : SngLen s) (okb : okS s = true) {a b c d : Int} {j24 : List PV → PHeap → Pt} {i : Nat} (hi : i < s.pans.length) (hv : (i : Int) < s.ch) (hm : s.pans.length < 4294967296) (K : List PV → PHeap → Pt) :
    s6_L0 Γ0 N (.ptr h.length 0) (.ptr (h.length + 3) 0) (hsR h s a b c d 0) j24 K [.int .i64 i] (hsR h s a b c d i) = K [.int .i64 ((i + 1 : Nat) : Int)] (hsR h s a b c d (i + 1)) := by
  obtain ⟨p, hp⟩ : ∃ p, s.pans[i]? = some p := ⟨_, List.getElem?_eq_getElem hi⟩
  have hlt : decide ((i : Int) < s.ch) = true := decide_eq_true hv
  have hrow : (chC p).all oneP = true := rfl
  have k12 : ∀ h, Γ0 12 [.agg s.cs, .int .i64 i] h = some (.tuple [.agg (chC p), .int .i64 0], h) := fun h => c12 s hl okb hp hv h
  have hk : ∀ h', h'[h.length + 3]? = some (.box (stB a b c d .nilS (.ref (h.length + 5) 0 (i + 1) (i + 1) 51) (.frz 21 vo32) s.glb) 38 .rw) → trim (hsR h s a b c d 0) [.int .i64 ((i + 1 : Nat) : Int)] h' = h' := fun h' e => by
    refine trim_keep (b := h.length + 3) (by show _ < (h ++ _).length; simp) e ?_ (not_ltB (b := h.length + 5) (lo := 0) (m := i + 1) (v := i + 1) (sz := 51) (by unfold stB; simp) (by show (h ++ _).length ≤ _; simp))
    show (h ++ _)[_]? ≠ _
    rw [get_new]
    intro k
    have k2 := congrArg (fun x : Option PBlk => match x with | some (.box vs _ _) => vs[81]? | _ => none) k
    simp only [st81, List.getElem?_cons_succ, List.getElem?_cons_zero] at k2
    cases k2
  cases i with
  | zero =>
    unfold s6_L0
    simp only [hsR, words, ↓KLn, Nat.reduceAdd, sc2, s_whole, hlt, if_true, st81, k12, ch_st, ch_put, ch_whole, ch_lit, ch_pure, guardW, ch_chunk, append_nilS (sz := 51) (by decide) hrow, st1r, put81, succ63 (show 0 < 9223372036854775807 by omega)]
    refine congrArg (K _) (Eq.trans (hk _ ?_) ?_)
    · rw [get_new]; rfl
    · have e1 : s.pans.take (0 + 1) = [p] := by rw [take_succ_get hp]; rfl
      have e2 : s.pans.headD 0 = p := by
        cases hps : s.pans with
        | nil => rw [hps] at hp; cases hp
        | cons x l => rw [hps] at hp; cases hp; rfl
      rw [e1, e2]; rfl
  | succ i =>
    have hml : i + 1 < mostLen := by unfold mostLen; omega
    have hrl : ((s.pans.take (i + 1)).map chC).length = i + 1 := by
      rw [List.length_map, List.length_take]; omega
    obtain ⟨H, hH⟩ : ∃ H, H = hsR h s a b c d (i + 1) := ⟨_, rfl⟩
    have f1 : loadP false 1 (.ptr h.length 2) H = some (.int .i64 s.ch) := by rw [hH]; show loadP _ _ _ (h ++ _) = _; rw [loadN0, partC]; rfl
    have f2 : loadP true 13 (.ptr h.length 0) H = some (.agg s.cs) := by rw [hH]; show loadP _ _ _ (h ++ _) = _; rw [loadN0, s_whole]
    have f3 : loadP false 1 (.ptr (h.length + 3) 81) (H ++ [.box (chC p) 64 .rw]) = some (.ref (h.length + 5) 0 (i + 1) (i + 1) 51) := load_app (by rw [hH]; show loadP _ _ _ (h ++ _) = _; rw [loadNk, loadCk, loadCk, loadCk, loadC0, partC, st81]) _
    have hHl : h.length + 5 < H.length ∧ h.length + 3 < H.length := by rw [hH]; unfold hsR; simp
    have g5 : (H ++ [PBlk.box (chC p) 64 .rw])[h.length + 5]? = some (.log ((s.pans.take (i + 1)).map chC) 51 64 .rw) := by
      rw [List.getElem?_append_left hHl.1, hH]; show (h ++ _)[_]? = _; rw [get_new]; rfl
    have g3 : ((H ++ [PBlk.box (chC p) 64 .rw]).set (h.length + 5) (.log ((s.pans.take (i + 1)).map chC ++ [chC p]) 51 64 .rw))[h.length + 3]? = some (.box (stB a b c d .nilS (.ref (h.length + 5) 0 (i + 1) (i + 1) 51) (.frz 21 vo32) s.glb) 38 .rw) := by
      rw [List.getElem?_set_ne (by omega), List.getElem?_append_left hHl.2, hH]; show (h ++ _)[_]? = _; rw [get_new]; rfl
    have f4 := append_ref (x := .frz 51 [chC p]) g5 (rows_frz 51 [chC p] _) (by decide) (by simpa using hrow) (by rw [hrl]; simp; omega)
    rw [hrl] at f4
    have f5 : storeP 1 (.ptr (h.length + 3) 81) (.ref (h.length + 5) 0 (i + 1 + [chC p].length) (i + 1 + [chC p].length) 51) ((H ++ [PBlk.box (chC p) 64 .rw]).set (h.length + 5) (.log ((s.pans.take (i + 1)).map chC ++ [chC p]) 51 64 .rw)) = some (((H ++ [PBlk.box (chC p) 64 .rw]).set (h.length + 5) (.log ((s.pans.take (i + 1)).map chC ++ [chC p]) 51 64 .rw)).set (h.length + 3) (.box (stB a b c d .nilS (.ref (h.length + 5) 0 (i + 2) (i + 2) 51) (.frz 21 vo32) s.glb) 38 .rw)) :=
      store_box g3 rfl (by decide) (put81 _ _ _ _ _ _ _ _ _ _ _ _ _)
    have b51 : storeP 51 (.ptr H.length 0) (.agg (chC p)) (H ++ [.box Z51 64 .rw]) = some (H ++ [.box (chC p) 64 .rw]) := box_set rfl rfl (by decide) rfl
    have l51 : loadP true 51 (.ptr H.length 0) (H ++ [.box (chC p) 64 .rw]) = some (.agg (chC p)) := box_all rfl
    rw [← hH]
    unfold s6_L0
    simp only [cellsW, forkW, fieldW, Nat.zero_add, bS, ↓KLn, ifW, nth_zero, bin_lss, bin_add, f1, f2, hlt, if_true, k12, y20, y21, b51, l51, f3, ch_lit, ch_pure, guardW, ch_chunk, f4, f5, succ63 (show i + 1 < 9223372036854775807 by omega)]
    refine congrArg (K _) (Eq.trans (hk _ ?_) ?_)
    · rw [List.getElem?_set_self]
      rw [List.length_set, List.length_append]; omega
    · have e1 : (s.pans.take (i + 1 + 1)).drop 1 = (s.pans.take (i + 1)).drop 1 ++ [p] := by
        rw [take_succ_get hp, List.drop_append_of_le_length (by rw [List.length_take]; omega)]
      have e2 : (s.pans.take (i + 1 + 1)).map chC = (s.pans.take (i + 1)).map chC ++ [chC p] := by rw [take_succ_get hp, List.map_append]; rfl
      rw [hH, hsR_succ, hsR_succ, e1, e2, List.append_assoc, set_new, set_new, List.map_append]
      rfl
theorem c6a {s : Sng} (hl : SngLen s) (okb : okS s = true) (ok : SngOK s) {h : PHeap} {N : Nat} (hN : s.pans.length < N) (a b c d : Int) :
    loopP (s6_L0 Γ0 N (.ptr h.length 0) (.ptr (h.length + 3) 0) (hsR h s a b c d 0) fun w25 h26 => (loadP true 84 (.ptr (h.length + 3) 0) h26).bind fun v27 => (storeP 84 (.ptr (h.length + 1) 0) v27 h26).bind fun h28 => (loadP true 84 (.ptr (h.length + 1) 0) h28).bind fun v29 => finP [(.agg SA84), .keep] h h28 [v29, (.int .i64 0 : PV)]) N [(.int .i64 0 : PV)] (hsR h s a b c d 0) = some (.tuple [.agg (stF a b c d (s.pans.map chC) vo32 s.glb), .int .i64 0], h) := by
  have hnp := ok.npans
  have hch := ok.ch
  unfold inW at hch
  simp only [Bool.and_eq_true, decide_eq_true_eq] at hch
  have hq : qI s.dia 1 ≤ 16 := by
    refine qOf_cases (fun r => rI r 1 ≤ 16) ?_ ?_ ?_ ?_ ?_ ?_ ?_ s.dia <;> decide
  refine loop_run (fun i => [.int .i64 (i : Int)]) (hsR h s a b c d) s.pans.length hN rfl rfl (fun i hi K => s6_round hl okb hi (by omega) (by omega) K) fun K => ?_
  obtain ⟨n, hn⟩ : ∃ n, s.pans.length = n + 1 := ⟨s.pans.length - 1, by omega⟩
  have hlt : decide ((s.pans.length : Int) < s.ch) = false := decide_eq_false (by omega)
  have htk : s.pans.take (n + 1) = s.pans := by rw [← hn]; exact List.take_length
  rw [hn] at hlt ⊢
  unfold s6_L0
  simp only [hsR, htk, words, ↓KLn, Nat.reduceAdd, sc2, hlt, Bool.false_eq_true, if_false, st_whole, st_st, st_put4]
  generalize hB : PBlk.box (stB a b c d .nilS (.ref (h.length + 5) 0 (n + 1) (n + 1) 51) (.frz 21 vo32) s.glb) 38 .rw = B
  generalize hT : ((s.pans.drop 1).map fun p => PBlk.box (chC p) 64 .rw) = T
  have hlen : (s.pans.map chC).length = n + 1 := by rw [List.length_map, hn]
  have z1 := fz_logF (h := h) (l := .box s.cs 27 .rw :: B :: .box (clkC a b c d) 31 .rw :: B :: .box (chC (s.pans.headD 0)) 64 .rw :: .log (s.pans.map chC) 51 64 .rw :: T) (k := 5) (s := 51) rfl (by rw [hlen]; omega) (ch_pures s.pans)
  rw [hlen] at z1
  have z := fz_st (a := a) (b := b) (c := c) (d := d) (g := s.glb) (vo := .frz 21 vo32) z1 (fz_frz 21 21 vo32 _)
  refine fin_new (ws := [.agg (stF a b c d (s.pans.map chC) vo32 s.glb), .int .i64 0]) (l := (PBlk.box s.cs 27 .rw :: B :: .box (clkC a b c d) 31 .rw :: B :: .box (chC (s.pans.headD 0)) 64 .rw :: .log (s.pans.map chC) 51 64 .rw :: T).set 5 (.log (s.pans.map chC) 51 64 .ro)) ?_ (fun v hv => ?_)
  · rw [fzL_cons, z, Option.bind_some, fzL_cons, fz_keep, Option.bind_some, fzL_nil]; rfl
  · simp only [List.mem_cons, List.not_mem_nil, or_false] at hv
    rcases hv with rfl | rfl
    · exact plainP_lt (st_plain _ _ _ _ _ _ _)
    · exact plainP_lt rfl
end Go.Vm.X
