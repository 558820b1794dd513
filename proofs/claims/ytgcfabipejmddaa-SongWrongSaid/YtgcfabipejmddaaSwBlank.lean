/- Songs: an empty pattern; the empty song of the chapter's example. -/
import Derived.Test.YtgcfabipejmddaaSwLight
set_option linter.unusedSimpArgs false
set_option linter.unusedVariables false
set_option maxRecDepth 20000
namespace Go.Vm.X
open Go.Am Go.Vm
attribute [local congr] bind_c ifP_c loop_c K1_c ite_c fork_c guard_c unl_c

def cell0 : Cell := ⟨0, 0, 0, 0, 0, 0⟩
theorem fill2r (x y : PV) (k : IntKind) (m : Int) (b lo n v sz : Nat) : fillP [x, y] [(0, 1, .int k m), (1, 1, .ref b lo n v sz)] = some [.int k m, .ref b lo n v sz] := nr rfl
theorem put2r (x y : PV) (k : IntKind) (m : Int) (b lo n v sz : Nat) : putAt [x, y] 0 [.int k m, .ref b lo n v sz] = some [.int k m, .ref b lo n v sz] := nr rfl
theorem part2 (a b : PV) : partP true 0 2 [a, b] = some (.agg [a, b]) := nr rfl
theorem c27 (r ch : Int) (hr : inW r 1 64 = true) (hc : inW ch 1 16 = true) (h : PHeap) : Γ0 27 [.int .i64 r, .int .i64 ch] h = some (.tuple [.agg (patC (r, List.replicate (r * ch).toNat cell0)), .int .i64 0], h) := by
  refine gbody (F := A27) (by kernel_rfl) 1 ?_
  rw [s27_eq]; unfold s27
  have hr' := hr
  have hc' := hc
  unfold inW at hr' hc'
  simp only [Bool.and_eq_true, decide_eq_true_eq] at hr' hc'
  have hb1 : r * ch ≤ 64 * 16 := Int.mul_le_mul hr'.2 hc'.2 (by omega) (by omega)
  have hb2 : 1 * 1 ≤ r * ch := Int.mul_le_mul hr'.1 hc'.1 (by omega) (by omega)
  obtain ⟨N, hN⟩ : ∃ N : Nat, r * ch = (N : Int) := ⟨(r * ch).toNat, by omega⟩
  have hw : IntKind.i64.wrap (r * ch) = (N : Int) := by rw [wrap64 (by unfold isI64; omega), hN]
  have hm : N ≤ mostLen := by unfold mostLen; omega
  have hz : (List.replicate N ([.int .i64 0, .int .i64 0, .int .i64 0, .int .i64 0, .int .i64 0, .int .i64 0] : List PV)) = (List.replicate N cell0).map Cell.cs := by rw [List.map_replicate]; rfl
  have hlen : ((List.replicate N cell0).map Cell.cs).length = N := by simp
  rw [hN, Int.toNat_natCast]
  simp only [cellsW, forkW, fieldW, fieldF, Nat.reduceAdd, Nat.zero_add, List.append_assoc, List.cons_append, List.nil_append, lenadd, len1, len2, len3, len4, len5, loadN0, loadNk, loadCk, loadC0, loadF, partC, storeN0, storeNk, storeCk, mapS, bS, ↓KLn, K1_or, K1_and, K1one, notW, ifW, nth_zero, bin_lss, bin_gtr, bin_leq, bin_geq, bin_eql, bin_neq, bin_add, bin_sub, unl_self, y20, y21, c51, c52, hr, hc, Bool.not_true, Bool.false_eq_true, if_false, bin_mul, hw, mkSlice_new hm, hz, fill2r, st2, put2r, part2]
  have e := fz_logF (h := h) (l := [.box [.int .i64 r, .ref (h.length + 1) 0 N N 6] 35 .rw, .log ((List.replicate N cell0).map Cell.cs) 6 75 .rw]) (k := 1) (s := 6) rfl (by rw [hlen]; omega) (pure_map (f := Cell.cs) (fun c => rfl) _)
  rw [hlen] at e
  refine fin_new (ws := [.agg (patC (r, List.replicate N cell0)), .int .i64 0]) (l := [.box [.int .i64 r, .ref (h.length + 1) 0 N N 6] 35 .rw, .log ((List.replicate N cell0).map Cell.cs) 6 75 .ro]) ?_ ?_
  · rw [fzL_cons, fz_aggs, fzL_cons, fz_keep, Option.bind_some, fzL_cons]
    show Option.bind (Option.map _ (Option.map _ ((fz (.flat 6) (.ref (h.length + 1) 0 N N 6) _).bind _))) _ = _
    rw [show ([PV.int .i64 0, .int .i64 0, .int .i64 0, .int .i64 0, .int .i64 0, .int .i64 0] : List PV).length = 6 from rfl, e]
    simp only [bS, mapS, fzL_nil, fzL_cons, fz_keep, List.set_cons_succ, List.set_cons_zero]
    rfl
  · intro v hv
    simp only [List.mem_cons, List.not_mem_nil, or_false] at hv
    rcases hv with rfl | rfl
    · exact plainP_lt rfl
    · exact plainP_lt rfl
/-- The song of the example. -/
def blank : Sng := { name := ⟨#[]⟩, dia := 1, ch := 4, ords := [0], rest := 0, spd := 6, tem := 125, glb := 128, lin := false, pans := [0, 256, 256, 0], pats := [(64, List.replicate 256 cell0)], smps := [], inss := [] }
def blankL : Sng := { blank with lin := true }
def blk13 (ords pans pats : PV) : PBlk := .box [.str ⟨#[]⟩, .int .i64 1, .int .i64 4, ords, .int .i64 0, .int .i64 6, .int .i64 125, .int .i64 128, .bool false, pans, pats, .nilS, .nilS] 27 .rw
theorem fill_b (d ch : Int) (b : Bool) : fillP [.str ⟨#[]⟩, .int .i64 0, .int .i64 0, .nilS, .int .i64 0, .int .i64 0, .int .i64 0, .int .i64 0, .bool false, .nilS, .nilS, .nilS, .nilS] [(1, 1, .int .i64 d), (2, 1, .int .i64 ch), (5, 1, .int .i64 6), (6, 1, .int .i64 125), (7, 1, .int .i64 128), (8, 1, .bool b)] = some [.str ⟨#[]⟩, .int .i64 d, .int .i64 ch, .nilS, .int .i64 0, .int .i64 6, .int .i64 125, .int .i64 128, .bool b, .nilS, .nilS, .nilS, .nilS] := nr rfl
theorem st13 (a b c d e f g i j k l m n : PV) (vs : List PV) (t : TypeId) (r : PHeap) : storeP 13 (.ptr 0 0) (.agg [a, b, c, d, e, f, g, i, j, k, l, m, n]) (.box vs t .rw :: r) = (putAt vs 0 [a, b, c, d, e, f, g, i, j, k, l, m, n]).map fun vs' => .box vs' t .rw :: r := storeC0 rfl (by decide)
theorem part13 (a b c d e f g i j k l m n : PV) : partP true 0 13 [a, b, c, d, e, f, g, i, j, k, l, m, n] = some (.agg [a, b, c, d, e, f, g, i, j, k, l, m, n]) := nr rfl
theorem part13_9 (a b c d e f g i j k l m n : PV) : [a, b, c, d, e, f, g, i, j, k, l, m, n][9]? = some k := nr rfl
theorem part13_3 (a b c d e f g i j k l m n : PV) : [a, b, c, d, e, f, g, i, j, k, l, m, n][3]? = some d := nr rfl
theorem part13_10 (a b c d e f g i j k l m n : PV) : [a, b, c, d, e, f, g, i, j, k, l, m, n][10]? = some l := nr rfl
theorem put13_9 (a b c d e f g i j k l m n : PV) (u v w x y : Nat) : putAt [a, b, c, d, e, f, g, i, j, k, l, m, n] 9 [.ref u v w x y] = some [a, b, c, d, e, f, g, i, j, .ref u v w x y, l, m, n] := nr rfl
theorem put13_3 (a b c d e f g i j k l m n : PV) (u v w x y : Nat) : putAt [a, b, c, d, e, f, g, i, j, k, l, m, n] 3 [.ref u v w x y] = some [a, b, c, .ref u v w x y, e, f, g, i, j, k, l, m, n] := nr rfl
theorem put13_10 (a b c d e f g i j k l m n : PV) (u v w x y : Nat) : putAt [a, b, c, d, e, f, g, i, j, k, l, m, n] 10 [.ref u v w x y] = some [a, b, c, d, e, f, g, i, j, k, .ref u v w x y, m, n] := nr rfl
theorem st1r (u v w x y o : Nat) (vs : List PV) (t : TypeId) (l : PHeap) : storeP 1 (.ptr 0 o) (.ref u v w x y) (.box vs t .rw :: l) = (putAt vs o [.ref u v w x y]).map fun vs' => .box vs' t .rw :: l := st1 rfl o vs t l
theorem fill1i (z : PV) (k : IntKind) (n : Int) : fillP (repP [z] 1) [(0, 1, .int k n)] = some [.int k n] := fill_int z k n
theorem pure1i (k : IntKind) (n : Int) : [PV.int k n].all pure1 = true := nr rfl
theorem chunk1i (v : PV) : chunk 1 1 [v] = [[v]] := nr rfl
theorem fillLit (a b c d : Int) : fillP [.int .i64 0, .int .i64 0, .int .i64 0, .int .i64 0] [(0, 1, .int .i64 a), (1, 1, .int .i64 b), (2, 1, .int .i64 c), (3, 1, .int .i64 d)] = some [.int .i64 a, .int .i64 b, .int .i64 c, .int .i64 d] := nr rfl
def pans4 : List Int := [0, 256, 256, 0]
theorem lit4 {i : Nat} (hi : i < 4) {a : Int} (ha : pans4[i]? = some a) : indexArrP 4 false 1 (.agg [.int .i64 0, .int .i64 256, .int .i64 256, .int .i64 0]) (.int .i64 i) = some (.int .i64 a) := by
  have : i = 0 ∨ i = 1 ∨ i = 2 ∨ i = 3 := by omega
  rcases this with rfl | rfl | rfl | rfl <;> (cases ha; rfl)
def hsP (h : PHeap) : Nat → PHeap
  | 0 => h ++ [.box [.str ⟨#[]⟩, .int .i64 0, .int .i64 0, .nilS, .int .i64 0, .int .i64 0, .int .i64 0, .int .i64 0, .bool false, .nilS, .nilS, .nilS, .nilS] 27 .rw, .box (qOf 1) 47 .rw, blk13 .nilS .nilS .nilS]
  | i + 1 => h ++ [.box [.str ⟨#[]⟩, .int .i64 0, .int .i64 0, .nilS, .int .i64 0, .int .i64 0, .int .i64 0, .int .i64 0, .bool false, .nilS, .nilS, .nilS, .nilS] 27 .rw, .box (qOf 1) 47 .rw, blk13 .nilS (.ref (h.length + 3) 0 (i + 1) (i + 1) 1) .nilS, .log ((pans4.take (i + 1)).map iV) 1 3 .rw]
theorem app3 {h l : PHeap} {a b c : PBlk} {sz n : Nat} {t : TypeId} {rows : List (List PV)} {row : List PV} (hn : n = rows.length) (hs : 0 < sz) (hp : row.all oneP = true) (hm : n < mostLen) :
    appendP t sz (.ref (h.length + 3) 0 n n sz) (.frz sz [row]) (h ++ a :: b :: c :: .log rows sz t .rw :: l) = some (.ref (h.length + 3) 0 (n + 1) (n + 1) sz, h ++ a :: b :: c :: .log (rows ++ [row]) sz t .rw :: l) := by
  subst hn
  exact append_new (k := 3) (l := a :: b :: c :: .log rows sz t .rw :: l) rfl hs hp hm
theorem s9_pan {N : Nat} {h : PHeap} {j17 : List PV → PHeap → Pt} {i : Nat} (hi : i < 4) (K : List PV → PHeap → Pt) :
    s9_L1 Γ0 N (.int .i64 1) (.int .i64 4) (.ptr (h.length + 2) 0) (hsP h 0) j17 K [.int .i64 i] (hsP h i) = K [.int .i64 ((i + 1 : Nat) : Int)] (hsP h (i + 1)) := by
  obtain ⟨a, ha⟩ : ∃ a, pans4[i]? = some a := ⟨_, List.getElem?_eq_getElem hi⟩
  have hlt : ((i : Int) < 4) = True := eq_true (by omega)
  have e11 : ((1 : Int) == 1) = true := rfl
  have hrow : ([PV.int .i64 a] : List PV).all oneP = true := rfl
  have hk : ∀ h', h'[h.length + 2]? = some (blk13 .nilS (.ref (h.length + 3) 0 (i + 1) (i + 1) 1) .nilS) → trim (hsP h 0) [.int .i64 ((i + 1 : Nat) : Int)] h' = h' := fun h' e => by
    refine trim_keep (b := h.length + 2) (by show _ < (h ++ _).length; simp) e ?_ (not_ltB (b := h.length + 3) (lo := 0) (m := i + 1) (v := i + 1) (sz := 1) (by simp) (by show (h ++ _).length ≤ _; simp))
    show (h ++ _)[_]? ≠ _
    rw [get_new]
    intro k
    cases k
  unfold s9_L1
  cases i with
  | zero =>
    show _ = K _ (hsP h 1)
    simp only [hsP, blk13, cellsW, forkW, fieldW, fieldF, Nat.reduceAdd, Nat.zero_add, List.append_assoc, List.cons_append, List.nil_append, lenadd, len1, len2, len3, len4, len5, loadN0, loadNk, loadCk, loadC0, loadF, partC, storeN0, storeNk, storeCk, mapS, bS, ↓KLn, K1_or, K1_and, K1one, notW, ifW, nth_zero, bin_lss, bin_gtr, bin_leq, bin_geq, bin_eql, bin_neq, bin_add, bin_sub, unl_self, y20, y21, hlt, decide_true, if_true, e11, fillLit, lit4 hi ha, part13_9, fill1i, pure1i, guardW, chunk1i, append_nilS (sz := 1) (by decide) hrow, len3, st1r, put13_9, succ63 (show 0 < 9223372036854775807 by omega)]
    cases ha
    refine congrArg (K _) (Eq.trans (hk _ ?_) ?_)
    · rw [get_new]; rfl
    · rfl
  | succ i =>
    have hml : i + 1 < mostLen := by unfold mostLen; omega
    have hrl : i + 1 = ((pans4.take (i + 1)).map iV).length := by
      rw [List.length_map, List.length_take]; show i + 1 = min (i + 1) 4; omega
    simp only [hsP, blk13, cellsW, forkW, fieldW, fieldF, Nat.reduceAdd, Nat.zero_add, List.append_assoc, List.cons_append, List.nil_append, lenadd, len1, len2, len3, len4, len5, loadN0, loadNk, loadCk, loadC0, loadF, partC, storeN0, storeNk, storeCk, mapS, bS, ↓KLn, K1_or, K1_and, K1one, notW, ifW, nth_zero, bin_lss, bin_gtr, bin_leq, bin_geq, bin_eql, bin_neq, bin_add, bin_sub, unl_self, y20, y21, hlt, decide_true, if_true, e11, fillLit, lit4 hi ha, part13_9, fill1i, pure1i, guardW, chunk1i, app3 (sz := 1) hrl (by decide) hrow hml, st1r, put13_9, succ63 (show i + 1 < 9223372036854775807 by omega)]
    refine congrArg (K _) (Eq.trans (hk _ ?_) ?_)
    · rw [get_new]; rfl
    · rw [take_succ_get ha, List.map_append]; rfl
theorem put13b (a b c d e f g i j k l m n : PV) (x : ByteArray) (y z : Int) (w : Bool) : putAt [a, b, c, d, e, f, g, i, j, k, l, m, n] 0 [.str x, .int .i64 y, .int .i64 z, .nilS, .int .i64 0, .int .i64 6, .int .i64 125, .int .i64 128, .bool w, .nilS, .nilS, .nilS, .nilS] = some [.str x, .int .i64 y, .int .i64 z, .nilS, .int .i64 0, .int .i64 6, .int .i64 125, .int .i64 128, .bool w, .nilS, .nilS, .nilS, .nilS] := nr rfl
theorem put13r (a b c d e f g i j k l m n : PV) (x : ByteArray) (y z : Int) (w : Bool) (q1 q2 q3 q4 q5 r1 r2 r3 r4 r5 t1 t2 t3 t4 t5 : Nat) : putAt [a, b, c, d, e, f, g, i, j, k, l, m, n] 0 [.str x, .int .i64 y, .int .i64 z, .ref q1 q2 q3 q4 q5, .int .i64 0, .int .i64 6, .int .i64 125, .int .i64 128, .bool w, .ref r1 r2 r3 r4 r5, .ref t1 t2 t3 t4 t5, .nilS, .nilS] = some [.str x, .int .i64 y, .int .i64 z, .ref q1 q2 q3 q4 q5, .int .i64 0, .int .i64 6, .int .i64 125, .int .i64 128, .bool w, .ref r1 r2 r3 r4 r5, .ref t1 t2 t3 t4 t5, .nilS, .nilS] := nr rfl
def pat64 : Pat := (64, List.replicate 256 cell0)
theorem fill_pat (p : Pat) : fillP (repP [.int .i64 0, .nilS] 1) [(0, 2, .agg (patC p))] = some (patC p) := nr rfl
theorem pure_pat (p : Pat) : (patC p).all pure1 = true := nr rfl
theorem chunk_pat (p : Pat) : chunk 2 1 (patC p) = [patC p] := nr rfl
def bl7 (b0 : PBlk) (n : Nat) (m1 m2 m3 : Md) : PHeap := [b0, .box (qOf 1) 47 .rw, blk13 (.ref (n + 6) 0 1 1 1) (.ref (n + 3) 0 4 4 1) (.ref (n + 5) 0 1 1 2), .log (pans4.map iV) 1 3 m2, .box (patC pat64) 35 .rw, .log [patC pat64] 2 35 m3, .log [[.int .i64 0]] 1 3 m1]
def b13z : PBlk := .box [.str ⟨#[]⟩, .int .i64 0, .int .i64 0, .nilS, .int .i64 0, .int .i64 0, .int .i64 0, .int .i64 0, .bool false, .nilS, .nilS, .nilS, .nilS] 27 .rw
def hsQ (h : PHeap) : Nat → PHeap
  | 0 => hsP h 4
  | _ + 1 => h ++ bl7 b13z h.length .rw .rw .rw
theorem s9_pat {N : Nat} {h : PHeap} {j20 : List PV → PHeap → Pt} (K : List PV → PHeap → Pt) :
    s9_L0 Γ0 N (.int .i64 4) (.int .i64 1) (.ptr (h.length + 2) 0) (hsP h 4) j20 K [.int .i64 ((0 : Nat) : Int)] (hsP h 4) = K [.int .i64 ((1 : Nat) : Int)] (hsQ h 1) := by
  have k27 : ∀ h, Γ0 27 [.int .i64 64, .int .i64 4] h = some (.tuple [.agg (patC pat64), .int .i64 0], h) := fun h => c27 64 4 rfl rfl h
  have hlt : (((0 : Nat) : Int) < 1) = True := eq_true (by decide)
  have hp : (patC pat64).all oneP = true := rfl
  have hr : ([PV.int .i64 ((0 : Nat) : Int)] : List PV).all oneP = true := rfl
  have hk : ∀ h', h'[h.length + 2]? = some (blk13 (.ref (h.length + 6) 0 1 1 1) (.ref (h.length + 3) 0 4 4 1) (.ref (h.length + 5) 0 1 1 2)) → trim (hsP h 4) [.int .i64 ((1 : Nat) : Int)] h' = h' := fun h' e => by
    refine trim_keep (b := h.length + 2) (by show _ < (h ++ _).length; simp) e ?_ (not_ltB (b := h.length + 6) (lo := 0) (m := 1) (v := 1) (sz := 1) (by simp) (by show (h ++ _).length ≤ _; simp))
    show (h ++ _)[_]? ≠ _
    rw [get_new]
    intro k
    cases k
  unfold s9_L0
  simp only [hsP, blk13, cellsW, forkW, fieldW, fieldF, Nat.reduceAdd, Nat.zero_add, List.append_assoc, List.cons_append, List.nil_append, lenadd, len1, len2, len3, len4, len5, loadN0, loadNk, loadCk, loadC0, loadF, partC, storeN0, storeNk, storeCk, mapS, bS, ↓KLn, K1_or, K1_and, K1one, notW, ifW, nth_zero, bin_lss, bin_gtr, bin_leq, bin_geq, bin_eql, bin_neq, bin_add, bin_sub, unl_self, y20, y21, hlt, decide_true, if_true, k27, pat_st, pat_put, part13_10, pat_fptr, fill_pat, pure_pat, guardW, chunk_pat, append_nilS (sz := 2) (by decide) hp, lock_len, unl_new, part13_3, fill1i, pure1i, chunk1i, append_nilS (sz := 1) (by decide) hr, len6, st1r, put13_10, put13_3, succ63 (show 0 < 9223372036854775807 by omega)]
  refine congrArg (K _) (Eq.trans (hk _ ?_) ?_)
  · rw [get_new]; rfl
  · rfl
theorem c9 (h : PHeap) : Γ0 9 [.int .i64 1, .int .i64 4, .int .i64 1] h = some (.tuple [.agg blank.cs, .int .i64 0], h) := by
  obtain ⟨N, hN⟩ : ∃ N : Nat, 4 < N := ⟨_, Nat.lt_succ_self _⟩
  refine gbody (F := A9) (by kernel_rfl) N ?_
  rw [s9_eq]; unfold s9
  have hk : kindE 1 = 0 := rfl
  have hq := q_put 1 (vs := qrow0) rfl
  unfold qrow0 at hq
  have e0 : ((0 : Int) != 0) = false := rfl
  have e1 : inW 4 1 (qI 1 1) = true := by decide
  have e2 : inW 1 1 32 = true := by decide
  have e3 : qB 1 8 = false := rfl
  simp only [cellsW, forkW, fieldW, fieldF, Nat.reduceAdd, Nat.zero_add, List.append_assoc, List.cons_append, List.nil_append, lenadd, len1, len2, len3, len4, len5, loadN0, loadNk, loadCk, loadC0, loadF, partC, storeN0, storeNk, storeCk, mapS, bS, ↓KLn, K1_or, K1_and, K1one, notW, ifW, nth_zero, bin_lss, bin_gtr, bin_leq, bin_geq, bin_eql, bin_neq, bin_add, bin_sub, unl_self, y20, y21, c10, hk, q_st, hq, e0, Bool.false_eq_true, if_false, q_1, c26, e1, e2, Bool.not_true, Bool.or_false, q_8, e3, fill_b, st13, put13b]
  refine loop_run (fun i => [.int .i64 (i : Int)]) (hsP h) 4 hN rfl rfl (fun i hi K => s9_pan hi K) fun K => ?_
  have hf4 : (((4 : Nat) : Int) < 4) = False := eq_false (by decide)
  unfold s9_L1
  simp only [cellsW, forkW, fieldW, fieldF, Nat.reduceAdd, Nat.zero_add, List.append_assoc, List.cons_append, List.nil_append, lenadd, len1, len2, len3, len4, len5, loadN0, loadNk, loadCk, loadC0, loadF, partC, storeN0, storeNk, storeCk, mapS, bS, ↓KLn, K1_or, K1_and, K1one, notW, ifW, nth_zero, bin_lss, bin_gtr, bin_leq, bin_geq, bin_eql, bin_neq, bin_add, bin_sub, unl_self, y20, y21, hf4, decide_false, Bool.false_eq_true, if_false]
  refine loop_run (fun i => [.int .i64 (i : Int)]) (hsQ h) 1 (by omega) rfl rfl (fun i hi K => ?_) fun K => ?_
  · have : i = 0 := by omega
    subst this
    exact s9_pat K
  · have hf1 : (((1 : Nat) : Int) < 1) = False := eq_false (by decide)
    unfold s9_L0
    simp only [hsQ, bl7, b13z, blk13, cellsW, forkW, fieldW, fieldF, Nat.reduceAdd, Nat.zero_add, List.append_assoc, List.cons_append, List.nil_append, lenadd, len1, len2, len3, len4, len5, loadN0, loadNk, loadCk, loadC0, loadF, partC, storeN0, storeNk, storeCk, mapS, bS, ↓KLn, K1_or, K1_and, K1one, notW, ifW, nth_zero, bin_lss, bin_gtr, bin_leq, bin_geq, bin_eql, bin_neq, bin_add, bin_sub, unl_self, y20, y21, hf1, decide_false, Bool.false_eq_true, if_false, part13, st13, put13r]
    refine fin_new (ws := [.agg blank.cs, .int .i64 0]) (l := bl7 (blk13 (.ref (h.length + 6) 0 1 1 1) (.ref (h.length + 3) 0 4 4 1) (.ref (h.length + 5) 0 1 1 2)) h.length .ro .ro .ro) ?_ ?_
    · generalize hb0 : PBlk.box [.str ⟨#[]⟩, .int .i64 1, .int .i64 4, .ref (h.length + 6) 0 1 1 1, .int .i64 0, .int .i64 6, .int .i64 125, .int .i64 128, .bool false, .ref (h.length + 3) 0 4 4 1, .ref (h.length + 5) 0 1 1 2, .nilS, .nilS] 27 .rw = b0
      have z1 : fz (.flat 1) (.ref (h.length + 6) 0 1 1 1) (h ++ bl7 b0 h.length .rw .rw .rw) = some (ints [0], h ++ bl7 b0 h.length .ro .rw .rw) := fz_logF (k := 6) (rows := [[.int .i64 0]]) rfl (by decide) rfl
      have z2 : fz (.flat 1) (.ref (h.length + 3) 0 4 4 1) (h ++ bl7 b0 h.length .ro .rw .rw) = some (ints pans4, h ++ bl7 b0 h.length .ro .ro .rw) := fz_logF (k := 3) (rows := pans4.map iV) rfl (by decide) rfl
      have z3 : fz (.sl 2 [.keep, .flat 6]) (.ref (h.length + 5) 0 1 1 2) (h ++ bl7 b0 h.length .ro .ro .rw) = some (patsPV [pat64], h ++ bl7 b0 h.length .ro .ro .ro) := fz_logS (k := 5) (rows := [patC pat64]) rfl (by decide) (fun r hr => by simp only [List.mem_singleton] at hr; subst hr; rfl) rfl
      have hb : ∀ b, blk13 (.ref (h.length + 6) 0 1 1 1) (.ref (h.length + 3) 0 4 4 1) (.ref (h.length + 5) 0 1 1 2) = b → True := fun _ _ => trivial
      subst hb0
      rw [fzL_cons, fz_aggs]
      show Option.bind (Option.map _ (fzL _ _ (h ++ bl7 (blk13 (.ref (h.length + 6) 0 1 1 1) (.ref (h.length + 3) 0 4 4 1) (.ref (h.length + 5) 0 1 1 2)) h.length .rw .rw .rw))) _ = _
      unfold blk13
      simp only [fzL_cons, fzL_nil, fz_keep, bS, mapS, z1, z2, z3, fz_nils]
      rfl
    · intro v hv
      simp only [List.mem_cons, List.not_mem_nil, or_false] at hv
      rcases hv with rfl | rfl
      · exact plainP_lt rfl
      · exact plainP_lt rfl
end Go.Vm.X
