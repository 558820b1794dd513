/- One part of the proof. -/
import Derived.Test.YtffennknofmjoaaGreatP6
set_option linter.unusedSimpArgs false
set_option linter.unusedVariables false
set_option linter.unusedSimpArgs false
set_option linter.unusedVariables false
set_option maxRecDepth 20000
namespace Go.Vm.X
open Go.Am Go.Vm
attribute [local congr] bind_c ifP_c loop_c K1_c ite_c fork_c guard_c unl_c
theorem app0b {h l : PHeap} {sz n : Nat} {t : TypeId} {rows : List (List PV)} {row : List PV} (hn : n = rows.length) (hs : 0 < sz) (hp : row.all oneP = true) (hm : n < mostLen) :
    appendP t sz (.ref h.length 0 n n sz) (.frz sz [row]) (h ++ .log rows sz t .rw :: l) = some (.ref h.length 0 (n + 1) (n + 1) sz, h ++ .log (rows ++ [row]) sz t .rw :: l) := by
  subst hn
  exact append_new (k := 0) (l := .log rows sz t .rw :: l) rfl hs hp hm
theorem nthA (v w : PV) : nthP [v, w] 1 = w := nr rfl
theorem c58 (n : Nat) (h1 : 1 ≤ n) (hn : n ≤ 32) (h : PHeap) : Γ0 58 [.int .i64 n] h = some (ints (ordN n), h) := by
  obtain ⟨N, hN⟩ : ∃ N : Nat, 40 < N := ⟨_, Nat.lt_succ_self _⟩
  refine gbody (F := A58) (by kernel_rfl) N ?_
  rw [s58_eq]; unfold s58
  simp only [words, ↓KLn, Nat.reduceAdd]
  refine loop_run (fun i => [.ref h.length 0 i i 1, .int .i64 (i : Int)]) (fun i => h ++ [.log ((ordN i).map iV) 1 3 .rw]) n (by omega) rfl rfl (fun i hi K => ?_) fun K => ?_
  · have hlt : ((i : Int) < (n : Int)) = True := eq_true (by omega)
    have hrow : ∀ a, ([PV.int .i64 a] : List PV).all oneP = true := fun a => rfl
    unfold s58_L0
    simp only [words, ↓KLn, Nat.reduceAdd, nthA, hlt, decide_true, if_true, fill1i, pure1i, guardW, chunk1i, app0b (sz := 1) (ordN_len i).symm (by decide) (hrow _) (show i < mostLen by unfold mostLen; omega), succ63 (show i < 9223372036854775807 by omega)]
    rw [trim_len _ (by simp), ordN_succ]
  · have hf : ((n : Int) < (n : Int)) = False := eq_false (by omega)
    unfold s58_L0
    simp only [words, ↓KLn, Nat.reduceAdd, nthA, hf, decide_false, Bool.false_eq_true, if_false]
    have e := fz_logF (h := h) (l := [.log ((ordN n).map iV) 1 3 .rw]) (k := 0) (s := 1) rfl (by rw [ordN_len]; omega) (pure_map (f := iV) (fun c => rfl) _)
    rw [ordN_len] at e
    refine fin_new (ws := [ints (ordN n)]) (l := [.log ((ordN n).map iV) 1 3 .ro]) ?_ ?_
    · rw [fzL_cons]
      have e' : fz (.flat 1) (.ref h.length 0 n n 1) (h ++ [.log ((ordN n).map iV) 1 3 .rw]) = some (ints (ordN n), h ++ [.log ((ordN n).map iV) 1 3 .ro]) := e
      simp only [e', bS, mapS, fzL_nil]
    · intro v hv
      simp only [List.mem_cons, List.not_mem_nil, or_false] at hv; subst hv; exact plainP_lt rfl
theorem c59 (ch : Nat) (h1 : 1 ≤ ch) (hc : ch ≤ 16) (h : PHeap) : Γ0 59 [.int .i64 64, .int .i64 ch] h = some (.agg (patC (patN ch)), h) := by
  refine gbody (F := A59) (by kernel_rfl) 1 ?_
  rw [s59_eq]; unfold s59
  have hw : IntKind.i64.wrap (64 * (ch : Int)) = ((64 * ch : Nat) : Int) := by rw [wrap64 (by unfold isI64; omega)]; omega
  have hm : 64 * ch ≤ mostLen := by unfold mostLen; omega
  have hz : (List.replicate (64 * ch) ([.int .i64 0, .int .i64 0, .int .i64 0, .int .i64 0, .int .i64 0, .int .i64 0] : List PV)) = (List.replicate (64 * ch) cell0).map Cell.cs := by rw [List.map_replicate]; rfl
  have hlen : ((List.replicate (64 * ch) cell0).map Cell.cs).length = 64 * ch := by simp
  simp only [words, ↓KLn, Nat.reduceAdd, bin_mul, hw, mkSlice_new hm, hz, fill2r, st2, put2r, part2]
  have e := fz_logF (h := h) (l := [.box [.int .i64 64, .ref (h.length + 1) 0 (64 * ch) (64 * ch) 6] 39 .rw, .log ((List.replicate (64 * ch) cell0).map Cell.cs) 6 41 .rw]) (k := 1) (s := 6) rfl (by rw [hlen]; omega) (pure_map (f := Cell.cs) (fun c => rfl) _)
  rw [hlen] at e
  refine fin_new (ws := [.agg (patC (patN ch))]) (l := [.box [.int .i64 64, .ref (h.length + 1) 0 (64 * ch) (64 * ch) 6] 39 .rw, .log ((List.replicate (64 * ch) cell0).map Cell.cs) 6 41 .ro]) ?_ ?_
  · rw [fzL_cons, fz_aggs, fzL_cons, fz_keep, Option.bind_some, fzL_cons]
    show Option.bind (Option.map _ (Option.map _ ((fz (.flat 6) (.ref (h.length + 1) 0 (64 * ch) (64 * ch) 6) _).bind _))) _ = _
    rw [show ([PV.int .i64 0, .int .i64 0, .int .i64 0, .int .i64 0, .int .i64 0, .int .i64 0] : List PV).length = 6 from rfl, e]
    simp only [bS, mapS, fzL_nil, fzL_cons, fz_keep, List.set_cons_succ, List.set_cons_zero]
    rfl
  · intro v hv
    simp only [List.mem_cons, List.not_mem_nil, or_false] at hv
    rcases hv with rfl
    exact plainP_lt rfl
theorem pan_frz {d : Int} (hd : d = 1) {i : Nat} (hi : i < 4) : indexAddrP 1 (.frz 1 [[.int .i64 0], [.int .i64 256], [.int .i64 256], [.int .i64 0]]) (.int .i64 i) = some (.fptr [.int .i64 (panAt d i)] 0) := by
  subst hd
  have : i = 0 ∨ i = 1 ∨ i = 2 ∨ i = 3 := by omega
  rcases this with rfl | rfl | rfl | rfl <;> rfl
theorem fillLit4 (a b c d : Int) : fillP (repP [.int .i64 0] 4) [(0, 1, .int .i64 a), (1, 1, .int .i64 b), (2, 1, .int .i64 c), (3, 1, .int .i64 d)] = some [.int .i64 a, .int .i64 b, .int .i64 c, .int .i64 d] := nr rfl
theorem pureLit4 (a b c d : Int) : [PV.int .i64 a, .int .i64 b, .int .i64 c, .int .i64 d].all pure1 = true := nr rfl
theorem chunkLit4 (a b c d : PV) : chunk 1 4 [a, b, c, d] = [[a], [b], [c], [d]] := nr rfl
theorem get1i (a : PV) : ([a] : List PV)[0]? = some a := nr rfl
theorem s18_pan {N : Nat} {h : PHeap} {d : Int} {ch : Nat} {b : Bool} {o : PV} {j17 : List PV → PHeap → Pt} {i : Nat} (hi : i < ch) (hc : ch ≤ 16) (h4 : d = 1 → ch ≤ 4) (K : List PV → PHeap → Pt) :
    s18_L1 Γ0 N (.int .i64 d) (.int .i64 ch) (.ptr (h.length + 2) 0) (hP h d ch b o 0) j17 K [.int .i64 (i : Int)] (hP h d ch b o i) = K [.int .i64 ((i + 1 : Nat) : Int)] (hP h d ch b o (i + 1)) := by
  have hlt : ((i : Int) < (ch : Int)) = True := eq_true (by omega)
  have hrow : ∀ a, ([PV.int .i64 a] : List PV).all oneP = true := fun a => rfl
  have hs : i < 9223372036854775807 := by omega
  by_cases hd : d = 1
  · have e11 : (d == 1) = true := by rw [hd]; rfl
    have hl := pan_frz hd (show i < 4 by have := h4 hd; omega)
    unfold s18_L1
    cases i with
    | zero =>
      simp only [hP, blkS, b13z, words, ↓KLn, Nat.reduceAdd, hlt, decide_true, if_true, e11, fillLit4, pureLit4, chunkLit4, hl, get1i, part13_9, fill1i, pure1i, guardW, chunk1i, append_nilS (sz := 1) (by decide) (hrow _), len3, st1r, put13_9, succ63 hs]
      refine congrArg (K _) (Eq.trans (hP_trim (d := d) (ch := ch) (b := b) (o := o) (p := .nilS) (m1 := 0) (m2 := 1) (m3 := 1) (m4 := 1) ?_) ?_)
      · rw [get_new]; rfl
      · rfl
    | succ i =>
      simp only [hP, blkS, b13z, words, ↓KLn, Nat.reduceAdd, hlt, decide_true, if_true, e11, fillLit4, pureLit4, chunkLit4, hl, get1i, part13_9, fill1i, pure1i, guardW, chunk1i, app3 (sz := 1) (pansN_len d (i + 1)).symm (by decide) (hrow _) (show i + 1 < mostLen by unfold mostLen; omega), st1r, put13_9, succ63 hs]
      refine congrArg (K _) (Eq.trans (hP_trim (d := d) (ch := ch) (b := b) (o := o) (p := .nilS) (m1 := 0) (m2 := i + 1 + 1) (m3 := i + 1 + 1) (m4 := 1) ?_) ?_)
      · rw [get_new]; rfl
      · rw [pansN_succ d (i + 1)]
  · have e11 : (d == 1) = false := by simpa using hd
    have e12 : ∀ i, panAt d i = 128 := fun i => if_neg hd
    unfold s18_L1
    cases i with
    | zero =>
      simp only [hP, blkS, b13z, words, ↓KLn, Nat.reduceAdd, hlt, decide_true, if_true, e11, Bool.false_eq_true, if_false, part13_9, fill1i, pure1i, guardW, chunk1i, append_nilS (sz := 1) (by decide) (hrow _), len3, st1r, put13_9, succ63 hs]
      refine congrArg (K _) (Eq.trans (hP_trim (d := d) (ch := ch) (b := b) (o := o) (p := .nilS) (m1 := 0) (m2 := 1) (m3 := 1) (m4 := 1) ?_) ?_)
      · rw [get_new]; rfl
      · rw [pansN_succ d 0, e12]; rfl
    | succ i =>
      simp only [hP, blkS, b13z, words, ↓KLn, Nat.reduceAdd, hlt, decide_true, if_true, e11, Bool.false_eq_true, if_false, part13_9, fill1i, pure1i, guardW, chunk1i, app3 (sz := 1) (pansN_len d (i + 1)).symm (by decide) (hrow _) (show i + 1 < mostLen by unfold mostLen; omega), st1r, put13_9, succ63 hs]
      refine congrArg (K _) (Eq.trans (hP_trim (d := d) (ch := ch) (b := b) (o := o) (p := .nilS) (m1 := 0) (m2 := i + 1 + 1) (m3 := i + 1 + 1) (m4 := 1) ?_) ?_)
      · rw [get_new]; rfl
      · rw [pansN_succ d (i + 1), e12]
theorem app4 {h l : PHeap} {a b c d : PBlk} {sz n : Nat} {t : TypeId} {rows : List (List PV)} {row : List PV} (hn : n = rows.length) (hs : 0 < sz) (hp : row.all oneP = true) (hm : n < mostLen) :
    appendP t sz (.ref (h.length + 4) 0 n n sz) (.frz sz [row]) (h ++ a :: b :: c :: d :: .log rows sz t .rw :: l) = some (.ref (h.length + 4) 0 (n + 1) (n + 1) sz, h ++ a :: b :: c :: d :: .log (rows ++ [row]) sz t .rw :: l) := by
  subst hn
  exact append_new (k := 4) (l := a :: b :: c :: d :: .log rows sz t .rw :: l) rfl hs hp hm
def hR (h : PHeap) (d : Int) (ch : Nat) (b : Bool) (o : PV) : Nat → PHeap
  | 0 => h ++ [b13z, .box (qOf d) 83 .rw, blkS d ch b o (.ref (h.length + 3) 0 ch ch 1) .nilS, .log ((pansN d ch).map iV) 1 3 .rw]
  | i + 1 => h ++ [b13z, .box (qOf d) 83 .rw, blkS d ch b o (.ref (h.length + 3) 0 ch ch 1) (.ref (h.length + 4) 0 (i + 1) (i + 1) 2), .log ((pansN d ch).map iV) 1 3 .rw, .log (List.replicate (i + 1) (patC (patN ch))) 2 39 .rw]
theorem hR_trim {h : PHeap} {d : Int} {ch : Nat} {b : Bool} {o o' p : PV} {m1 m2 m3 m4 : Nat} {h' : PHeap} {vs : List PV} (e : h'[h.length + 2]? = some (blkS d ch b o p (.ref (h.length + 4) m1 m2 m3 m4))) : trim (hR h d ch b o' 0) vs h' = h' := by
  refine trim_keep (b := h.length + 2) (by show _ < (h ++ _).length; simp) e ?_ (not_ltB (b := h.length + 4) (lo := m1) (m := m2) (v := m3) (sz := m4) (by simp) (by show (h ++ _).length ≤ _; simp))
  show (h ++ _)[_]? ≠ _
  rw [get_new]
  intro k
  cases k
theorem s18_pat {N : Nat} {h : PHeap} {d : Int} {ch : Nat} {b : Bool} {o : PV} {j20 : List PV → PHeap → Pt} {n i : Nat} (hi : i < n) (hn : n ≤ 32) (h1 : 1 ≤ ch) (hc : ch ≤ 16) (K : List PV → PHeap → Pt) :
    s18_L0 Γ0 N (.int .i64 ch) (.int .i64 n) (.ptr (h.length + 2) 0) (hR h d ch b o 0) j20 K [.int .i64 (i : Int)] (hR h d ch b o i) = K [.int .i64 ((i + 1 : Nat) : Int)] (hR h d ch b o (i + 1)) := by
  have k59 := c59 ch h1 hc
  have hlt : ((i : Int) < (n : Int)) = True := eq_true (by omega)
  have hp : (patC (patN ch)).all oneP = true := rfl
  have hs : i < 9223372036854775807 := by omega
  unfold s18_L0
  cases i with
  | zero =>
    simp only [hR, blkS, b13z, words, ↓KLn, Nat.reduceAdd, hlt, decide_true, if_true, k59, part13_10, fill_pat, pure_pat, guardW, chunk_pat, append_nilS (sz := 2) (by decide) hp, st1r, put13_10, succ63 hs]
    refine congrArg (K _) (Eq.trans (hR_trim (d := d) (ch := ch) (b := b) (o := o) (p := .ref (h.length + 3) 0 ch ch 1) (m1 := 0) (m2 := 1) (m3 := 1) (m4 := 2) ?_) ?_)
    · rw [get_new]; rfl
    · rfl
  | succ i =>
    have hr : i + 1 = (List.replicate (i + 1) (patC (patN ch))).length := by simp
    have hm : i + 1 < mostLen := by unfold mostLen; omega
    simp only [hR, blkS, b13z, words, ↓KLn, Nat.reduceAdd, hlt, decide_true, if_true, k59, part13_10, fill_pat, pure_pat, guardW, chunk_pat, app4 (sz := 2) hr (by decide) hp hm, st1r, put13_10, succ63 hs]
    refine congrArg (K _) (Eq.trans (hR_trim (d := d) (ch := ch) (b := b) (o := o) (p := .ref (h.length + 3) 0 ch ch 1) (m1 := 0) (m2 := i + 1 + 1) (m3 := i + 1 + 1) (m4 := 2) ?_) ?_)
    · rw [get_new]; rfl
    · have e1 : List.replicate (i + 1 + 1) (patC (patN ch)) = List.replicate (i + 1) (patC (patN ch)) ++ [patC (patN ch)] := List.replicate_succ'
      rw [e1]
theorem fz_blankR {h : PHeap} {d : Int} {ch n : Nat} (h1 : 1 ≤ ch) (hn : 1 ≤ n) (b0 : PBlk) (r : PHeap) {b : Bool} (hb : b = qB d 8) :
    finP [.agg SA13, .keep] h (h ++ b0 :: .box (qOf d) 83 .rw :: blkS d ch b (ints (ordN n)) (.ref (h.length + 3) 0 ch ch 1) (.ref (h.length + 4) 0 n n 2) :: .log ((pansN d ch).map iV) 1 3 .rw :: .log (List.replicate n (patC (patN ch))) 2 39 .rw :: r)
      [.agg [.str ⟨#[]⟩, .int .i64 d, .int .i64 ch, ints (ordN n), .int .i64 0, .int .i64 6, .int .i64 125, .int .i64 128, .bool b, .ref (h.length + 3) 0 ch ch 1, .ref (h.length + 4) 0 n n 2, .nilS, .nilS], .int .i64 0]
      = some (.tuple [.agg (blankS d ch n).cs, .int .i64 0], h) := by
  subst hb
  generalize hS : blkS d ch (qB d 8) (ints (ordN n)) (.ref (h.length + 3) 0 ch ch 1) (.ref (h.length + 4) 0 n n 2) = S
  have hr1 : ((List.replicate n (patC (patN ch))).length) = n := by simp
  have z2 : fz (.flat 1) (.ref (h.length + 3) 0 ch ch 1) (h ++ b0 :: .box (qOf d) 83 .rw :: S :: .log ((pansN d ch).map iV) 1 3 .rw :: .log (List.replicate n (patC (patN ch))) 2 39 .rw :: r) = some (ints (pansN d ch), h ++ b0 :: .box (qOf d) 83 .rw :: S :: .log ((pansN d ch).map iV) 1 3 .ro :: .log (List.replicate n (patC (patN ch))) 2 39 .rw :: r) := by
    have e := fz_logF (h := h) (l := b0 :: .box (qOf d) 83 .rw :: S :: .log ((pansN d ch).map iV) 1 3 .rw :: .log (List.replicate n (patC (patN ch))) 2 39 .rw :: r) (k := 3) (s := 1) rfl (by rw [pansN_len]; omega) (pure_map (f := iV) (fun c => rfl) _)
    rw [pansN_len] at e
    exact e
  have z3 : fz (.sl 2 [.keep, .flat 6]) (.ref (h.length + 4) 0 n n 2) (h ++ b0 :: .box (qOf d) 83 .rw :: S :: .log ((pansN d ch).map iV) 1 3 .ro :: .log (List.replicate n (patC (patN ch))) 2 39 .rw :: r) = some (patsPV (List.replicate n (patN ch)), h ++ b0 :: .box (qOf d) 83 .rw :: S :: .log ((pansN d ch).map iV) 1 3 .ro :: .log (List.replicate n (patC (patN ch))) 2 39 .ro :: r) := by
    have e := fz_logS (h := h) (l := b0 :: .box (qOf d) 83 .rw :: S :: .log ((pansN d ch).map iV) 1 3 .ro :: .log (List.replicate n (patC (patN ch))) 2 39 .rw :: r) (k := 4) (s := 2) (cs := [.keep, .flat 6]) rfl (by rw [hr1]; omega) (fun r hr => by rw [List.eq_of_mem_replicate hr]; rfl) (by rw [← List.map_replicate]; exact pure_map (f := patC) (fun c => rfl) _)
    rw [hr1] at e
    unfold patsPV
    rw [List.map_replicate]
    exact e
  refine fin_new (ws := [.agg (blankS d ch n).cs, .int .i64 0]) (l := b0 :: .box (qOf d) 83 .rw :: S :: .log ((pansN d ch).map iV) 1 3 .ro :: .log (List.replicate n (patC (patN ch))) 2 39 .ro :: r) ?_ ?_
  · rw [fzL_cons, fz_aggs]
    unfold SA13
    simp only [fzL_cons, fzL_nil, fz_keep, bS, mapS, fz_ints, z2, z3, fz_nils]
    rfl
  · intro v hv
    simp only [List.mem_cons, List.not_mem_nil, or_false] at hv
    rcases hv with rfl | rfl
    · exact plainP_lt rfl
    · exact plainP_lt rfl
theorem fill_br (d ch : Int) (b : Bool) (n : Nat) (l : List (List PV)) : fillP [.str ⟨#[]⟩, .int .i64 0, .int .i64 0, .nilS, .int .i64 0, .int .i64 0, .int .i64 0, .int .i64 0, .bool false, .nilS, .nilS, .nilS, .nilS] [(1, 1, .int .i64 d), (2, 1, .int .i64 ch), (3, 1, .frz n l), (5, 1, .int .i64 6), (6, 1, .int .i64 125), (7, 1, .int .i64 128), (8, 1, .bool b)] = some [.str ⟨#[]⟩, .int .i64 d, .int .i64 ch, .frz n l, .int .i64 0, .int .i64 6, .int .i64 125, .int .i64 128, .bool b, .nilS, .nilS, .nilS, .nilS] := nr rfl
theorem one_ints (l : List Int) : oneP (ints l) = true := rfl
theorem kindE_or (d : Int) : kindE d = 0 ∨ kindE d = 6 := by unfold kindE; cases inW d 1 6 <;> simp
theorem c18g (d ch n : Int) (h : PHeap) : Γ0 18 [.int .i64 d, .int .i64 ch, .int .i64 n] h = some (blankV d ch n, h) := by
  obtain ⟨N, hN⟩ : ∃ N : Nat, 40 < N := ⟨_, Nat.lt_succ_self _⟩
  refine gbody (F := A18) (by kernel_rfl) N ?_
  rw [s18_eq]; unfold s18 blankV
  have hq := q_put d (vs := Z29) rfl
  by_cases e : kindE d = 0
  · have e0 : (kindE d != 0) = false := by rw [e]; rfl
    rw [if_neg (by rw [e]; simp)]
    by_cases hr : (!inW ch 1 (qI d 1) || !inW n 1 32) = true
    · rw [if_pos hr]
      simp only [words, ↓KLn, Nat.reduceAdd, c56, q_st, hq, e0, Bool.false_eq_true, if_false, q_1, c57, hr, if_true, fill_none, st13, put13b _ _ _ _ _ _ _ _ _ _ _ _ _ _ _ _ _ _ _ _ _ one_nil, part13, fin_z]
    · rw [if_neg hr]
      rw [Bool.or_eq_true, not_or] at hr
      simp only [Bool.not_eq_true', Bool.not_eq_false, inW, Bool.and_eq_true, decide_eq_true_eq] at hr
      have hq16 := q1_le d
      have hi1 : inW ch 1 (qI d 1) = true := by unfold inW; simp only [Bool.and_eq_true, decide_eq_true_eq]; omega
      have hi2 : inW n 1 32 = true := by unfold inW; simp only [Bool.and_eq_true, decide_eq_true_eq]; omega
      obtain ⟨c, rfl⟩ : ∃ c : Nat, ch = (c : Int) := ⟨ch.toNat, by omega⟩
      obtain ⟨m, rfl⟩ : ∃ m : Nat, n = (m : Int) := ⟨n.toNat, by omega⟩
      have h4 : d = 1 → c ≤ 4 := fun k => by
        have := hr.1.2
        rw [k, q1_one] at this
        omega
      have hc1 : 1 ≤ c := by omega
      have hc2 : c ≤ 16 := by omega
      have hm1 : 1 ≤ m := by omega
      have hm2 : m ≤ 32 := by omega
      have k58 := c58 m hm1 hm2
      have hints : ints (ordN m) = .frz 1 ((ordN m).map iV) := rfl
      rw [hints] at k58
      rw [Int.toNat_natCast, Int.toNat_natCast]
      simp only [words, ↓KLn, Nat.reduceAdd, c56, q_st, hq, e0, Bool.false_eq_true, if_false, q_1, c57, hi1, hi2, Bool.not_true, Bool.or_false, k58, q_8, fill_br, st13, put13b _ _ _ _ _ _ _ _ _ _ _ _ _ _ _ _ _ _ _ _ _ (one_frz _ _)]
      rw [← hints]
      refine loop_run (fun i => [.int .i64 (i : Int)]) (hP h d c (qB d 8) (ints (ordN m))) c (by omega) rfl rfl (fun i hi K => s18_pan hi hc2 h4 K) fun K => ?_
      have hf4 : ((c : Int) < (c : Int)) = False := eq_false (by omega)
      have hlast : hP h d c (qB d 8) (ints (ordN m)) c = hR h d c (qB d 8) (ints (ordN m)) 0 := by
        obtain ⟨c', rfl⟩ : ∃ c', c = c' + 1 := ⟨c - 1, by omega⟩
        rfl
      rw [hlast]
      unfold s18_L1
      simp only [words, ↓KLn, Nat.reduceAdd, hf4, decide_false, Bool.false_eq_true, if_false]
      refine loop_run (fun i => [.int .i64 (i : Int)]) (hR h d c (qB d 8) (ints (ordN m))) m (by omega) rfl rfl (fun i hi K => s18_pat hi hm2 hc1 hc2 K) fun K => ?_
      have hf1 : ((m : Int) < (m : Int)) = False := eq_false (by omega)
      obtain ⟨m', rfl⟩ : ∃ m', m = m' + 1 := ⟨m - 1, by omega⟩
      unfold s18_L0
      simp only [hR, b13z, blkS, words, ↓KLn, Nat.reduceAdd, hf1, decide_false, Bool.false_eq_true, if_false, part13, st13, put13r _ _ _ _ _ _ _ _ _ _ _ _ _ _ _ _ _ _ (one_ints _)]
      exact fz_blankR hc1 hm1 _ _ rfl
  · have e6 : kindE d = 6 := (kindE_or d).resolve_left e
    have e0 : ((6 : Int) != 0) = true := rfl
    rw [if_pos e, e6]
    simp only [words, ↓KLn, Nat.reduceAdd, c56, e6, q_st, hq, e0, if_true, fill_none, st13, put13b _ _ _ _ _ _ _ _ _ _ _ _ _ _ _ _ _ _ _ _ _ one_nil, part13, fin_z]
end Go.Vm.X


set_option linter.unusedSimpArgs false
set_option linter.unusedVariables false
set_option maxRecDepth 20000
namespace Go.Vm.X
open Go.Am Go.Vm
attribute [local congr] bind_c ifP_c loop_c K1_c ite_c fork_c guard_c unl_c
theorem all2_refl {α : Type} {f : α → α → Bool} (l : List α) (h : ∀ a, f a a = true) : all2 f l l = true := by
  unfold all2
  rw [List.all_eq_true]
  intro i _
  cases l[i]? with
  | none => rfl
  | some x => exact h x
theorem strE_refl (a : ByteArray) : strE a a = true := beq_self_eq_true _
theorem envE_refl (a : Env) : envE a a = true := by simp [envE]
theorem smpE_refl (a : Smp) : smpE a a = true := by simp [smpE, strE_refl]
theorem insE_refl (a : Ins) : insE a a = true := by simp [insE, strE_refl, envE_refl]
theorem patE_refl (a : Pat) : patE a a = true := by simp [patE]
theorem sngE_refl (s : Sng) : sngE s s = true := by
  simp only [sngE, partsE, strE_refl, all2_refl _ patE_refl, all2_refl _ smpE_refl, all2_refl _ insE_refl, beq_self_eq_true, Bool.and_true, and_self, if_true, decide_true]
theorem nm_ordN : ∀ n : Nat, n ≤ 32 → nm (ordN n) = ordN n
  | 0, _ => rfl
  | n + 1, h => by
    have e : ordN (n + 1) = ordN n ++ [(n : Int)] := by unfold ordN; rw [List.range_succ, List.map_append]; rfl
    rw [e, nm_snoc, nm_ordN n (by omega)]
    unfold nmStep
    have h1 : mark (n : Int) = false := by
      unfold mark
      rw [Bool.or_eq_false_iff, beq_eq_false_iff_ne, beq_eq_false_iff_ne]
      omega
    have h2 : (ordN n).contains (n : Int) = false := by
      rw [Bool.eq_false_iff]
      intro k
      rw [List.contains_iff_mem] at k
      unfold ordN at k
      rw [List.mem_map] at k
      obtain ⟨i, hi, e⟩ := k
      rw [List.mem_range] at hi
      have : (i : Int) = n := e
      omega
    rw [h1, h2]; rfl
theorem ordN_get {n i : Nat} (h : i < n) : (ordN n)[i]? = some (i : Int) := by
  unfold ordN
  rw [List.getElem?_map, List.getElem?_range h]; rfl
theorem ordN_pair (n : Nat) : (ordN n).Pairwise (· < ·) := by
  unfold ordN
  rw [List.pairwise_map]
  exact List.pairwise_lt_range.imp fun h => Int.ofNat_lt.2 h
theorem srt_ordN (n : Nat) : srt (ordN n) = ordN n := by
  unfold srt
  refine List.mergeSort_of_pairwise ?_
  exact (ordN_pair n).imp fun h => by rw [decide_eq_true_eq]; omega
theorem dd_ordN (n : Nat) : dd (ordN n) = ordN n := by
  unfold dd
  rw [srt_ordN, ddN_all (Nat.le_refl _), List.take_length]
  intro j hj
  have hl : (ordN n).length = n := by simp [ordN]
  unfold keepAt
  cases j with
  | zero => rfl
  | succ j =>
    rw [List.getD_eq_getElem?_getD, List.getD_eq_getElem?_getD, ordN_get (by omega), Nat.add_sub_cancel, ordN_get (by omega)]
    simp only [Option.getD_some, Bool.or_eq_true, bne_iff_ne]
    omega
theorem used_blank (d : Int) (ch n : Nat) (hn : n ≤ 32) : (usedP (blankS d ch n)).length = n := by
  unfold usedP
  show (dd (nm (ordN n))).length = n
  rw [nm_ordN n hn, dd_ordN]
  simp [ordN]
theorem d_cases {d : Int} (h : kindE d = 0) : d = 1 ∨ d = 2 ∨ d = 3 ∨ d = 4 ∨ d = 5 ∨ d = 6 := by
  unfold kindE at h
  by_cases k : inW d 1 6 = true
  · unfold inW at k
    simp only [Bool.and_eq_true, decide_eq_true_eq] at k
    omega
  · rw [if_neg k] at h; omega
theorem q_facts {d : Int} (h : kindE d = 0) : qI d 2 = 32 ∧ (qI d 3 = 0 ∨ qI d 3 = 64) ∧ cellIn d cell0 = true ∧ qI d 1 ≠ 0 := by
  rcases d_cases h with rfl | rfl | rfl | rfl | rfl | rfl <;> decide
theorem pan_in (d : Int) {c : Nat} (h : d = 1 → c < 4) : inW (panAt d c) 0 256 = true := by
  unfold panAt
  split
  · have : c = 0 ∨ c = 1 ∨ c = 2 ∨ c = 3 := by have := h ‹_›; omega
    rcases this with rfl | rfl | rfl | rfl <;> rfl
  · rfl
theorem find_none {α : Type} {p : α → Bool} {l : List α} (h : ∀ a ∈ l, p a = false) : l.findIdx? p = none := by
  rw [List.findIdx?_eq_none_iff]
  exact h
theorem wrong_blankS {d : Int} {c m : Nat} (e : kindE d = 0) (h1 : inW (c : Int) 1 (qI d 1) = true) (h2 : inW (m : Int) 1 32 = true) : wrongP (blankS d c m) = okF := by
  have h4 := q1_one
  obtain ⟨f2, f3, f4, f1⟩ := q_facts e
  have hq16 := q1_le d
  have b1 := h1
  have b2 := h2
  unfold inW at b1 b2
  simp only [Bool.and_eq_true, decide_eq_true_eq] at b1 b2
  have hw : IntKind.i64.wrap ((m : Int) - 1) = (m : Int) - 1 := by rw [wrap64 (by unfold isI64; omega)]
  have hpat : patCode (blankS d c m) (patN c) = 0 := by
    have hin : ∀ x ∈ (patN c).2, x = cell0 := fun x hx => List.eq_of_mem_replicate hx
    have hbad : patBad (blankS d c m) (patN c) = false := by
      unfold patBad
      have a1 : (qI d 3 != 0 && (64 : Int) != qI d 3) = false := by rcases f3 with k | k <;> (rw [k]; rfl)
      have a2 : patOK 64 (patN c).2 (c : Int) = true := by
        unfold patOK
        have k1 : inW (c : Int) 1 16 = true := by unfold inW; simp only [Bool.and_eq_true, decide_eq_true_eq]; omega
        have k2 : (((patN c).2.length : Nat) : Int) = IntKind.i64.wrap (64 * (c : Int)) := by
          rw [wrap64 (by unfold isI64; omega)]
          unfold patN
          rw [List.length_replicate]; omega
        have k3 : (patN c).2.all cellOK = true := by rw [List.all_eq_true]; intro x hx; rw [hin x hx]; rfl
        rw [k1, k2, k3, beq_self_eq_true]; rfl
      have a3 : ((patN c).2.any fun x => !cellIn d x) = false := by
        rw [List.any_eq_false]; intro x hx; rw [hin x hx, f4]; decide
      show (((qI d 3 != 0 && (64 : Int) != qI d 3) || !patOK 64 (patN c).2 (c : Int)) || ((patN c).2.any fun x => !cellIn d x)) = false
      rw [a1, a2, a3]; rfl
    unfold patCode
    rw [hbad, if_neg (by decide), if_neg]
    have : ((patN c).2.any fun x => decide (x.inst > names (blankS d c m))) = false := by
      rw [List.any_eq_false]; intro x hx; rw [hin x hx]
      have : names (blankS d c m) = 0 := by unfold names; split <;> rfl
      rw [this]; decide
    rw [this]; decide
  have e1 : headA (blankS d c m) = (noF, false) := by
    unfold headA
    have k1 : nameOK (blankS d c m).name = true := by show nameOK ⟨#[]⟩ = true; decide
    have k2 : (qI (blankS d c m).dia 1 == 0) = false := by show (qI d 1 == 0) = false; rw [beq_eq_false_iff_ne]; exact f1
    have k3 : inW (blankS d c m).ch 1 (qI (blankS d c m).dia 1) = true := h1
    rw [k1, k2, k3]; rfl
  have e2 : patA (blankS d c m) = (noF, false) := by
    unfold patA
    have k1 : inW ((blankS d c m).pats.length : Int) 1 (qI (blankS d c m).dia 2) = true := by
      show inW ((List.replicate m (patN c)).length : Int) 1 (qI d 2) = true
      rw [f2, List.length_replicate]; exact h2
    rw [k1, find_none fun p hp => by
      rw [List.eq_of_mem_replicate (show p ∈ List.replicate m (patN c) from hp), hpat]; rfl]
    rfl
  have e3 : (ordA (blankS d c m)).2 = false := by
    unfold ordA
    have k0 : (blankS d c m).ords.length = m := by show (ordN m).length = m; simp [ordN]
    have k00 : (blankS d c m).pats.length = m := by show (List.replicate m (patN c)).length = m; simp
    have k1 : inW ((blankS d c m).ords.length : Int) 1 64 = true := by
      rw [k0]; unfold inW; simp only [Bool.and_eq_true, decide_eq_true_eq]; omega
    have k2 : ∀ o ∈ (blankS d c m).ords, ordBad (blankS d c m) o = false := fun o ho => by
      unfold ordBad
      rw [k00, hw]
      obtain ⟨i, hi, rfl⟩ := List.mem_map.1 (show o ∈ (List.range m).map Int.ofNat from ho)
      rw [List.mem_range] at hi
      have : inW (Int.ofNat i) 0 ((m : Int) - 1) = true := by
        unfold inW; simp only [Bool.and_eq_true, decide_eq_true_eq, Int.ofNat_eq_natCast]; omega
      rw [this]; simp
    have k3 : inW (blankS d c m).rest 0 ((m : Int) - 1) = true := by
      show inW 0 0 ((m : Int) - 1) = true
      unfold inW; simp only [Bool.and_eq_true, decide_eq_true_eq]; omega
    rw [k1, find_none k2, k0, hw, k3]; rfl
  have e4 : (numA (blankS d c m)).2 = false := by
    unfold numA
    have k4 : ((blankS d c m).lin && !qB (blankS d c m).dia 8) = false := by show (qB d 8 && !qB d 8) = false; cases qB d 8 <;> rfl
    have k5 : (((blankS d c m).pans.length : Int) != (blankS d c m).ch) = false := by
      show (((pansN d c).length : Int) != (c : Int)) = false
      have : (pansN d c).length = c := by simp [pansN]
      rw [this]; simp
    have k6 : ∀ p ∈ (blankS d c m).pans, (!inW p 0 256) = false := fun p hp => by
      obtain ⟨i, hi, rfl⟩ := List.mem_map.1 (show p ∈ (List.range c).map (panAt d) from hp)
      rw [List.mem_range] at hi
      rw [pan_in d (fun k => by rw [k, q1_one] at b1; omega)]; rfl
    have s1 : inW (blankS d c m).spd 1 31 = true := rfl
    have s2 : inW (blankS d c m).tem 32 255 = true := rfl
    have s3 : inW (blankS d c m).glb 0 128 = true := rfl
    rw [s1, s2, s3, k4, k5, find_none k6]; rfl
  have e5 : (sndA (blankS d c m)).2 = false := by
    unfold sndA
    show (if (decide ((0 : Int) > 31) || (d == 6 && decide ((0 : Int) > 0))) = true then _ else _ : Flt × Bool).2 = false
    have k : (d == 6 && decide ((0 : Int) > 0)) = false := by rw [show decide ((0 : Int) > 0) = false from rfl, Bool.and_false]
    have k' : (!qB d 6 && decide ((0 : Int) > 0)) = false := by rw [show decide ((0 : Int) > 0) = false from rfl, Bool.and_false]
    rw [k, if_neg (by decide)]
    show (if (decide ((0 : Int) > 31) || (!qB d 6 && decide ((0 : Int) > 0))) = true then _ else _ : Flt × Bool).2 = false
    rw [k', if_neg (by decide)]; rfl
  unfold wrongP asks
  rw [List.find?_cons_of_neg (by rw [e1]; decide), List.find?_cons_of_neg (by rw [e2]; decide), List.find?_cons_of_neg (by rw [e3]; decide), List.find?_cons_of_neg (by rw [e4]; decide), List.find?_cons_of_neg (by rw [e5]; decide)]
  rfl
theorem len_blankS (d : Int) {c m : Nat} (hc : c ≤ 16) (hm : m ≤ 32) : SngLen (blankS d c m) where
  name := by show (0 : Nat) < _; decide
  ords := by show (ordN m).length < _; rw [show (ordN m).length = m by simp [ordN]]; omega
  pans := by show (pansN d c).length < _; rw [show (pansN d c).length = c by simp [pansN]]; omega
  pats := by show (List.replicate m (patN c)).length < _; rw [List.length_replicate]; omega
  cells := fun p hp => by
    rw [List.eq_of_mem_replicate (show p ∈ List.replicate m (patN c) from hp)]
    show (List.replicate (64 * c) cell0).length < _
    rw [List.length_replicate]; omega
  smps := by show (0 : Nat) < _; decide
  smp := fun p hp => by cases hp
  inss := by show (0 : Nat) < _; decide
  ins := fun p hp => by cases hp
theorem len_sngZ : SngLen sngZ where
  name := by decide
  ords := by decide
  pans := by decide
  pats := by decide
  cells := fun p hp => by cases hp
  smps := by decide
  smp := fun p hp => by cases hp
  inss := by decide
  ins := fun p hp => by cases hp
theorem blankV_cases (d ch n : Int) : ∃ s e, blankV d ch n = .tuple [.agg s.cs, .int .i64 e] ∧ SngLen s ∧ (e = 0 → ((wrongP s).2.2 == 0) = true ∧ ((usedP s).length : Int) = n) := by
  unfold blankV
  by_cases e : kindE d = 0
  · rw [if_neg (by rw [e]; simp)]
    by_cases hr : (!inW ch 1 (qI d 1) || !inW n 1 32) = true
    · rw [if_pos hr]
      exact ⟨sngZ, 5, rfl, len_sngZ, fun k => absurd k (by decide)⟩
    · rw [if_neg hr]
      rw [Bool.or_eq_true, not_or] at hr
      simp only [Bool.not_eq_true', Bool.not_eq_false] at hr
      have h1 := hr.1
      have h2 := hr.2
      have hq16 := q1_le d
      unfold inW at hr
      simp only [Bool.and_eq_true, decide_eq_true_eq] at hr
      obtain ⟨c, rfl⟩ : ∃ c : Nat, ch = (c : Int) := ⟨ch.toNat, by omega⟩
      obtain ⟨m, rfl⟩ : ∃ m : Nat, n = (m : Int) := ⟨n.toNat, by omega⟩
      rw [Int.toNat_natCast, Int.toNat_natCast]
      refine ⟨_, 0, rfl, len_blankS d (by omega) (by omega), fun _ => ⟨?_, ?_⟩⟩
      · rw [wrong_blankS e h1 h2]; rfl
      · rw [used_blank d c m (by omega)]
  · rw [if_pos e]
    exact ⟨sngZ, kindE d, rfl, len_sngZ, fun k => absurd k e⟩
theorem usedV_ok {s : Sng} (h : ((wrongP s).2.2 == 0) = true) : ∃ a b, usedV s = .tuple [ints (usedP s), ints a, ints b, .int .i64 0] := by
  unfold usedV
  rw [if_pos h]
  split
  · exact ⟨_, _, rfl⟩
  · exact ⟨_, _, rfl⟩
theorem c5g (d ch n : Int) (h : PHeap) : Γ0 5 [.int .i64 d, .int .i64 ch, .int .i64 n] h = some (.bool true, h) := by
  refine gbody (F := A5) (by kernel_rfl) 1 ?_
  rw [s5_eq]; unfold s5
  obtain ⟨s, e, hb, hl, hs⟩ := blankV_cases d ch n
  have he : (e != e) = false := by simp
  simp only [words, ↓KLn, Nat.reduceAdd, c17g, c18g, hb, sng_st, sng_put, s_whole, he, Bool.false_eq_true, if_false, c12 s s hl, sngE_refl, Bool.not_true, Bool.or_false]
  by_cases h0 : e = 0
  · obtain ⟨h1, h2⟩ := hs h0
    obtain ⟨a, b, hu⟩ := usedV_ok h1
    have e0 : (e != 0) = false := by rw [h0]; rfl
    have e00 : ((0 : Int) == 0) = true := rfl
    have h2' : (((usedP s).length : Int) == n) = true := by rw [h2]; simp
    simp only [words, ↓KLn, Nat.reduceAdd, e0, Bool.false_eq_true, if_false, c19 s hl, hu, y40, y41, y42, y43, s_whole, c16 s hl, h1, e00, len_ints, h2', if_true, c8, scTT, fin_bool]
  · have e0 : (e != 0) = true := by simpa using h0
    simp only [words, ↓KLn, Nat.reduceAdd, e0, if_true, c8, fin_bool]
end Go.Vm.X


namespace Go.Vm.X
open Go.Am Go.Vm
theorem c5d (d ch n : Int) (h : PHeap) : Γ0 5 [.int .i64 d, .int .i64 ch, .int .i64 n] h = some (.bool true, h) := c5g d ch n h
end Go.Vm.X

