/- Instruments: the curve, the program's side: an iterator that is ranged over. -/
import Derived.Test.YteedbdkhlgongaaInWalk
import Derived.Test.YteedbdkhlgongaaAm35
set_option linter.unusedSimpArgs false
set_option linter.unusedVariables false
namespace Go.Am.X

/-- The ticks of a curve. -/
noncomputable def ticksE (e : DEnvelope) (r : Int) : Nat → Int
  | 0 => 0
  | i + 1 => afterE e (ticksE e r i) (decide ((i : Int) < r))
noncomputable def curveE (e : DEnvelope) (r : Int) (n : Nat) : List Int := (List.range n).map fun i => valueE e (ticksE e r i)
theorem curve_succ (e : DEnvelope) (r : Int) (n : Nat) : curveE e r (n + 1) = curveE e r n ++ [valueE e (ticksE e r n)] := by unfold curveE; rw [List.range_succ, List.map_append]; rfl
theorem curve_len (e : DEnvelope) (r : Int) (n : Nat) : (curveE e r n).length = n := by simp [curveE]
/-- The state of the range at a round. -/
structure CI (e : DEnvelope) (p : Value) (n r : Int) (a : Nat) (P hh : AHeap) (l : List Int) (st : LSt) (pend : Option AExit) : Prop where
  pre : P <+: hh
  len : a + 7 ≤ hh.length
  out : ∃ x, hh[a + 3]? = some (.cells [x] 33 true) ∧ Own (a + 2) 3 1 (fun _ => False) hh x (l.map iD) ∧ ∀ b, ownB x b → ¬ (a + 3 ≤ b ∧ b ≤ a + 6)
  b1 : hh[a + 4]? = some (.cells (envV e p) 24 true)
  b2 : hh[a + 5]? = some (.cells [.int .i64 r] 3 true)
  lp : hh[a + 6]? = some (.loop [ptrTo a 0, ptrTo (a + 1) 0, ptrTo (a + 3) 0] [3, 4, 7] [21, 22] L16_0a L16_0b st pend)
theorem round {e : DEnvelope} {p : Value} {n r : Int} {h hh : AHeap} {l : List Int} (hp : Flat ptV 2 h p e.Points) (ci : CI e p n r h.length (h ++ [.cells (envV e p) 24 true] ++ [.cells [.int .i64 n] 3 true]) hh l .ready none) (t k : Int) (hl : l.length < 4000) (hn : n ≤ 4000) :
    ∃ hh', Γ0 yieldId [ptrTo (h.length + 6) 0, .int .i64 k, .int .i64 t] hh = some (.bool (!((l.length + 1 : Int) == n)), hh') ∧
      CI e p n r h.length (h ++ [.cells (envV e p) 24 true] ++ [.cells [.int .i64 n] 3 true]) hh' (l ++ [valueE e t]) (if (l.length + 1 : Int) = n then .done else .ready) (if (l.length + 1 : Int) = n then some (.exit 0) else none) := by
  generalize hP : h ++ [ABlk.cells (envV e p) 24 true] ++ [ABlk.cells [.int .i64 n] 3 true] = P at ci ⊢
  have hPl : P.length = h.length + 2 := by rw [← hP]; simp
  have pP : h <+: P := by rw [← hP]; exact pre2 _ _ _
  have P0 : P[h.length]? = some (.cells (envV e p) 24 true) := by rw [← hP, app_get (by simp), List.getElem?_concat_length]
  have P1 : P[h.length + 1]? = some (.cells [.int .i64 n] 3 true) := by
    rw [← hP]
    simp
  generalize ha : h.length = a at *
  obtain ⟨pre, len, ⟨x, o1, o2, o3⟩, b1, b2, lp⟩ := ci
  -- the round begins
  obtain ⟨hb, hbe⟩ : ∃ hb, hb = hh.set (a + 6) (.loop [ptrTo a 0, ptrTo (a + 1) 0, ptrTo (a + 3) 0] [3, 4, 7] [21, 22] L16_0a L16_0b .busy none) := ⟨_, rfl⟩
  have hbl : hb.length = hh.length := by rw [hbe, List.length_set]
  have hbg : ∀ b, b ≠ a + 6 → hb[b]? = hh[b]? := fun b hne => by rw [hbe, set_get_ne hne]
  have preB : P <+: hb := prefix_of_get (by rw [hbl]; exact pre_len pre) fun b hlt => by rw [hbg b (by omega), pre_get pre hlt]
  have beg : beginRound (a + 6) hh = some hb := by unfold beginRound; rw [lp, hbe]
  have x0 : readC hb (a + 3) 0 = some x := by rw [readC_get (by rw [hbg _ (by omega)]; exact o1)]; rfl
  have e0 : readN hb a 0 8 = some (envV e p) := readN_get (by rw [pre_get preB (by omega)]; exact P0) rfl
  have k9 := c9 (hp.pre (pre_trans pP preB)) t
  have ob : Own (a + 2) 3 1 (fun _ => False) hb x (l.map iD) := o2.mono (Nat.le_refl _) (fun b hx => ⟨hbg b (by have := o3 b hx; omega), id⟩) (fun b hf => hf.elim)
  obtain ⟨x', h2, g1, g2, g3, g4, g5⟩ := own_push (K := fun b => a + 3 ≤ b ∧ b ≤ a + 6) (ws := [.int .i64 (valueE e t)]) (q := iD (valueE e t)) ob o3 (fun b hb => by omega) (by omega) (.cons (.v rfl) .nil) rfl (by rw [List.length_map]; unfold mostLen; omega)
  have o1' : h2[a + 3]? = some (.cells [x] 33 true) := by rw [g5 _ (.inr ⟨by omega, by omega⟩), hbg _ (by omega)]; exact o1
  have st := store1 o1' (own_one g2)
  obtain ⟨h3, h3e⟩ : ∃ h3, h3 = h2.set (a + 3) (.cells [x'] 33 true) := ⟨_, rfl⟩
  rw [← h3e] at st
  have h3l : h3.length = h2.length := by rw [h3e, List.length_set]
  have h3g : ∀ b, b ≠ a + 3 → h3[b]? = h2[b]? := fun b hne => by rw [h3e, set_get_ne hne]
  have x1 : readC h3 (a + 3) 0 = some x' := by rw [readC_get (cs := [x']) (by rw [h3e]; exact get_set _ _ _ (by omega))]; rfl
  have keep : ∀ b, b < a + 2 → h3[b]? = P[b]? := fun b hlt => by rw [h3g b (by omega), g5 b (.inl hlt), pre_get preB (by omega)]
  have n1 : readC h3 (a + 1) 0 = some (.int .i64 n) := by rw [readC_get (by rw [keep _ (by omega)]; exact P1)]; rfl
  have hmap : l.map iD ++ [iD (valueE e t)] = (l ++ [valueE e t]).map iD := by simp
  rw [hmap] at g2
  have hlen : lenf false x' = some (.int .i64 ((l.length : Int) + 1)) := by
    have := (g2.read (S' := fun _ => True) (by simp; unfold mostLen; omega) (fun _ _ => trivial) (fun _ _ => trivial)).lenm
    simpa using this
  have lp3 : h3[a + 6]? = some (.loop [ptrTo a 0, ptrTo (a + 1) 0, ptrTo (a + 3) 0] [3, 4, 7] [21, 22] L16_0a L16_0b .busy none) := by
    rw [h3g _ (by omega), g5 _ (.inr ⟨by omega, by omega⟩), hbe]; exact get_set _ _ _ (by omega)
  have run : ∀ st' pend', endRound (a + 6) (if (l.length + 1 : Int) = n then .exit 0 else .normal) h3 = some (.bool (!((l.length + 1 : Int) == n)), h3.set (a + 6) (.loop [ptrTo a 0, ptrTo (a + 1) 0, ptrTo (a + 3) 0] [3, 4, 7] [21, 22] L16_0a L16_0b st' pend')) →
      Γ0 yieldId [ptrTo (a + 6) 0, .int .i64 k, .int .i64 t] hh = some (.bool (!((l.length + 1 : Int) == n)), h3.set (a + 6) (.loop [ptrTo a 0, ptrTo (a + 1) 0, ptrTo (a + 3) 0] [3, 4, 7] [21, 22] L16_0a L16_0b st' pend')) := by
    intro st' pend' hend
    refine gbody_round 1 ?_
    rw [r16_0_eq _ _ _ _ _ _ _ _ _ _ lp]
    unfold r16_0
    have hf : fillf (rep [(.int .i64 0 : Value)] 1) [(0, 1, .int .i64 (valueE e t))] = some [.int .i64 (valueE e t)] := rfl
    simp only [beg, Option.bind_some, JL, load_cell, x0, load_agg, e0, Option.map_some, k9, sameQ_self, hf, fork, g1, st, x1, hlen, n1, binf_eql, ifK_bool, beq_iff_eq]
    by_cases hc : (l.length + 1 : Int) = n
    · rw [if_pos hc]; rw [if_pos hc] at hend; exact hend
    · rw [if_neg hc]; rw [if_neg hc] at hend; exact hend
  have fin : ∀ st' pend', CI e p n r a P (h3.set (a + 6) (.loop [ptrTo a 0, ptrTo (a + 1) 0, ptrTo (a + 3) 0] [3, 4, 7] [21, 22] L16_0a L16_0b st' pend')) (l ++ [valueE e t]) st' pend' := by
    intro st' pend'
    have hg : ∀ b, b ≠ a + 6 → (h3.set (a + 6) (.loop [ptrTo a 0, ptrTo (a + 1) 0, ptrTo (a + 3) 0] [3, 4, 7] [21, 22] L16_0a L16_0b st' pend'))[b]? = h3[b]? := fun b hne => set_get_ne hne
    refine ⟨prefix_of_get (by rw [List.length_set]; omega) fun b hlt => ?_, by rw [List.length_set]; omega, ⟨x', ?_, ?_, g3⟩, ?_, ?_, get_set _ _ _ (by omega)⟩
    · rw [hg b (by omega), keep b (by omega)]
    · rw [hg _ (by omega), h3e]; exact get_set _ _ _ (by omega)
    · refine g2.mono (Nat.le_refl _) (fun b hx => ⟨?_, id⟩) (fun b hf => hf.elim)
      have := g3 b hx
      rw [hg b (by omega), h3g b (by omega)]
    · rw [hg _ (by omega), h3g _ (by omega), g5 _ (.inr ⟨by omega, by omega⟩), hbg _ (by omega)]; exact b1
    · rw [hg _ (by omega), h3g _ (by omega), g5 _ (.inr ⟨by omega, by omega⟩), hbg _ (by omega)]; exact b2
  by_cases hc : (l.length + 1 : Int) = n
  · simp only [hc, if_true] at run ⊢
    refine ⟨_, run .done (some (.exit 0)) ?_, fin _ _⟩
    unfold endRound
    rw [lp3]
    simp
  · have hcb : ((l.length + 1 : Int) == n) = false := by simp [hc]
    simp only [hc, if_false, hcb] at run ⊢
    refine ⟨_, run .ready none ?_, fin _ _⟩
    unfold endRound
    rw [lp3]
    simp
theorem callVf_yield (Γ : Callee) (b : Nat) (args : List Value) (h : AHeap) : callVf Γ (.func (.yield b) ⟨[]⟩ ⟨[]⟩) args h = Γ yieldId (ptrTo b 0 :: args) h := rfl
theorem fin_chg {h0 h : AHeap} {vs : List Value} (hn : ¬ h0 <+: h) : fin h0 h vs = some (single vs, h) := by unfold fin gc; rw [if_neg (fun k => hn k.2)]
theorem c53 {e : DEnvelope} {p : Value} {r : Int} {n : Nat} {h hh : AHeap} (hp : Flat ptV 2 h p e.Points) (ci : CI e p n r h.length (h ++ [.cells (envV e p) 24 true] ++ [.cells [.int .i64 n] 3 true]) hh [] .ready none) (h0 : 0 < n) (h4 : n ≤ 4000) :
    ∃ hh', Γ0 53 [.func (.yield (h.length + 6)) ⟨[]⟩ ⟨[]⟩, ptrTo (h.length + 4) 0, ptrTo (h.length + 5) 0] hh = some (single [], hh') ∧
      CI e p n r h.length (h ++ [.cells (envV e p) 24 true] ++ [.cells [.int .i64 n] 3 true]) hh' (curveE e r n) .done (some (.exit 0)) := by
  have main : ∃ hh', funK Γ0 (n + 1) A53 [.func (.yield (h.length + 6)) ⟨[]⟩ ⟨[]⟩, ptrTo (h.length + 4) 0, ptrTo (h.length + 5) 0] hh = some (single [], hh') ∧
      CI e p n r h.length (h ++ [.cells (envV e p) 24 true] ++ [.cells [.int .i64 n] 3 true]) hh' (curveE e r n) .done (some (.exit 0)) := by
    rw [s53_eq]
    unfold s53
    simp only [JL]
    refine loop_ok (len := n) (fun i vs hi => vs = [.int .i64 (ticksE e r i), .int .i64 i] ∧ i < n ∧ CI e p n r h.length (h ++ [.cells (envV e p) 24 true] ++ [.cells [.int .i64 n] 3 true]) hi (curveE e r i) .ready none)
      (fun x : Rt => ∃ hh', x = some (single [], hh') ∧ CI e p n r h.length (h ++ [.cells (envV e p) 24 true] ++ [.cells [.int .i64 n] 3 true]) hh' (curveE e r n) .done (some (.exit 0))) ?_ ?_ (n + 1) 0 _ _ ⟨rfl, h0, ci⟩ (Nat.zero_le _) (by omega)
    · rintro i _ hi hlt ⟨rfl, _, ci'⟩
      obtain ⟨h', y1, y2⟩ := round hp ci' (ticksE e r i) i (by rw [curve_len]; omega) (by omega)
      rw [curve_len, ← curve_succ] at y2
      rw [curve_len] at y1
      by_cases hc : i + 1 = n
      · have hci : ((i : Int) + 1 = n) := by omega
        simp only [hci, if_true] at y2
        have hcb : (((i : Int) + 1) == (n : Int)) = true := by simp [hci]
        rw [hcb] at y1
        subst hc
        refine .inr ⟨_, ⟨h', rfl, y2⟩, fun K => ?_⟩
        unfold s53_L0
        simp only [nth_zero, nth_one, nth_succ, callVf_yield, y1, Option.bind_some, JL, ifK_bool, Bool.not_true, Bool.false_eq_true, if_false]
        refine fin_chg fun hpre => ?_
        have := pre_get hpre (i := h.length + 6) (by have := ci.len; omega)
        rw [y2.lp, ci.lp] at this
        cases this
      · have hci : ((i : Int) + 1 = n) = False := eq_false (by omega)
        simp only [hci, if_false] at y2
        have hcb : (((i : Int) + 1) == (n : Int)) = false := by simp; omega
        rw [hcb] at y1
        refine .inl ⟨_, h', ⟨rfl, by omega, y2⟩, fun K => ?_⟩
        have ppre : h <+: h' := pre_trans (pre2 _ _ _) y2.pre
        have k11 := fun held => c11 (hp.pre ppre) (ticksE e r i) held
        have b1 : readN h' (h.length + 4) 0 8 = some (envV e p) := readN_get y2.b1 rfl
        have b2 : readC h' (h.length + 5) 0 = some (.int .i64 r) := by rw [readC_get y2.b2]; rfl
        unfold s53_L0
        simp only [nth_zero, nth_one, nth_succ, callVf_yield, y1, Option.bind_some, JL, ifK_bool, Bool.not_false, if_true, load_agg, b1, Option.map_some, load_cell, b2, binf_lss, k11, binf_add, succ64 (show i < 4294967297 by omega)]
        rfl
    · rintro _ hi ⟨rfl, hlt, _⟩
      omega
  obtain ⟨hh', m1, m2⟩ := main
  exact ⟨hh', gbody (F := A53) (by kernel_rfl) (n + 1) m1, m2⟩
theorem c40 {e : DEnvelope} {p : Value} {r : Int} {h : AHeap} : Γ0 40 [.agg (envV e p).toArray, .int .i64 r] h =
    some (.func (.func 53) (List.toArray []) (List.toArray [ptrTo h.length 0, ptrTo (h.length + 1) 0]), h ++ [.cells (envV e p) 24 true] ++ [.cells [.int .i64 r] 3 true]) := by
  refine gbody (F := A40) (by kernel_rfl) 1 ?_
  rw [s40_eq]
  unfold s40
  simp only [fork, cells_agg, cells_int, List.length_append, List.length_cons, List.length_nil, Nat.zero_add]
  exact fin_ref rfl
theorem c16_nil {e : DEnvelope} {p : Value} {n r : Int} {h : AHeap} (hn : n ≤ 0 ∨ n > 4000) : Γ0 16 [.agg (envV e p).toArray, .int .i64 n, .int .i64 r] h = some (.slice none 0 0, h) := by
  refine gbody (F := A16) (by kernel_rfl) 1 ?_
  rw [s16_eq]
  unfold s16
  have bT : readC (h ++ [ABlk.cells (envV e p) 24 true] ++ [ABlk.cells [.int .i64 n] 3 true]) (h ++ [ABlk.cells (envV e p) 24 true]).length 0 = some (.int .i64 n) := by rw [readC_new]; rfl
  simp only [fork, cells_agg, cells_int, load_cell, bT, Option.bind_some, binf_leq, J1, JL, scK_or, binf_gtr]
  by_cases h1 : n ≤ 0
  · simp only [h1, decide_true, if_true, ifK_bool]
    exact fin_gc rfl (pre2 _ _ _)
  · have h2 : n > 4000 := by omega
    simp only [h1, h2, decide_true, decide_false, if_true, ifK_bool, Bool.false_eq_true, if_false]
    exact fin_gc rfl (pre2 _ _ _)
theorem c16 {e : DEnvelope} {p : Value} {n : Nat} {r : Int} {h : AHeap} (hp : Flat ptV 2 h p e.Points) (h0 : 0 < n) (h4 : n ≤ 4000) :
    ∃ x h', Γ0 16 [.agg (envV e p).toArray, .int .i64 n, .int .i64 r] h = some (x, h') ∧ h <+: h' ∧ R (fun b => b < h'.length) h' x (.sl ((curveE e r n).map iD)) := by
  have main : ∃ x h', funK Γ0 1 A16 [.agg (envV e p).toArray, .int .i64 n, .int .i64 r] h = some (x, h') ∧ h <+: h' ∧ R (fun b => b < h'.length) h' x (.sl ((curveE e r n).map iD)) := by
    rw [s16_eq]
    unfold s16
    have bT : readC (h ++ [ABlk.cells (envV e p) 24 true] ++ [ABlk.cells [.int .i64 n] 3 true]) (h ++ [ABlk.cells (envV e p) 24 true]).length 0 = some (.int .i64 n) := by rw [readC_new]; rfl
    have c1 : ((n : Int) ≤ 0) = False := eq_false (by omega)
    have c2 : ((n : Int) > 4000) = False := eq_false (by omega)
    have mk : ∀ H, mkSlicef 3 [(.int .i64 0)] (.int .i64 0) (.int .i64 n) H = some (.slice (some ⟨H.length, 0, none⟩) 0 n, H ++ [.cells (rep [(.int .i64 0)] n) 3 true]) := fun H => by
      simp only [mkSlicef]
      rw [if_pos ⟨by omega, by omega, by unfold mostLen; omega⟩]
      rfl
    simp only [fork, cells_agg, cells_int, load_cell, bT, Option.bind_some, binf_leq, J1, JL, scK_or, binf_gtr, c1, c2, decide_false, ifK_bool, Bool.false_eq_true, if_false, mk]
    have st : ∀ (H : AHeap) (y z : Value), oneC y = true → storef 1 (ptrTo H.length 0) y (H ++ [.cells [z] 33 true]) = some (H ++ [.cells [y] 33 true]) := fun H y z hy => by
      rw [store1 List.getElem?_concat_length hy, List.set_append_right _ _ (Nat.le_refl _)]
      simp
    simp only [st _ (.slice (some _) 0 n) _ rfl, Option.bind_some]
    have gE : ∀ Z, (h ++ [ABlk.cells (envV e p) 24 true] ++ Z)[h.length]? = some (.cells (envV e p) 24 true) := fun Z => by rw [app_get (by simp), List.getElem?_concat_length]
    have bE : ∀ A B C, readN (h ++ [ABlk.cells (envV e p) 24 true] ++ [A] ++ [B] ++ [C]) h.length 0 8 = some (envV e p) := fun A B C => readN_get (by rw [List.append_assoc, List.append_assoc]; exact gE _) rfl
    simp only [load_agg, bE, Option.map_some, Option.bind_some, c40]
    simp only [List.length_append, List.length_cons, List.length_nil, Nat.zero_add, Nat.add_assoc, Nat.reduceAdd]
    have callFf_func : ∀ (xs ys args : List Value) (H : AHeap), callFf Γ0 (.func (.func 53) (List.toArray xs) (List.toArray ys)) args H = Γ0 53 (xs ++ args ++ ys) H := fun _ _ _ _ => rfl
    generalize hhh : h ++ [ABlk.cells (envV e p) 24 true] ++ [ABlk.cells [Value.int IntKind.i64 n] 3 true] ++ [ABlk.cells (rep [Value.int IntKind.i64 0] n) 3 true] ++ [ABlk.cells [Value.slice (some { block := List.length h + 2, off := 0 }) 0 n] 33 true] ++
      [ABlk.cells (envV e p) 24 true] ++ [ABlk.cells [Value.int IntKind.i64 r] 3 true] ++ [ABlk.loop [ptrTo (List.length h) 0, ptrTo (List.length h + 1) 0, ptrTo (List.length h + 3) 0] [3, 4, 7] [21, 22] L16_0a L16_0b LSt.ready none] = hh
    have at_ : ∀ k, hh[h.length + k]? = [ABlk.cells (envV e p) 24 true, ABlk.cells [Value.int IntKind.i64 n] 3 true, ABlk.cells (rep [Value.int IntKind.i64 0] n) 3 true, ABlk.cells [Value.slice (some { block := List.length h + 2, off := 0 }) 0 n] 33 true,
        ABlk.cells (envV e p) 24 true, ABlk.cells [Value.int IntKind.i64 r] 3 true, ABlk.loop [ptrTo (List.length h) 0, ptrTo (List.length h + 1) 0, ptrTo (List.length h + 3) 0] [3, 4, 7] [21, 22] L16_0a L16_0b LSt.ready none][k]? := fun k => by
      rw [← hhh]
      simp only [List.append_assoc, List.cons_append, List.nil_append]
      rw [List.getElem?_append_right (by omega), show h.length + k - h.length = k by omega]
    have hlen : hh.length = h.length + 7 := by rw [← hhh]; simp
    have ci : CI e p n r h.length (h ++ [.cells (envV e p) 24 true] ++ [.cells [.int .i64 n] 3 true]) hh [] .ready none := by
      refine ⟨?_, by omega, ⟨_, at_ 3, ⟨fun q hq => (by cases hq), .inr ⟨h.length + 2, n, _, rfl, Nat.le_refl _, id, at_ 2, by simp, by simpa using RL.nil, .inr ⟨by unfold capU; omega, by simp, by rw [rep_len]; simp⟩⟩⟩, ?_⟩, at_ 4, at_ 5, at_ 6⟩
      · rw [← hhh]; exact pre_trans (pre1 _ _) (pre_trans (pre4 _ _ _ _ _) (List.prefix_refl _))
      · rintro b ⟨_, _, _, hb⟩
        cases hb
        omega
    obtain ⟨h2, y1, y2⟩ := c53 hp ci h0 h4
    have pend : pendOf (h.length + 6) h2 = some (some (.exit 0)) := by unfold pendOf; rw [y2.lp]
    simp only [if_true, callFf_func, List.nil_append, List.cons_append, y1, Option.bind_some, pend, endF]
    obtain ⟨x, o1, o2, o3⟩ := y2.out
    have hg : ∀ b, b ≠ h.length + 6 → (h2.set (h.length + 6) .dead)[b]? = h2[b]? := fun b hne => set_get_ne hne
    have rx : readC (h2.set (h.length + 6) .dead) (h.length + 3) 0 = some x := by rw [readC_get (by rw [hg _ (by omega)]; exact o1)]; rfl
    have ppre : h <+: h2 := pre_trans (pre2 _ _ _) y2.pre
    have len2 := y2.len
    have o4 : Own (h.length + 2) 3 1 (fun _ => False) (h2.set (h.length + 6) .dead) x ((curveE e r n).map iD) := o2.mono (Nat.le_refl _) (fun b hb => ⟨hg b (by have := o3 b hb; omega), id⟩) (fun b hf => hf.elim)
    have hne : noRef x = false := own_ne o4 (by have := curve_len e r n; intro hc; rw [List.map_eq_nil_iff] at hc; rw [hc] at this; simp at this; omega)
    refine ⟨x, h2.set (h.length + 6) .dead, ?_, prefix_of_get (by rw [List.length_set]; omega) fun b hb => ?_, ?_⟩
    · show (readC _ _ 0).bind _ = _
      rw [rx]
      exact fin_ref hne
    · rw [hg b (by omega), pre_get ppre hb]
    · exact o4.read (by rw [List.length_map, curve_len]; unfold mostLen; omega) (fun b hf => hf.elim) (fun b hb => (o4.lt hb).2.1)
  obtain ⟨x, h', m1, m2, m3⟩ := main
  exact ⟨x, h', gbody (F := A16) (by kernel_rfl) 1 m1, m2, m3⟩
end Go.Am.X
