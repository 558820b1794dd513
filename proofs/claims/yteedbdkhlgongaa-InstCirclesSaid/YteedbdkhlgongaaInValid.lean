/- Instruments: envelopes, when they are valid. -/
import Derived.Test.YteedbdkhlgongaaInGen
import Derived.Test.YteedbdkhlgongaaInTypes
set_option linter.unusedSimpArgs false
set_option linter.unusedVariables false
namespace Go.Am.X

def ptV (t : DPoint) : List Value := [.int .i64 t.Tick, .int .i64 t.Value_]
def envV (e : DEnvelope) (p : Value) : List Value := [.bool e.On, p, .bool e.Sus, .int .i64 e.SusStart, .int .i64 e.SusEnd, .bool e.Loop, .int .i64 e.LoopStart, .int .i64 e.LoopEnd]
/-- What the numbers of an envelope may be. -/
def envOk (e : DEnvelope) : Prop := isI64 e.SusStart ∧ isI64 e.SusEnd ∧ isI64 e.LoopStart ∧ isI64 e.LoopEnd ∧ ∀ p ∈ e.Points, isI64 p.Tick ∧ isI64 p.Value_
def paired (on : Bool) (a b n : Int) : Bool := if on then decide (0 ≤ a) && decide (a ≤ b) && decide (b < n) else (a == 0) && (b == 0)
def okPt (l : List DPoint) (lo hi : Int) (i : Nat) (p : DPoint) : Prop :=
  (i = 0 → p.Tick = 0) ∧ (∀ q, 0 < i → l[i - 1]? = some q → q.Tick < p.Tick) ∧ p.Tick ≤ 9999 ∧ lo ≤ p.Value_ ∧ p.Value_ ≤ hi
def okPts (l : List DPoint) (lo hi : Int) : Prop := ∀ (i : Nat) p, l[i]? = some p → okPt l lo hi i p
noncomputable def validE (e : DEnvelope) (lo hi : Int) : Bool :=
  cdec (e.Points.length ≤ 16 ∧ (e.On = true → 0 < e.Points.length) ∧ okPts e.Points lo hi) && paired e.Sus e.SusStart e.SusEnd e.Points.length && paired e.Loop e.LoopStart e.LoopEnd e.Points.length

theorem store_pt (h : AHeap) (x y : Value) (q : DPoint) : storef 2 (ptrTo h.length 0) (.agg (ptV q).toArray) (h ++ [.cells [x, y] 37 true]) = some (h ++ [.cells (ptV q) 37 true]) :=
  store_new _ _ _ _ _ rfl rfl rfl
theorem pt0 (q : DPoint) : (ptV q)[0]? = some (.int .i64 q.Tick) := rfl
theorem pt1 (q : DPoint) : (ptV q)[1]? = some (.int .i64 q.Value_) := rfl
theorem c29 (on : Bool) (a b n : Int) (h : AHeap) : Γ0 29 [.bool on, .int .i64 a, .int .i64 b, .int .i64 n] h = some (.bool (paired on a b n), h) := by
  refine gbody (F := A29) (by kernel_rfl) 1 ?_
  rw [s29_eq]
  unfold s29 paired
  cases on <;> simp only [unf, Option.bind_some, Bool.not_true, Bool.not_false, JL, J1, ifK_bool, Bool.false_eq_true, if_false, if_true, binf_leq, binf_lss, binf_eql, scK_and, decide_eq_true_eq, beq_iff_eq, fin_self, single]
  · split <;> simp_all
  · by_cases h1 : 0 ≤ a <;> by_cases h2 : a ≤ b <;> simp [h1, h2]
theorem c28 {e : DEnvelope} {p : Value} {h : AHeap} {b0 : Nat} (hp : Flat ptV 2 h p e.Points) (hb : readC h b0 1 = some p) (on : Bool) (a b : Int) :
    callVf Γ0 (.func (.func 28) (List.toArray []) (List.toArray [ptrTo b0 0])) [.bool on, .int .i64 a, .int .i64 b] h = some (.bool (paired on a b e.Points.length), h) := by
  rw [callVf_func Γ0 28]
  refine gbody (F := A28) (by kernel_rfl) 1 ?_
  show funK _ _ _ [.bool on, .int .i64 a, .int .i64 b, ptrTo b0 0] h = _
  rw [s28_eq]
  unfold s28 paired
  cases on <;> simp only [unf, Option.bind_some, Bool.not_true, Bool.not_false, JL, J1, ifK_bool, Bool.false_eq_true, if_false, if_true, binf_leq, binf_geq, binf_lss, binf_eql, scK_and, decide_eq_true_eq, beq_iff_eq, fin_self, single, fieldAddr_ptr, Nat.zero_add, load_cell, hb, hp.len]
  · split <;> simp_all
  · by_cases h1 : 0 ≤ a <;> by_cases h2 : a ≤ b <;> simp [h1, h2]
theorem env0 (e : DEnvelope) (p : Value) : (envV e p)[0]? = some (.bool e.On) := rfl
theorem env1 (e : DEnvelope) (p : Value) : (envV e p)[1]? = some p := rfl
theorem env2 (e : DEnvelope) (p : Value) : (envV e p)[2]? = some (.bool e.Sus) := rfl
theorem env3 (e : DEnvelope) (p : Value) : (envV e p)[3]? = some (.int .i64 e.SusStart) := rfl
theorem env4 (e : DEnvelope) (p : Value) : (envV e p)[4]? = some (.int .i64 e.SusEnd) := rfl
theorem env5 (e : DEnvelope) (p : Value) : (envV e p)[5]? = some (.bool e.Loop) := rfl
theorem env6 (e : DEnvelope) (p : Value) : (envV e p)[6]? = some (.int .i64 e.LoopStart) := rfl
theorem env7 (e : DEnvelope) (p : Value) : (envV e p)[7]? = some (.int .i64 e.LoopEnd) := rfl
theorem okPts_not {l : List DPoint} {lo hi : Int} {i : Nat} {p : DPoint} (h : l[i]? = some p) (hn : ¬ okPt l lo hi i p) : ¬ okPts l lo hi := fun k => hn (k i p h)
theorem validE_not {e : DEnvelope} {lo hi : Int} (h : ¬ okPts e.Points lo hi) : validE e lo hi = false := by
  unfold validE
  rw [cdec_false (fun k => h k.2.2)]
  rfl
theorem box1 {e : DEnvelope} {p : Value} {h hh : AHeap} (hh1 : h ++ [.cells (envV e p) 24 true] <+: hh) (k : Nat) : readC hh h.length k = (envV e p)[k]? := by
  have : (h ++ [ABlk.cells (envV e p) 24 true])[h.length]? = some (.cells (envV e p) 24 true) := List.getElem?_concat_length ..
  have h2 := pre_get hh1 (i := h.length) (by simp)
  unfold readC
  rw [h2, this]
theorem c7 {e : DEnvelope} {p : Value} {h : AHeap} (hp : Flat ptV 2 h p e.Points) (lo hi : Int) :
    Γ0 7 [.agg (envV e p).toArray, .int .i64 lo, .int .i64 hi] h = some (.bool (validE e lo hi), h) := by
  refine gbody (F := A7) (by kernel_rfl) (e.Points.length + 1) ?_
  rw [s7_eq]
  unfold s7
  have hp1 := hp.pre (pre1 h (.cells (envV e p) 24 true))
  have b1 := box1 (List.prefix_refl (h ++ [.cells (envV e p) 24 true]))
  simp only [fork, cells_agg, fieldAddr_ptr, Nat.zero_add, load_cell, b1, env0, env1, env2, env3, env4, env5, env6, env7, Option.bind_some, hp1.len, binf_gtr, J1, JL, scK_or, scK_and, ifK_bool, binf_eql, decide_eq_true_eq, decide_eq_false_iff_not, beq_iff_eq]
  by_cases c1 : e.Points.length > 16
  · rw [if_neg (by omega), if_pos trivial, fin_bool (pre1 _ _)]
    unfold validE
    rw [cdec_false (fun k => by have := k.1; omega)]; rfl
  · rw [if_pos (by omega)]
    by_cases c2 : e.On = true ∧ e.Points.length = 0
    · obtain ⟨c3, c4⟩ := c2
      simp only [c3, if_true, c4, beq_self_eq_true]
      rw [fin_bool (pre1 _ _)]
      unfold validE
      rw [cdec_false (by intro k; have := k.2.1 c3; omega)]; rfl
    · have main : ∀ j : List Value → AHeap → Rt, (∀ w hh, h ++ [.cells (envV e p) 24 true] <+: hh → okPts e.Points lo hi → j w hh = some (.bool (validE e lo hi), h)) →
          loopN (s7_L0 Γ0 (e.Points.length + 1) (.int .i64 lo) (.int .i64 hi) h (ptrTo h.length 0) p (.int .i64 e.Points.length) j) (e.Points.length + 1) (.int .i64 0 :: List.replicate 28 undef) (h ++ [.cells (envV e p) 24 true]) = some (.bool (validE e lo hi), h) := by
        intro j hj
        refine loop_ok (len := e.Points.length) (fun i vs hh => (∃ rest, vs = .int .i64 i :: rest) ∧ h ++ [.cells (envV e p) 24 true] <+: hh ∧ ∀ k, k < i → ∀ q, e.Points[k]? = some q → okPt e.Points lo hi k q) (fun r : Rt => r = some (.bool (validE e lo hi), h)) ?_ ?_ _ 0 _ _ ⟨⟨_, rfl⟩, List.prefix_refl _, fun k hk => by omega⟩ (Nat.zero_le _) (by omega)
        · rintro i _ hh hi' ⟨⟨rest, rfl⟩, hpre, hall⟩
          obtain ⟨q, hq⟩ := lt_len hi'
          have hpp := hp1.pre hpre
          obtain ⟨b, o, g1, g2, g3⟩ := hpp.at_ i q hq
          have hb1 := box1 hpre 1
          have hl16 : i < 4294967297 := by omega
          have hbN : ∀ k, readC (hh ++ [ABlk.cells (ptV q) 37 true]) hh.length k = (ptV q)[k]? := fun k => readC_new _ _ _ _ _
          have hfb : ∀ c, fin h (hh ++ [c]) [.bool false] = some (.bool false, h) := fun c => fin_bool (pre_trans (pre1 _ _) (pre_trans hpre (pre1 _ _)))
          have step : ∀ K, s7_L0 Γ0 (e.Points.length + 1) (.int .i64 lo) (.int .i64 hi) h (ptrTo h.length 0) p (.int .i64 e.Points.length) j K (.int .i64 i :: rest) hh =
              if cdec (okPt e.Points lo hi i q) = true then K (.int .i64 ((i + 1 : Nat) : Int) :: List.replicate 28 junk) (hh ++ [.cells (ptV q) 37 true]) else some (.bool false, h) := by
            intro K
            unfold s7_L0
            have hlt : ((i : Int) < (e.Points.length : Int)) = True := eq_true (by omega)
            have hbH : readC (hh ++ [ABlk.cells (ptV q) 37 true]) h.length 1 = (envV e p)[1]? := box1 (pre_trans hpre (pre1 _ _)) 1
            have fin3 : ∀ (X Y : Rt) (P : Prop), (P ↔ (q.Tick ≤ 9999 ∧ lo ≤ q.Value_ ∧ q.Value_ ≤ hi)) → (if ¬q.Tick > 9999 then if ¬q.Value_ < lo then if q.Value_ > hi then X else Y else X else X) = if cdec P = true then Y else X := by
              intro X Y P hP
              by_cases hq : q.Tick ≤ 9999 ∧ lo ≤ q.Value_ ∧ q.Value_ ≤ hi
              · rw [if_pos (by omega), if_pos (by omega), if_neg (by omega), if_pos (cdec_true (hP.2 hq))]
              · rw [cdec_false (fun k => hq (hP.1 k))]
                simp only [Bool.false_eq_true, if_false]
                split
                · split
                  · rw [if_pos (by omega)]
                  · rfl
                · rfl
            by_cases hz : i = 0
            · have hzi : ((i : Int) = 0) = True := eq_true (by omega)
              have hzg : ((i : Int) > 0) = False := eq_false (by omega)
              by_cases ht : q.Tick = 0
              · have ht' : (q.Tick != 0) = false := by simp [ht]
                simp only [JL, J1, binf_lss, binf_leq, binf_sub, decide_eq_true_eq, hlt, if_true, g1, Option.bind_some, load_agg, g2, Option.map_some, fork, store_pt, binf_eql, binf_add, succ64 hl16, fieldAddr_ptr, Nat.zero_add, Nat.add_zero, load_cell, hbN, hbH, pt0, pt1, env1, binf_neq, scK_and, scK_or, binf_gtr, ifK_bool, hfb,
                  nth_zero, nth_one, nth_two, nth_three, nth_succ, decide_eq_false_iff_not, beq_iff_eq, bne_iff_ne, ne_eq, not_true_eq_false, not_false_eq_true, if_false, decide_true, decide_false, Bool.true_eq_false, Bool.false_eq_true, reduceCtorEq, hzi, hzg, ht']
                exact fin3 _ _ (okPt e.Points lo hi i q) ⟨fun k => k.2.2, fun k => ⟨fun _ => ht, fun _ hk _ => by omega, k⟩⟩
              · have ht' : (q.Tick != 0) = true := by simpa using ht
                simp only [JL, J1, binf_lss, binf_leq, binf_sub, decide_eq_true_eq, hlt, if_true, g1, Option.bind_some, load_agg, g2, Option.map_some, fork, store_pt, binf_eql, binf_add, succ64 hl16, fieldAddr_ptr, Nat.zero_add, Nat.add_zero, load_cell, hbN, hbH, pt0, pt1, env1, binf_neq, scK_and, scK_or, binf_gtr, ifK_bool, hfb,
                  nth_zero, nth_one, nth_two, nth_three, nth_succ, decide_eq_false_iff_not, beq_iff_eq, bne_iff_ne, ne_eq, not_true_eq_false, not_false_eq_true, if_false, decide_true, decide_false, Bool.true_eq_false, Bool.false_eq_true, reduceCtorEq, hzi, hzg, ht']
                rw [cdec_false (fun k => ht (k.1 hz))]
                rfl
            · have hzi : ((i : Int) = 0) = False := eq_false (by omega)
              have hzg : ((i : Int) > 0) = True := eq_true (by omega)
              obtain ⟨q', hq'⟩ := lt_len (show i - 1 < e.Points.length by omega)
              obtain ⟨b', o', f1, f2, f3⟩ := hpp.at_ (i - 1) q' hq'
              have hsub : IntKind.i64.wrap ((i : Int) - 1) = ((i - 1 : Nat) : Int) := by rw [wrap64 (by unfold isI64; omega)]; omega
              have f4 : readC (hh ++ [ABlk.cells (ptV q) 37 true]) b' o' = some (.int .i64 q'.Tick) := readC_app (by have := readC_of_readN f2 (i := 0) rfl; simpa using this) _
              by_cases hle : q.Tick ≤ q'.Tick
              · have hle' : (q.Tick ≤ q'.Tick) = True := eq_true hle
                simp only [JL, J1, binf_lss, binf_leq, binf_sub, decide_eq_true_eq, hlt, if_true, g1, Option.bind_some, load_agg, g2, Option.map_some, fork, store_pt, binf_eql, binf_add, succ64 hl16, fieldAddr_ptr, Nat.zero_add, Nat.add_zero, load_cell, hbN, hbH, pt0, pt1, env1, binf_neq, scK_and, scK_or, binf_gtr, ifK_bool, hfb,
                  nth_zero, nth_one, nth_two, nth_three, nth_succ, decide_eq_false_iff_not, beq_iff_eq, bne_iff_ne, ne_eq, not_true_eq_false, not_false_eq_true, if_false, decide_true, decide_false, Bool.true_eq_false, Bool.false_eq_true, reduceCtorEq, hzi, hzg, hsub, f1, f4, hle']
                rw [cdec_false (fun k => by have := k.2.1 q' (by omega) hq'; omega)]
                rfl
              · have hle' : (q.Tick ≤ q'.Tick) = False := eq_false hle
                simp only [JL, J1, binf_lss, binf_leq, binf_sub, decide_eq_true_eq, hlt, if_true, g1, Option.bind_some, load_agg, g2, Option.map_some, fork, store_pt, binf_eql, binf_add, succ64 hl16, fieldAddr_ptr, Nat.zero_add, Nat.add_zero, load_cell, hbN, hbH, pt0, pt1, env1, binf_neq, scK_and, scK_or, binf_gtr, ifK_bool, hfb,
                  nth_zero, nth_one, nth_two, nth_three, nth_succ, decide_eq_false_iff_not, beq_iff_eq, bne_iff_ne, ne_eq, not_true_eq_false, not_false_eq_true, if_false, decide_true, decide_false, Bool.true_eq_false, Bool.false_eq_true, reduceCtorEq, hzi, hzg, hsub, f1, f4, hle']
                exact fin3 _ _ (okPt e.Points lo hi i q) ⟨fun k => k.2.2, fun k => ⟨fun h0 => absurd h0 hz, fun q2 _ hk => by rw [hq'] at hk; cases hk; omega, k⟩⟩
          by_cases hok : okPt e.Points lo hi i q
          · refine .inl ⟨_, _, ⟨⟨_, rfl⟩, pre_trans hpre (pre1 _ _), fun k hk q2 hq2 => ?_⟩, fun K => by rw [step K, if_pos (cdec_true hok)]⟩
            by_cases hki : k = i
            · subst hki; rw [hq] at hq2; cases hq2; exact hok
            · exact hall k (by omega) q2 hq2
          · exact .inr ⟨_, by rw [validE_not (okPts_not hq hok)], fun K => by rw [step K, cdec_false hok]; rfl⟩
        · rintro _ hh ⟨⟨rest, rfl⟩, hpre, hall⟩
          refine ⟨_, hj [] hh hpre fun k q hq => hall k (List.getElem?_eq_some_iff.1 hq).1 q hq, fun K => ?_⟩
          unfold s7_L0
          simp only [nth_zero, binf_lss, Option.bind_some, JL, ifK_bool, decide_eq_true_eq]
          rw [if_neg (by omega)]
      have goal' := main _ (fun w hh hpre hok => by
        have hpp := hp1.pre hpre
        have k28 := fun on a b => c28 (b0 := h.length) hpp (box1 hpre 1) on a b
        have hv : validE e lo hi = (paired e.Sus e.SusStart e.SusEnd e.Points.length && paired e.Loop e.LoopStart e.LoopEnd e.Points.length) := by
          unfold validE
          rw [cdec_true ⟨by omega, fun h1 => by apply Classical.byContradiction; intro h2; exact c2 ⟨h1, by omega⟩, hok⟩]
          rfl
        show (readC hh h.length 2).bind (fun v19 => (readC hh h.length 3).bind fun v21 => (readC hh h.length 4).bind fun v23 => (callVf Γ0 (.func (.func 28) (List.toArray []) (List.toArray [ptrTo h.length 0])) [v19, v21, v23] hh).bind fun p24 =>
            scK p24.1 true ((readC p24.2 h.length 5).bind fun v29 => (readC p24.2 h.length 6).bind fun v31 => (readC p24.2 h.length 7).bind fun v33 => (callVf Γ0 (.func (.func 28) (List.toArray []) (List.toArray [ptrTo h.length 0])) [v29, v31, v33] p24.2).bind fun p34 => fin h p34.2 [p34.1]) (fin h p24.2 [.bool false])) = _
        simp only [box1 hpre, env2, env3, env4, env5, env6, env7, Option.bind_some, k28, scK_and, hv]
        cases paired e.Sus e.SusStart e.SusEnd e.Points.length
        · simp only [Bool.false_eq_true, if_false, Bool.false_and]
          exact fin_bool (pre_trans (pre1 _ _) hpre)
        · simp only [if_true, Bool.true_and]
          exact fin_bool (pre_trans (pre1 _ _) hpre))
      split
      · rw [if_neg (by intro h1; exact c2 ⟨by assumption, by omega⟩)]
        exact goal'
      · exact goal'
theorem c8 {e : DEnvelope} {p : Value} {h : AHeap} (hp : Flat ptV 2 h p e.Points) (lo hi : Int) :
    Γ0 8 [.agg (envV e p).toArray, .int .i64 lo, .int .i64 hi] h = some (.bool (validE e lo hi), h) := by
  refine gbody (F := A8) (by kernel_rfl) (e.Points.length + 1) ?_
  rw [s8_eq]
  unfold s8
  have hp1 := hp.pre (pre1 h (.cells (envV e p) 24 true))
  have b1 := box1 (List.prefix_refl (h ++ [.cells (envV e p) 24 true]))
  simp only [fork, cells_agg, fieldAddr_ptr, Nat.zero_add, load_cell, b1, env0, env1, env2, env3, env4, env5, env6, env7, Option.bind_some, hp1.len, binf_gtr, J1, JL, scK_or, scK_and, ifK_bool, binf_eql, decide_eq_true_eq, decide_eq_false_iff_not, beq_iff_eq]
  by_cases c1 : e.Points.length > 16
  · rw [if_neg (by omega), if_pos trivial, fin_bool (pre1 _ _)]
    unfold validE
    rw [cdec_false (fun k => by have := k.1; omega)]; rfl
  · rw [if_pos (by omega)]
    by_cases c2 : e.On = true ∧ e.Points.length = 0
    · obtain ⟨c3, c4⟩ := c2
      simp only [c3, if_true, c4, beq_self_eq_true]
      rw [fin_bool (pre1 _ _)]
      unfold validE
      rw [cdec_false (by intro k; have := k.2.1 c3; omega)]; rfl
    · have main : ∀ j : List Value → AHeap → Rt, (∀ w hh, h ++ [.cells (envV e p) 24 true] <+: hh → okPts e.Points lo hi → j w hh = some (.bool (validE e lo hi), h)) →
          loopN (s8_L0 Γ0 (e.Points.length + 1) (.int .i64 lo) (.int .i64 hi) h (ptrTo h.length 0) (.int .i64 e.Points.length) j) (e.Points.length + 1) (.int .i64 0 :: List.replicate 28 undef) (h ++ [.cells (envV e p) 24 true]) = some (.bool (validE e lo hi), h) := by
        intro j hj
        refine loop_ok (len := e.Points.length) (fun i vs hh => (∃ rest, vs = .int .i64 i :: rest) ∧ h ++ [.cells (envV e p) 24 true] <+: hh ∧ ∀ k, k < i → ∀ q, e.Points[k]? = some q → okPt e.Points lo hi k q) (fun r : Rt => r = some (.bool (validE e lo hi), h)) ?_ ?_ _ 0 _ _ ⟨⟨_, rfl⟩, List.prefix_refl _, fun k hk => by omega⟩ (Nat.zero_le _) (by omega)
        · rintro i _ hh hi' ⟨⟨rest, rfl⟩, hpre, hall⟩
          obtain ⟨q, hq⟩ := lt_len hi'
          have hpp := hp1.pre hpre
          obtain ⟨b, o, g1, g2, g3⟩ := hpp.at_ i q hq
          have hb1 := box1 hpre 1
          have hl16 : i < 4294967297 := by omega
          have hbN : ∀ k, readC (hh ++ [ABlk.cells (ptV q) 37 true]) hh.length k = (ptV q)[k]? := fun k => readC_new _ _ _ _ _
          have hfb : ∀ c, fin h (hh ++ [c]) [.bool false] = some (.bool false, h) := fun c => fin_bool (pre_trans (pre1 _ _) (pre_trans hpre (pre1 _ _)))
          have step : ∀ K, s8_L0 Γ0 (e.Points.length + 1) (.int .i64 lo) (.int .i64 hi) h (ptrTo h.length 0) (.int .i64 e.Points.length) j K (.int .i64 i :: rest) hh =
              if cdec (okPt e.Points lo hi i q) = true then K (.int .i64 ((i + 1 : Nat) : Int) :: List.replicate 28 junk) (hh ++ [.cells (ptV q) 37 true]) else some (.bool false, h) := by
            intro K
            unfold s8_L0
            have hlt : ((i : Int) < (e.Points.length : Int)) = True := eq_true (by omega)
            have hbH : readC (hh ++ [ABlk.cells (ptV q) 37 true]) h.length 1 = (envV e p)[1]? := box1 (pre_trans hpre (pre1 _ _)) 1
            have fin3 : ∀ (X Y : Rt) (P : Prop), (P ↔ (q.Tick ≤ 9999 ∧ lo ≤ q.Value_ ∧ q.Value_ ≤ hi)) → (if ¬q.Tick > 9999 then if ¬q.Value_ < lo then if q.Value_ > hi then X else Y else X else X) = if cdec P = true then Y else X := by
              intro X Y P hP
              by_cases hq : q.Tick ≤ 9999 ∧ lo ≤ q.Value_ ∧ q.Value_ ≤ hi
              · rw [if_pos (by omega), if_pos (by omega), if_neg (by omega), if_pos (cdec_true (hP.2 hq))]
              · rw [cdec_false (fun k => hq (hP.1 k))]
                simp only [Bool.false_eq_true, if_false]
                split
                · split
                  · rw [if_pos (by omega)]
                  · rfl
                · rfl
            by_cases hz : i = 0
            · have hzi : ((i : Int) = 0) = True := eq_true (by omega)
              have hzg : ((i : Int) > 0) = False := eq_false (by omega)
              by_cases ht : q.Tick = 0
              · have ht' : (q.Tick != 0) = false := by simp [ht]
                simp only [JL, J1, binf_lss, binf_leq, binf_sub, decide_eq_true_eq, hlt, if_true, g1, Option.bind_some, load_agg, g2, Option.map_some, fork, store_pt, binf_eql, binf_add, succ64 hl16, fieldAddr_ptr, Nat.zero_add, Nat.add_zero, load_cell, hbN, hbH, hb1, pt0, pt1, env1, binf_neq, scK_and, scK_or, binf_gtr, ifK_bool, hfb,
                  nth_zero, nth_one, nth_two, nth_three, nth_succ, decide_eq_false_iff_not, beq_iff_eq, bne_iff_ne, ne_eq, not_true_eq_false, not_false_eq_true, if_false, decide_true, decide_false, Bool.true_eq_false, Bool.false_eq_true, reduceCtorEq, hzi, hzg, ht']
                exact fin3 _ _ (okPt e.Points lo hi i q) ⟨fun k => k.2.2, fun k => ⟨fun _ => ht, fun _ hk _ => by omega, k⟩⟩
              · have ht' : (q.Tick != 0) = true := by simpa using ht
                simp only [JL, J1, binf_lss, binf_leq, binf_sub, decide_eq_true_eq, hlt, if_true, g1, Option.bind_some, load_agg, g2, Option.map_some, fork, store_pt, binf_eql, binf_add, succ64 hl16, fieldAddr_ptr, Nat.zero_add, Nat.add_zero, load_cell, hbN, hbH, hb1, pt0, pt1, env1, binf_neq, scK_and, scK_or, binf_gtr, ifK_bool, hfb,
                  nth_zero, nth_one, nth_two, nth_three, nth_succ, decide_eq_false_iff_not, beq_iff_eq, bne_iff_ne, ne_eq, not_true_eq_false, not_false_eq_true, if_false, decide_true, decide_false, Bool.true_eq_false, Bool.false_eq_true, reduceCtorEq, hzi, hzg, ht']
                rw [cdec_false (fun k => ht (k.1 hz))]
                rfl
            · have hzi : ((i : Int) = 0) = False := eq_false (by omega)
              have hzg : ((i : Int) > 0) = True := eq_true (by omega)
              obtain ⟨q', hq'⟩ := lt_len (show i - 1 < e.Points.length by omega)
              obtain ⟨b', o', f1, f2, f3⟩ := hpp.at_ (i - 1) q' hq'
              have hsub : IntKind.i64.wrap ((i : Int) - 1) = ((i - 1 : Nat) : Int) := by rw [wrap64 (by unfold isI64; omega)]; omega
              have f4 : readC (hh ++ [ABlk.cells (ptV q) 37 true]) b' o' = some (.int .i64 q'.Tick) := readC_app (by have := readC_of_readN f2 (i := 0) rfl; simpa using this) _
              by_cases hle : q.Tick ≤ q'.Tick
              · have hle' : (q.Tick ≤ q'.Tick) = True := eq_true hle
                simp only [JL, J1, binf_lss, binf_leq, binf_sub, decide_eq_true_eq, hlt, if_true, g1, Option.bind_some, load_agg, g2, Option.map_some, fork, store_pt, binf_eql, binf_add, succ64 hl16, fieldAddr_ptr, Nat.zero_add, Nat.add_zero, load_cell, hbN, hbH, hb1, pt0, pt1, env1, binf_neq, scK_and, scK_or, binf_gtr, ifK_bool, hfb,
                  nth_zero, nth_one, nth_two, nth_three, nth_succ, decide_eq_false_iff_not, beq_iff_eq, bne_iff_ne, ne_eq, not_true_eq_false, not_false_eq_true, if_false, decide_true, decide_false, Bool.true_eq_false, Bool.false_eq_true, reduceCtorEq, hzi, hzg, hsub, f1, f4, hle']
                rw [cdec_false (fun k => by have := k.2.1 q' (by omega) hq'; omega)]
                rfl
              · have hle' : (q.Tick ≤ q'.Tick) = False := eq_false hle
                simp only [JL, J1, binf_lss, binf_leq, binf_sub, decide_eq_true_eq, hlt, if_true, g1, Option.bind_some, load_agg, g2, Option.map_some, fork, store_pt, binf_eql, binf_add, succ64 hl16, fieldAddr_ptr, Nat.zero_add, Nat.add_zero, load_cell, hbN, hbH, hb1, pt0, pt1, env1, binf_neq, scK_and, scK_or, binf_gtr, ifK_bool, hfb,
                  nth_zero, nth_one, nth_two, nth_three, nth_succ, decide_eq_false_iff_not, beq_iff_eq, bne_iff_ne, ne_eq, not_true_eq_false, not_false_eq_true, if_false, decide_true, decide_false, Bool.true_eq_false, Bool.false_eq_true, reduceCtorEq, hzi, hzg, hsub, f1, f4, hle']
                exact fin3 _ _ (okPt e.Points lo hi i q) ⟨fun k => k.2.2, fun k => ⟨fun h0 => absurd h0 hz, fun q2 _ hk => by rw [hq'] at hk; cases hk; omega, k⟩⟩
          by_cases hok : okPt e.Points lo hi i q
          · refine .inl ⟨_, _, ⟨⟨_, rfl⟩, pre_trans hpre (pre1 _ _), fun k hk q2 hq2 => ?_⟩, fun K => by rw [step K, if_pos (cdec_true hok)]⟩
            by_cases hki : k = i
            · subst hki; rw [hq] at hq2; cases hq2; exact hok
            · exact hall k (by omega) q2 hq2
          · exact .inr ⟨_, by rw [validE_not (okPts_not hq hok)], fun K => by rw [step K, cdec_false hok]; rfl⟩
        · rintro _ hh ⟨⟨rest, rfl⟩, hpre, hall⟩
          refine ⟨_, hj [] hh hpre fun k q hq => hall k (List.getElem?_eq_some_iff.1 hq).1 q hq, fun K => ?_⟩
          unfold s8_L0
          simp only [nth_zero, binf_lss, Option.bind_some, JL, ifK_bool, decide_eq_true_eq]
          rw [if_neg (by omega)]
      have goal' := main _ (fun w hh hpre hok => by
        have hpp := hp1.pre hpre
        have hv : validE e lo hi = (paired e.Sus e.SusStart e.SusEnd e.Points.length && paired e.Loop e.LoopStart e.LoopEnd e.Points.length) := by
          unfold validE
          rw [cdec_true ⟨by omega, fun h1 => by apply Classical.byContradiction; intro h2; exact c2 ⟨h1, by omega⟩, hok⟩]
          rfl
        show (readC hh h.length 2).bind (fun v19 => (readC hh h.length 3).bind fun v21 => (readC hh h.length 4).bind fun v23 => (Γ0 29 [v19, v21, v23, .int .i64 e.Points.length] hh).bind fun p24 =>
            scK p24.1 true ((readC p24.2 h.length 5).bind fun v29 => (readC p24.2 h.length 6).bind fun v31 => (readC p24.2 h.length 7).bind fun v33 => (Γ0 29 [v29, v31, v33, .int .i64 e.Points.length] p24.2).bind fun p34 => fin h p34.2 [p34.1]) (fin h p24.2 [.bool false])) = _
        simp only [box1 hpre, env2, env3, env4, env5, env6, env7, Option.bind_some, c29, scK_and, hv]
        cases paired e.Sus e.SusStart e.SusEnd e.Points.length
        · simp only [Bool.false_eq_true, if_false, Bool.false_and]
          exact fin_bool (pre_trans (pre1 _ _) hpre)
        · simp only [if_true, Bool.true_and]
          exact fin_bool (pre_trans (pre1 _ _) hpre))
      split
      · rw [if_neg (by intro h1; exact c2 ⟨by assumption, by omega⟩)]
        exact goal'
      · exact goal'
end Go.Am.X
