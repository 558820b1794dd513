/- Instruments: the tick that follows, and the end of an envelope, the program's side. -/
import Derived.Test.YteedbdkhlgongaaInAfter
set_option linter.unusedSimpArgs false
set_option linter.unusedVariables false
namespace Go.Am.X

theorem store_last (H : AHeap) (cs : List Value) (t : TypeId) (v : Value) (n k : Nat) (h1 : (cellsL v).length = n) (h2 : k + n ≤ cs.length) (h3 : (cellsL v).all oneC = true) :
    storef n (ptrTo H.length k) v (H ++ [.cells cs t true]) = some (H ++ [.cells (cs.take k ++ cellsL v ++ cs.drop (k + n)) t true]) := by
  have := store_at H [] cs t v n k h1 h2 h3
  simpa using this
def walkV (e : DEnvelope) (held : Bool) : List Value :=
  match circleE e held with
  | some (f, t) => [.int .i64 f, .int .i64 t, .bool true, .int .i64 (lastT e)]
  | none => [.int .i64 0, .int .i64 0, .bool false, .int .i64 (lastT e)]
theorem walk_len (e : DEnvelope) (held : Bool) : (walkV e held).length = 4 := by unfold walkV; split <;> rfl
theorem walk_one (e : DEnvelope) (held : Bool) : (walkV e held).all oneC = true := by unfold walkV; split <;> rfl
theorem walk_ref (e : DEnvelope) (held : Bool) : noRef (single [.agg (walkV e held).toArray]) = true := by unfold walkV; split <;> rfl
abbrev z4 : List Value := [.int .i64 0, .int .i64 0, .bool false, .int .i64 0]
theorem c36 {e : DEnvelope} {p : Value} {h : AHeap} (hp : Flat ptV 2 h p e.Points) (held : Bool) (h0 : 0 < e.Points.length) (h16 : e.Points.length ≤ 16) (l4 : paired e.Sus e.SusStart e.SusEnd e.Points.length = true) (l5 : paired e.Loop e.LoopStart e.LoopEnd e.Points.length = true) :
    Γ0 36 [.agg (envV e p).toArray, .bool held] h = some (.agg (walkV e held).toArray, h) := by
  refine gbody (F := A36) (by kernel_rfl) 1 ?_
  rw [s36_eq]
  unfold s36
  have hpre : h <+: h ++ [ABlk.cells (envV e p) 24 true] ++ [.cells z4 64 true] := pre2 _ _ _
  have bE := box1 (p := p) (e := e) (h := h) (pre1 (h ++ [.cells (envV e p) 24 true]) (.cells z4 64 true))
  have hp3 := hp.pre hpre
  obtain ⟨b, o, g1, g2⟩ := last_at hp3 h0
  have hs : IntKind.i64.wrap ((e.Points.length : Int) - 1) = (e.Points.length : Int) - 1 := wrap64 (by unfold isI64; omega)
  have hf : fillf z4 [(3, 1, .int .i64 (lastT e))] = some [.int .i64 0, .int .i64 0, .bool false, .int .i64 (lastT e)] := rfl
  -- how it ends
  have fine : ∀ W : List Value, W.length = 4 → W.all oneC = true → noRef (single [.agg W.toArray]) = true →
      ((loadf true 4 (ptrTo (h ++ [ABlk.cells (envV e p) 24 true] ++ [ABlk.cells z4 64 true]).length 0) (h ++ [ABlk.cells (envV e p) 24 true] ++ [.cells z4 64 true] ++ [.cells W 64 true])).bind fun v20 =>
        (storef 4 (ptrTo (h ++ [ABlk.cells (envV e p) 24 true]).length 0) v20 (h ++ [ABlk.cells (envV e p) 24 true] ++ [.cells z4 64 true] ++ [.cells W 64 true])).bind fun h21 =>
        (loadf true 4 (ptrTo (h ++ [ABlk.cells (envV e p) 24 true]).length 0) h21).bind fun v22 => fin h h21 [v22]) = some (.agg W.toArray, h) := by
    intro W hW1 hW2 hW3
    have r1 := readN_all (h ++ [ABlk.cells (envV e p) 24 true] ++ [.cells z4 64 true]) W 64 true 4 hW1
    have st := store_at (h ++ [ABlk.cells (envV e p) 24 true]) [.cells W 64 true] z4 64 (.agg W.toArray) 4 0 hW1 (by decide) hW2
    have r2 := readN_at' (h ++ [ABlk.cells (envV e p) 24 true]) [.cells W 64 true] (z4.take 0 ++ cellsL (.agg W.toArray) ++ z4.drop (0 + 4)) 64 true 4 (by simp [cellsL, hW1])
    simp only [load_agg, r1, Option.map_some, Option.bind_some, st, r2]
    have e1 : z4.take 0 ++ cellsL (.agg W.toArray) ++ z4.drop (0 + 4) = W := by simp [cellsL]
    rw [e1]
    exact fin_gc hW3 (pre3 _ _ _ _)
  generalize hH : h ++ [ABlk.cells (envV e p) 24 true] ++ [ABlk.cells z4 64 true] = H at hpre bE hp3 g2 fine
  have pH : ∀ W, H <+: H ++ [ABlk.cells W 64 true] := fun W => pre1 _ _
  have bE2 : ∀ W k, readC (H ++ [ABlk.cells W 64 true]) h.length k = (envV e p)[k]? := fun W k => by
    have hh := bE k
    by_cases hk : k < 8
    · have : ∃ v, (envV e p)[k]? = some v := ⟨_, List.getElem?_eq_getElem hk⟩
      obtain ⟨v, hv⟩ := this
      rw [hv] at hh ⊢
      exact readC_app hh _
    · have hlt : h.length < H.length := by rw [← hH]; simp
      rw [readC_lt hlt]; exact hh
  have sn : ∀ v : List Value, v.length = 4 → v.all oneC = true → storef 4 (ptrTo H.length 0) (.agg v.toArray) (H ++ [.cells z4 64 true]) = some (H ++ [.cells v 64 true]) := fun v h1 h2 => store_new _ _ _ _ _ h1 rfl h2
  have s2 : ∀ (a b f t : Int) (c : Bool), storef 2 (ptrTo H.length 0) (.agg [.int .i64 f, .int .i64 t].toArray) (H ++ [.cells [.int .i64 a, .int .i64 b, .bool c, .int .i64 (lastT e)] 64 true]) = some (H ++ [.cells [.int .i64 f, .int .i64 t, .bool c, .int .i64 (lastT e)] 64 true]) :=
    fun a b f t c => store_last _ _ _ _ _ _ rfl (by simp) rfl
  have s3 : ∀ (a b : Int) (c d : Bool), storef 1 (ptrTo H.length 2) (.bool d) (H ++ [.cells [.int .i64 a, .int .i64 b, .bool c, .int .i64 (lastT e)] 64 true]) = some (H ++ [.cells [.int .i64 a, .int .i64 b, .bool d, .int .i64 (lastT e)] 64 true]) :=
    fun a b c d => store_last _ _ _ _ _ _ rfl (by simp) rfl
  have f2 : ∀ a b : Int, fillf [(.int .i64 0 : Value), .int .i64 0] [(0, 1, .int .i64 a), (1, 1, .int .i64 b)] = some [.int .i64 a, .int .i64 b] := fun a b => rfl
  have hone : ([.int .i64 0, .int .i64 0, .bool false, .int .i64 (lastT e)] : List Value).all oneC = true := rfl
  simp only [fork, cells_agg, hH, fieldAddr_ptr, Nat.zero_add, Nat.add_zero, load_cell, bE, env1, Option.bind_some, hp3.len, binf_sub, hs, g1, g2, hf, J1, JL, scK_and, ifK_bool]
  rw [sn _ rfl hone]
  simp only [Option.bind_some, bE2, env1, env2, env3, env4, env5, env6, env7]
  have tk : ∀ (W : List Value) (i : Int), 0 ≤ i → i < e.Points.length → ∃ b o, indexAddrf 2 p (.int .i64 i) = some (ptrTo b o) ∧ readC (H ++ [ABlk.cells W 64 true]) b o = some (.int .i64 (tickAt e i)) := fun W i h1 h2 => tick_at (hp3.pre (pH W)) h1 h2
  have hnone : (¬ (held && e.Sus) = true) → (¬ e.Loop = true) → walkV e held = [.int .i64 0, .int .i64 0, .bool false, .int .i64 (lastT e)] := fun h1 h2 => by
    unfold walkV circleE; rw [if_neg h1, if_neg h2]
  cases hd : (held && e.Sus) with
  | true =>
    obtain ⟨hd1, hd2⟩ : held = true ∧ e.Sus = true := by simpa using hd
    subst hd1
    obtain ⟨k1, k2, k3⟩ := paired_on l4 hd2
    obtain ⟨b1, o1, m1, m2⟩ := tk [.int .i64 0, .int .i64 0, .bool false, .int .i64 (lastT e)] e.SusStart k1 (by omega)
    obtain ⟨b2, o2, m3, m4⟩ := tk [.int .i64 0, .int .i64 0, .bool false, .int .i64 (lastT e)] e.SusEnd (by omega) k3
    simp only [hd2, if_true, m1, m3, Option.bind_some, fieldAddr_ptr, Nat.add_zero, Nat.zero_add, load_cell, m2, m4, f2, s2, s3]
    have hw : walkV e true = [.int .i64 (tickAt e e.SusStart), .int .i64 (tickAt e e.SusEnd), .bool true, .int .i64 (lastT e)] := by unfold walkV circleE; rw [if_pos (by simp [hd2])]
    rw [hw]
    exact fine _ rfl rfl rfl
  | false =>
    have hX2 : ∀ A B : Rt, (if held = true then ifK (.bool e.Sus) A B else (if false = true then A else B)) = B := fun A B => by
      cases held <;> simp_all [ifK_bool]
    rw [hX2]
    cases hl : e.Loop with
    | false =>
      simp only [ifK_bool, Bool.false_eq_true, if_false]
      rw [hnone (by simp [hd]) (by simp [hl])]
      exact fine _ rfl rfl rfl
    | true =>
      obtain ⟨k1, k2, k3⟩ := paired_on l5 hl
      obtain ⟨b1, o1, m1, m2⟩ := tk [.int .i64 0, .int .i64 0, .bool false, .int .i64 (lastT e)] e.LoopStart k1 (by omega)
      obtain ⟨b2, o2, m3, m4⟩ := tk [.int .i64 0, .int .i64 0, .bool false, .int .i64 (lastT e)] e.LoopEnd (by omega) k3
      simp only [ifK_bool, if_true, m1, m3, Option.bind_some, fieldAddr_ptr, Nat.add_zero, Nat.zero_add, load_cell, m2, m4, f2, s2, s3]
      have hw : walkV e held = [.int .i64 (tickAt e e.LoopStart), .int .i64 (tickAt e e.LoopEnd), .bool true, .int .i64 (lastT e)] := by unfold walkV circleE; rw [if_neg (by simp [hd]), if_pos hl]
      rw [hw]
      exact fine _ rfl rfl rfl
theorem circle_range {e : DEnvelope} {held : Bool} {f u : Int} (l3 : okPts e.Points (-64) 64) (hc : circleE e held = some (f, u)) : 0 ≤ f ∧ f ≤ 9999 ∧ 0 ≤ u ∧ u ≤ 9999 := by
  unfold circleE at hc
  split at hc
  · cases hc; have h1 := tick_range l3 e.SusStart; have h2 := tick_range l3 e.SusEnd; omega
  · split at hc
    · cases hc; have h1 := tick_range l3 e.LoopStart; have h2 := tick_range l3 e.LoopEnd; omega
    · cases hc
theorem readW (h : AHeap) (W : List Value) (t : TypeId) (k : Nat) : readC (h ++ [ABlk.cells W t true]) h.length k = W[k]? := readC_new _ _ _ _ _
theorem readW2 (h : AHeap) (a b c d : Value) (t : TypeId) : readN (h ++ [ABlk.cells [a, b, c, d] t true]) h.length 0 2 = some [a, b] := by
  unfold readN
  rw [List.getElem?_concat_length]
  rfl
theorem c52 (f u t : Int) (h : AHeap) (hu : u ≤ 9999) (ht : 0 ≤ t) : Γ0 52 [.agg [.int .i64 f, .int .i64 u].toArray, .int .i64 t] h = some (.int .i64 (if t ≥ u then f else t + 1), h) := by
  refine gbody (F := A52) (by kernel_rfl) 1 ?_
  rw [s52_eq]
  unfold s52
  simp only [fork, cells_agg, fieldAddr_ptr, Nat.zero_add, Nat.add_zero, load_cell, readW, List.getElem?_cons_succ, List.getElem?_cons_zero, Option.bind_some, J1, JL, binf_geq, ifK_bool, decide_eq_true_eq, binf_add]
  split
  · exact fin_int (pre1 _ _)
  · rw [fin_int (pre1 _ _), wrap64 (by unfold isI64; omega)]
theorem c37 {e : DEnvelope} {held : Bool} {t : Int} {h : AHeap} (hl : liveE e = true) : Γ0 37 [.agg (walkV e held).toArray, .int .i64 (max 0 t)] h = some (.int .i64 (afterE e t held), h) := by
  obtain ⟨l1, l2, l3, l4, l5⟩ := live_ok hl
  have hlr := last_range l3
  refine gbody (F := A37) (by kernel_rfl) 1 ?_
  rw [s37_eq]
  unfold s37
  cases hc : circleE e held with
  | none =>
    have hw : walkV e held = [.int .i64 0, .int .i64 0, .bool false, .int .i64 (lastT e)] := by unfold walkV; rw [hc]
    have ha : afterE e t held = if max 0 t ≥ lastT e then lastT e else max 0 t + 1 := by unfold afterE; rw [if_pos hl, hc]
    rw [ha, hw]
    simp only [fork, cells_agg, fieldAddr_ptr, Nat.zero_add, Nat.add_zero, load_cell, readW, List.getElem?_cons_succ, List.getElem?_cons_zero, Option.bind_some, J1, JL, ifK_bool, Bool.false_eq_true, if_false, binf_geq, decide_eq_true_eq, binf_add]
    split
    · exact fin_int (pre1 _ _)
    · rw [fin_int (pre1 _ _), wrap64 (by unfold isI64; omega)]
  | some r =>
    obtain ⟨f, u⟩ := r
    have hr := circle_range l3 hc
    have hw : walkV e held = [.int .i64 f, .int .i64 u, .bool true, .int .i64 (lastT e)] := by unfold walkV; rw [hc]
    have ha : afterE e t held = if max 0 t ≥ u then f else max 0 t + 1 := by unfold afterE; rw [if_pos hl, hc]
    rw [ha, hw]
    simp only [fork, cells_agg, fieldAddr_ptr, Nat.zero_add, Nat.add_zero, load_cell, readW, readW2, load_agg, List.getElem?_cons_succ, List.getElem?_cons_zero, Option.bind_some, Option.map_some, J1, JL, ifK_bool, if_true, c52 f u (max 0 t) _ hr.2.2.2 (by omega)]
    exact fin_int (pre1 _ _)
theorem c11 {e : DEnvelope} {p : Value} {h : AHeap} (hp : Flat ptV 2 h p e.Points) (t : Int) (held : Bool) : Γ0 11 [.agg (envV e p).toArray, .int .i64 t, .bool held] h = some (.int .i64 (afterE e t held), h) := by
  refine gbody (F := A11) (by kernel_rfl) 1 ?_
  rw [s11_eq]
  unfold s11
  have bN : readN (h ++ [ABlk.cells (envV e p) 24 true]) h.length 0 8 = some (envV e p) := readN_all _ _ _ _ _ rfl
  have hp1 := hp.pre (pre1 h (.cells (envV e p) 24 true))
  simp only [fork, cells_agg, load_agg, bN, Option.map_some, Option.bind_some, c30 hp1, unf, JL, J1, ifK_bool, fold1_two, max2_i]
  cases hlv : liveE e with
  | false =>
    simp only [Bool.not_false, if_true, Bool.false_eq_true, if_false]
    unfold afterE
    rw [hlv]
    exact fin_int (pre1 _ _)
  | true =>
    obtain ⟨l1, l2, l3, l4, l5⟩ := live_ok hlv
    simp only [Bool.not_true, Bool.false_eq_true, if_false, if_true, c36 hp1 held l2 l1 l4 l5, Option.bind_some, c37 hlv]
    exact fin_int (pre1 _ _)
theorem c13 {e : DEnvelope} {p : Value} {h : AHeap} (hp : Flat ptV 2 h p e.Points) (t : Int) (held : Bool) : Γ0 13 [.agg (envV e p).toArray, .int .i64 t, .bool held] h = some (.bool (overE e t held), h) := by
  refine gbody (F := A13) (by kernel_rfl) 1 ?_
  rw [s13_eq]
  unfold s13
  have bN : readN (h ++ [ABlk.cells (envV e p) 24 true]) h.length 0 8 = some (envV e p) := readN_all _ _ _ _ _ rfl
  have hp1 := hp.pre (pre1 h (.cells (envV e p) 24 true))
  simp only [fork, cells_agg, load_agg, bN, Option.map_some, Option.bind_some, c30 hp1, unf, JL, J1, ifK_bool]
  unfold overE
  cases hlv : liveE e with
  | false =>
    simp only [Bool.not_false, if_true, Bool.false_eq_true, if_false, Bool.false_and]
    exact fin_bool (pre1 _ _)
  | true =>
    obtain ⟨l1, l2, l3, l4, l5⟩ := live_ok hlv
    have st : ∀ (H : AHeap), storef 4 (ptrTo H.length 0) (.agg (walkV e held).toArray) (H ++ [.cells z4 64 true]) = some (H ++ [.cells (walkV e held) 64 true]) := fun H => store_new _ _ _ _ _ (walk_len e held) rfl (walk_one e held)
    simp only [Bool.not_true, Bool.false_eq_true, if_false, if_true, c36 hp1 held l2 l1 l4 l5, Option.bind_some, st, fieldAddr_ptr, Nat.zero_add, Nat.add_zero, load_cell, readW, scK_and]
    cases hc : circleE e held with
    | none =>
      have hw : walkV e held = [.int .i64 0, .int .i64 0, .bool false, .int .i64 (lastT e)] := by unfold walkV; rw [hc]
      rw [hw]
      simp only [List.getElem?_cons_succ, List.getElem?_cons_zero, Option.bind_some, unf, Bool.not_false, scK_and, if_true, binf_geq, Option.isNone, Bool.and_true, Bool.true_and]
      exact fin_bool (pre2 _ _ _)
    | some r =>
      obtain ⟨f, u⟩ := r
      have hw : walkV e held = [.int .i64 f, .int .i64 u, .bool true, .int .i64 (lastT e)] := by unfold walkV; rw [hc]
      rw [hw]
      simp only [List.getElem?_cons_succ, List.getElem?_cons_zero, Option.bind_some, unf, Bool.not_true, scK_and, Bool.false_eq_true, if_false, Option.isNone, Bool.and_false, Bool.false_and]
      exact fin_bool (pre2 _ _ _)
end Go.Am.X
