/- Instruments: the tick that follows, and the end of an envelope, both sides. -/
import Derived.Test.YteedbdkhlgongaaInAt
set_option linter.unusedSimpArgs false
set_option linter.unusedVariables false
namespace Go.Am.X

theorem store_at (H Z : AHeap) (cs : List Value) (t : TypeId) (v : Value) (n k : Nat) (h1 : (cellsL v).length = n) (h2 : k + n ≤ cs.length) (h3 : (cellsL v).all oneC = true) :
    storef n (ptrTo H.length k) v (H ++ [.cells cs t true] ++ Z) = some (H ++ [.cells (cs.take k ++ cellsL v ++ cs.drop (k + n)) t true] ++ Z) := by
  simp only [storef, ptrTo]
  rw [if_pos h1]
  unfold writeN
  have e : (H ++ [ABlk.cells cs t true] ++ Z)[H.length]? = some (.cells cs t true) := by
    rw [List.append_assoc, List.getElem?_append_right (Nat.le_refl _)]; simp
  rw [e]
  show (if _ ∧ _ then some _ else none) = _
  rw [if_pos ⟨by omega, h3⟩, h1]
  congr 1
  rw [List.append_assoc, List.set_append_right _ _ (Nat.le_refl _), List.append_assoc]
  simp
theorem read_at (H Z : AHeap) (cs : List Value) (t : TypeId) (r : Bool) (k : Nat) : readC (H ++ [.cells cs t r] ++ Z) H.length k = cs[k]? := by
  unfold readC
  have e : (H ++ [ABlk.cells cs t r] ++ Z)[H.length]? = some (.cells cs t r) := by
    rw [List.append_assoc, List.getElem?_append_right (Nat.le_refl _)]; simp
  rw [e]
theorem readN_at' (H Z : AHeap) (cs : List Value) (t : TypeId) (r : Bool) (n : Nat) (hn : cs.length = n) : readN (H ++ [.cells cs t r] ++ Z) H.length 0 n = some cs := by
  unfold readN
  have e : (H ++ [ABlk.cells cs t r] ++ Z)[H.length]? = some (.cells cs t r) := by
    rw [List.append_assoc, List.getElem?_append_right (Nat.le_refl _)]; simp
  rw [e]
  show (if _ then _ else _) = _
  rw [if_pos (by omega), List.drop_zero, List.take_of_length_le (by omega)]
/-- The tick of a point by its number. -/
def tickAt (e : DEnvelope) (i : Int) : Int := ((e.Points[i.toNat]?).getD ⟨0, 0⟩).Tick
def lastT (e : DEnvelope) : Int := (e.Points.getLastD ⟨0, 0⟩).Tick
def circleE (e : DEnvelope) (held : Bool) : Option (Int × Int) :=
  if (held && e.Sus) = true then some (tickAt e e.SusStart, tickAt e e.SusEnd) else if e.Loop = true then some (tickAt e e.LoopStart, tickAt e e.LoopEnd) else none
noncomputable def afterE (e : DEnvelope) (t : Int) (held : Bool) : Int :=
  if liveE e = true then match circleE e held with
    | some (f, to_) => if max 0 t ≥ to_ then f else max 0 t + 1
    | none => if max 0 t ≥ lastT e then lastT e else max 0 t + 1
  else 0
noncomputable def overE (e : DEnvelope) (t : Int) (held : Bool) : Bool := liveE e && (circleE e held).isNone && decide (t ≥ lastT e)
theorem tick_at {e : DEnvelope} {p : Value} {H : AHeap} (hp : Flat ptV 2 H p e.Points) {i : Int} (h0 : 0 ≤ i) (h1 : i < e.Points.length) : ∃ b o, indexAddrf 2 p (.int .i64 i) = some (ptrTo b o) ∧ readC H b o = some (.int .i64 (tickAt e i)) := by
  obtain ⟨n, rfl⟩ : ∃ n : Nat, i = n := ⟨i.toNat, by omega⟩
  obtain ⟨q, hq⟩ := lt_len (show n < e.Points.length by omega)
  obtain ⟨b, o, g1, g2, g3, g4⟩ := flat_pt hp hq
  exact ⟨b, o, g1, by rw [g3]; unfold tickAt; rw [Int.toNat_natCast, hq]; rfl⟩
theorem last_at {e : DEnvelope} {p : Value} {H : AHeap} (hp : Flat ptV 2 H p e.Points) (h0 : 0 < e.Points.length) : ∃ b o, indexAddrf 2 p (.int .i64 ((e.Points.length : Int) - 1)) = some (ptrTo b o) ∧ readC H b o = some (.int .i64 (lastT e)) := by
  obtain ⟨b, o, g1, g2⟩ := tick_at hp (i := (e.Points.length : Int) - 1) (by omega) (by omega)
  refine ⟨b, o, g1, ?_⟩
  rw [g2]
  unfold tickAt lastT
  rw [List.getLastD_eq_getLast?, List.getLast?_eq_getElem?, show ((e.Points.length : Int) - 1).toNat = e.Points.length - 1 by omega]
theorem paired_on {on : Bool} {a b n : Int} (h : paired on a b n = true) (hon : on = true) : 0 ≤ a ∧ a ≤ b ∧ b < n := by
  subst hon
  simp [paired] at h
  exact ⟨h.1.1, h.1.2, h.2⟩
theorem tick_range {e : DEnvelope} (hok : okPts e.Points (-64) 64) (i : Int) : 0 ≤ tickAt e i ∧ tickAt e i ≤ 9999 := by
  unfold tickAt
  cases hq : e.Points[i.toNat]? with
  | none => simp
  | some q => exact pts_nonneg hok hq
theorem last_range {e : DEnvelope} (hok : okPts e.Points (-64) 64) : 0 ≤ lastT e ∧ lastT e ≤ 9999 := by
  unfold lastT
  rw [List.getLastD_eq_getLast?, List.getLast?_eq_getElem?]
  cases hq : e.Points[e.Points.length - 1]? with
  | none => simp
  | some q => exact pts_nonneg hok hq
theorem c39 {e : DEnvelope} {p : Value} {h : AHeap} (hp : Flat ptV 2 h p e.Points) (h0 : 0 < e.Points.length) (h16 : e.Points.length ≤ 16) : Γ0 39 [.agg (envV e p).toArray] h = some (.int .i64 (lastT e), h) := by
  refine gbody (F := A39) (by kernel_rfl) 1 ?_
  rw [s39_eq]
  unfold s39
  have bE := box1 (p := p) (e := e) (h := h) (List.prefix_refl _)
  have hp1 := hp.pre (pre1 h (.cells (envV e p) 24 true))
  obtain ⟨b, o, g1, g2⟩ := last_at hp1 h0
  have hs : IntKind.i64.wrap ((e.Points.length : Int) - 1) = (e.Points.length : Int) - 1 := wrap64 (by unfold isI64; omega)
  simp only [fork, cells_agg, fieldAddr_ptr, Nat.zero_add, Nat.add_zero, load_cell, bE, env1, Option.bind_some, hp1.len, binf_sub, hs, g1, g2]
  exact fin_int (pre1 _ _)
theorem c38 {e : DEnvelope} {p : Value} {h : AHeap} (hp : Flat ptV 2 h p e.Points) (held : Bool) (l4 : paired e.Sus e.SusStart e.SusEnd e.Points.length = true) (l5 : paired e.Loop e.LoopStart e.LoopEnd e.Points.length = true) :
    Γ0 38 [.agg (envV e p).toArray, .bool held] h = some (match circleE e held with | some (f, t) => .tuple [.int .i64 f, .int .i64 t, .bool true].toArray | none => .tuple [.int .i64 0, .int .i64 0, .bool false].toArray, h) := by
  refine gbody (F := A38) (by kernel_rfl) 1 ?_
  rw [s38_eq]
  unfold s38
  have bE := box1 (p := p) (e := e) (h := h) (List.prefix_refl _)
  have hp1 := hp.pre (pre1 h (.cells (envV e p) 24 true))
  simp only [fork, cells_agg, fieldAddr_ptr, Nat.zero_add, Nat.add_zero, load_cell, bE, env1, env2, env3, env4, env5, env6, env7, Option.bind_some, J1, JL, scK_and, ifK_bool]
  have f3 : ∀ a b c, fin h (h ++ [ABlk.cells (envV e p) 24 true]) [.int .i64 a, .int .i64 b, .bool c] = some (.tuple [.int .i64 a, .int .i64 b, .bool c].toArray, h) := fun a b c => fin_gc rfl (pre1 _ _)
  have loop : ∀ X : Rt, (if e.Loop = true then (indexAddrf 2 p (.int .i64 e.LoopStart)).bind fun v33 => (fieldAddrf 0 v33).bind fun v34 => (loadf false 1 v34 (h ++ [ABlk.cells (envV e p) 24 true])).bind fun v35 =>
      (indexAddrf 2 p (.int .i64 e.LoopEnd)).bind fun v40 => (fieldAddrf 0 v40).bind fun v41 => (loadf false 1 v41 (h ++ [ABlk.cells (envV e p) 24 true])).bind fun v42 => fin h (h ++ [ABlk.cells (envV e p) 24 true]) [v35, v42, .bool true] else X) =
      if e.Loop = true then some (.tuple [.int .i64 (tickAt e e.LoopStart), .int .i64 (tickAt e e.LoopEnd), .bool true].toArray, h) else X := by
    intro X
    cases hl : e.Loop with
    | false => simp only [Bool.false_eq_true, if_false]
    | true =>
      obtain ⟨k1, k2, k3⟩ := paired_on l5 hl
      obtain ⟨b, o, g1, g2⟩ := tick_at hp1 (i := e.LoopStart) k1 (by omega)
      obtain ⟨b', o', g3, g4⟩ := tick_at hp1 (i := e.LoopEnd) (by omega) k3
      simp only [if_true, g1, g3, Option.bind_some, fieldAddr_ptr, Nat.add_zero, load_cell, g2, g4, f3]
  unfold circleE
  cases held with
  | false =>
    simp only [Bool.false_eq_true, if_false, Bool.false_and]
    rw [loop]
    cases e.Loop
    · simp only [Bool.false_eq_true, if_false, f3]
    · simp only [if_true]
  | true =>
    simp only [if_true, Bool.true_and]
    cases hs : e.Sus with
    | false =>
      simp only [Bool.false_eq_true, if_false]
      rw [loop]
      cases e.Loop
      · simp only [Bool.false_eq_true, if_false, f3]
      · simp only [if_true]
    | true =>
      obtain ⟨k1, k2, k3⟩ := paired_on l4 hs
      obtain ⟨b, o, g1, g2⟩ := tick_at hp1 (i := e.SusStart) k1 (by omega)
      obtain ⟨b', o', g3, g4⟩ := tick_at hp1 (i := e.SusEnd) (by omega) k3
      simp only [if_true, g1, g3, Option.bind_some, fieldAddr_ptr, Nat.add_zero, load_cell, g2, g4, f3]
theorem c14 {e : DEnvelope} {p : Value} {h : AHeap} (hp : Flat ptV 2 h p e.Points) (t : Int) (held : Bool) : Γ0 14 [.agg (envV e p).toArray, .int .i64 t, .bool held] h = some (.bool (overE e t held), h) := by
  refine gbody (F := A14) (by kernel_rfl) 1 ?_
  rw [s14_eq]
  unfold s14
  have bN : readN (h ++ [ABlk.cells (envV e p) 24 true]) h.length 0 8 = some (envV e p) := readN_all _ _ _ _ _ rfl
  have hp1 := hp.pre (pre1 h (.cells (envV e p) 24 true))
  simp only [fork, cells_agg, load_agg, bN, Option.map_some, Option.bind_some, c34 hp1, unf, JL, J1, ifK_bool]
  unfold overE
  cases hlv : liveE e with
  | false =>
    simp only [Bool.not_false, if_true, Bool.false_and]
    exact fin_bool (pre1 _ _)
  | true =>
    obtain ⟨l1, l2, l3, l4, l5⟩ := live_ok hlv
    simp only [Bool.not_true, Bool.false_eq_true, if_false, c38 hp1 held l4 l5, Option.bind_some, Bool.true_and]
    cases hc : circleE e held with
    | some ft =>
      obtain ⟨f, to_⟩ := ft
      simp only [extractf, List.getElem?_toArray, List.getElem?_cons_zero, List.getElem?_cons_succ, Option.bind_some, Bool.not_true, scK_and, Bool.false_eq_true, if_false, Option.isNone_some, Bool.false_and]
      exact fin_bool (pre1 _ _)
    | none =>
      simp only [extractf, List.getElem?_toArray, List.getElem?_cons_zero, List.getElem?_cons_succ, Option.bind_some, Bool.not_false, scK_and, if_true, Option.isNone_none, Bool.true_and, bN, Option.map_some, c39 hp1 l2 l1, binf_geq]
      exact fin_bool (pre1 _ _)
theorem max_comm' (t : Int) : max t 0 = max 0 t := Int.max_comm _ _
theorem c12 {e : DEnvelope} {p : Value} {h : AHeap} (hp : Flat ptV 2 h p e.Points) (t : Int) (held : Bool) : Γ0 12 [.agg (envV e p).toArray, .int .i64 t, .bool held] h = some (.int .i64 (afterE e t held), h) := by
  refine gbody (F := A12) (by kernel_rfl) 1 ?_
  rw [s12_eq]
  unfold s12
  have bN : readN (h ++ [ABlk.cells (envV e p) 24 true]) h.length 0 8 = some (envV e p) := readN_all _ _ _ _ _ rfl
  have hp1 := hp.pre (pre1 h (.cells (envV e p) 24 true))
  simp only [fork, cells_agg, load_agg, bN, Option.map_some, Option.bind_some, c34 hp1, unf, JL, J1, ifK_bool, fold1_two, max2_i, max_comm']
  unfold afterE
  cases hlv : liveE e with
  | false =>
    simp only [Bool.not_false, if_true, Bool.false_eq_true, if_false]
    exact fin_int (pre1 _ _)
  | true =>
    obtain ⟨l1, l2, l3, l4, l5⟩ := live_ok hlv
    have lr := last_range l3
    simp only [Bool.not_true, Bool.false_eq_true, if_false, if_true, c38 hp1 held l4 l5, Option.bind_some]
    cases hc : circleE e held with
    | some ft =>
      obtain ⟨f, to_⟩ := ft
      have hto : to_ ≤ 9999 := by
        unfold circleE at hc
        split at hc
        · cases hc; exact (tick_range l3 _).2
        · split at hc
          · cases hc; exact (tick_range l3 _).2
          · cases hc
      simp only [extractf, List.getElem?_toArray, List.getElem?_cons_zero, List.getElem?_cons_succ, Option.bind_some, scK_and, if_true, binf_geq, ifK_bool, decide_eq_true_eq, binf_add]
      split
      · rw [fin_int (pre1 _ _)]
      · rw [fin_int (pre1 _ _), wrap64 (by unfold isI64; omega)]
    | none =>
      simp only [extractf, List.getElem?_toArray, List.getElem?_cons_zero, List.getElem?_cons_succ, Option.bind_some, scK_and, Bool.false_eq_true, if_false, binf_geq, ifK_bool, decide_eq_true_eq, binf_add, bN, Option.map_some, c39 hp1 l2 l1]
      split
      · rw [fin_int (pre1 _ _)]
      · rw [fin_int (pre1 _ _), wrap64 (by unfold isI64; omega)]
end Go.Am.X
