/- Instruments: an envelope's value at a tick. -/
import Derived.Test.YteedbdkhlgongaaInValid
set_option linter.unusedSimpArgs false
set_option linter.unusedVariables false
namespace Go.Am.X

noncomputable def liveE (e : DEnvelope) : Bool := e.On && validE e (-64) 64
theorem c30 {e : DEnvelope} {p : Value} {h : AHeap} (hp : Flat ptV 2 h p e.Points) : Γ0 30 [.agg (envV e p).toArray] h = some (.bool (liveE e), h) := by
  refine gbody (F := A30) (by kernel_rfl) 1 ?_
  rw [s30_eq]
  unfold s30
  have b1 := box1 (List.prefix_refl (h ++ [.cells (envV e p) 24 true]))
  have bN : readN (h ++ [ABlk.cells (envV e p) 24 true]) h.length 0 8 = some (envV e p) := readN_all _ _ _ _ _ rfl
  have k7 := c7 (hp.pre (pre1 h (.cells (envV e p) 24 true))) (-64) 64
  simp only [fork, cells_agg, fieldAddr_ptr, Nat.zero_add, load_cell, b1, env0, Option.bind_some, J1, scK_and, load_agg, bN, Option.map_some, k7, fin_bool (pre1 _ _)]
  unfold liveE
  cases e.On <;> rfl
theorem c34 {e : DEnvelope} {p : Value} {h : AHeap} (hp : Flat ptV 2 h p e.Points) : Γ0 34 [.agg (envV e p).toArray] h = some (.bool (liveE e), h) := by
  refine gbody (F := A34) (by kernel_rfl) 1 ?_
  rw [s34_eq]
  unfold s34
  have b1 := box1 (List.prefix_refl (h ++ [.cells (envV e p) 24 true]))
  have bN : readN (h ++ [ABlk.cells (envV e p) 24 true]) h.length 0 8 = some (envV e p) := readN_all _ _ _ _ _ rfl
  have k8 := c8 (hp.pre (pre1 h (.cells (envV e p) 24 true))) (-64) 64
  simp only [fork, cells_agg, fieldAddr_ptr, Nat.zero_add, load_cell, b1, env0, Option.bind_some, J1, scK_and, load_agg, bN, Option.map_some, k8, fin_bool (pre1 _ _)]
  unfold liveE
  cases e.On <;> rfl
theorem floor_eq {a b : Int} (hb : 0 < b) : (if a.tmod b < 0 then a.tdiv b - 1 else a.tdiv b) = a / b := by
  have h1 := Int.tdiv_eq_ediv (a := a) (b := b)
  have h2 := Int.tmod_eq_emod (a := a) (b := b)
  have h3 := Int.emod_nonneg a (show b ≠ 0 by omega)
  have h4 := Int.emod_lt_of_pos a hb
  by_cases hc : 0 ≤ a ∨ b ∣ a
  · rw [if_pos hc] at h1 h2
    rw [if_neg (by omega)]
    omega
  · rw [if_neg hc] at h1 h2
    have hs : b.sign = 1 := Int.sign_eq_one_of_pos hb
    rw [hs] at h1
    have hn : (b.natAbs : Int) = b := by omega
    rw [hn] at h2
    rw [if_pos (by omega)]
    omega
theorem div_bounds {a b : Int} (hb : 0 < b) : (0 ≤ a → 0 ≤ a / b ∧ a / b ≤ a) ∧ (a < 0 → a ≤ a / b ∧ a / b ≤ 0) := by
  refine ⟨fun h => ⟨Int.ediv_nonneg h (by omega), Int.ediv_le_self _ h⟩, fun h => ⟨?_, ?_⟩⟩
  · rw [Int.le_ediv_iff_mul_le hb]
    have := Int.mul_le_mul_of_nonpos_left (a := a) (show a ≤ 0 by omega) (show (1 : Int) ≤ b by omega)
    rw [Int.mul_one] at this
    exact this
  · have := Int.ediv_neg_of_neg_of_pos h hb
    omega
theorem div64 {a b : Int} (hb : 0 < b) (ha : isI64 a) : isI64 (a / b) := by
  have := div_bounds (a := a) hb
  unfold isI64 at ha ⊢
  by_cases h : 0 ≤ a
  · have := this.1 h; omega
  · have := this.2 (by omega); omega
theorem tdiv64 {a b : Int} (hb : 0 < b) (ha : isI64 a) : isI64 (a.tdiv b) := by
  have h1 := floor_eq (a := a) hb
  have h2 := div_bounds (a := a) hb
  unfold isI64 at ha ⊢
  split at h1
  · by_cases h : 0 ≤ a
    · have := Int.tmod_nonneg b h; omega
    · have := h2.2 (by omega); omega
  · by_cases h : 0 ≤ a
    · have := h2.1 h; omega
    · have := h2.2 (by omega); omega
theorem c33 {a b : Int} (hb : 0 < b) (ha : isI64 a) (h : AHeap) : Γ0 33 [.int .i64 a, .int .i64 b] h = some (.int .i64 (a / b), h) := by
  refine gbody (F := A33) (by kernel_rfl) 1 ?_
  rw [s33_eq]
  unfold s33
  simp only [binf_quo _ _ _ (show b ≠ 0 by omega), binf_rem _ _ _ (show b ≠ 0 by omega), Option.bind_some, wrap64 (tdiv64 hb ha), binf_lss, JL, ifK_bool, decide_eq_true_eq, nth_zero, binf_sub, fin_self, single]
  have e := floor_eq (a := a) hb
  split
  · rename_i hc
    rw [if_pos hc] at e
    rw [e, wrap64 (div64 hb ha)]
  · rename_i hc
    rw [if_neg hc] at e
    rw [e]
theorem c35 {a b : Int} (hb : 0 < b) (ha : isI64 a) (h : AHeap) : Γ0 35 [.int .i64 a, .int .i64 b] h = some (.int .i64 (a / b), h) := by
  refine gbody (F := A35) (by kernel_rfl) 1 ?_
  rw [s35_eq]
  unfold s35
  simp only [binf_quo _ _ _ (show b ≠ 0 by omega), binf_rem _ _ _ (show b ≠ 0 by omega), Option.bind_some, wrap64 (tdiv64 hb ha), binf_lss, JL, ifK_bool, decide_eq_true_eq, nth_zero, binf_sub, fin_self, single]
  have e := floor_eq (a := a) hb
  split
  · rename_i hc
    rw [if_pos hc] at e
    rw [e, wrap64 (div64 hb ha)]
  · rename_i hc
    rw [if_neg hc] at e
    rw [e]

/-- The value between two points. -/
def between (a b : DPoint) (t : Int) : Int := a.Value_ + (b.Value_ - a.Value_) * (t - a.Tick) / (b.Tick - a.Tick)
/-- The first point behind a tick. -/
def later (t : Int) (q : DPoint) : Bool := decide (q.Tick > t)
noncomputable def valueE (e : DEnvelope) (t : Int) : Int :=
  if liveE e = true then match e.Points.findIdx? (later t) with
    | none => (e.Points.getLastD ⟨0, 0⟩).Value_
    | some 0 => (e.Points.headD ⟨0, 0⟩).Value_
    | some (i + 1) => match e.Points[i]?, e.Points[i + 1]? with
      | some a, some b => between a b t
      | _, _ => 0
  else 0
theorem live_ok {e : DEnvelope} (h : liveE e = true) : e.Points.length ≤ 16 ∧ 0 < e.Points.length ∧ okPts e.Points (-64) 64 ∧ paired e.Sus e.SusStart e.SusEnd e.Points.length = true ∧ paired e.Loop e.LoopStart e.LoopEnd e.Points.length = true := by
  unfold liveE validE at h
  simp only [Bool.and_eq_true, cdec_iff] at h
  obtain ⟨h1, ⟨⟨h2, h3, h4⟩, h5⟩, h6⟩ := h
  exact ⟨h2, h3 h1, h4, h5, h6⟩
theorem pts_asc {l : List DPoint} {lo hi : Int} (hok : okPts l lo hi) : ∀ (d i : Nat) a b, l[i]? = some a → l[i + d + 1]? = some b → a.Tick < b.Tick := by
  intro d
  induction d with
  | zero => intro i a b ha hb; exact (hok (i + 1) b hb).2.1 a (by omega) ha
  | succ d ih =>
    intro i a b ha hb
    have hlt := (List.getElem?_eq_some_iff.1 hb).1
    obtain ⟨c, hc⟩ := lt_len (show i + d + 1 < l.length by omega)
    have h1 := ih i a c ha hc
    have h2 := (hok (i + (d + 1) + 1) b hb).2.1 c (by omega) (by rw [show i + (d + 1) + 1 - 1 = i + d + 1 by omega]; exact hc)
    omega
theorem pts_nonneg {l : List DPoint} {lo hi : Int} (hok : okPts l lo hi) {i : Nat} {a : DPoint} (ha : l[i]? = some a) : 0 ≤ a.Tick ∧ a.Tick ≤ 9999 := by
  refine ⟨?_, (hok i a ha).2.2.1⟩
  by_cases h0 : i = 0
  · have := (hok i a ha).1 h0; omega
  · obtain ⟨z, hz⟩ := lt_len (show 0 < l.length by have := (List.getElem?_eq_some_iff.1 ha).1; omega)
    have h1 := (hok 0 z hz).1 rfl
    have h2 := pts_asc hok (i - 1) 0 z a hz (by rw [show 0 + (i - 1) + 1 = i by omega]; exact ha)
    omega
theorem c32 {q : DPoint} {t : Int} {h : AHeap} {b0 : Nat} (hb : readC h b0 0 = some (.int .i64 t)) : Γ0 32 [.agg (ptV q).toArray, ptrTo b0 0] h = some (.bool (later t q), h) := by
  refine gbody (F := A32) (by kernel_rfl) 1 ?_
  rw [s32_eq]
  unfold s32
  have bN : ∀ k, readC (h ++ [ABlk.cells (ptV q) 37 true]) h.length k = (ptV q)[k]? := fun k => readC_new _ _ _ _ _
  simp only [fork, cells_agg, fieldAddr_ptr, Nat.zero_add, load_cell, bN, pt0, Option.bind_some, readC_app hb, binf_gtr, fin_bool (pre1 _ _)]
  rfl
theorem c31 {l : List DPoint} {p : Value} {t : Int} {h : AHeap} {b0 : Nat} (hp : Flat ptV 2 h p l) (hb : readC h b0 0 = some (.int .i64 t)) (hm : l.length ≤ mostLen) :
    Γ0 31 [p, .func (.func 32) (List.toArray []) (List.toArray [ptrTo b0 0])] h = some (.int .i64 (idxf (later t) l), h) := by
  refine gbody (F := A31) (by kernel_rfl) (l.length + 1) ?_
  rw [s31_eq]
  unfold s31
  simp only [hp.len, Option.bind_some, JL]
  refine loop_ok (len := l.length) (fun i vs h' => vs = [.int .i64 i] ∧ h = h' ∧ ∀ j, j < i → ∀ b, l[j]? = some b → later t b = false) (fun r : Rt => r = some (.int .i64 (idxf (later t) l), h)) ?_ ?_ (l.length + 1) 0 _ _ ⟨rfl, rfl, fun j hj => by omega⟩ (Nat.zero_le _) (by omega)
  · rintro i _ _ hi ⟨rfl, rfl, hb'⟩
    obtain ⟨a, ha⟩ := lt_len hi
    obtain ⟨b, o, g1, g2, _⟩ := hp.at_ i a ha
    have g3 : callVf Γ0 (.func (.func 32) (List.toArray []) (List.toArray [ptrTo b0 0])) [.agg (ptV a).toArray] h = some (.bool (later t a), h) := by
      rw [callVf_func Γ0 32]
      exact c32 hb
    cases hq : later t a with
    | true =>
      refine .inr ⟨some (.int .i64 i, h), by rw [idxf_at ha hq hb'], fun K => ?_⟩
      unfold s31_L0
      simp only [nth_zero, binf_lss, Option.bind_some, JL, ifK_bool, decide_eq_true_eq]
      rw [if_pos (by omega)]
      simp only [g1, Option.bind_some, load_agg, g2, Option.map_some, g3, hq, ifK_bool, if_true, fin_self, single]
    | false =>
      refine .inl ⟨[.int .i64 ((i + 1 : Nat) : Int)], h, ⟨rfl, rfl, fun j hj b hb2 => ?_⟩, fun K => ?_⟩
      · by_cases hji : j = i
        · subst hji; rw [ha] at hb2; cases hb2; exact hq
        · exact hb' j (by omega) b hb2
      · unfold s31_L0
        unfold mostLen at hm
        simp only [nth_zero, binf_lss, Option.bind_some, JL, ifK_bool, decide_eq_true_eq, binf_add]
        rw [if_pos (by omega)]
        simp only [g1, Option.bind_some, load_agg, g2, Option.map_some, g3, hq, ifK_bool, Bool.false_eq_true, if_false, succ64 (show i < 4294967297 by omega)]
  · rintro _ _ ⟨rfl, rfl, hb'⟩
    refine ⟨some (.int .i64 (-1), h), by rw [idxf_none fun j b hj => hb' j (List.getElem?_eq_some_iff.1 hj).1 b hj], fun K => ?_⟩
    unfold s31_L0
    simp only [nth_zero, binf_lss, Option.bind_some, JL, ifK_bool, decide_eq_true_eq]
    rw [if_neg (by omega), fin_self]
    rfl
end Go.Am.X
