/- Instruments: an envelope's value at a tick, both sides. -/
import Derived.Test.YteedbdkhlgongaaInValue
set_option linter.unusedSimpArgs false
set_option linter.unusedVariables false
namespace Go.Am.X

theorem prod_bound {x y : Int} (hx : -128 ≤ x ∧ x ≤ 128) (hy : 0 ≤ y ∧ y ≤ 9999) : -1279872 ≤ x * y ∧ x * y ≤ 1279872 := by
  have h1 := Int.mul_le_mul_of_nonneg_right hx.2 hy.1
  have h2 := Int.mul_le_mul_of_nonneg_right hx.1 hy.1
  omega
theorem store_pt2 (H : AHeap) (x y : Value) (Z : ABlk) (q : DPoint) : storef 2 (ptrTo H.length 0) (.agg (ptV q).toArray) (H ++ [.cells [x, y] 37 true] ++ [Z]) = some (H ++ [.cells (ptV q) 37 true] ++ [Z]) := by
  simp only [storef, ptrTo]
  rw [if_pos (show (cellsL (.agg (ptV q).toArray)).length = 2 from rfl)]
  unfold writeN
  have e : (H ++ [ABlk.cells [x, y] 37 true] ++ [Z])[H.length]? = some (.cells [x, y] 37 true) := by simp
  rw [e]
  show (if _ ∧ _ then some _ else none) = _
  rw [if_pos ⟨Nat.le_refl 2, rfl⟩]
  simp [cellsL, ptV]
theorem len_same (H : AHeap) (X Y : ABlk) : (H ++ [X]).length = (H ++ [Y]).length := by simp
theorem store_pt3 (H : AHeap) (x y : Value) (X Y : ABlk) (q : DPoint) : storef 2 (ptrTo (H ++ [X]).length 0) (.agg (ptV q).toArray) (H ++ [Y] ++ [.cells [x, y] 37 true]) = some (H ++ [Y] ++ [.cells (ptV q) 37 true]) := by
  rw [len_same H X Y]
  exact store_pt _ _ _ _
theorem read_pt2 (H : AHeap) (A B : DPoint) (k : Nat) : readC (H ++ [.cells (ptV A) 37 true] ++ [.cells (ptV B) 37 true]) H.length k = (ptV A)[k]? := by
  unfold readC
  rw [app_get (by simp), List.getElem?_concat_length]
theorem read_pt3 (H : AHeap) (A B : DPoint) (X : ABlk) (k : Nat) : readC (H ++ [.cells (ptV A) 37 true] ++ [.cells (ptV B) 37 true]) (H ++ [X]).length k = (ptV B)[k]? := by
  rw [len_same H X (.cells (ptV A) 37 true)]
  exact readC_new _ _ _ _ _
theorem cells_int (k : IntKind) (n : Int) : cellsL (.int k n) = [.int k n] := rfl
theorem flat_pt {h : AHeap} {x : Value} {l : List DPoint} (f : Flat ptV 2 h x l) {i : Nat} {a : DPoint} (hi : l[i]? = some a) :
    ∃ b o, indexAddrf 2 x (.int .i64 i) = some (ptrTo b o) ∧ readN h b o 2 = some (ptV a) ∧ readC h b o = some (.int .i64 a.Tick) ∧ readC h b (o + 1) = some (.int .i64 a.Value_) := by
  obtain ⟨b, o, g1, g2, _⟩ := f.at_ i a hi
  exact ⟨b, o, g1, g2, by have := readC_of_readN g2 (i := 0) rfl; simpa using this, readC_of_readN g2 (i := 1) rfl⟩
/-- Numbers of two neighbours around a tick. -/
theorem mid_ok {l : List DPoint} {i : Nat} {a b : DPoint} {t : Int} (hok : okPts l (-64) 64) (ha : l[i]? = some a) (hb : l[i + 1]? = some b) (h1 : a.Tick ≤ t) (h2 : t < b.Tick) :
    IntKind.i64.wrap (b.Value_ - a.Value_) = b.Value_ - a.Value_ ∧ IntKind.i64.wrap (t - a.Tick) = t - a.Tick ∧ IntKind.i64.wrap (b.Tick - a.Tick) = b.Tick - a.Tick ∧ 0 < b.Tick - a.Tick ∧
      IntKind.i64.wrap ((b.Value_ - a.Value_) * (t - a.Tick)) = (b.Value_ - a.Value_) * (t - a.Tick) ∧ isI64 ((b.Value_ - a.Value_) * (t - a.Tick)) ∧ IntKind.i64.wrap (a.Value_ + (b.Value_ - a.Value_) * (t - a.Tick) / (b.Tick - a.Tick)) = between a b t := by
  have k1 := hok i a ha
  have k2 := hok (i + 1) b hb
  have k3 := pts_nonneg hok ha
  have k4 := pts_nonneg hok hb
  have v1 := k1.2.2.2
  have v2 := k2.2.2.2
  have hp := prod_bound (x := b.Value_ - a.Value_) (y := t - a.Tick) (by omega) (by omega)
  have hd := div_bounds (a := (b.Value_ - a.Value_) * (t - a.Tick)) (b := b.Tick - a.Tick) (by omega)
  have hi : isI64 ((b.Value_ - a.Value_) * (t - a.Tick)) := by unfold isI64; omega
  have hq : -1279872 ≤ (b.Value_ - a.Value_) * (t - a.Tick) / (b.Tick - a.Tick) ∧ (b.Value_ - a.Value_) * (t - a.Tick) / (b.Tick - a.Tick) ≤ 1279872 := by
    by_cases h : 0 ≤ (b.Value_ - a.Value_) * (t - a.Tick)
    · have := hd.1 h; omega
    · have := hd.2 (by omega); omega
  refine ⟨wrap64 (by unfold isI64; omega), wrap64 (by unfold isI64; omega), wrap64 (by unfold isI64; omega), by omega, wrap64 hi, hi, wrap64 (by unfold isI64; omega)⟩
theorem c9 {e : DEnvelope} {p : Value} {h : AHeap} (hp : Flat ptV 2 h p e.Points) (t : Int) : Γ0 9 [.agg (envV e p).toArray, .int .i64 t] h = some (.int .i64 (valueE e t), h) := by
  refine gbody (F := A9) (by kernel_rfl) 1 ?_
  rw [s9_eq]
  unfold s9
  simp only [fork, cells_agg, cells_int]
  have pre : h <+: h ++ [ABlk.cells (envV e p) 24 true] ++ [ABlk.cells [.int .i64 t] 3 true] := pre2 _ _ _
  have bE := box1 (p := p) (e := e) (h := h) (pre1 (h ++ [.cells (envV e p) 24 true]) (.cells [.int .i64 t] 3 true))
  have bN : readN (h ++ [ABlk.cells (envV e p) 24 true] ++ [ABlk.cells [.int .i64 t] 3 true]) h.length 0 8 = some (envV e p) := readN_app (readN_all _ _ _ _ _ rfl) _
  have bT : readC (h ++ [ABlk.cells (envV e p) 24 true] ++ [ABlk.cells [.int .i64 t] 3 true]) (h ++ [ABlk.cells (envV e p) 24 true]).length 0 = some (.int .i64 t) := by rw [readC_new]; rfl
  generalize h ++ [ABlk.cells (envV e p) 24 true] ++ [ABlk.cells [.int .i64 t] 3 true] = H at pre bE bN bT ⊢
  generalize (h ++ [ABlk.cells (envV e p) 24 true]).length = c at bT ⊢
  have hpH := hp.pre pre
  simp only [load_agg, bN, Option.map_some, Option.bind_some, c30 hpH, unf, JL, ifK_bool]
  cases hlv : liveE e with
  | false =>
    simp only [Bool.not_false, if_true]
    unfold valueE
    rw [hlv, fin_int pre]
    rfl
  | true =>
    obtain ⟨l1, l2, l3, l4, l5⟩ := live_ok hlv
    have hm : e.Points.length ≤ mostLen := by unfold mostLen; omega
    simp only [Bool.not_true, Bool.false_eq_true, if_false, fieldAddr_ptr, Nat.zero_add, load_cell, bE, env1, Option.bind_some, c31 hpH bT hm, binf_eql, ifK_bool, beq_iff_eq]
    cases hfi : e.Points.findIdx? (later t) with
    | none =>
      have hid : idxf (later t) e.Points = -1 := by unfold idxf; rw [hfi]
      have hval : valueE e t = (e.Points.getLastD ⟨0, 0⟩).Value_ := by unfold valueE; rw [hlv, hfi]; rfl
      obtain ⟨q, hq⟩ := lt_len (show e.Points.length - 1 < e.Points.length by omega)
      obtain ⟨b, o, g1, g2, g3, g4⟩ := flat_pt hpH hq
      have hs : IntKind.i64.wrap ((e.Points.length : Int) - 1) = ((e.Points.length - 1 : Nat) : Int) := by rw [wrap64 (by unfold isI64; omega)]; omega
      have hlast : (e.Points.getLastD ⟨0, 0⟩) = q := by
        rw [List.getLastD_eq_getLast?, List.getLast?_eq_getElem?, hq]; rfl
      rw [hid, if_pos rfl]
      simp only [hpH.len, Option.bind_some, binf_sub, hs, g1, fieldAddr_ptr, load_cell, g4]
      rw [fin_int pre, hval, hlast]
    | some i0 =>
      have hid : idxf (later t) e.Points = (i0 : Int) := by unfold idxf; rw [hfi]
      obtain ⟨hlt, hp0, hpb⟩ := List.findIdx?_eq_some_iff_getElem.1 hfi
      rw [hid, if_neg (by omega)]
      cases i0 with
      | zero =>
        have hval : valueE e t = (e.Points.headD ⟨0, 0⟩).Value_ := by unfold valueE; rw [hlv, hfi]; rfl
        obtain ⟨q, hq⟩ := lt_len hlt
        obtain ⟨b, o, g1, g2, g3, g4⟩ := flat_pt hpH hq
        have hhead : e.Points.headD ⟨0, 0⟩ = q := by
          cases hl : e.Points with
          | nil => rw [hl] at hq; cases hq
          | cons x xs => rw [hl] at hq; cases hq; rfl
        rw [if_pos (by omega)]
        have g1' : indexAddrf 2 p (.int .i64 0) = some (ptrTo b o) := g1
        simp only [g1', Option.bind_some, fieldAddr_ptr, load_cell, g4]
        rw [fin_int pre, hval, hhead]
      | succ i =>
        obtain ⟨a, ha⟩ := lt_len (show i < e.Points.length by omega)
        obtain ⟨b', hb'⟩ := lt_len hlt
        have hval : valueE e t = between a b' t := by
          unfold valueE
          rw [hlv, hfi]
          simp only [if_true, ha, hb']
        obtain ⟨b1, o1, g1, g2, g3, g4⟩ := flat_pt hpH ha
        obtain ⟨b2, o2, k1, k2, k3, k4⟩ := flat_pt hpH hb'
        have hs : IntKind.i64.wrap (((i + 1 : Nat) : Int) - 1) = (i : Int) := by rw [wrap64 (by unfold isI64; omega)]; omega
        have t1 : a.Tick ≤ t := by
          have := hpb i (by omega)
          have e1 : e.Points[i] = a := (List.getElem?_eq_some_iff.1 ha).2
          rw [e1] at this
          simpa [later] using this
        have t2 : t < b'.Tick := by
          have e1 : e.Points[i + 1] = b' := (List.getElem?_eq_some_iff.1 hb').2
          rw [e1] at hp0
          simpa [later] using hp0
        obtain ⟨m1, m2, m3, m4, m5, m6, m7⟩ := mid_ok l3 ha hb' t1 t2
        rw [if_neg (by omega)]
        have bT2 : ∀ X Y, readC (H ++ [X] ++ [Y]) c 0 = some (.int .i64 t) := fun X Y => readC_app (readC_app bT _) _
        simp only [Option.bind_some, binf_sub, hs, g1, load_agg, g2, k1, k2, Option.map_some, store_pt2, store_pt3, fieldAddr_ptr, Nat.zero_add, load_cell, read_pt2, read_pt3, pt0, pt1, m1, bT2, m2, binf_mul, m5, m3, c33 m4 m6, sameQ_self, binf_add, m7]
        rw [fin_int (pre_trans pre (pre2 _ _ _)), hval]
theorem value_last {e : DEnvelope} {t : Int} {q : DPoint} (hlv : liveE e = true) (hok : okPts e.Points (-64) 64) {i : Nat} (hi : i + 1 = e.Points.length) (hq : e.Points[i]? = some q) (ht : q.Tick ≤ t) : valueE e t = q.Value_ := by
  have hn : e.Points.findIdx? (later t) = none := by
    rw [List.findIdx?_eq_none_iff]
    intro x hx
    obtain ⟨j, hj⟩ := List.getElem?_of_mem hx
    have hjl := (List.getElem?_eq_some_iff.1 hj).1
    by_cases hji : j = i
    · subst hji; rw [hq] at hj; cases hj; simp [later]; omega
    · have := pts_asc hok (i - j - 1) j x q hj (by rw [show j + (i - j - 1) + 1 = i by omega]; exact hq)
      simp [later]; omega
  unfold valueE
  rw [hlv, hn]
  show (e.Points.getLastD ⟨0, 0⟩).Value_ = _
  rw [List.getLastD_eq_getLast?, List.getLast?_eq_getElem?, show e.Points.length - 1 = i by omega, hq]; rfl
theorem value_mid {e : DEnvelope} {t : Int} {a b : DPoint} (hlv : liveE e = true) (hok : okPts e.Points (-64) 64) {i : Nat} (ha : e.Points[i]? = some a) (hb : e.Points[i + 1]? = some b) (h1 : a.Tick ≤ t) (h2 : t < b.Tick) : valueE e t = between a b t := by
  have hlt := (List.getElem?_eq_some_iff.1 hb).1
  have hs : e.Points.findIdx? (later t) = some (i + 1) := by
    refine List.findIdx?_eq_some_iff_getElem.2 ⟨hlt, ?_, fun j hj => ?_⟩
    · rw [(List.getElem?_eq_some_iff.1 hb).2]; simp [later]; omega
    · obtain ⟨x, hx⟩ := lt_len (show j < e.Points.length by omega)
      rw [(List.getElem?_eq_some_iff.1 hx).2]
      by_cases hji : j = i
      · subst hji; rw [ha] at hx; cases hx; simp [later]; omega
      · have := pts_asc hok (i - j - 1) j x a hx (by rw [show j + (i - j - 1) + 1 = i by omega]; exact ha)
        simp [later]; omega
  unfold valueE
  rw [hlv, hs]
  simp only [if_true, ha, hb]
theorem value_first {e : DEnvelope} {t : Int} {q : DPoint} (hlv : liveE e = true) (hq : e.Points[0]? = some q) (h1 : t < q.Tick) : valueE e t = q.Value_ := by
  have hs : e.Points.findIdx? (later t) = some 0 := by
    refine List.findIdx?_eq_some_iff_getElem.2 ⟨(List.getElem?_eq_some_iff.1 hq).1, ?_, fun j hj => by omega⟩
    rw [(List.getElem?_eq_some_iff.1 hq).2]; simp [later]; omega
  unfold valueE
  rw [hlv, hs]
  show (e.Points.headD ⟨0, 0⟩).Value_ = _
  cases hl : e.Points with
  | nil => rw [hl] at hq; cases hq
  | cons x xs => rw [hl] at hq; cases hq; rfl
theorem c10 {e : DEnvelope} {p : Value} {h : AHeap} (hp : Flat ptV 2 h p e.Points) (t : Int) : Γ0 10 [.agg (envV e p).toArray, .int .i64 t] h = some (.int .i64 (valueE e t), h) := by
  refine gbody (F := A10) (by kernel_rfl) (e.Points.length + 1) ?_
  rw [s10_eq]
  unfold s10
  simp only [fork, cells_agg, cells_int]
  have bE := box1 (p := p) (e := e) (h := h) (List.prefix_refl _)
  have bN : readN (h ++ [ABlk.cells (envV e p) 24 true]) h.length 0 8 = some (envV e p) := readN_all _ _ _ _ _ rfl
  have hp1 := hp.pre (pre1 h (.cells (envV e p) 24 true))
  simp only [load_agg, bN, Option.map_some, Option.bind_some, c34 hp1, unf, JL, ifK_bool]
  cases hlv : liveE e with
  | false =>
    simp only [Bool.not_false, if_true]
    unfold valueE
    rw [hlv, fin_int (pre1 _ _)]
    rfl
  | true =>
    obtain ⟨l1, l2, l3, l4, l5⟩ := live_ok hlv
    have hs0 : IntKind.i64.wrap ((e.Points.length : Int) - 1) = ((e.Points.length : Int) - 1 - (0 : Nat)) := by rw [wrap64 (by unfold isI64; omega)]; omega
    simp only [Bool.not_true, Bool.false_eq_true, if_false, fieldAddr_ptr, Nat.zero_add, load_cell, bE, env1, Option.bind_some, hp1.len, binf_sub, hs0]
    refine loop_ok (len := e.Points.length) (fun k vs hh => vs = [.int .i64 ((e.Points.length : Int) - 1 - (k : Nat))] ∧ h ++ [.cells (envV e p) 24 true] <+: hh ∧ ∀ j, e.Points.length ≤ j + k → ∀ q, e.Points[j]? = some q → t < q.Tick) (fun r : Rt => r = some (.int .i64 (valueE e t), h)) ?_ ?_ (e.Points.length + 1) 0 _ _ ⟨rfl, List.prefix_refl _, fun j hj q hq => by have := (List.getElem?_eq_some_iff.1 hq).1; omega⟩ (Nat.zero_le _) (by omega)
    · rintro k _ hh hk ⟨rfl, hpre, hall⟩
      obtain ⟨i, hi⟩ : ∃ i : Nat, (e.Points.length : Int) - 1 - (k : Nat) = (i : Int) := ⟨e.Points.length - 1 - k, by omega⟩
      have hil : i < e.Points.length := by omega
      obtain ⟨q, hq⟩ := lt_len hil
      have hpp := hp1.pre hpre
      obtain ⟨b, o, g1, g2, g3, g4⟩ := flat_pt hpp hq
      have hpre2 : h ++ [ABlk.cells (envV e p) 24 true] <+: hh ++ [.cells (ptV q) 37 true] := pre_trans hpre (pre1 _ _)
      have bq : ∀ k, readC (hh ++ [ABlk.cells (ptV q) 37 true]) hh.length k = (ptV q)[k]? := fun k => readC_new _ _ _ _ _
      have hbh := fun k => box1 hpre k
      have hbh2 := fun k => box1 hpre2 k
      have hge : ((i : Int) ≥ 0) = True := eq_true (by omega)
      by_cases hlt : t < q.Tick
      · have hltT : (t < q.Tick) = True := eq_true hlt
        have hsub : IntKind.i64.wrap ((i : Int) - 1) = (e.Points.length : Int) - 1 - ((k + 1 : Nat) : Int) := by rw [wrap64 (by unfold isI64; omega)]; omega
        refine .inl ⟨_, _, ⟨rfl, hpre2, fun j hj q2 hq2 => ?_⟩, fun K => ?_⟩
        · by_cases hji : j = i
          · subst hji; rw [hq] at hq2; cases hq2; exact hlt
          · exact hall j (by omega) q2 hq2
        · rw [hi]
          unfold s10_L0
          simp only [nth_zero, binf_geq, Option.bind_some, JL, ifK_bool, decide_eq_true_eq, hge, decide_true, if_true, fieldAddr_ptr, Nat.zero_add, load_cell, hbh, env1, g1, load_agg, g2, Option.map_some, fork, store_pt, bq, pt0, binf_lss, hltT, binf_sub, hsub]
      · have hltF : (t < q.Tick) = False := eq_false hlt
        by_cases hlast : i + 1 = e.Points.length
        · have hadd : IntKind.i64.wrap ((i : Int) + 1) = (e.Points.length : Int) := by rw [succ64 (by omega)]; omega
          refine .inr ⟨_, by rw [value_last hlv l3 hlast hq (by omega)], fun K => ?_⟩
          rw [hi]
          unfold s10_L0
          simp only [nth_zero, binf_geq, Option.bind_some, JL, ifK_bool, decide_eq_true_eq, hge, decide_true, if_true, fieldAddr_ptr, Nat.zero_add, load_cell, hbh, hbh2, env1, g1, load_agg, g2, Option.map_some, fork, store_pt, bq, pt0, pt1, binf_lss, hltF, decide_false, Bool.false_eq_true, if_false, binf_add, hadd, hpp.len, binf_eql, beq_self_eq_true,
            (hpp.pre (pre1 hh (.cells (ptV q) 37 true))).len]
          exact fin_int (pre_trans (pre1 _ _) hpre2)
        · obtain ⟨q', hq'⟩ := lt_len (show i + 1 < e.Points.length by omega)
          have ht2 : t < q'.Tick := hall (i + 1) (by omega) q' hq'
          obtain ⟨m1, m2, m3, m4, m5, m6, m7⟩ := mid_ok l3 hq hq' (by omega) ht2
          have hpp2 := hp1.pre hpre2
          obtain ⟨b2, o2, k1, k2, k3, k4⟩ := flat_pt hpp2 hq'
          have hadd : IntKind.i64.wrap ((i : Int) + 1) = ((i + 1 : Nat) : Int) := succ64 (by omega)
          have hne : (((i + 1 : Nat) : Int) == (e.Points.length : Int)) = false := by rw [beq_eq_false_iff_ne]; omega
          have bq2 : ∀ k, readC (hh ++ [ABlk.cells (ptV q) 37 true] ++ [.cells (ptV q') 37 true]) hh.length k = (ptV q)[k]? := read_pt2 hh q q'
          have bq3 : ∀ k, readC (hh ++ [ABlk.cells (ptV q) 37 true] ++ [.cells (ptV q') 37 true]) (hh ++ [ABlk.cells (ptV q) 37 true]).length k = (ptV q')[k]? := fun k => readC_new _ _ _ _ _
          refine .inr ⟨_, by rw [value_mid hlv l3 hq hq' (by omega) ht2], fun K => ?_⟩
          rw [hi]
          unfold s10_L0
          simp only [nth_zero, binf_geq, Option.bind_some, JL, ifK_bool, decide_eq_true_eq, hge, decide_true, if_true, fieldAddr_ptr, Nat.zero_add, load_cell, hbh, hbh2, env1, g1, load_agg, g2, Option.map_some, fork, store_pt, bq, pt0, pt1, binf_lss, hltF, decide_false, Bool.false_eq_true, if_false, binf_add, hadd, hpp2.len, binf_eql, hne, k1, k2, bq2, bq3, binf_sub, m1, m2, m3, binf_mul, m5, c35 m4 m6, sameQ_self, m7]
          exact fin_int (pre_trans (pre1 _ _) (pre_trans hpre2 (pre1 _ _)))
    · rintro _ hh ⟨rfl, hpre, hall⟩
      obtain ⟨q, hq⟩ := lt_len l2
      have hpp := hp1.pre hpre
      obtain ⟨b, o, g1, g2, g3, g4⟩ := flat_pt hpp hq
      have g1' : indexAddrf 2 p (.int .i64 0) = some (ptrTo b o) := g1
      refine ⟨_, by rw [value_first hlv hq (hall 0 (by omega) q hq)], fun K => ?_⟩
      have hge : ((e.Points.length : Int) - 1 - (e.Points.length : Nat) ≥ 0) = False := eq_false (by omega)
      unfold s10_L0
      simp only [nth_zero, binf_geq, Option.bind_some, JL, ifK_bool, hge, decide_false, Bool.false_eq_true, if_false, fieldAddr_ptr, Nat.zero_add, load_cell, box1 hpre, env1, g1', g4]
      exact fin_int (pre_trans (pre1 _ _) hpre)
end Go.Am.X
