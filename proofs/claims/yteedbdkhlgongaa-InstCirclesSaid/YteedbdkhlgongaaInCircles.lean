/- Instruments: the law of circles. -/
import Derived.Test.YteedbdkhlgongaaInLaw
set_option linter.unusedSimpArgs false
set_option linter.unusedVariables false
namespace Go.Am.X

theorem between_ok {a b : DPoint} {t : Int} (h1 : a.Tick ≤ t) (h2 : t ≤ b.Tick) (h : a.Tick < b.Tick) : min a.Value_ b.Value_ ≤ between a b t ∧ between a b t ≤ max a.Value_ b.Value_ := by
  unfold between
  have hw : 0 < b.Tick - a.Tick := by omega
  by_cases hd : 0 ≤ b.Value_ - a.Value_
  · have k1 : 0 ≤ (b.Value_ - a.Value_) * (t - a.Tick) := Int.mul_nonneg hd (by omega)
    have k2 := Int.ediv_nonneg k1 (show 0 ≤ b.Tick - a.Tick by omega)
    have k3 : (b.Value_ - a.Value_) * (t - a.Tick) / (b.Tick - a.Tick) ≤ b.Value_ - a.Value_ := by
      refine Int.ediv_le_of_le_mul hw ?_
      exact Int.mul_le_mul_of_nonneg_left (by omega) hd
    omega
  · have k1 : (b.Value_ - a.Value_) * (t - a.Tick) ≤ 0 := by
      have := Int.mul_nonneg (show 0 ≤ -(b.Value_ - a.Value_) by omega) (show 0 ≤ t - a.Tick by omega)
      rw [Int.neg_mul] at this; omega
    have k2 : (b.Value_ - a.Value_) * (t - a.Tick) / (b.Tick - a.Tick) ≤ 0 := by
      by_cases hz : (b.Value_ - a.Value_) * (t - a.Tick) = 0
      · rw [hz]; simp
      · have := Int.ediv_neg_of_neg_of_pos (show (b.Value_ - a.Value_) * (t - a.Tick) < 0 by omega) hw
        omega
    have k3 : b.Value_ - a.Value_ ≤ (b.Value_ - a.Value_) * (t - a.Tick) / (b.Tick - a.Tick) := by
      rw [Int.le_ediv_iff_mul_le hw]
      have := Int.mul_le_mul_of_nonpos_left (show b.Value_ - a.Value_ ≤ 0 by omega) (show t - a.Tick ≤ b.Tick - a.Tick by omega)
      exact this
    omega
theorem between_self (a b : DPoint) : between a b a.Tick = a.Value_ := by unfold between; simp
theorem value_between {e : DEnvelope} {t : Int} {a b : DPoint} {i : Nat} (hlv : liveE e = true) (ha : e.Points[i]? = some a) (hb : e.Points[i + 1]? = some b) (h1 : a.Tick ≤ t) (h2 : t ≤ b.Tick) :
    min a.Value_ b.Value_ ≤ valueE e t ∧ valueE e t ≤ max a.Value_ b.Value_ := by
  obtain ⟨l1, l2, l3, l4, l5⟩ := live_ok hlv
  have hab := pts_asc l3 0 i a b ha hb
  by_cases h3 : t < b.Tick
  · rw [value_mid hlv l3 ha hb h1 h3]
    exact between_ok h1 h2 hab
  · have ht : t = b.Tick := by omega
    have hv : valueE e t = b.Value_ := by
      by_cases hl : i + 1 + 1 = e.Points.length
      · exact value_last hlv l3 hl hb (by omega)
      · have := (List.getElem?_eq_some_iff.1 hb).1
        obtain ⟨c, hc⟩ := lt_len (show i + 1 + 1 < e.Points.length by omega)
        rw [value_mid hlv l3 hb hc (by omega) (by have := pts_asc l3 0 (i + 1) b c hb hc; omega), ht, between_self]
    rw [hv]; omega
theorem tick_le {e : DEnvelope} {i j : Int} (l3 : okPts e.Points (-64) 64) (h0 : 0 ≤ i) (hij : i ≤ j) (hj : j < e.Points.length) : tickAt e i ≤ tickAt e j := by
  unfold tickAt
  obtain ⟨a, ha⟩ := lt_len (show i.toNat < e.Points.length by omega)
  obtain ⟨b, hb⟩ := lt_len (show j.toNat < e.Points.length by omega)
  rw [ha, hb]
  by_cases hh : i.toNat = j.toNat
  · rw [hh, hb] at ha; cases ha; exact Int.le_refl _
  · have := pts_asc l3 (j.toNat - i.toNat - 1) i.toNat a b ha (by rw [show i.toNat + (j.toNat - i.toNat - 1) + 1 = j.toNat by omega]; exact hb)
    exact Int.le_of_lt this
/-- Where the circle, or the envelope, ends. -/
def endE (e : DEnvelope) (held : Bool) : Int := match circleE e held with | some (_, u) => u | none => lastT e
theorem circle_le {e : DEnvelope} {held : Bool} {f u : Int} (hl : liveE e = true) (hc : circleE e held = some (f, u)) : f ≤ u := by
  obtain ⟨l1, l2, l3, l4, l5⟩ := live_ok hl
  unfold circleE at hc
  split at hc
  · rename_i hh
    cases hc
    obtain ⟨k1, k2, k3⟩ := paired_on l4 (by simp at hh; exact hh.2)
    exact tick_le l3 k1 k2 k3
  · split at hc
    · rename_i hh
      cases hc
      obtain ⟨k1, k2, k3⟩ := paired_on l5 hh
      exact tick_le l3 k1 k2 k3
    · cases hc
theorem after_le {e : DEnvelope} {t : Int} {held : Bool} (hl : liveE e = true) (ht : t ≤ endE e held) : afterE e t held ≤ endE e held := by
  obtain ⟨l1, l2, l3, l4, l5⟩ := live_ok hl
  unfold afterE endE at *
  rw [if_pos hl]
  cases hc : circleE e held with
  | some r =>
    obtain ⟨f, u⟩ := r
    have h1 := circle_le hl hc
    have h2 := circle_range l3 hc
    rw [hc] at ht
    simp only at ht ⊢
    split <;> omega
  | none =>
    have h2 := last_range l3
    rw [hc] at ht
    simp only at ht ⊢
    split <;> omega
theorem over_circle {e : DEnvelope} {t : Int} {held : Bool} (hc : (circleE e held).isSome = true) : overE e t held = false := by
  unfold overE
  cases h : circleE e held with
  | none => rw [h] at hc; cases hc
  | some r => simp
theorem ticks_same {e : DEnvelope} {r r' : Int} : ∀ i : Nat, (i : Int) ≤ r → (i : Int) ≤ r' → ticksE e r i = ticksE e r' i := by
  intro i
  induction i with
  | zero => intro _ _; rfl
  | succ i ih =>
    intro h1 h2
    show afterE e _ _ = afterE e _ _
    rw [ih (by omega) (by omega), show decide ((i : Int) < r) = true by simp; omega, show decide ((i : Int) < r') = true by simp; omega]
theorem curve_at (e : DEnvelope) (r : Int) {n i : Nat} (h : i < n) : (curveE e r n)[i]? = some (valueE e (ticksE e r i)) := by
  unfold curveE
  rw [List.getElem?_map, List.getElem?_range h]
  rfl
theorem and255 (n : Int) : ∃ m : Nat, m ≤ 255 ∧ binf .and (.int .i64 n) (.int .i64 255) = some (.int .i64 (m : Int)) := by
  refine ⟨(BitVec.ofInt 64 n &&& BitVec.ofInt 64 255).toNat, ?_, ?_⟩
  · rw [BitVec.toNat_and]
    exact Nat.and_le_right
  · have hle : (BitVec.ofInt 64 n &&& BitVec.ofInt 64 255).toNat ≤ 255 := by rw [BitVec.toNat_and]; exact Nat.and_le_right
    have := wrap64 (n := ((BitVec.ofInt 64 n &&& BitVec.ofInt 64 255).toNat : Int)) (by unfold isI64; omega)
    simp only [binf, if_true]
    rw [← this]
    rfl
/-- The circle as the law reads it: where it ends, and whether there is one. -/
theorem dead_ok {e : DEnvelope} {t : Int} {held : Bool} (hl : liveE e = false) : valueE e t = 0 ∧ afterE e t held = 0 ∧ overE e t held = false := by
  refine ⟨?_, ?_, ?_⟩
  · unfold valueE; rw [hl]; rfl
  · unfold afterE; rw [hl]; rfl
  · unfold overE; rw [hl]; rfl
theorem c4 {S : Nat → Prop} {h : AHeap} {c : List Value} {t : DAsked} (r0 : RL S h c t.dat) (hS : ∀ b, S b → b < h.length) : Γ0 4 [.agg c.toArray] h = some (.bool true, h) := by
  obtain ⟨p, rfl, rp⟩ := DAsked.cells r0
  have hp : Flat ptV 2 h p t.Envelope.Points := rp.flat hS (fun _ => rfl) (by decide) (fun _ _ _ _ hr => DPoint.cells hr)
  show Γ0 4 [.agg (askV t p).toArray] h = _
  refine gbody (F := A4) (by kernel_rfl) (t.Envelope.Points.length + 300) ?_
  rw [s4_eq]
  unfold s4
  have st : ∀ H : AHeap, storef 8 (ptrTo H.length 0) (.agg (envV t.Envelope p).toArray) (H ++ [.cells z8 24 true]) = some (H ++ [.cells (envV t.Envelope p) 24 true]) := fun H => store_new _ _ _ _ _ rfl rfl (by
    have : oneC p = true := rp.oneC
    show (envV t.Envelope p).all oneC = true
    unfold envV
    simp only [List.all_cons, this]
    rfl)
  have ppre : h <+: h ++ [ABlk.cells (askV t p) 26 true] ++ [ABlk.cells (envV t.Envelope p) 24 true] := pre2 _ _ _
  have bA : ∀ k, readC (h ++ [ABlk.cells (askV t p) 26 true] ++ [ABlk.cells (envV t.Envelope p) 24 true]) h.length k = (askV t p)[k]? := fun k => ask_read _ _ _ _ _
  have bE : ∀ k, readC (h ++ [ABlk.cells (askV t p) 26 true] ++ [ABlk.cells (envV t.Envelope p) 24 true]) (h ++ [ABlk.cells (askV t p) 26 true]).length k = (envV t.Envelope p)[k]? := fun k => readC_new _ _ _ _ _
  have bN : readN (h ++ [ABlk.cells (askV t p) 26 true] ++ [ABlk.cells (envV t.Envelope p) 24 true]) (h ++ [ABlk.cells (askV t p) 26 true]).length 0 8 = some (envV t.Envelope p) := readN_all _ _ _ _ _ rfl
  have hl1 : h.length < (h ++ [ABlk.cells (askV t p) 26 true] ++ [ABlk.cells (envV t.Envelope p) 24 true]).length := by simp
  have hl2 : (h ++ [ABlk.cells (askV t p) 26 true]).length < (h ++ [ABlk.cells (askV t p) 26 true] ++ [ABlk.cells (envV t.Envelope p) 24 true]).length := by simp
  simp only [fork, cells_agg, fieldAddr_ptr, Nat.zero_add, Nat.add_zero, load_agg, ask_env, Option.map_some, Option.bind_some, st]
  generalize (h ++ [ABlk.cells (askV t p) 26 true]).length = b1 at bE bN hl2 ⊢
  generalize h ++ [ABlk.cells (askV t p) 26 true] ++ [ABlk.cells (envV t.Envelope p) 24 true] = H at ppre bA bE bN hl1 hl2 ⊢
  have hpH := hp.pre ppre
  have e7 := fun lo hi => c7 hpH lo hi
  have e9 := fun t => c9 hpH t
  have e11 := fun t held => c11 hpH t held
  have e13 := fun t held => c13 hpH t held
  have rA : ∀ {hh} k, H <+: hh → readC hh h.length k = (askV t p)[k]? := fun {hh} k hq => by
    have := bA k
    unfold readC at this ⊢
    rw [pre_get hq hl1]; exact this
  have rE : ∀ {hh} k, H <+: hh → readC hh b1 k = (envV t.Envelope p)[k]? := fun {hh} k hq => by
    have := bE k
    unfold readC at this ⊢
    rw [pre_get hq hl2]; exact this
  have fineH : fin h H [.bool true] = some (.bool true, h) := fin_bool ppre
  cases hlv : liveE t.Envelope with
  | false =>
    obtain ⟨d1, d2, d3⟩ := dead_ok (e := t.Envelope) (t := t.Tick) (held := t.Held) hlv
    have b0 : ((0 : Int) == 0) = true := rfl
    unfold liveE at hlv
    simp only [load_cell, bE, env0, Option.bind_some, unf, J1, JL, bN, Option.map_some, e7, ifK_bool, bA, ask10, ask14, e9, e11, e13, d1, d2, d3, binf_eql, b0, Bool.not_false, scK_and, if_true, c6, fineH]
    cases hon : t.Envelope.On with
    | false => simp only [Bool.not_false, scK_or, Bool.true_eq_false, if_false, if_true, ifK_bool]
    | true =>
      rw [hon, Bool.true_and] at hlv
      simp only [Bool.not_true, hlv, scK_or, Bool.false_eq_true, if_false, Bool.not_false, ifK_bool, if_true]
  | true =>
    obtain ⟨l1, l2, l3, l4, l5⟩ := live_ok hlv
    have hlv' := hlv
    unfold liveE at hlv'
    simp only [Bool.and_eq_true] at hlv'
    simp only [load_cell, bE, env0, hlv'.1, Option.bind_some, unf, Bool.not_true]
    rw [J1_def]
    simp only [scK_or, Bool.false_eq_true, if_false, if_true, bN, Option.map_some, Option.bind_some, e7, hlv'.2, unf, Bool.not_true, ifK_bool]
    rw [JL_def]
    simp only [bN, Option.map_some, bA, ask10, Option.bind_some, e9]
    rw [JL_def]
    have main : ∀ j : List Value → AHeap → Rt, (∀ w hh, H <+: hh → j w hh = some (.bool true, h)) →
        loopN (s4_L1 Γ0 (t.Envelope.Points.length + 300) h (ptrTo h.length 0) (ptrTo b1 0) (.int .i64 (valueE t.Envelope t.Tick), H) j) (t.Envelope.Points.length + 300) (.int .i64 1 :: List.replicate 21 undef) H = some (.bool true, h) := by
      intro j hj
      refine loop_ok (len := t.Envelope.Points.length - 1) (fun i vs hh => (∃ rest, vs = .int .i64 ((i + 1 : Nat) : Int) :: rest) ∧ H <+: hh) (fun r : Rt => r = some (.bool true, h)) ?_ ?_ _ 0 _ _ ⟨⟨_, rfl⟩, List.prefix_refl _⟩ (Nat.zero_le _) (by omega)
      · rintro i _ hh hi ⟨⟨rest, rfl⟩, hq⟩
        obtain ⟨a, ha⟩ := lt_len (show i < t.Envelope.Points.length by omega)
        obtain ⟨b, hb⟩ := lt_len (show i + 1 < t.Envelope.Points.length by omega)
        have hpp := hpH.pre hq
        obtain ⟨x1, o1, g1, g2, _, _⟩ := flat_pt hpp ha
        obtain ⟨x2, o2, k1, k2, _, _⟩ := flat_pt hpp hb
        have hs : IntKind.i64.wrap (((i + 1 : Nat) : Int) - 1) = (i : Int) := by rw [wrap64 (by unfold isI64; omega)]; omega
        have hlt : (((i + 1 : Nat) : Int) < (t.Envelope.Points.length : Int)) = True := eq_true (by omega)
        have hq2 : H <+: hh ++ [ABlk.cells (ptV a) 37 true] ++ [.cells (ptV b) 37 true] := pre_trans hq (pre2 _ _ _)
        have rE1 := rE 1 hq
        have rA2 := rA 10 hq2
        refine .inl ⟨.int .i64 ((i + 1 + 1 : Nat) : Int) :: List.replicate 21 junk, _, ⟨⟨_, rfl⟩, hq2⟩, fun K => ?_⟩
        unfold s4_L1
        simp only [nth_zero, fieldAddr_ptr, Nat.zero_add, load_cell, rE1, env1, Option.bind_some, hpp.len, binf_lss, hlt, decide_true, JL, J1, ifK_bool, if_true, binf_sub, hs, g1, load_agg, g2, k1, k2, Option.map_some, fork, store_pt2, store_pt3, read_pt2, read_pt3, pt0, pt1, rA2, ask10, binf_leq, fold1_two, min2_i, max2_i, binf_gtr, binf_add, succ64 (show i + 1 < 4294967297 by omega), scK_and, scK_or, decide_eq_true_eq, decide_eq_false_iff_not, Bool.false_eq_true, if_false]
        by_cases h1 : a.Tick ≤ t.Tick
        · by_cases h2 : t.Tick ≤ b.Tick
          · have hv := value_between hlv ha hb h1 h2
            have n1 : (valueE t.Envelope t.Tick < min a.Value_ b.Value_) = False := eq_false (by omega)
            have n2 : (valueE t.Envelope t.Tick > max a.Value_ b.Value_) = False := eq_false (by omega)
            simp only [h1, h2, n1, n2, if_true, if_false, not_false_eq_true]
            rfl
          · simp only [h1, h2, if_true, if_false]
            rfl
        · simp only [h1, if_false]
          rfl
      · rintro _ hh ⟨⟨rest, rfl⟩, hq⟩
        have hpp := hpH.pre hq
        refine ⟨_, hj [] hh hq, fun K => ?_⟩
        have hlt : (((t.Envelope.Points.length - 1 + 1 : Nat) : Int) < (t.Envelope.Points.length : Int)) = False := eq_false (by omega)
        have rE1 := rE 1 hq
        unfold s4_L1
        simp only [nth_zero, fieldAddr_ptr, Nat.zero_add, load_cell, rE1, env1, Option.bind_some, hpp.len, binf_lss, hlt, decide_false, JL, J1, ifK_bool, Bool.false_eq_true, if_false]
    refine main _ fun w hh hq => ?_
    have hpp := hpH.pre hq
    have bNh : readN hh b1 0 8 = some (envV t.Envelope p) := readN_prefix hq bN
    have rE' := fun k => rE k hq
    have rA' := fun k => rA k hq
    have hs : IntKind.i64.wrap ((t.Envelope.Points.length : Int) - 1) = (t.Envelope.Points.length : Int) - 1 := wrap64 (by unfold isI64; omega)
    obtain ⟨x0, o0, g1, g2⟩ := last_at hpp l2
    simp only [rE', env1, Option.bind_some, hpp.len, binf_sub, hs, g1, fieldAddr_ptr, Nat.add_zero, load_cell, g2]
    refine JL_case [.int .i64 (endE t.Envelope t.Held), .bool (circleE t.Envelope t.Held).isSome] hh ?_ fun k' hk' => ?_
    · simp only [rA', ask10, nth_zero, nth_one, nth_succ, binf_leq, Option.bind_some]
      refine J1_case (.bool false) hh ?_ fun k1 hk1 => ?_
      · refine J1_case (.bool false) hh ?_ fun k2 hk2 => ?_
        · rw [JL_def]
          simp only [ifK_bool, Bool.false_eq_true, if_false, rA', ask11, ask12, ask13, Option.bind_some, bNh, Option.map_some]
          obtain ⟨m, hm, hand⟩ := and255 t.N
          obtain ⟨x, h1, g1, g2, g3⟩ := c16' (m : Int) t.Release hpp
          obtain ⟨y, h2, k1, k2, k3⟩ := c16' (m : Int) t.Other (hpp.pre g2)
          have hcu : ∀ r, curveOf t.Envelope (m : Int) r = curveE t.Envelope r m := fun r => by unfold curveOf; rw [if_neg (by omega), Int.toNat_natCast]
          rw [hcu] at g3 k3
          have g4 := g3.pre k2 fun b hb => hb
          have hq1 : H <+: h1 := pre_trans hq g2
          have hq2 : H <+: h2 := pre_trans hq1 k2
          have bN1 : readN h1 b1 0 8 = some (envV t.Envelope p) := readN_prefix hq1 bN
          have l1' : lenf false x = some (.int .i64 m) := by have := g3.lenm; rwa [curve_len] at this
          have l2' : lenf false y = some (.int .i64 m) := by have := k3.lenm; rwa [curve_len] at this
          have hmm : ((m : Int) == (m : Int)) = true := by simp
          have hmn : ((m : Int) != (m : Int)) = false := by simp
          have rA13 := rA 13 hq1
          simp only [hand, Option.bind_some, g1, sameQ_pos g2, bN1, Option.map_some, rA13, ask13, k1]
          rw [JL_def]
          simp only [l1', Option.bind_some, binf_eql, hmm, J1, scK_and, if_true, c6]
          refine loop_ok (len := m) (fun i vs hi => (∃ rest, vs = .int .i64 i :: rest) ∧ h2 = hi) (fun r : Rt => r = some (.bool true, h)) ?_ ?_ _ 0 _ _ ⟨⟨_, rfl⟩, rfl⟩ (Nat.zero_le _) (by omega)
          · rintro i _ _ hi ⟨⟨rest, rfl⟩, rfl⟩
            have a12 := rA 12 hq2
            have a13 := rA 13 hq2
            have hlt : ((i : Int) < (m : Int)) = True := eq_true (by omega)
            have out : fin h h2 [.bool true] = some (.bool true, h) := fin_bool (pre_trans ppre hq2)
            by_cases c1 : (i : Int) < t.Release
            · by_cases c2 : (i : Int) < t.Other
              · refine .inl ⟨.int .i64 ((i + 1 : Nat) : Int) :: List.replicate 21 junk, _, ⟨⟨_, rfl⟩, rfl⟩, fun K => ?_⟩
                obtain ⟨p1, p2, q1, q2⟩ := g4.int_el i _ (curve_at t.Envelope t.Release hi)
                obtain ⟨p3, p4, q3, q4⟩ := k3.int_el i _ (curve_at t.Envelope t.Other hi)
                have hsame : ticksE t.Envelope t.Release i = ticksE t.Envelope t.Other i := ticks_same i (by omega) (by omega)
                rw [hsame] at q2
                have hne : ∀ v : Int, (v != v) = false := fun v => by simp
                unfold s4_L0
                simp only [nth_zero, binf_lss, hlt, decide_true, Option.bind_some, J1, JL, scK_and, scK_or, if_true, fieldAddr_ptr, Nat.zero_add, load_cell, a12, a13, ask12, ask13, c1, c2, ifK_bool, l1', l2', binf_neq, hmn, Bool.false_eq_true, if_false, q1, q2, q3, q4, hne, binf_add, succ64 (show i < 4294967297 by omega)]
                rfl
              · refine .inr ⟨_, rfl, fun K => ?_⟩
                unfold s4_L0
                simp only [nth_zero, binf_lss, hlt, decide_true, Option.bind_some, J1, JL, scK_and, scK_or, if_true, fieldAddr_ptr, Nat.zero_add, load_cell, a12, a13, ask12, ask13, c1, c2, decide_false, ifK_bool, Bool.false_eq_true, if_false, out]
            · refine .inr ⟨_, rfl, fun K => ?_⟩
              unfold s4_L0
              simp only [nth_zero, binf_lss, hlt, decide_true, Option.bind_some, J1, JL, scK_and, scK_or, if_true, fieldAddr_ptr, Nat.zero_add, load_cell, a12, a13, ask12, ask13, c1, decide_false, ifK_bool, Bool.false_eq_true, if_false, out]
          · rintro _ _ ⟨⟨rest, rfl⟩, rfl⟩
            have out : fin h h2 [.bool true] = some (.bool true, h) := fin_bool (pre_trans ppre hq2)
            refine ⟨_, rfl, fun K => ?_⟩
            unfold s4_L0
            simp only [nth_zero, binf_lss, Int.lt_irrefl, decide_false, Option.bind_some, J1, JL, scK_and, scK_or, ifK_bool, Bool.false_eq_true, if_false, out]
        · simp only [scK_or, if_true, J1]
          cases hci : (circleE t.Envelope t.Held).isSome with
          | false => simp only [scK_and, Bool.false_eq_true, if_false]; exact hk2
          | true =>
            have := over_circle (t := t.Tick) hci
            simp only [scK_and, if_true, bNh, Option.map_some, rA', ask10, ask14, Option.bind_some, c13 hpp, this]
            exact hk2
      · by_cases ht : t.Tick ≤ endE t.Envelope t.Held
        · have ha := after_le hlv ht
          have hgt : (afterE t.Envelope t.Tick t.Held > endE t.Envelope t.Held) = False := eq_false (by omega)
          simp only [ht, decide_true, scK_and, if_true, bNh, Option.map_some, rA', ask10, ask14, Option.bind_some, c11 hpp, binf_gtr, hgt, decide_false]
          exact hk1
        · simp only [ht, decide_false, scK_and, Bool.false_eq_true, if_false]
          exact hk1
    · simp only [rA', ask14, Option.bind_some, J1, JL, scK_and, rE', env1, env2, env4, env5, env7, nth_zero, nth_one, nth_succ]
      cases hd : (t.Held && t.Envelope.Sus) with
      | true =>
        obtain ⟨hd1, hd2⟩ : t.Held = true ∧ t.Envelope.Sus = true := by simpa using hd
        have hc : circleE t.Envelope t.Held = some (tickAt t.Envelope t.Envelope.SusStart, tickAt t.Envelope t.Envelope.SusEnd) := by unfold circleE; rw [if_pos hd]
        have he : endE t.Envelope t.Held = tickAt t.Envelope t.Envelope.SusEnd := by unfold endE; rw [hc]
        obtain ⟨k1, k2, k3⟩ := paired_on l4 hd2
        obtain ⟨y1, y2, m1, m2⟩ := tick_at hpp (i := t.Envelope.SusEnd) (by omega) k3
        rw [hc, he] at hk'
        simp only [hd1, hd2, if_true, ifK_bool, m1, fieldAddr_ptr, Nat.add_zero, Option.bind_some, load_cell, m2]
        exact hk'
      | false =>
        have hh2 : ∀ A B : Rt, (if t.Held = true then (if t.Envelope.Sus = true then A else B) else B) = B := fun A B => by
          cases h1 : t.Held <;> simp_all
        simp only [ifK_bool, Bool.false_eq_true, if_false, hh2]
        cases hl : t.Envelope.Loop with
        | false =>
          have hc : circleE t.Envelope t.Held = none := by unfold circleE; rw [hd, hl]; rfl
          have he : endE t.Envelope t.Held = lastT t.Envelope := by unfold endE; rw [hc]
          rw [hc, he] at hk'
          simp only [Bool.false_eq_true, if_false]
          exact hk'
        | true =>
          have hc : circleE t.Envelope t.Held = some (tickAt t.Envelope t.Envelope.LoopStart, tickAt t.Envelope t.Envelope.LoopEnd) := by unfold circleE; rw [if_neg (by simp [hd]), if_pos hl]
          have he : endE t.Envelope t.Held = tickAt t.Envelope t.Envelope.LoopEnd := by unfold endE; rw [hc]
          obtain ⟨k1, k2, k3⟩ := paired_on l5 hl
          obtain ⟨y1, y2, m1, m2⟩ := tick_at hpp (i := t.Envelope.LoopEnd) (by omega) k3
          rw [hc, he] at hk'
          simp only [if_true, m1, fieldAddr_ptr, Nat.add_zero, Option.bind_some, load_cell, m2]
          exact hk'
end Go.Am.X
