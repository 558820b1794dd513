/- Instruments: the law of curves. -/
import Derived.Test.YteedbdkhlgongaaInSame
set_option linter.unusedSimpArgs false
set_option linter.unusedVariables false
namespace Go.Am.X

noncomputable def curveOf (e : DEnvelope) (n r : Int) : List Int := if n > 4000 then [] else curveE e r n.toNat
theorem curveOf_len (e : DEnvelope) (n r : Int) : (curveOf e n r).length ≤ 4000 := by
  unfold curveOf
  split
  · simp
  · rw [curve_len]; omega
theorem c16' {e : DEnvelope} {p : Value} (n r : Int) {h : AHeap} (hp : Flat ptV 2 h p e.Points) :
    ∃ x h', Γ0 16 [.agg (envV e p).toArray, .int .i64 n, .int .i64 r] h = some (x, h') ∧ h <+: h' ∧ R (fun b => b < h'.length) h' x (.sl ((curveOf e n r).map iD)) := by
  by_cases h0 : 0 < n
  · by_cases h4 : n ≤ 4000
    · obtain ⟨m, rfl⟩ : ∃ m : Nat, n = m := ⟨n.toNat, by omega⟩
      obtain ⟨x, h', g1, g2, g3⟩ := c16 (r := r) hp (n := m) (by omega) (by omega)
      refine ⟨x, h', g1, g2, ?_⟩
      unfold curveOf
      rw [if_neg (by omega), Int.toNat_natCast]
      exact g3
    · refine ⟨_, h, c16_nil (.inr (by omega)), List.prefix_refl _, ?_⟩
      unfold curveOf
      rw [if_pos (by omega)]
      exact .nil
  · refine ⟨_, h, c16_nil (.inl (by omega)), List.prefix_refl _, ?_⟩
    unfold curveOf
    rw [if_neg (by omega), show n.toNat = 0 by omega]
    exact .nil
theorem c17' {e : DEnvelope} {p : Value} (n r : Int) {h : AHeap} (hp : Flat ptV 2 h p e.Points) :
    ∃ x h', Γ0 17 [.agg (envV e p).toArray, .int .i64 n, .int .i64 r] h = some (x, h') ∧ h <+: h' ∧ R (fun b => b < h'.length) h' x (.sl ((curveOf e n r).map iD)) := by
  by_cases h4 : n ≤ 4000
  · obtain ⟨x, h', g1, g2, g3⟩ := c17 (r := r) hp h4
    refine ⟨x, h', g1, g2, ?_⟩
    unfold curveOf
    rw [if_neg (by omega)]
    exact g3
  · refine ⟨_, h, c17_nil (by omega), List.prefix_refl _, ?_⟩
    unfold curveOf
    rw [if_pos (by omega)]
    exact .nil
def askV (t : DAsked) (p : Value) : List Value := envV t.Envelope p ++ [.int .i64 t.Low, .int .i64 t.High, .int .i64 t.Tick, .int .i64 t.N, .int .i64 t.Release, .int .i64 t.Other, .bool t.Held]
theorem ask8 (t : DAsked) (p : Value) : (askV t p)[8]? = some (.int .i64 t.Low) := rfl
theorem ask9 (t : DAsked) (p : Value) : (askV t p)[9]? = some (.int .i64 t.High) := rfl
theorem ask10 (t : DAsked) (p : Value) : (askV t p)[10]? = some (.int .i64 t.Tick) := rfl
theorem ask11 (t : DAsked) (p : Value) : (askV t p)[11]? = some (.int .i64 t.N) := rfl
theorem ask12 (t : DAsked) (p : Value) : (askV t p)[12]? = some (.int .i64 t.Release) := rfl
theorem ask13 (t : DAsked) (p : Value) : (askV t p)[13]? = some (.int .i64 t.Other) := rfl
theorem ask14 (t : DAsked) (p : Value) : (askV t p)[14]? = some (.bool t.Held) := rfl
abbrev z8 : List Value := [(.bool false : Value), .slice none 0 0, .bool false, .int .i64 0, .int .i64 0, .bool false, .int .i64 0, .int .i64 0]
/-- The start of both laws: what lies where. -/
theorem ask_read (t : DAsked) (p : Value) (h Z : AHeap) (k : Nat) : readC (h ++ [ABlk.cells (askV t p) 26 true] ++ Z) h.length k = (askV t p)[k]? := read_at _ _ _ _ _ _
theorem ask_env (t : DAsked) (p : Value) (h : AHeap) : readN (h ++ [ABlk.cells (askV t p) 26 true]) h.length 0 8 = some (envV t.Envelope p) := by
  unfold readN
  rw [List.getElem?_concat_length]
  rfl
theorem c3 {S : Nat → Prop} {h : AHeap} {c : List Value} {t : DAsked} (r0 : RL S h c t.dat) (hS : ∀ b, S b → b < h.length) : Γ0 3 [.agg c.toArray] h = some (.bool true, h) := by
  obtain ⟨p, rfl, rp⟩ := DAsked.cells r0
  have hp : Flat ptV 2 h p t.Envelope.Points := rp.flat hS (fun _ => rfl) (by decide) (fun _ _ _ _ hr => DPoint.cells hr)
  show Γ0 3 [.agg (askV t p).toArray] h = _
  refine gbody (F := A3) (by kernel_rfl) 1 ?_
  rw [s3_eq]
  unfold s3
  have st : ∀ H : AHeap, storef 8 (ptrTo H.length 0) (.agg (envV t.Envelope p).toArray) (H ++ [.cells z8 24 true]) = some (H ++ [.cells (envV t.Envelope p) 24 true]) := fun H => store_new _ _ _ _ _ rfl rfl (by
    have : oneC p = true := rp.oneC
    show (envV t.Envelope p).all oneC = true
    unfold envV
    simp only [List.all_cons, this]
    rfl)
  have ppre : h <+: h ++ [ABlk.cells (askV t p) 26 true] ++ [ABlk.cells (envV t.Envelope p) 24 true] := pre2 _ _ _
  have bA : ∀ k, readC (h ++ [ABlk.cells (askV t p) 26 true] ++ [ABlk.cells (envV t.Envelope p) 24 true]) h.length k = (askV t p)[k]? := fun k => ask_read _ _ _ _ _
  have bE : ∀ k, readC (h ++ [ABlk.cells (askV t p) 26 true] ++ [ABlk.cells (envV t.Envelope p) 24 true]) (h ++ [ABlk.cells (askV t p) 26 true]).length k = (envV t.Envelope p)[k]? := fun k => readC_new _ _ _ _ _
  have bN : readN (h ++ [ABlk.cells (askV t p) 26 true] ++ [ABlk.cells (envV t.Envelope p) 24 true]) (h ++ [ABlk.cells (askV t p) 26 true]).length 0 8 = some (envV t.Envelope p) := readN_all _ _ _ _ _ rfl
  have hl : ∀ cs : List Value, (h ++ [ABlk.cells cs 26 true]).length = (h ++ [ABlk.cells (askV t p) 26 true]).length := fun cs => by simp
  simp only [fork, cells_agg, fieldAddr_ptr, Nat.zero_add, Nat.add_zero, load_agg, ask_env, Option.map_some, Option.bind_some, st]
  generalize (h ++ [ABlk.cells (askV t p) 26 true]).length = b1 at bE bN ⊢
  generalize h ++ [ABlk.cells (askV t p) 26 true] ++ [ABlk.cells (envV t.Envelope p) 24 true] = H at ppre bA bE bN ⊢
  have hpH := hp.pre ppre
  simp only [load_cell, bE, env1, Option.bind_some, hpH.len, binf_gtr, JL, J1, ifK_bool, decide_eq_true_eq]
  by_cases h100 : (t.Envelope.Points.length : Int) > 100
  · rw [if_pos h100, c6]
    exact fin_bool ppre
  · rw [if_neg h100]
    have e7 := fun lo hi => c7 hpH lo hi
    have e8 := fun lo hi => c8 hpH lo hi
    have e9 := fun t => c9 hpH t
    have e10 := fun t => c10 hpH t
    have e11 := fun t held => c11 hpH t held
    have e12 := fun t held => c12 hpH t held
    have e13 := fun t held => c13 hpH t held
    have e14 := fun t held => c14 hpH t held
    have nb : ∀ b : Bool, eqBoolf true (.bool b) (.bool b) = some (.bool false) := fun b => by cases b <;> rfl
    have ni : ∀ a : Int, binf .neq (.int .i64 a) (.int .i64 a) = some (.bool false) := fun a => by rw [binf_neq]; simp
    simp only [bN, Option.map_some, bA, ask8, ask9, ask10, ask11, ask12, ask14, Option.bind_some, e7, e8, sameQ_self, nb, scK_or, Bool.false_eq_true, if_false, e9, e10, ni, e11, e12, e13, e14, scK_and, binf_gtr, binf_leq, decide_eq_true_eq, ifK_bool]
    obtain ⟨x, h1, g1, g2, g3⟩ := c16' t.N t.Release hpH
    obtain ⟨y, h2, k1, k2, k3⟩ := c17' t.N t.Release (hpH.pre g2)
    have e15 := c15 (g3.pre k2 fun b hb => hb) k3 (by have := curveOf_len t.Envelope t.N t.Release; unfold mostLen; omega)
    have bA1 : ∀ k v, readC H h.length k = some v → readC h1 h.length k = some v := fun k v hv => by
      have hlt : h.length < H.length := by
        unfold readC at hv
        split at hv
        · rename_i hh; exact (List.getElem?_eq_some_iff.1 hh).1
        · cases hv
      have hv' := hv
      unfold readC at hv ⊢
      rw [pre_get g2 hlt]
      exact hv
    have a11 := bA1 11 _ (by rw [bA, ask11])
    have a12 := bA1 12 _ (by rw [bA, ask12])
    have bN1 : readN h1 b1 0 8 = some (envV t.Envelope p) := readN_prefix g2 bN
    have rest : fin h h2 [.bool true] = some (.bool true, h) := fin_bool (pre_trans ppre (pre_trans g2 k2))
    by_cases c1 : t.N > 500
    · by_cases c2 : t.N ≤ 4000
      · simp only [c1, c2, if_true, c6, Option.bind_some]
        exact fin_bool ppre
      · simp only [c1, c2, if_true, if_false, g1, Option.bind_some, sameQ_pos g2, bN1, a11, a12, Option.map_some, k1, e15, c6, rest, scK_and, if_true]
    · simp only [c1, if_true, if_false, g1, Option.bind_some, sameQ_pos g2, bN1, a11, a12, Option.map_some, k1, e15, c6, rest, scK_and, if_true]
end Go.Am.X
