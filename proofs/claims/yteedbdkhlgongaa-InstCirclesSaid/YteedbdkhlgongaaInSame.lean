/- Instruments: the curve, the reference's side; the comparison; the tests that stand apart. -/
import Derived.Test.YteedbdkhlgongaaInCurve
set_option linter.unusedSimpArgs false
set_option linter.unusedVariables false
namespace Go.Am.X

theorem c17_nil {e : DEnvelope} {p : Value} {n r : Int} {h : AHeap} (hn : n > 4000) : Γ0 17 [.agg (envV e p).toArray, .int .i64 n, .int .i64 r] h = some (.slice none 0 0, h) := by
  refine gbody (F := A17) (by kernel_rfl) 1 ?_
  rw [s17_eq]
  unfold s17
  simp only [fork, Option.bind_some, binf_gtr, hn, decide_true, JL, ifK_bool, if_true]
  exact fin_gc rfl (pre1 _ _)
theorem c17 {e : DEnvelope} {p : Value} {n : Int} {r : Int} {h : AHeap} (hp : Flat ptV 2 h p e.Points) (h4 : n ≤ 4000) :
    ∃ x h', Γ0 17 [.agg (envV e p).toArray, .int .i64 n, .int .i64 r] h = some (x, h') ∧ h <+: h' ∧ R (fun b => b < h'.length) h' x (.sl ((curveE e r n.toNat).map iD)) := by
  have main : ∃ x h', funK Γ0 (n.toNat + 1) A17 [.agg (envV e p).toArray, .int .i64 n, .int .i64 r] h = some (x, h') ∧ h <+: h' ∧ R (fun b => b < h'.length) h' x (.sl ((curveE e r n.toNat).map iD)) := by
    rw [s17_eq]
    unfold s17
    have c2 : (n > 4000) = False := eq_false (by omega)
    simp only [fork, cells_agg, Option.bind_some, binf_gtr, c2, decide_false, JL, ifK_bool, Bool.false_eq_true, if_false]
    refine loop_ok (len := n.toNat) (fun i vs hi => ∃ x, vs = [x, .int .i64 (ticksE e r i), .int .i64 i] ∧ h ++ [.cells (envV e p) 24 true] <+: hi ∧ Own (h.length + 1) 3 1 (fun _ => False) hi x ((curveE e r i).map iD))
      (fun z : Rt => ∃ x h', z = some (x, h') ∧ h <+: h' ∧ R (fun b => b < h'.length) h' x (.sl ((curveE e r n.toNat).map iD))) ?_ ?_ (n.toNat + 1) 0 _ _ ⟨_, rfl, List.prefix_refl _, Own.nil _ _ _ _ _⟩ (Nat.zero_le _) (by omega)
    · rintro i _ hi hlt ⟨x, rfl, hpre, ho⟩
      have k10 := c10 (hp.pre (pre_trans (pre1 _ _) hpre)) (ticksE e r i)
      have bE : ∀ hj, h ++ [.cells (envV e p) 24 true] <+: hj → readN hj h.length 0 8 = some (envV e p) := fun hj hq => readN_get (by rw [pre_get hq (by simp)]; exact List.getElem?_concat_length) rfl
      have hl := pre_len hpre
      simp only [List.length_append, List.length_cons, List.length_nil] at hl
      obtain ⟨x', h2, g1, g2, g3, g4, g5⟩ := own_push (K := fun _ => False) (ws := [.int .i64 (valueE e (ticksE e r i))]) (q := iD (valueE e (ticksE e r i))) ho (fun _ _ => id) (fun b hb => hb.elim) (by omega) (.cons (.v rfl) .nil) rfl (by rw [List.length_map, curve_len]; unfold mostLen; omega)
      have pre2' : h ++ [.cells (envV e p) 24 true] <+: h2 := prefix_of_get (by simp; omega) fun b hb => by
        simp only [List.length_append, List.length_cons, List.length_nil] at hb
        rw [g5 b (.inl (by omega)), pre_get hpre (by simp; omega)]
      have k12 := c12 (hp.pre (pre_trans (pre1 _ _) pre2')) (ticksE e r i) (decide ((i : Int) < r))
      have hmap : (curveE e r i).map iD ++ [iD (valueE e (ticksE e r i))] = (curveE e r (i + 1)).map iD := by rw [curve_succ]; simp
      rw [hmap] at g2
      refine .inl ⟨_, h2, ⟨x', rfl, pre2', g2⟩, fun K => ?_⟩
      have hf : fillf (rep [(.int .i64 0 : Value)] 1) [(0, 1, .int .i64 (valueE e (ticksE e r i)))] = some [.int .i64 (valueE e (ticksE e r i))] := rfl
      have hlt' : ((i : Int) < n) = True := eq_true (by omega)
      unfold s17_L0
      simp only [nth_zero, nth_one, nth_two, nth_succ, binf_lss, hlt', decide_true, Option.bind_some, JL, ifK_bool, if_true, load_agg, bE hi hpre, bE h2 pre2', Option.map_some, k10, hf, fork, g1, k12, binf_add, succ64 (show i < 4294967297 by omega)]
      rfl
    · rintro _ hi ⟨x, rfl, hpre, ho⟩
      obtain ⟨h'', e1, e2⟩ := fin_own (x := x) (pre_trans (pre1 _ _) hpre)
      refine ⟨_, ⟨x, h'', rfl, ?_, ?_⟩, fun K => ?_⟩
      · rcases e2 with ⟨_, rfl⟩ | ⟨_, rfl⟩
        · exact List.prefix_refl _
        · exact pre_trans (pre1 _ _) hpre
      · rcases e2 with ⟨hn, rfl⟩ | ⟨_, rfl⟩
        · have : curveE e r n.toNat = [] := by
            refine Classical.byContradiction fun hc => ?_
            have := own_ne ho (by simpa using hc)
            rw [this] at hn
            cases hn
          rw [this] at ho ⊢
          rcases ho.2 with ⟨rfl, _⟩ | ⟨b, c, cs, rfl, _⟩
          · exact .nil
          · cases hn
        · exact ho.read (by rw [List.length_map, curve_len]; unfold mostLen; omega) (fun b hf => hf.elim) (fun b hb => (ho.lt hb).2.1)
      · have hlt' : ((n.toNat : Int) < n) = False := eq_false (by omega)
        unfold s17_L0
        simp only [nth_zero, nth_one, nth_two, nth_succ, binf_lss, hlt', decide_false, Option.bind_some, JL, ifK_bool, Bool.false_eq_true, if_false]
        exact e1
  obtain ⟨x, h', m1, m2, m3⟩ := main
  exact ⟨x, h', gbody (F := A17) (by kernel_rfl) (n.toNat + 1) m1, m2, m3⟩
theorem c15 {S S' : Nat → Prop} {h : AHeap} {x y : Value} {l : List Int} (rx : R S h x (.sl (l.map iD))) (ry : R S' h y (.sl (l.map iD))) (hm : l.length ≤ mostLen) : Γ0 15 [x, y] h = some (.bool true, h) := by
  refine gbody (F := A15) (by kernel_rfl) (l.length + 1) ?_
  rw [s15_eq]
  refine (equal_ok (f := iD) (el := fun n => .int .i64 n) (cmp := binf .neq) (agg := false) rx ry rx.int_el ry.int_el neq_int hm (Nat.lt_succ_self _)).trans ?_
  rw [cdec_true rfl]

theorem c41 (a b c : Int) (h : AHeap) : Γ0 41 [.int .i64 a, .int .i64 b, .int .i64 c] h = some (.bool (decide (b ≤ a ∧ a ≤ c)), h) := by
  refine gbody (F := A41) (by kernel_rfl) 1 ?_
  rw [s41_eq]
  unfold s41
  simp only [binf_geq, binf_leq, Option.bind_some, J1, scK_and, decide_eq_true_eq, ge_iff_le]
  by_cases h1 : b ≤ a
  · rw [if_pos h1, fin_self]; simp [h1, single]
  · rw [if_neg h1, fin_self]; simp [h1, single]
theorem c43_nil (h : AHeap) : Γ0 43 [.string ⟨#[]⟩] h = some (.bool true, h) := by
  refine gbody (F := A43) (by kernel_rfl) 1 ?_
  rw [s43_eq]
  unfold s43
  have hl : lenf true (.string ⟨#[]⟩) = some (.int .i64 0) := rfl
  simp only [hl, Option.bind_some, JL, loopN_succ, s43_L0, nth_zero, binf_lss, Int.lt_irrefl, decide_false, ifK_bool, Bool.false_eq_true, if_false, binf_leq]
  rw [fin_self]; rfl
theorem c54_nil (h : AHeap) (f : Value) : Γ0 54 [.slice none 0 0, f] h = some (.int .i64 (-1), h) := by
  refine gbody (F := A54) (by kernel_rfl) 1 ?_
  rw [s54_eq]
  unfold s54
  have hl : lenf false (.slice none 0 0) = some (.int .i64 0) := rfl
  simp only [hl, Option.bind_some, JL, loopN_succ, s54_L0, nth_zero, binf_lss, Int.lt_irrefl, decide_false, ifK_bool, Bool.false_eq_true, if_false]
  rw [fin_self]; rfl
theorem c44_nil (h : AHeap) (f : Value) : Γ0 44 [.slice none 0 0, f] h = some (.bool false, h) := by
  refine gbody (F := A44) (by kernel_rfl) 1 ?_
  rw [s44_eq]
  unfold s44
  simp only [c54_nil, Option.bind_some, binf_geq]
  rw [fin_self]; rfl
def envZ : DEnvelope := { On := false, Points := [], Sus := false, SusStart := 0, SusEnd := 0, Loop := false, LoopStart := 0, LoopEnd := 0 }
theorem flat_nil (h : AHeap) : Flat ptV 2 h (.slice none 0 0) [] := ⟨rfl, fun i a hi => by cases hi⟩
theorem validZ (lo hi : Int) : validE envZ lo hi = true := by
  unfold validE
  rw [cdec_true ⟨by decide, fun (h : envZ.On = true) => (by cases h), fun i q hq => (by cases hq)⟩]
  rfl
theorem c7Z (h : AHeap) (lo hi : Int) : Γ0 7 [.agg (envV envZ (.slice none 0 0)).toArray, .int .i64 lo, .int .i64 hi] h = some (.bool true, h) := by
  rw [c7 (e := envZ) (flat_nil h) lo hi, validZ]
def instZ : List Value := [.string ⟨#[]⟩, .slice none 0 0] ++ envV envZ (.slice none 0 0) ++ envV envZ (.slice none 0 0) ++ envV envZ (.slice none 0 0) ++ [.int .i64 0, .int .i64 0, .int .i64 0, .int .i64 0, .int .i64 0, .int .i64 0, .int .i64 0]
theorem c20Z (h : AHeap) : Γ0 20 [.agg instZ.toArray] h = some (.bool true, h) := by
  refine gbody (F := A20) (by kernel_rfl) 1 ?_
  rw [s20_eq]
  unfold s20
  have bI : ∀ k, readC (h ++ [ABlk.cells instZ 40 true]) h.length k = instZ[k]? := fun k => readC_new _ _ _ _ _
  have bN : ∀ k, readN (h ++ [ABlk.cells instZ 40 true]) h.length k 8 = if k + 8 ≤ 33 then some ((instZ.drop k).take 8) else none := fun k => by
    unfold readN
    rw [List.getElem?_concat_length]
    rfl
  have i0 : instZ[0]? = some (.string ⟨#[]⟩) := rfl
  have i1 : instZ[1]? = some (.slice none 0 0) := rfl
  have i26 : instZ[26]? = some (.int .i64 0) := rfl
  have i27 : instZ[27]? = some (.int .i64 0) := rfl
  have i28 : instZ[28]? = some (.int .i64 0) := rfl
  have i29 : instZ[29]? = some (.int .i64 0) := rfl
  have i30 : instZ[30]? = some (.int .i64 0) := rfl
  have i31 : instZ[31]? = some (.int .i64 0) := rfl
  have i32 : instZ[32]? = some (.int .i64 0) := rfl
  have d2 : (instZ.drop 2).take 8 = envV envZ (.slice none 0 0) := rfl
  have d10 : (instZ.drop 10).take 8 = envV envZ (.slice none 0 0) := rfl
  have d18 : (instZ.drop 18).take 8 = envV envZ (.slice none 0 0) := rfl
  have n2 : readN (h ++ [ABlk.cells instZ 40 true]) h.length 2 8 = some (envV envZ (.slice none 0 0)) := by rw [bN, if_pos (by decide), d2]
  have n10 : readN (h ++ [ABlk.cells instZ 40 true]) h.length 10 8 = some (envV envZ (.slice none 0 0)) := by rw [bN, if_pos (by decide), d10]
  have n18 : readN (h ++ [ABlk.cells instZ 40 true]) h.length 18 8 = some (envV envZ (.slice none 0 0)) := by rw [bN, if_pos (by decide), d18]
  have hl : lenf false (.slice none 0 0) = some (.int .i64 0) := rfl
  have hb : ((0 : Int) != 0) = false := rfl
  simp only [fork, cells_agg, fieldAddr_ptr, Nat.zero_add, load_cell, load_agg, bI, i0, i1, i26, i27, i28, i29, i30, i31, i32, n2, n10, n18, Option.bind_some, Option.map_some, c43_nil, unf, Bool.not_true, J1, JL, scK_or, scK_and, Bool.false_eq_true, if_false, hl, binf_neq, hb, ifK_bool, c44_nil, c7Z, c41]
  have q1 : decide ((0 : Int) ≤ 0 ∧ (0 : Int) ≤ 1024) = true := by decide
  have q2 : decide ((0 : Int) ≤ 0 ∧ (0 : Int) ≤ 3) = true := by decide
  have q3 : decide ((0 : Int) ≤ 0 ∧ (0 : Int) ≤ 2) = true := by decide
  have q4 : decide ((0 : Int) ≤ 0 ∧ (0 : Int) ≤ 64) = true := by decide
  have q5 : decide ((-1 : Int) ≤ 0 ∧ (0 : Int) ≤ 127) = true := by decide
  simp only [q1, q2, q3, q4, q5, if_true]
  exact fin_bool (pre1 _ _)
def envA : DEnvelope := { On := true, Points := [⟨0, 64⟩, ⟨10, 0⟩], Sus := false, SusStart := 0, SusEnd := 0, Loop := false, LoopStart := 0, LoopEnd := 0 }
theorem ptsA : okPts envA.Points (-64) 64 := by
  intro i q hq
  match i, hq with
  | 0, hq => cases hq; exact ⟨fun _ => rfl, fun q h => by omega, by decide, by decide, by decide⟩
  | 1, hq => cases hq; exact ⟨fun h => by omega, fun q _ hq => by cases hq; decide, by decide, by decide, by decide⟩
  | i + 2, hq => cases hq
theorem liveA : liveE envA = true := by
  unfold liveE validE
  rw [cdec_true ⟨by decide, fun _ => by decide, ptsA⟩]
  rfl
theorem valA3 : valueE envA 3 = 44 := by unfold valueE; rw [if_pos liveA]; rfl
theorem valA5 : valueE envA 5 = 32 := by unfold valueE; rw [if_pos liveA]; rfl
theorem aftA : afterE envA 9 true = 10 := by unfold afterE; rw [if_pos liveA]; rfl
theorem ovrA : overE envA 10 false = true := by unfold overE; rw [liveA]; rfl
theorem flatA (h : AHeap) (Z : AHeap) : Flat ptV 2 (h ++ [.cells [.int .i64 0, .int .i64 64, .int .i64 10, .int .i64 0] 37 true] ++ Z) (.slice (some ⟨h.length, 0, none⟩) 2 2) envA.Points := by
  refine ⟨rfl, fun i a hi => ?_⟩
  have e : (h ++ [ABlk.cells [.int .i64 0, .int .i64 64, .int .i64 10, .int .i64 0] 37 true] ++ Z)[h.length]? = some (.cells [.int .i64 0, .int .i64 64, .int .i64 10, .int .i64 0] 37 true) := by rw [app_get (by simp), List.getElem?_concat_length]
  match i, hi with
  | 0, hi => cases hi; exact ⟨h.length, 0, rfl, by unfold readN; rw [e]; rfl, by simp⟩
  | 1, hi => cases hi; exact ⟨h.length, 2, rfl, by unfold readN; rw [e]; rfl, by simp⟩
  | i + 2, hi => cases hi
theorem c6 (h : AHeap) : Γ0 6 [] h = some (.bool true, h) := by
  refine gbody (F := A6) (by kernel_rfl) 1 ?_
  rw [s6_eq]
  unfold s6
  have f1 : fillf [(.int .i64 0 : Value), .int .i64 0] [(0, 1, .int .i64 0), (1, 1, .int .i64 64)] = some [.int .i64 0, .int .i64 64] := rfl
  have f2 : fillf [(.int .i64 0 : Value), .int .i64 0] [(0, 1, .int .i64 10), (1, 1, .int .i64 0)] = some [.int .i64 10, .int .i64 0] := rfl
  have f3 : fillf (rep [(.int .i64 0 : Value), .int .i64 0] 2) [(0, 2, .agg [(.int .i64 0 : Value), .int .i64 64].toArray), (2, 2, .agg [(.int .i64 10 : Value), .int .i64 0].toArray)] = some [.int .i64 0, .int .i64 64, .int .i64 10, .int .i64 0] := rfl
  have f4 : ∀ b, fillf (envV envZ (.slice none 0 0)) [(0, 1, .bool true), (1, 1, .slice (some ⟨b, 0, none⟩) 2 2)] = some (envV envA (.slice (some ⟨b, 0, none⟩) 2 2)) := fun b => rfl
  have f5 : fillf instZ [] = some instZ := rfl
  have st : ∀ (H : AHeap) b, storef 8 (ptrTo H.length 0) (.agg (envV envA (.slice (some ⟨b, 0, none⟩) 2 2)).toArray) (H ++ [.cells (envV envZ (.slice none 0 0)) 24 true]) = some (H ++ [.cells (envV envA (.slice (some ⟨b, 0, none⟩) 2 2)) 24 true]) := fun H b => store_new _ _ _ _ _ rfl rfl rfl
  have z1 : [(.bool false : Value), .slice none 0 0, .bool false, .int .i64 0, .int .i64 0, .bool false, .int .i64 0, .int .i64 0] = envV envZ (.slice none 0 0) := rfl
  have z2 : [(.string ⟨#[]⟩ : Value), .slice none 0 0, .bool false, .slice none 0 0, .bool false, .int .i64 0, .int .i64 0, .bool false, .int .i64 0, .int .i64 0, .bool false, .slice none 0 0, .bool false, .int .i64 0, .int .i64 0, .bool false, .int .i64 0, .int .i64 0, .bool false, .slice none 0 0, .bool false, .int .i64 0, .int .i64 0, .bool false, .int .i64 0, .int .i64 0, .int .i64 0, .int .i64 0, .int .i64 0, .int .i64 0, .int .i64 0, .int .i64 0, .int .i64 0] = instZ := rfl
  have bN : ∀ (H : AHeap) E, readN (H ++ [.cells (envV envA E) 24 true]) H.length 0 8 = some (envV envA E) := fun H E => readN_all _ _ _ _ _ rfl
  have fl := flatA h [.cells (envV envA (.slice (some ⟨h.length, 0, none⟩) 2 2)) 24 true]
  have b44 : ((44 : Int) == 44) = true := rfl
  have b32 : ((32 : Int) == 32) = true := rfl
  have b10 : ((10 : Int) == 10) = true := rfl
  simp only [z1, z2, f1, f2, f3, f4, f5, Option.bind_some, fork, st, load_agg, bN, Option.map_some, c9 fl, c11 fl, c13 fl, valA3, valA5, aftA, ovrA, c20Z, binf_eql, b44, b32, b10, J1, scK_and, if_true]
  exact fin_bool (pre2 _ _ _)
end Go.Am.X
