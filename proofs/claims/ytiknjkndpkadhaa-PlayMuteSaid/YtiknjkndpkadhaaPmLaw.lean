/- PlayMute: how logs are compared; the law. -/
import Derived.Test.YtiknjkndpkadhaaPmRef
set_option linter.unusedSimpArgs false
set_option linter.unusedVariables false
namespace Go.Am.X

theorem c7 {S S' : Nat → Prop} {h : AHeap} {ws ws' : List Value} {t : DTick} (r : RL S h ws t.dat) (r' : RL S' h ws' t.dat) (hS : ∀ b, S b → b < h.length) (hS' : ∀ b, S' b → b < h.length) (hm : t.Voices.length ≤ mostLen ∧ t.Regs.length ≤ mostLen) :
    Γ0 7 [.agg ws.toArray, .agg ws'.toArray] h = some (.bool true, h) := by
  obtain ⟨x4, x5, rfl, q4, q5⟩ := DTick.cells r
  obtain ⟨y4, y5, rfl, k4, k5⟩ := DTick.cells r'
  refine gbody (F := A7) (by kernel_rfl) 1 ?_
  rw [s7_eq]
  unfold s7
  have p : ∀ l l' : List ABlk, h <+: h ++ l ++ l' := fun l l' => pre_trans (pre_app _ _) (pre_app _ _)
  have e14 : ∀ l l' : List ABlk, Γ0 14 [x4, y4] (h ++ l ++ l') = some (.bool true, h ++ l ++ l') := fun l l' => c14 (q4.pre (p l l') hS) (k4.pre (p l l') hS') hm.1
  have e15 : ∀ l l' : List ABlk, Γ0 15 [x5, y5] (h ++ l ++ l') = some (.bool true, h ++ l ++ l') := fun l l' => c15 (q5.pre (p l l') hS) (k5.pre (p l l') hS') hm.2
  have first : ∀ (a b : List Value) k v, a[k]? = some v → readC (h ++ [ABlk.cells a 26 true] ++ [.cells b 26 true]) h.length k = some v := fun a b k v hv => readC_app (by rw [readC_new]; exact hv) _
  have second : ∀ (a b : List Value) k v, b[k]? = some v → readC (h ++ [ABlk.cells a 26 true] ++ [.cells b 26 true]) (h ++ [ABlk.cells a 26 true]).length k = some v := fun a b k v hv => by rw [readC_new]; exact hv
  simp only [fork, cellsL, fieldAddr_ptr, Nat.zero_add, load_cell, Option.bind_some, J1]
  rw [first _ _ 0 _ rfl, second _ _ 0 _ rfl]
  simp only [Option.bind_some, binf_eql, beq_self_eq_true, scK_and, if_true]
  rw [first _ _ 1 _ rfl, second _ _ 1 _ rfl]
  simp only [Option.bind_some, binf_eql, beq_self_eq_true, scK_and, if_true]
  rw [first _ _ 2 _ rfl, second _ _ 2 _ rfl]
  simp only [Option.bind_some, binf_eql, beq_self_eq_true, scK_and, if_true]
  rw [first _ _ 3 _ rfl, second _ _ 3 _ rfl]
  simp only [Option.bind_some, binf_eql, beq_self_eq_true, scK_and, if_true]
  rw [first _ _ 4 _ rfl, second _ _ 4 _ rfl]
  simp only [Option.bind_some, e14, scK_and, if_true]
  rw [first _ _ 5 _ rfl, second _ _ 5 _ rfl]
  simp only [Option.bind_some, e15, scK_and, if_true]
  rw [fin_gc rfl (p _ _)]
  rfl
theorem c4 {S S' : Nat → Prop} {h : AHeap} {x y : Value} {l : List DTick} (r : R S h x (.sl (l.map DTick.dat))) (r' : R S' h y (.sl (l.map DTick.dat))) (hS : ∀ b, S b → b < h.length) (hS' : ∀ b, S' b → b < h.length) (hm : l.length ≤ mostLen) (hsh : short l) :
    Γ0 4 [x, y] h = some (.bool true, h) := by
  refine gbody (F := A4) (by kernel_rfl) (l.length + 1) ?_
  rw [s4_eq]
  unfold s4
  simp only [r.lenm, r'.lenm, Option.bind_some, binf_neq, bne_self_eq_false, JL, ifK_bool, Bool.false_eq_true, if_false]
  refine loop_ok (len := l.length) (fun i vs hh => vs = [.int .i64 i] ∧ h = hh) (fun r : Rt => r = some (.bool true, h)) ?_ ?_ (l.length + 1) 0 _ _ ⟨rfl, rfl⟩ (Nat.zero_le _) (by omega)
  · rintro i _ _ hi ⟨rfl, rfl⟩
    obtain ⟨t, ht⟩ := lt_len hi
    obtain ⟨b, o, ws, e1, e2, e3, _⟩ := r.struct_at (size := 6) (fun _ => rfl) (by decide) ht
    obtain ⟨b', o', ws', f1, f2, f3, _⟩ := r'.struct_at (size := 6) (fun _ => rfl) (by decide) ht
    have e7 := c7 e3 f3 hS hS' (hsh t (List.mem_of_getElem? ht))
    refine .inl ⟨[.int .i64 ((i + 1 : Nat) : Int)], h, ⟨rfl, rfl⟩, fun K => ?_⟩
    unfold s4_L0
    unfold mostLen at hm
    simp only [nth_zero, nth_one, binf_lss, Option.bind_some, JL, ifK_bool, decide_eq_true_eq, binf_add]
    rw [if_pos (by omega)]
    simp only [e1, Option.bind_some, load_agg, e2, f1, f2, Option.map_some, e7, unf, Bool.not_true, ifK_bool, Bool.false_eq_true, if_false, succ64 (show i < 4294967297 by omega)]
  · rintro _ _ ⟨rfl, rfl⟩
    refine ⟨_, rfl, fun K => ?_⟩
    unfold s4_L0
    simp only [nth_zero, nth_one, binf_lss, Option.bind_some, JL, ifK_bool, decide_eq_true_eq, binf_add]
    rw [if_neg (by omega), fin_self]
    rfl

theorem c3 {S : Nat → Prop} {h : AHeap} {x0 x1 : Value} {l : List DTick} {ch : List Int} (r0 : R S h x0 (.sl (l.map DTick.dat))) (r1 : R S h x1 (.sl (ch.map iD))) (hS : ∀ b, S b → b < h.length) :
    Γ0 3 [x0, x1] h = some (.bool true, h) := by
  refine gbody (F := A3) (by kernel_rfl) (l.length + 1) ?_
  rw [s3_eq]
  unfold s3
  simp only [r0.lenm, r1.lenm, Option.bind_some, binf_gtr, J1, JL, scK_or, ifK_bool, decide_eq_true_eq, decide_eq_false_iff_not]
  by_cases h1 : (l.length : Int) > 500
  · rw [if_neg (by simpa using h1), if_pos trivial, fin_self]; rfl
  · rw [if_pos (by simpa using h1)]
    by_cases h2 : (ch.length : Int) > 100
    · rw [if_pos h2, fin_self]; rfl
    · rw [if_neg h2]
      have hm : l.length ≤ mostLen := by unfold mostLen; omega
      have hmc : ch.length ≤ mostLen := by unfold mostLen; omega
      refine loop_ok (len := l.length) (fun i vs hh => (∃ a b c d, vs = [.int .i64 i, a, b, c, d]) ∧ h <+: hh ∧ ∀ j, j < i → ∀ t, l[j]? = some t → t.Voices.length ≤ mostLen ∧ t.Regs.length ≤ mostLen) (fun r : Rt => r = some (.bool true, h)) ?_ ?_ (l.length + 1) 0 _ _ ⟨⟨_, _, _, _, rfl⟩, List.prefix_refl _, fun j hj => by omega⟩ (Nat.zero_le _) (by omega)
      · rintro i _ hh hi ⟨⟨a, b, c, d, rfl⟩, hp, hsh⟩
        obtain ⟨t, ht⟩ := lt_len hi
        obtain ⟨b', o, ws, e1, e2, e3, _⟩ := (r0.pre hp hS).struct_at (size := 6) (fun _ => rfl) (by decide) ht
        obtain ⟨x4, x5, rfl, q4, q5⟩ := DTick.cells e3
        have z1 := store_new hh [(.int .i64 0), (.int .i64 0), (.int .i64 0), (.int .i64 0), (.slice none 0 0), (.slice none 0 0)] 26 (.agg [.int .i64 t.Order, .int .i64 t.Row, .int .i64 t.Tick, .int .i64 t.Tempo, x4, x5].toArray) 6 rfl rfl (by simpa [cellsL] using e3.oneC)
        have pn : ∀ ws, h <+: hh ++ [ABlk.cells ws 26 true] := fun ws => pre_trans hp (pre_app _ _)
        have rd : ∀ (ws : List Value) k v, ws[k]? = some v → readC (hh ++ [ABlk.cells ws 26 true]) hh.length k = some v := fun ws k v hv => by rw [readC_new]; exact hv
        simp only [cellsL] at z1
        have pre : ∀ K, s3_L0 Γ0 (l.length + 1) x0 h (.int .i64 l.length) (fun w10 h11 => (Γ0 5 [x0, x1] h11).bind fun p12 => (Γ0 6 [x0, x1] p12.2).bind fun p13 => (Γ0 4 [p12.1, p13.1] p13.2).bind fun p14 => fin h p14.2 [p14.1]) K [.int .i64 i, a, b, c, d] hh =
            if t.Voices.length > 100 ∨ t.Regs.length > 100 then some (.bool true, h) else K [.int .i64 ((i + 1 : Nat) : Int), junk, junk, junk, junk] (hh ++ [.cells [.int .i64 t.Order, .int .i64 t.Row, .int .i64 t.Tick, .int .i64 t.Tempo, x4, x5] 26 true]) := by
          intro K
          unfold s3_L0
          unfold mostLen at hm
          simp only [nth_zero, nth_one, nth_two, nth_three, nth_succ, binf_lss, Option.bind_some, JL, J1, ifK_bool, decide_eq_true_eq, binf_add]
          rw [if_pos (by omega)]
          simp only [e1, Option.bind_some, load_agg, e2, Option.map_some, fork, z1, fieldAddr_ptr, Nat.zero_add, load_cell]
          rw [rd _ 4 _ rfl]
          simp only [Option.bind_some, q4.lenm, binf_gtr, scK_or, decide_eq_false_iff_not]
          by_cases h4 : t.Voices.length > 100
          · rw [if_neg (by omega), if_pos trivial, fin_gc rfl (pn _), if_pos (Or.inl h4)]; rfl
          · rw [if_pos (by omega), rd _ 5 _ rfl]
            simp only [Option.bind_some, q5.lenm, binf_gtr, ifK_bool, decide_eq_true_eq]
            by_cases h5 : t.Regs.length > 100
            · rw [if_pos (show (t.Regs.length : Int) > 100 by omega), fin_gc rfl (pn _), if_pos (Or.inr h5)]; rfl
            · rw [if_neg (show ¬ (t.Regs.length : Int) > 100 by omega), if_neg (by omega)]
              simp only [nth_zero, nth_one, nth_two, nth_three, nth_succ, succ64 (show i < 4294967297 by omega)]
        by_cases hc : t.Voices.length > 100 ∨ t.Regs.length > 100
        · exact .inr ⟨_, rfl, fun K => by rw [pre K, if_pos hc]⟩
        · refine .inl ⟨_, _, ⟨⟨junk, junk, junk, junk, rfl⟩, pn _, fun j hj t' ht' => ?_⟩, fun K => by rw [pre K, if_neg hc]⟩
          by_cases hji : j = i
          · subst hji
            rw [ht] at ht'; cases ht'
            unfold mostLen
            constructor <;> omega
          · exact hsh j (by omega) t' ht'
      · rintro _ hh ⟨⟨a, b, c, d, rfl⟩, hp, hsh⟩
        have hsl : short l := fun t ht => by
          obtain ⟨j, hj⟩ := List.getElem?_of_mem ht
          exact hsh j (List.getElem?_eq_some_iff.1 hj).1 t hj
        have hS2 : ∀ b, S b → b < hh.length := fun b hb => Nat.lt_of_lt_of_le (hS b hb) (pre_len hp)
        obtain ⟨y, h2, e5, p5, r5⟩ := c5 (r0.pre hp hS) (r1.pre hp hS) hS2 hm hmc hsl
        have hS3 : ∀ b, S b → b < h2.length := fun b hb => Nat.lt_of_lt_of_le (hS2 b hb) (pre_len p5)
        obtain ⟨z, h3, e6, p6, r6⟩ := c6 (r0.pre (pre_trans hp p5) hS) (r1.pre (pre_trans hp p5) hS) hS3 hm hmc hsl
        have hsl2 : short (l.map (muteT ch)) := fun t ht => by
          obtain ⟨u, hu, rfl⟩ := List.mem_map.1 ht
          exact ⟨Nat.le_trans (List.length_filter_le _ _) (hsl u hu).1, (hsl u hu).2⟩
        have e4 := c4 (r5.pre p6 fun b hb => hb) r6 (fun b hb => Nat.lt_of_lt_of_le hb (pre_len p6)) (fun b hb => hb) (by simpa using hm) hsl2
        refine ⟨_, rfl, fun K => ?_⟩
        unfold s3_L0
        simp only [nth_zero, nth_one, nth_two, nth_three, nth_succ, binf_lss, Option.bind_some, JL, J1, ifK_bool, decide_eq_true_eq, binf_add]
        rw [if_neg (by omega)]
        simp only [e5, e6, e4, Option.bind_some]
        rw [fin_gc rfl (pre_trans hp (pre_trans p5 p6))]
        rfl
end Go.Am.X
