/- PlayMute: what the reference's Mute answers, how logs are compared; the law. -/
import Derived.Test.YtiknjkndpkadhaaPmProg
set_option linter.unusedSimpArgs false
set_option linter.unusedVariables false
namespace Go.Am.X

theorem writeC_new (h : AHeap) (cs : List Value) (t : TypeId) (v : Value) (k : Nat) (hk : k < cs.length) (hv : oneC v = true) : storef 1 (ptrTo h.length k) v (h ++ [.cells cs t true]) = some (h ++ [.cells (cs.set k v) t true]) := by
  simp only [storef, ptrTo]
  rw [cellsL_one hv]
  show writeN _ _ _ _ = _
  unfold writeN
  rw [List.getElem?_concat_length]
  show (if _ ∧ _ then some _ else none) = _
  rw [if_pos ⟨by simp; omega, by simp [hv]⟩, List.set_append_right _ _ (Nat.le_refl _)]
  simp only [Nat.sub_self, List.set_cons_zero]
  congr 4
  rw [List.set_eq_take_append_cons_drop, if_pos hk]
  simp
/-- A store of one cell into a block of one's own. -/
theorem store_cell {h : AHeap} {b k : Nat} {cs : List Value} {t : TypeId} {v : Value} (hb : h[b]? = some (.cells cs t true)) (hk : k < cs.length) (hv : oneC v = true) : storef 1 (ptrTo b k) v h = some (h.set b (.cells (cs.set k v) t true)) := by
  simp only [storef, ptrTo]
  rw [cellsL_one hv]
  show writeN _ _ _ _ = _
  unfold writeN
  rw [hb]
  show (if _ ∧ _ then some _ else none) = _
  rw [if_pos ⟨by simp; omega, by simp [hv]⟩]
  congr 3
  rw [List.set_eq_take_append_cons_drop, if_pos hk]
  simp
theorem readC_at {h : AHeap} {b k : Nat} {cs : List Value} {t : TypeId} {rw_ : Bool} (hb : h[b]? = some (.cells cs t rw_)) : readC h b k = cs[k]? := by unfold readC; rw [hb]
theorem readN_at {h : AHeap} {b n : Nat} {cs : List Value} {t : TypeId} {rw_ : Bool} (hb : h[b]? = some (.cells cs t rw_)) (hn : cs.length = n) : readN h b 0 n = some cs := by
  unfold readN; rw [hb]; simp only; rw [if_pos (by omega), List.drop_zero, List.take_of_length_le (by omega)]
theorem noRef_slice_none : noRef (.slice none 0 0) = true := rfl

/-- The inner loop: the voices that are left. -/
theorem inner6 (m n : Nat) {S : Nat → Prop} {h : AHeap} {x1 w4 rg : Value} {l : List DVoiceTick} {ch : List Int} {b21 : Nat} {a0 a1 a2 a3 : Value} (r1 : R S h x1 (.sl (ch.map iD))) (r4 : R S h w4 (.sl (l.map DVoiceTick.dat))) (hS : ∀ b, S b → b < h.length ∧ b ≠ b21) (hm : l.length ≤ mostLen) (hmc : ch.length ≤ mostLen) (hn : l.length < n)
    (hb : h[b21]? = some (.cells [a0, a1, a2, a3, .slice none 0 0, rg] 26 true)) :
    ∃ vx g, (g[b21]? = some (.cells [a0, a1, a2, a3, vx, rg] 26 true) ∧ Own h.length 35 13 (fun _ => False) g vx ((l.filter fun v => !ofCh ch v).map DVoiceTick.dat) ∧ h.length ≤ g.length ∧ ∀ b, b < h.length → b ≠ b21 → g[b]? = h[b]?) ∧
      ∀ jj, loopN (s6_L0 Γ0 m x1 (ptrTo b21 0) w4 (.int .i64 l.length) jj) n [.int .i64 0] h = jj [] g := by
  have hbl : b21 < h.length := (List.getElem?_eq_some_iff.1 hb).1
  have := loop_thru (R := Value × AHeap) (len := l.length) (B := fun jj => s6_L0 Γ0 m x1 (ptrTo b21 0) w4 (.int .i64 l.length) jj)
    (fun i vs g => vs = [.int .i64 i] ∧ ∃ vx, g[b21]? = some (.cells [a0, a1, a2, a3, vx, rg] 26 true) ∧ Own h.length 35 13 (fun _ => False) g vx (((l.take i).filter fun v => !ofCh ch v).map DVoiceTick.dat) ∧ h.length ≤ g.length ∧ ∀ b, b < h.length → b ≠ b21 → g[b]? = h[b]?)
    (fun vs g => vs = [] ∧ ∃ vx, g[b21]? = some (.cells [a0, a1, a2, a3, vx, rg] 26 true) ∧ Own h.length 35 13 (fun _ => False) g vx ((l.filter fun v => !ofCh ch v).map DVoiceTick.dat) ∧ h.length ≤ g.length ∧ ∀ b, b < h.length → b ≠ b21 → g[b]? = h[b]?) (fun _ => False)
    (fun i vs g hi hq => by
      obtain ⟨rfl, vx, hblk, ho, hlen, hfr⟩ := hq
      obtain ⟨v, hv⟩ := lt_len hi
      have r1g : R S g x1 (.sl (ch.map iD)) := r1.mono fun b hb => ⟨hb, hfr b (hS b hb).1 (hS b hb).2⟩
      have r4g : R S g w4 (.sl (l.map DVoiceTick.dat)) := r4.mono fun b hb => ⟨hb, hfr b (hS b hb).1 (hS b hb).2⟩
      obtain ⟨b, o, e1, e2, _⟩ := r4g.flat_at (size := 13) (fun _ => rfl) (by decide) DVoiceTick.flat hv
      have pg : g <+: g ++ [.cells v.vals 35 true] := pre_app _ _
      have e13 := c13 (v := v.Channel) (r1g.pre pg fun b hb => Nat.lt_of_lt_of_le (hS b hb).1 hlen) hmc
      have hblk2 : (g ++ [ABlk.cells v.vals 35 true])[b21]? = some (.cells [a0, a1, a2, a3, vx, rg] 26 true) := by rw [app_get (by omega)]; exact hblk
      have hsn : storef 13 (ptrTo g.length 0) (.agg v.vals.toArray) (g ++ [.cells [.int .i64 0, .int .i64 0, .int .i64 0, .bool false, .bool false, .bool false, .bool false, .int .i64 0, .int .i64 0, .int .i64 0, .int .i64 0, .int .i64 0, .int .i64 0] 35 true]) = some (g ++ [.cells v.vals 35 true]) :=
        store_new _ _ _ _ _ rfl rfl rfl
      have hr1 : readC (g ++ [ABlk.cells v.vals 35 true]) g.length 1 = some (.int .i64 v.Channel) := by rw [readC_new]; rfl
      cases hp : ofCh ch v with
      | true =>
        refine .inl ⟨[.int .i64 ((i + 1 : Nat) : Int)], g ++ [.cells v.vals 35 true], ⟨rfl, vx, hblk2, ?_, by simp; omega, fun b hb hne => by rw [app_get (by omega)]; exact hfr b hb hne⟩, fun jj K => ?_⟩
        · rw [filter_take_succ _ hv, hp]
          simp only [Bool.not_true, Bool.false_eq_true, if_false, List.append_nil]
          exact ho.mono (Nat.le_refl _) (fun b hb => ⟨app_get (ho.lt hb).2.1, fun h => h⟩) (fun b hb => hb.elim)
        · unfold s6_L0
          unfold mostLen at hm
          unfold ofCh at hp
          simp only [nth_zero, binf_lss, Option.bind_some, JL, ifK_bool, decide_eq_true_eq, binf_add]
          rw [if_pos (by omega)]
          simp only [e1, Option.bind_some, load_agg, e2, Option.map_some, fork, hsn, fieldAddr_ptr, Nat.zero_add, load_cell, hr1, e13, hp, unf, Bool.not_true, ifK_bool, Bool.false_eq_true, if_false, succ64 (show i < 4294967297 by omega)]
      | false =>
        have hlf : ((l.take i).filter fun v => !ofCh ch v).length ≤ i := Nat.le_trans (List.length_filter_le _ _) (by rw [List.length_take]; omega)
        have ho2 : Own h.length 35 13 (fun _ => False) (g ++ [.cells v.vals 35 true] ++ [.cells v.vals 35 true]) vx (((l.take i).filter fun v => !ofCh ch v).map DVoiceTick.dat) :=
          ho.mono (Nat.le_refl _) (fun b hb => ⟨by have := (ho.lt hb).2.1; rw [app_get (by simp; omega), app_get this], fun h => h⟩) (fun b hb => hb.elim)
        have hfirst : firstf 13 1 (.slice (some ⟨(g ++ [ABlk.cells v.vals 35 true]).length, 0, none⟩) 1 1) (g ++ [.cells v.vals 35 true] ++ [.cells v.vals 35 true]) = some v.vals := by
          simp only [firstf]
          rw [if_neg (show ¬ (1 : Nat) = 0 by decide), if_pos (Nat.le_refl 1), readN_new _ _ _ _ _ _ (by exact Nat.le_refl 13)]
          rfl
        obtain ⟨vx', g', e3, o3, l3, f3, _⟩ := own_append (rows2 := [v.dat]) ho2 (fun b hb => hb.elim) (by simp; omega) (v := .slice (some ⟨(g ++ [ABlk.cells v.vals 35 true]).length, 0, none⟩) 1 1) rfl hfirst (by simpa using DVoiceTick.make _ _ v) (by simp [DVoiceTick.len]) (by
          rw [List.length_map]; unfold mostLen at hm ⊢; simp only [List.length_singleton]; omega)
        have hnown : ¬ ownB vx b21 := fun h => by have := (ho.lt h).1; omega
        have hblk3 : g'[b21]? = some (.cells [a0, a1, a2, a3, vx, rg] 26 true) := by
          rw [f3 b21 (by simp; omega) hnown, app_get (by simp; omega)]; exact hblk2
        have hone : oneC vx' = true := (o3.read (S' := fun _ => True) (by simp only [List.length_append, List.length_map, List.length_singleton]; unfold mostLen at hm ⊢; omega) (fun b hb => trivial) (fun b hb => trivial)).oneC
        have hst := store_cell hblk3 (k := 4) (by simp) hone
        have hb21g : b21 < g'.length := (List.getElem?_eq_some_iff.1 hblk3).1
        refine .inl ⟨[.int .i64 ((i + 1 : Nat) : Int)], g'.set b21 (.cells [a0, a1, a2, a3, vx', rg] 26 true), ⟨rfl, vx', by rw [List.getElem?_set_self hb21g], ?_, by simp at l3 ⊢; omega, fun b hb hne => ?_⟩, fun jj K => ?_⟩
        · rw [filter_take_succ _ hv, hp]
          simp only [Bool.not_false, if_true, List.map_append, List.map_cons, List.map_nil]
          exact o3.mono (Nat.le_refl _) (fun b hb => ⟨set_get_ne (by have := (o3.lt hb).1; omega), fun h => h⟩) (fun b hb => hb.elim)
        · rw [set_get_ne hne, f3 b (by simp; omega) (fun h => by have := (ho.lt h).1; omega), app_get (by simp; omega), app_get (by omega)]
          exact hfr b hb hne
        · unfold s6_L0
          unfold mostLen at hm
          unfold ofCh at hp
          have hr4 : readC (g ++ [ABlk.cells v.vals 35 true]) b21 4 = some vx := by rw [readC_at hblk2]; rfl
          have hrN : readN (g ++ [ABlk.cells v.vals 35 true]) g.length 0 13 = some v.vals := readN_new _ _ _ _ _ _ (Nat.le_refl 13)
          have hfill : fillf (rep [Value.int .i64 0, .int .i64 0, .int .i64 0, .bool false, .bool false, .bool false, .bool false, .int .i64 0, .int .i64 0, .int .i64 0, .int .i64 0, .int .i64 0, .int .i64 0] 1) [(0, 13, .agg v.vals.toArray)] = some v.vals := rfl
          simp only [nth_zero, binf_lss, Option.bind_some, JL, ifK_bool, decide_eq_true_eq, binf_add]
          rw [if_pos (by omega)]
          simp only [e1, Option.bind_some, load_agg, e2, Option.map_some, fork, hsn, fieldAddr_ptr, Nat.zero_add, load_cell, hr1, e13, hp, unf, Bool.not_false, ifK_bool, if_true, hr4, hrN, hfill, e3, hst, succ64 (show i < 4294967297 by omega)]
          rfl)
    (fun vs g hq => by
      obtain ⟨rfl, vx, hblk, ho, hlen, hfr⟩ := hq
      rw [List.take_length] at ho
      refine .inl ⟨[], g, ⟨rfl, vx, hblk, ho, hlen, hfr⟩, fun jj K => ?_⟩
      unfold s6_L0
      simp only [nth_zero, binf_lss, Option.bind_some, JL, ifK_bool, decide_eq_true_eq, binf_add]
      rw [if_neg (by omega)])
    n 0 [.int .i64 0] h ⟨rfl, .slice none 0 0, hb, Own.nil _ _ _ _ _, Nat.le_refl _, fun _ _ _ => rfl⟩ (Nat.zero_le _) (by omega)
  rcases this with ⟨vs, g, ⟨rfl, vx, k1, k2, k3, k4⟩, k5⟩ | ⟨r, hr, _⟩
  · exact ⟨vx, g, ⟨k1, k2, k3, k4⟩, k5⟩
  · exact hr.elim
theorem c6 {S : Nat → Prop} {h : AHeap} {x0 x1 : Value} {l : List DTick} {ch : List Int} (r0 : R S h x0 (.sl (l.map DTick.dat))) (r1 : R S h x1 (.sl (ch.map iD))) (hS : ∀ b, S b → b < h.length) (hm : l.length ≤ mostLen) (hmc : ch.length ≤ mostLen) (hsh : short l) :
    ∃ y h', Γ0 6 [x0, x1] h = some (y, h') ∧ h <+: h' ∧ R (fun b => b < h'.length) h' y (.sl ((l.map (muteT ch)).map DTick.dat)) := by
  have hvl : ∀ t ∈ l, t.Voices.length ≤ mostLen := fun t ht => (hsh t ht).1
  -- as much fuel as the longest list needs
  obtain ⟨F, hF1, hF2⟩ : ∃ F : Nat, l.length < F ∧ ∀ t ∈ l, t.Voices.length < F := by
    refine ⟨mostLen + 1, by omega, fun t ht => ?_⟩
    have := hvl t ht; omega
  have key : ∃ r, (∃ y' h', r = some (y', h') ∧ h <+: h' ∧ R (fun b => b < h'.length) h' y' (.sl ((l.map (muteT ch)).map DTick.dat))) ∧ funK Γ0 F A6 [x0, x1] h = r := by
    refine ⟨_, ?_, rfl⟩
    rw [s6_eq]
    unfold s6
    simp only [r0.lenm, Option.bind_some, JL]
    refine loop_ok (len := l.length) (fun i vs hh => ∃ out, vs = [out, .int .i64 i] ∧ h <+: hh ∧ Own h.length 26 6 (fun b => b < hh.length ∧ ¬ ownB out b) hh out (((l.take i).map (muteT ch)).map DTick.dat))
      (fun r : Rt => ∃ y' h', r = some (y', h') ∧ h <+: h' ∧ R (fun b => b < h'.length) h' y' (.sl ((l.map (muteT ch)).map DTick.dat)))
      ?_ ?_ F 0 _ _ ⟨_, rfl, List.prefix_refl _, Own.nil _ _ _ _ _⟩ (Nat.zero_le _) (by omega)
    · rintro i _ hh hi ⟨out, rfl, hp, ho⟩
      obtain ⟨t, ht⟩ := lt_len hi
      have htm := hsh t (List.mem_of_getElem? ht)
      have hpl := pre_len hp
      obtain ⟨b, o, ws, e1, e2, e3, _⟩ := (r0.pre hp hS).struct_at (size := 6) (fun _ => rfl) (by decide) ht
      obtain ⟨x4, x5, rfl, q4, q5⟩ := DTick.cells e3
      generalize hws : [Value.int .i64 t.Order, .int .i64 t.Row, .int .i64 t.Tick, .int .i64 t.Tempo, x4, x5] = ws at *
      have hwl : ws.length = 6 := by rw [← hws]; rfl
      have hone : ws.all oneC = true := e3.oneC
      have z1 := store_new hh [(.int .i64 0), (.int .i64 0), (.int .i64 0), (.int .i64 0), (.slice none 0 0), (.slice none 0 0)] 26 (.agg ws.toArray) 6 (by simpa [cellsL] using hwl) rfl (by simpa [cellsL] using hone)
      have z2 := store_new (hh ++ [.cells ws 26 true]) [(.int .i64 0), (.int .i64 0), (.int .i64 0), (.int .i64 0), (.slice none 0 0), (.slice none 0 0)] 26 (.agg ws.toArray) 6 (by simpa [cellsL] using hwl) rfl (by simpa [cellsL] using hone)
      simp only [cellsL] at z1 z2
      have l1 : (hh ++ [ABlk.cells ws 26 true]).length = hh.length + 1 := by simp
      have l2 : (hh ++ [ABlk.cells ws 26 true] ++ [ABlk.cells ws 26 true]).length = hh.length + 2 := by simp
      rw [l1] at z2
      have p1 : hh <+: hh ++ [ABlk.cells ws 26 true] ++ [ABlk.cells ws 26 true] := pre_trans (pre_app _ _) (pre_app _ _)
      have g17 : (hh ++ [ABlk.cells ws 26 true] ++ [ABlk.cells ws 26 true])[hh.length]? = some (.cells ws 26 true) := by rw [app_get (by simp), List.getElem?_concat_length]
      have g21 : (hh ++ [ABlk.cells ws 26 true] ++ [ABlk.cells ws 26 true])[hh.length + 1]? = some (.cells ws 26 true) := by rw [← l1, List.getElem?_concat_length]
      obtain ⟨rg, hc, e9, pc, oc⟩ := c9 (q5.pre p1 fun b hb => by have := hS b hb; omega) (fun b hb => by have := hS b hb; omega) htm.2
      rw [l2] at oc
      have hcl := pre_len pc
      rw [l2] at hcl
      have rC : R (fun b => b < hc.length ∧ b ≠ hh.length + 1 ∧ ¬ ownB out b) hc rg (.sl (t.Regs.map iD)) := oc.read (by simpa using htm.2) (fun b hb => by
          have := hS b hb
          exact ⟨by omega, by omega, fun h => by have := (ho.lt h).1; omega⟩)
        (fun b hb => ⟨(oc.lt hb).2.1, by have := (oc.lt hb).1; omega, fun h => by have := (ho.lt h).2.1; have := (oc.lt hb).1; omega⟩)
      have gc21 : hc[hh.length + 1]? = some (.cells ws 26 true) := by rw [pre_get pc (by omega), g21]
      have s1 := store_cell gc21 (k := 4) (v := .slice none 0 0) (by omega) rfl
      have gd21 : (hc.set (hh.length + 1) (.cells (ws.set 4 (.slice none 0 0)) 26 true))[hh.length + 1]? = some (.cells (ws.set 4 (.slice none 0 0)) 26 true) := List.getElem?_set_self (by omega)
      have s2 := store_cell gd21 (k := 5) (v := rg) (by simp; omega) rC.oneC
      rw [List.set_set] at s2
      generalize hhd : hc.set (hh.length + 1) (.cells ((ws.set 4 (.slice none 0 0)).set 5 rg) 26 true) = hd at s2
      have ld : hd.length = hc.length := by rw [← hhd]; simp
      have fd : ∀ k, k ≠ hh.length + 1 → hd[k]? = hc[k]? := fun k hk => by rw [← hhd]; exact set_get_ne hk
      have ge21 : hd[hh.length + 1]? = some (.cells [.int .i64 t.Order, .int .i64 t.Row, .int .i64 t.Tick, .int .i64 t.Tempo, .slice none 0 0, rg] 26 true) := by
        rw [← hhd, List.getElem?_set_self (by omega), ← hws]; rfl
      have ge17 : hd[hh.length]? = some (.cells ws 26 true) := by rw [fd _ (by omega), pre_get pc (by omega), g17]
      have hold : ∀ k, k < hh.length → hd[k]? = hh[k]? := fun k hk => by rw [fd k (by omega), pre_get pc (by omega), pre_get p1 hk]
      have k17 : readC hd hh.length 4 = some x4 := by rw [readC_at ge17, ← hws]; rfl
      obtain ⟨vx, g, ⟨k1, k2, k3, k4⟩, k5'⟩ := inner6 F F (S := S) (h := hd) (w4 := x4) (l := t.Voices) (ch := ch) (r1.mono fun b hb => ⟨hb, by rw [hold b (by have := hS b hb; omega), pre_get hp (hS b hb)]⟩) (q4.mono fun b hb => ⟨hb, hold b (by have := hS b hb; omega)⟩)
        (fun b hb => by have := hS b hb; exact ⟨by omega, by omega⟩) htm.1 hmc (hF2 t (List.mem_of_getElem? ht)) ge21
      generalize hG : g ++ [ABlk.cells [.int .i64 t.Order, .int .i64 t.Row, .int .i64 t.Tick, .int .i64 t.Tempo, vx, rg] 26 true] = G
      have pG : g <+: G := by rw [← hG]; exact pre_app _ _
      have lG : G.length = g.length + 1 := by rw [← hG]; simp
      have hgold : ∀ k, k < hh.length → G[k]? = hh[k]? := fun k hk => by rw [pre_get pG (by omega), k4 k (by omega) (by omega), hold k hk]
      have hoG : Own h.length 26 6 (fun b => b < G.length ∧ ¬ ownB out b) G out (((l.take i).map (muteT ch)).map DTick.dat) := ho.mono (Nat.le_refl _) (fun b hb => ⟨hgold b (ho.lt hb).2.1, fun h => h.2 hb⟩) (fun b hb => ⟨⟨by omega, hb.2⟩, hgold b hb.1⟩)
      have rV : R (fun b => b < G.length ∧ ¬ ownB out b) G vx (.sl ((t.Voices.filter fun v => !ofCh ch v).map DVoiceTick.dat)) :=
        (k2.read (S' := fun b => b < g.length ∧ ¬ ownB out b) (by rw [List.length_map]; exact Nat.le_trans (List.length_filter_le _ _) htm.1) (fun b hb => hb.elim) (fun b hb => ⟨(k2.lt hb).2.1, fun h => by have := (ho.lt h).2.1; have := (k2.lt hb).1; omega⟩)).mono fun b hb => ⟨⟨by omega, hb.2⟩, pre_get pG hb.1⟩
      have rG : R (fun b => b < G.length ∧ ¬ ownB out b) G rg (.sl (t.Regs.map iD)) := rC.mono fun b hb => ⟨⟨by omega, hb.2.2⟩, by rw [pre_get pG (by omega), k4 b (by omega) hb.2.1, fd b hb.2.1]⟩
      have hrow : RL (fun b => b < G.length ∧ ¬ ownB out b) G [.int .i64 t.Order, .int .i64 t.Row, .int .i64 t.Tick, .int .i64 t.Tempo, vx, rg] (muteT ch t).dat := DTick.mk_cells (t := muteT ch t) rV rG
      have hfirst : firstf 6 1 (.slice (some ⟨g.length, 0, none⟩) 1 1) G = some [.int .i64 t.Order, .int .i64 t.Row, .int .i64 t.Tick, .int .i64 t.Tempo, vx, rg] := by
        simp only [firstf]
        rw [if_neg (show ¬ (1 : Nat) = 0 by decide), if_pos (Nat.le_refl 1), ← hG, readN_new _ _ _ _ _ _ (by exact Nat.le_refl 6)]
        rfl
      obtain ⟨out', h', e4, o4, l4, f4, n4⟩ := own_append (rows2 := [(muteT ch t).dat]) hoG (fun b hb => hb.1) (by omega) (v := .slice (some ⟨g.length, 0, none⟩) 1 1) rfl hfirst (by simpa using hrow) (by simp [DTick.len]) (by
        simp only [List.length_map, List.length_take, List.length_singleton]; omega)
      refine .inl ⟨[out', .int .i64 ((i + 1 : Nat) : Int)], h', ⟨out', rfl, ?_, ?_⟩, fun K => ?_⟩
      · refine prefix_of_get (by omega) fun k hk => ?_
        rw [f4 k (by omega) (fun h => by have := (ho.lt h).1; omega), hgold k (by omega), pre_get hp hk]
      · have e : ((l.take (i + 1)).map (muteT ch)).map DTick.dat = ((l.take i).map (muteT ch)).map DTick.dat ++ [(muteT ch t).dat] := by
          rw [List.take_add_one, ht, List.map_append, List.map_append]; rfl
        rw [e]
        refine o4.mono (Nat.le_refl _) (fun b hb => ⟨rfl, fun h => h.2 hb⟩) (fun b hb => ⟨⟨by have := hb.1; omega, fun h => ?_⟩, rfl⟩)
        rcases n4 b h with h | h
        · exact hb.2 h
        · have := hb.1; omega
      · unfold s6_L1
        unfold mostLen at hm
        have hrN : ∀ hx : AHeap, hx = hh ++ [ABlk.cells ws 26 true] → readN hx hh.length 0 6 = some ws := by
          rintro _ rfl
          rw [readN_new _ _ _ _ _ _ (by omega), List.drop_zero, List.take_of_length_le (by omega)]
        have hr5 : readC (hh ++ [ABlk.cells ws 26 true] ++ [ABlk.cells ws 26 true]) hh.length 5 = some x5 := by rw [readC_at g17, ← hws]; rfl
        have hgN : readN g (hh.length + 1) 0 6 = some [.int .i64 t.Order, .int .i64 t.Row, .int .i64 t.Tick, .int .i64 t.Tempo, vx, rg] := readN_at k1 rfl
        have hfill : fillf (rep [Value.int .i64 0, .int .i64 0, .int .i64 0, .int .i64 0, .slice none 0 0, .slice none 0 0] 1) [(0, 6, .agg [.int .i64 t.Order, .int .i64 t.Row, .int .i64 t.Tick, .int .i64 t.Tempo, vx, rg].toArray)] = some [.int .i64 t.Order, .int .i64 t.Row, .int .i64 t.Tick, .int .i64 t.Tempo, vx, rg] := rfl
        simp only [nth_zero, nth_one, binf_lss, Option.bind_some, JL, ifK_bool, decide_eq_true_eq, binf_add]
        rw [if_pos (by omega)]
        simp only [e1, Option.bind_some, load_agg, e2, Option.map_some, fork, z1, hrN _ rfl, l1, z2, fieldAddr_ptr, Nat.zero_add, load_cell, hr5, e9, s1, s2, k17, q4.lenm, k5', hgN, hfill, hG, e4, nth_zero, succ64 (show i < 4294967297 by omega)]
    · rintro _ hh ⟨out, rfl, hp, ho⟩
      rw [List.take_length] at ho
      obtain ⟨h'', f1, f2⟩ := fin_own (x := out) hp
      refine ⟨some (out, h''), ⟨out, h'', rfl, ?_, ?_⟩, fun K => ?_⟩
      · rcases f2 with ⟨_, rfl⟩ | ⟨_, rfl⟩
        · exact List.prefix_refl _
        · exact hp
      · rcases f2 with ⟨f3, rfl⟩ | ⟨_, rfl⟩
        · rcases ho.2 with ⟨rfl, hnil⟩ | ⟨b, c, cs, rfl, _⟩
          · rw [hnil]; exact .nil
          · cases f3
        · exact ho.read (by simpa using hm) (fun b hb => hb.1) (fun b hb => (ho.lt hb).2.1)
      · unfold s6_L1
        simp only [nth_zero, nth_one, binf_lss, Option.bind_some, JL, ifK_bool, decide_eq_true_eq, binf_add]
        rw [if_neg (by omega)]
        exact f1
  obtain ⟨r, ⟨y', h', rfl, k1, k2⟩, e⟩ := key
  exact ⟨y', h', gbody (F := A6) (by kernel_rfl) F e, k1, k2⟩
end Go.Am.X
