/- Each operation that is no call goes as the machine says. -/
import Derived.Test.YteedbdkhlgongaaAm8
set_option linter.unusedSimpArgs false
set_option linter.unusedVariables false
namespace Go.Am
variable {P : Program} {μ : Ren} {w : World}

def OpGoes (P : Program) (o : Oper) (ρ : Operand → Value) (μ : Ren) (h : AHeap) (w : World) (v : Value) (h1 : AHeap) : Prop :=
  ∃ v' w1 μ1, ((execOp ρ o).run P w = .ok (.value v') w1 ∨ ((execOp ρ o).run P w = .ok .skip w1 ∧ v' = undef)) ∧ VR μ1 v v' ∧ Sim P μ1 h1 w1 ∧ Ext μ h w μ1 h1 w1
def isCall : AOp → Bool
  | .call _ _ | .callV _ _ => true
  | _ => false

section
variable {o : Oper} {ρ : Operand → Value} {h : AHeap} {v : Value} {h1 : AHeap}
theorem OpGoes.pure (s : Sim P μ h w) {v' : Value} (hr : (execOp ρ o).run P w = .ok (.value v') w) (hv : VR μ v v') : OpGoes P o ρ μ h w v h :=
  ⟨v', w, μ, .inl hr, hv, s, Ext.refl _ _ _ s.dom⟩
theorem OpGoes.val {v' : Value} {w1 : World} {μ1 : Ren} (hr : (execOp ρ o).run P w = .ok (.value v') w1) (hv : VR μ1 v v') (s : Sim P μ1 h1 w1) (x : Ext μ h w μ1 h1 w1) : OpGoes P o ρ μ h w v h1 :=
  ⟨v', w1, μ1, .inl hr, hv, s, x⟩
end

/-- An operation whose own text gives a value. -/
theorem run_v {x : Sem Value} {y : Value} {w1 : World} (h : x.run P w = .ok y w1) : (do pure (Next.value (← x)) : Sem Next).run P w = .ok (.value y) w1 := by
  simp only [Sem.run_bind, h, Result.andThen_ok, Sem.run_pure]
theorem run_builtin {b : Builtin} {args : Array Operand} {argTypes : Array TypeId} {dst : Option Tmp} {type : TypeId} {pos : String} {after : Array Edge} {guard : Option (Nat × Bool)} {ρ : Operand → Value} {v : Value} {w1 : World}
    (h : (builtin b argTypes type (args.map fun | .const _ => true | _ => false) (args.toList.map ρ).toArray).run P w = .ok (.value v) w1) :
    (execOp ρ ⟨dst, .call ⟨.builtin b, args, argTypes⟩, type, pos, after, guard⟩).run P w = .ok (.value v) w1 := by
  have hm : args.map ρ = (args.toList.map ρ).toArray := Array.ext' (by simp)
  simp only [execOp, resolve, Sem.run_bind, Sem.run_pure, Result.andThen_ok, invoke]
  rw [hm]
  exact h
theorem foldM_list {g : Value → Value → Sem Value} {x : Value} {l : List Value} : (match x :: l with | [] => stuck "" | y :: r => r.foldlM g y : Sem Value) = l.foldlM g x := rfl
theorem okL_mem {l : List Operand} (h : okL l = true) {x : Operand} (hx : x ∈ l) : okX x = true := List.all_eq_true.1 h x hx

theorem op_sound {o : Oper} {ao : AOp} {e : Env} {ρ : Operand → Value} {h h1 : AHeap} {v : Value} {Γ : Callee} (hc : compOp P o.op = some ao) (hn : isCall ao = false) (he : OpR μ e ρ) (s : Sim P μ h w)
    (hk : opK Γ ao e h (fun v h' => some (v, h')) = some (v, h1)) : OpGoes P o ρ μ h w v h1 := by
  unfold compOp at hc
  split at hc
  · rename_i hok
    obtain ⟨dst, op, type, pos, after, guard⟩ := o
    simp only at hc hok
    have hX : ∀ {x : Operand}, x ∈ op.operands.toList → VR μ (val e x) (ρ x) := fun hx => he _ (okL_mem hok hx)
    cases op with
    | move x =>
      cases hc
      cases hk
      exact .pure s rfl (hX (by simp [Op.operands]))
    | assign x =>
      cases hc
      cases hk
      exact .pure s rfl (hX (by simp [Op.operands]))
    | pick c a b =>
      cases hc
      simp only [opK, Option.bind_eq_some_iff] at hk
      obtain ⟨u, hu, hk⟩ := hk
      cases hk
      obtain ⟨t, ht, hv⟩ := pickf_sound (hX (x := c) (by simp [Op.operands])) (hX (x := a) (by simp [Op.operands])) (hX (x := b) (by simp [Op.operands])) hu
      exact .pure s (by simp [execOp, ht, asBool]) hv
    | binOp op t x y yt =>
      have hx := hX (x := x) (by simp [Op.operands])
      have hy := hX (x := y) (by simp [Op.operands])
      simp only [compOp1, compBin] at hc
      split at hc
      · cases hc
        simp only [opK, Option.bind_eq_some_iff] at hk
        obtain ⟨u, hu, hk⟩ := hk
        cases hk
        obtain ⟨hr, hv⟩ := binf_sound (P := P) (w := w) (t := t) (X := x) (Y := y) hx hy hu
        exact .pure s (run_v hr) hv
      · cases hc
        simp only [opK, Option.bind_eq_some_iff] at hk
        obtain ⟨u, hu, hk⟩ := hk
        cases hk
        obtain ⟨hr, hv⟩ := binf_sound (P := P) (w := w) (t := t) (X := x) (Y := y) hx hy hu
        exact .pure s (run_v hr) hv
      · rename_i ht
        rw [Option.map_eq_some_iff] at hc
        obtain ⟨neg, hneg, hc⟩ := hc
        cases hc
        simp only [opK, Option.bind_eq_some_iff] at hk
        obtain ⟨u, hu, hk⟩ := hk
        cases hk
        obtain ⟨hr, hv⟩ := eqBoolf_sound (P := P) (w := w) (t := t) (X := x) (Y := y) hx hy hu ht (negOf_spec hneg)
        exact .pure s (run_v hr) hv
      · split at hc
        · rename_i neg ks hneg hflat
          cases hc
          simp only [opK, Option.bind_eq_some_iff] at hk
          obtain ⟨u, hu, hk⟩ := hk
          cases hk
          obtain ⟨hr, hv⟩ := eqAggf_sound (P := P) (w := w) (t := t) (X := x) (Y := y) hx hy hu hflat (negOf_spec hneg)
          exact .pure s (run_v hr) hv
        · cases hc
      · rename_i d _ _ _ _ ht
        split at hc
        · rename_i neg k hneg hkd
          split at hc
          · rename_i hnc
            cases hc
            simp only [opK, Option.bind_eq_some_iff] at hk
            obtain ⟨u, hu, hk⟩ := hk
            cases hk
            obtain ⟨z, rfl, hz⟩ := isNilConst_spec hnc
            unfold isNilKf at hu
            split at hu
            · rename_i hkk
              obtain ⟨hr, _, hv⟩ := isNilf_sound (P := P) (w := w) (t := t) (X := x) (Y := .const z) hx hu ht hz (kindOk_of hkd hkk) (negOf_spec hneg)
              have hy2 : ρ (.const z) = z := VR.eq_of_noRef (v := z) (show okX (.const z) = true from okL_mem hok (by simp [Op.operands])) hy
              refine .pure s (run_v (x := do eqGuard op t x (.const z) (ρ x) (ρ (.const z)); binOp op t (ρ x) (ρ (.const z))) ?_) hv
              rw [hy2]
              exact hr rfl
            · cases hu
          · split at hc
            · rename_i hnc
              cases hc
              simp only [opK, Option.bind_eq_some_iff] at hk
              obtain ⟨u, hu, hk⟩ := hk
              cases hk
              obtain ⟨z, rfl, hz⟩ := isNilConst_spec hnc
              unfold isNilKf at hu
              split at hu
              · rename_i hkk
                obtain ⟨_, hr, hv⟩ := isNilf_sound (P := P) (w := w) (t := t) (X := .const z) (Y := y) hy hu ht hz (kindOk_of hkd hkk) (negOf_spec hneg)
                have hy2 : ρ (.const z) = z := VR.eq_of_noRef (v := z) (show okX (.const z) = true from okL_mem hok (by simp [Op.operands])) hx
                refine .pure s (run_v (x := do eqGuard op t (.const z) y (ρ (.const z)) (ρ y); binOp op t (ρ (.const z)) (ρ y)) ?_) hv
                rw [hy2]
                exact hr rfl
              · cases hu
            · cases hc
        · cases hc
      · cases hc
    | unOp op t x =>
      cases hc
      simp only [opK, Option.bind_eq_some_iff] at hk
      obtain ⟨u, hu, hk⟩ := hk
      cases hk
      obtain ⟨hr, hv⟩ := unf_sound (P := P) (w := w) (hX (x := x) (by simp [Op.operands])) hu
      exact .pure s (by simp [execOp, hr]) hv
    | convert sr d x =>
      have hx := hX (x := x) (by simp [Op.operands])
      simp only [compOp1, compConv] at hc
      split at hc
      · rename_i h2 h3
        cases hc
        simp only [opK, Option.bind_eq_some_iff] at hk
        obtain ⟨u, hu, hk⟩ := hk
        cases hk
        obtain ⟨hr, hv⟩ := convf_sound (P := P) (w := w) hx hu h2 h3
        exact .pure s (run_v hr) hv
      · rename_i h2 h3
        cases hc
        simp only [opK, Option.bind_eq_some_iff] at hk
        obtain ⟨u, hu, hk⟩ := hk
        cases hk
        obtain ⟨hr, hv⟩ := strIdf_sound (P := P) (w := w) hx hu h2 h3
        exact .pure s (run_v hr) hv
      · rename_i h2 h3
        split at hc
        · rename_i h4
          cases hc
          simp only [opK, Option.bind_eq_some_iff] at hk
          obtain ⟨u, hu, hk⟩ := hk
          cases hk
          obtain ⟨hr, hv⟩ := bytesToStrf_sound (P := P) (w := w) s hx hu h2 h4 h3
          exact .pure s (run_v hr) hv
        · cases hc
      · cases hc
    | extract x i =>
      cases hc
      simp only [opK, Option.bind_eq_some_iff] at hk
      obtain ⟨u, hu, hk⟩ := hk
      cases hk
      obtain ⟨v', hr, hv⟩ := extractf_sound (P := P) (w := w) (hX (x := x) (by simp [Op.operands])) hu
      exact .pure s (by simp [execOp, hr]) hv
    | field t x f =>
      simp only [compOp1, Option.map_eq_some_iff] at hc
      obtain ⟨⟨fd, agg, n⟩, hf, hc⟩ := hc
      cases hc
      simp only [opK, Option.bind_eq_some_iff] at hk
      obtain ⟨u, hu, hk⟩ := hk
      cases hk
      obtain ⟨fs, d, i, h1, h2, h3, h4, h5, h6, h7⟩ := fieldOf_spec hf
      obtain ⟨v', hr, hv⟩ := fieldf_sound (P := P) (w := w) (hX (x := x) (by simp [Op.operands])) hu h1 h2 rfl h3 h4 h5 h6
      exact .pure s (by simp [execOp, hr]) hv
    | fieldAddr t x f =>
      simp only [compOp1, Option.map_eq_some_iff] at hc
      obtain ⟨⟨fd, agg, n⟩, hf, hc⟩ := hc
      cases hc
      simp only [opK, Option.bind_eq_some_iff] at hk
      obtain ⟨u, hu, hk⟩ := hk
      cases hk
      obtain ⟨fs, d, i, h1, h2, h3, h4, h5, h6, h7⟩ := fieldOf_spec hf
      obtain ⟨v', hr, hv⟩ := fieldAddrf_sound (P := P) (w := w) (hX (x := x) (by simp [Op.operands])) hu h1 h2 rfl h4 (by omega)
      exact .pure s (by simp [execOp, hr]) hv
    | indexAddr t x ix =>
      have hx := hX (x := x) (by simp [Op.operands])
      have hy := hX (x := ix) (by simp [Op.operands])
      simp only [compOp1] at hc
      split at hc
      · rename_i e' ht
        rw [Option.map_eq_some_iff] at hc
        obtain ⟨⟨agg, n⟩, hl, hc⟩ := hc
        cases hc
        simp only [opK, Option.bind_eq_some_iff] at hk
        obtain ⟨u, hu, hk⟩ := hk
        cases hk
        obtain ⟨d, i, h1, h2, h3, h4, h5⟩ := layOf_spec hl
        obtain ⟨v', hr, hv⟩ := indexAddrf_sound (P := P) (w := w) hx hy hu ht h2 h4
        exact .pure s (run_v hr) hv
      · rename_i n' e' ht
        rw [Option.map_eq_some_iff] at hc
        obtain ⟨⟨agg, n⟩, hl, hc⟩ := hc
        cases hc
        simp only [opK, Option.bind_eq_some_iff] at hk
        obtain ⟨u, hu, hk⟩ := hk
        cases hk
        obtain ⟨d, i, h1, h2, h3, h4, h5⟩ := layOf_spec hl
        obtain ⟨v', hr, hv⟩ := indexAddrArrf_sound (P := P) (w := w) hx hy hu ht h2 h4
        exact .pure s (run_v hr) hv
      · cases hc
    | index t x ix =>
      have hx := hX (x := x) (by simp [Op.operands])
      have hy := hX (x := ix) (by simp [Op.operands])
      simp only [compOp1] at hc
      split at hc
      · rename_i n' e' ht
        rw [Option.map_eq_some_iff] at hc
        obtain ⟨⟨agg, n⟩, hl, hc⟩ := hc
        cases hc
        simp only [opK, Option.bind_eq_some_iff] at hk
        obtain ⟨u, hu, hk⟩ := hk
        cases hk
        obtain ⟨d, i, h1, h2, h3, h4, h5⟩ := layOf_spec hl
        obtain ⟨v', hr, hv⟩ := indexArrf_sound (P := P) (w := w) hx hy hu ht h1 h2 h3 h4
        exact .pure s (run_v hr) hv
      · rename_i ht
        cases hc
        simp only [opK, Option.bind_eq_some_iff] at hk
        obtain ⟨u, hu, hk⟩ := hk
        cases hk
        obtain ⟨hr, hv⟩ := indexStrf_sound (P := P) (w := w) hx hy hu ht
        exact .pure s (run_v hr) hv
      · cases hc
    | nilCheck x =>
      cases hc
      simp only [opK, Option.bind_eq_some_iff] at hk
      obtain ⟨u, hu, hk⟩ := hk
      cases hk
      have hx := hX (x := x) (by simp [Op.operands])
      have hx2 := hx
      unfold nilCheckf at hu
      split at hu
      · rename_i a ha
        cases hu
        rw [ha] at hx2
        generalize hy : ρ x = y at hx2
        cases hx2 with
        | ptr e1 => exact .pure s (by simp [execOp, hy]) (.ptr e1)
      · rename_i f xs ys ha
        cases hu
        rw [ha] at hx2
        generalize hy : ρ x = y at hx2
        cases hx2 with
        | func f e1 e2 => exact .pure s (by simp [execOp, hy]) (.func f e1 e2)
      · cases hu
    | slice t x lo hi mx =>
      have hx := hX (x := x) (by simp [Op.operands])
      have h1 : OR μ (valO e lo) (lo.map ρ) := valO_rel he (by cases lo <;> first | rfl | exact okL_mem hok (by simp [Op.operands]))
      have h2 : OR μ (valO e hi) (hi.map ρ) := valO_rel he (by cases hi <;> first | rfl | exact okL_mem hok (by simp [Op.operands]))
      have h3 : OR μ (valO e mx) (mx.map ρ) := valO_rel he (by cases mx <;> first | rfl | exact okL_mem hok (by simp [Op.operands]))
      simp only [compOp1] at hc
      split at hc
      · rename_i hmx
        have hmx' : (valO e mx).isSome = true → (valO e hi).isSome = true := by
          intro hs
          have := hmx (by cases mx <;> simp_all [valO])
          cases hi <;> simp_all [valO]
        split at hc
        · rename_i e' ht
          rw [Option.map_eq_some_iff] at hc
          obtain ⟨⟨agg, n⟩, hl, hc⟩ := hc
          cases hc
          simp only [opK, Option.bind_eq_some_iff] at hk
          obtain ⟨u, hu, hk⟩ := hk
          cases hk
          obtain ⟨d, i, h4, h5, h6, h7, h8⟩ := layOf_spec hl
          obtain ⟨v', hr, hv⟩ := slicef_sound (P := P) (w := w) hx h1 h2 h3 hmx' hu ht h5 h7 h8
          exact .pure s (run_v hr) hv
        · rename_i ht
          split at hc
          · rename_i hmn
            cases hc
            simp only [opK, Option.bind_eq_some_iff] at hk
            obtain ⟨u, hu, hk⟩ := hk
            cases hk
            obtain ⟨hr, hv⟩ := sliceStrf_sound (P := P) (w := w) hx h1 h2 hu ht
            cases mx with
            | none => exact .pure s (run_v hr) hv
            | some _ => cases hmn
          · cases hc
        · rename_i n' e' ht
          split at hc
          · rename_i hlt
            rw [Option.map_eq_some_iff] at hc
            obtain ⟨⟨agg, n⟩, hl, hc⟩ := hc
            cases hc
            simp only [opK, Option.bind_eq_some_iff] at hk
            obtain ⟨u, hu, hk⟩ := hk
            cases hk
            obtain ⟨d, i, h4, h5, h6, h7, h8⟩ := layOf_spec hl
            obtain ⟨v', hr, hv⟩ := sliceArrf_sound (P := P) (w := w) hx h1 h2 h3 hmx' hu ht h5 h7 hlt
            exact .pure s (run_v hr) hv
          · cases hc
        · cases hc
      · cases hc
    | build t parts =>
      simp only [compOp1] at hc
      split at hc
      · rename_i z0 place hz hp
        rw [Option.map_eq_some_iff] at hc
        obtain ⟨ps, hps, hc⟩ := hc
        cases hc
        simp only [opK, Option.bind_eq_some_iff] at hk
        obtain ⟨l, hl, hk⟩ := hk
        cases hk
        obtain ⟨i, z, h2, h3, rfl, h5, h6, h7, h8⟩ := zeroLay_spec hz
        have hpr := partsOf_spec he hps (by simpa [okL, Op.operands] using hok)
        obtain ⟨cs', hf, hv⟩ := fillf_sound hpr (VRL.of_noRef1 h5) hl
        have hb := built_of hp h2 h3 (parts.toList.map fun x => (x.1, ρ x.2))
        rw [hf] at hb
        refine .pure s (v' := .agg cs') (run_v ?_) (.agg hv)
        refine run_build w t _ cs' ?_
        simpa using hb
      · cases hc
    | buildSlice t n parts =>
      simp only [compOp1] at hc
      split at hc
      · rename_i e' ht
        split at hc
        · rename_i z0 agg sz hz hl
          split at hc
          · rename_i hsmall
            rw [Option.map_eq_some_iff] at hc
            obtain ⟨ps, hps, hc⟩ := hc
            cases hc
            simp only [opK, Option.bind_eq_some_iff] at hk
            obtain ⟨l, hl', hk⟩ := hk
            cases hk
            obtain ⟨i, z, h2, h3, rfl, h5, h6, h7, h8⟩ := zeroLay_spec hz
            obtain ⟨d, i', g1, g2, g3, g4, g5⟩ := layOf_spec hl
            rw [h2] at g2
            cases g2
            subst g4
            have hpr := partsOf_spec he hps (by simpa [okL, Op.operands] using hok)
            have hrep : ((Array.range (n * i.size)).map (z.cells[· % z.cells.size]!)).toList = rep z.cells.toList n := by
              rw [← h6]
              exact rep_eq _ _
            obtain ⟨cs', hf, hv⟩ := fillf_sound (cs := (Array.range (n * i.size)).map (z.cells[· % z.cells.size]!)) hpr (by rw [hrep]; exact (VRL.of_noRef1 h5).rep _) hl'
            have hlen : l.length = cs'.size := by simpa using hv.length
            have hbr : BR P (grow μ h.length w.heap.size 0) 0 (.cells l e' true) (.cells cs' e' (0, 0)) :=
              ⟨_, _, rfl, by omega, by rw [hlen, List.take_of_length_le (by simp)]; exact hv.mono (grow_le s _ _), fun _ => rfl, by omega⟩
            obtain ⟨h9, h10⟩ := s.alloc (w0 := w) rfl Out.rfl hbr
            have hU : n < capU := by
              have : n ≤ n * i.size := Nat.le_mul_of_pos_right _ g5
              unfold capU
              omega
            refine .val (run_v (run_buildSlice w t e' n _ cs' i z ht h2 h3 (by omega) ?_ ?_)) (.sl (grow_new _ _ _) (.inl ⟨hU, rfl⟩)) h9 h10
            · have : 0 < n * i.size := Nat.mul_pos hsmall.2 g5
              omega
            · simpa using hf
          · split at hc
            · rename_i h0
              cases hc
              obtain ⟨rfl, hpe⟩ := h0
              have hpe' : parts = #[] := by
                cases parts with
                | mk l => cases l with
                  | nil => rfl
                  | cons => cases hpe
              subst hpe'
              have hk' : v = .slice (some ⟨h.length, 0, none⟩) 0 0 ∧ h1 = h ++ [.cells [] e' true] := by
                simp only [opK, rep, valP, fillf, Option.bind_some] at hk
                cases hk
                exact ⟨rfl, rfl⟩
              obtain ⟨rfl, rfl⟩ := hk'
              obtain ⟨d, i', g1, g2, g3, g4, g5⟩ := layOf_spec hl
              have hbr : BR P (grow μ h.length w.heap.size 0) 0 (.cells [] e' true) (.cells #[] e' (0, 0)) :=
                ⟨_, _, rfl, by simp, .nil, fun _ => rfl, by omega⟩
              obtain ⟨h9, h10⟩ := s.alloc (w0 := w) rfl Out.rfl hbr
              have hrun : (Instr.buildSlice t 0 #[]).run P w = .ok (.slice (some ⟨w.heap.size, 0, none⟩) 0 0) (w.alloc (.cells #[] e')) := by
                simp [Instr.buildSlice, run_underlying' ht, run_sizeOf' g2, newRow, Instr.fill]
                have he0 : (Array.range 0).map (fun _ => (default : Value)) = #[] := Array.eq_empty_of_size_eq_zero (by simp)
                rw [he0]
              exact .val (run_v (by simpa using hrun)) (.sl (grow_new _ _ _) (.inl ⟨by decide, rfl⟩)) h9 h10
            · cases hc
        · cases hc
      · cases hc
    | makeFunc fn first captured =>
      cases fn with
      | func f =>
        cases hc
        cases hk
        have h2 : okL first.toList = true ∧ okL captured.toList = true := by
          simpa [okL, Op.operands] using hok
        exact .pure s rfl (.func f (by simpa using vals_rel he h2.1) (by simpa using vals_rel he h2.2))
      | _ => cases hc
    | makeMap t r =>
      cases r with
      | some x => cases hc
      | none =>
        cases hc
        cases hk
        obtain ⟨w1, μ1, v', hr, hv, hs, hx⟩ := mkMap_sound (P := P) (w := w) s (t := t)
        exact .val (run_v hr) hv hs hx
    | lookup t x i ok =>
      have hx := hX (x := x) (by simp [Op.operands])
      have hi := hX (x := i) (by simp [Op.operands])
      simp only [compOp1] at hc
      split at hc
      · rename_i key elem ht
        split at hc
        · rename_i k ie hb hie
          split at hc
          · rename_i z hz
            split at hc
            · rename_i hz0
              cases hc
              simp only [opK, Option.bind_eq_some_iff] at hk
              obtain ⟨u, hu, hk⟩ := hk
              cases hk
              cases hkd : P.underlying key with
              | none => rw [hkd] at hb; cases hb
              | some d =>
                rw [hkd] at hb
                obtain ⟨v', hr, hv⟩ := lookupf_sound (P := P) (w := w) s hx hi hu ht hkd hb hie hz (VR.of_noRef hz0)
                exact .pure s (run_v hr) hv
            · cases hc
          · cases hc
        · cases hc
      · cases hc
    | mapUpdate t m k v =>
      have hm := hX (x := m) (by simp [Op.operands])
      have hkk := hX (x := k) (by simp [Op.operands])
      have hvv := hX (x := v) (by simp [Op.operands])
      simp only [compOp1] at hc
      split at hc
      · rename_i key elem ht
        rw [Option.map_eq_some_iff] at hc
        obtain ⟨b, hb, hc⟩ := hc
        cases hc
        simp only [opK, Option.bind_eq_some_iff] at hk
        obtain ⟨u, hu, hk⟩ := hk
        cases hk
        cases hkd : P.underlying key with
        | none => rw [hkd] at hb; cases hb
        | some d =>
          rw [hkd] at hb
          obtain ⟨w1, hr, hs, hxx⟩ := setMapf_sound (P := P) (w := w) s hm hkk hvv hu ht hkd hb
          exact ⟨undef, w1, μ, .inr ⟨by simp [execOp, hr], rfl⟩, .undef, hs, hxx⟩
      · cases hc
    | insert t m k v =>
      have hm := hX (x := m) (by simp [Op.operands])
      have hkk := hX (x := k) (by simp [Op.operands])
      have hvv := hX (x := v) (by simp [Op.operands])
      simp only [compOp1] at hc
      split at hc
      · rename_i key elem ht
        rw [Option.map_eq_some_iff] at hc
        obtain ⟨b, hb, hc⟩ := hc
        cases hc
        simp only [opK, Option.bind_eq_some_iff] at hk
        obtain ⟨u, hu, hk⟩ := hk
        cases hk
        cases hkd : P.underlying key with
        | none => rw [hkd] at hb; cases hb
        | some d =>
          rw [hkd] at hb
          obtain ⟨w1, hr, hs, hxx⟩ := setMapf_sound (P := P) (w := w) s hm hkk hvv hu ht hkd hb
          exact ⟨undef, w1, μ, .inr ⟨by simp [execOp, hr], rfl⟩, .undef, hs, hxx⟩
      · cases hc
    | makeInterface t x =>
      simp only [compOp1] at hc
      split at hc
      · cases hc
      · rename_i d hnot ht
        cases hc
        cases hk
        refine .pure s (run_v ?_) (.iface t (hX (x := x) (by simp [Op.operands])))
        simp only [Instr.makeInterface, Sem.run_bind, run_underlying' ht, Result.andThen_ok]
        cases d <;> first | rfl | exact absurd rfl (hnot _)
      · cases hc
    | box t x =>
      cases hc
      cases hk
      have hx := (hX (x := x) (by simp [Op.operands])).cells'
      have hbr : BR P (grow μ h.length w.heap.size 0) 0 (.cells (cellsL (val e x)) t true) (.cells (ρ x).cells t (0, 0)) :=
        ⟨_, _, rfl, hx.1, hx.2.mono (grow_le s _ _), fun _ => rfl, by omega⟩
      obtain ⟨h9, h10⟩ := s.alloc (w0 := w) rfl Out.rfl hbr
      refine .val (v' := .pointer (some ⟨w.heap.size, 0, none⟩)) (run_v ?_) (.ptr (grow_new _ _ _)) h9 h10
      simp only [Instr.box, newVar, newRow, Sem.run_bind, run_newObj, Result.andThen_ok, Sem.run_pure]
      rfl
    | alloc t =>
      simp only [compOp1, Option.map_eq_some_iff] at hc
      obtain ⟨z0, hz, hc⟩ := hc
      cases hc
      cases hk
      obtain ⟨i, z, h2, h3, rfl, h5, h6, h7, h8⟩ := zeroLay_spec hz
      have hbr : BR P (grow μ h.length w.heap.size 0) 0 (.cells z.cells.toList t true) (.cells z.cells t (0, 0)) :=
        ⟨_, _, rfl, by simp, by rw [List.take_of_length_le (by simp)]; exact VRL.of_noRef1 h5, fun _ => rfl, by omega⟩
      obtain ⟨h9, h10⟩ := s.alloc (w0 := w) rfl Out.rfl hbr
      refine .val (v' := .pointer (some ⟨w.heap.size, 0, none⟩)) (run_v ?_) (.ptr (grow_new _ _ _)) h9 h10
      simp only [Instr.alloc, Sem.run_bind, run_zeroValue' h2 h3, newVar, newRow, run_newObj, Result.andThen_ok, Sem.run_pure]
      rfl
    | makeSlice t n c =>
      simp only [compOp1] at hc
      split at hc
      · rename_i e' ht
        rw [Option.map_eq_some_iff] at hc
        obtain ⟨z0, hz, hc⟩ := hc
        cases hc
        simp only [opK, Option.bind_eq_some_iff] at hk
        obtain ⟨⟨u, h2⟩, hu, hk⟩ := hk
        cases hk
        obtain ⟨i, z, g2, g3, g4, g5, g6, g7, g8⟩ := zeroLay_spec hz
        obtain ⟨v', w1, μ1, hr, hv, hs, hx⟩ := mkSlicef_sound (P := P) (w := w) s (hX (x := n) (by simp [Op.operands])) (hX (x := c) (by simp [Op.operands])) hu ht g2 g3 g4 g6 g8 g5
        exact .val (run_v hr) hv hs hx
      · cases hc
    | load t x =>
      simp only [compOp1, Option.map_eq_some_iff] at hc
      obtain ⟨⟨agg, n⟩, hl, hc⟩ := hc
      cases hc
      simp only [opK, Option.bind_eq_some_iff] at hk
      obtain ⟨u, hu, hk⟩ := hk
      cases hk
      obtain ⟨d, i, h1, h2, h3, h4, h5⟩ := layOf_spec hl
      obtain ⟨v', hr, hv⟩ := loadf_sound s (hX (x := x) (by simp [Op.operands])) hu h1 h2 h3 h4
      exact .pure s (by simp [execOp, hr]) hv
    | store t x y =>
      simp only [compOp1, Option.map_eq_some_iff] at hc
      obtain ⟨⟨agg, n⟩, hl, hc⟩ := hc
      cases hc
      simp only [opK, Option.bind_eq_some_iff] at hk
      obtain ⟨u, hu, hk⟩ := hk
      cases hk
      obtain ⟨d, i, h1, h2, h3, h4, h5⟩ := layOf_spec hl
      obtain ⟨w', hr, hs, hx⟩ := storef_sound s (hX (x := x) (by simp [Op.operands])) (hX (x := y) (by simp [Op.operands])) hu h2 h4 h5
      exact ⟨undef, w', μ, .inr ⟨by simp [execOp, hr], rfl⟩, VR.undef, hs, hx⟩
    | call c =>
      obtain ⟨callee, args, argTypes⟩ := c
      cases callee with
      | value f =>
        cases f with
        | func g =>
          simp only [compOp1] at hc
          split at hc
          · cases hc; cases hn
          · cases hc
        | _ => cases hc; cases hn
      | invoke _ _ => cases hc
      | builtin b =>
        have hargs : ∀ {x : Operand}, x ∈ args.toList → VR μ (val e x) (ρ x) := fun hx => hX (by simpa [Op.operands, Call.operands] using hx)
        have hall : okL args.toList = true := by simpa [okL, Op.operands, Call.operands] using hok
        obtain ⟨args⟩ := args
        simp only [compOp1, compBuiltin] at hc
        split at hc
        · rename_i x
          have hx := hargs (x := x) (by simp)
          split at hc
          · rename_i t
            split at hc
            · rename_i ht
              cases hc
              simp only [opK, Option.bind_eq_some_iff] at hk
              obtain ⟨u, hu, hk⟩ := hk
              cases hk
              obtain ⟨hr, hv⟩ := lenf_sound (P := P) (w := w) (ty := type) hx hu (by simpa using ht)
              exact .pure s (run_builtin (run_v hr)) hv
            · rename_i e' ht
              cases hc
              simp only [opK, Option.bind_eq_some_iff] at hk
              obtain ⟨u, hu, hk⟩ := hk
              cases hk
              obtain ⟨hr, hv⟩ := lenf_sound (P := P) (w := w) (ty := type) hx hu (by simpa using ⟨e', ht⟩)
              exact .pure s (run_builtin (run_v hr)) hv
            · rename_i n e' ht
              cases hc
              cases hk
              refine .pure s (v' := .int .i64 n) (run_builtin (run_v ?_)) (.int _ _)
              simp [Builtin.len_, run_underlying' ht, goInt]
            · rename_i k' e' ht
              cases hc
              simp only [opK, Option.bind_eq_some_iff] at hk
              obtain ⟨u, hu, hk⟩ := hk
              cases hk
              obtain ⟨hr, hv⟩ := lenMapf_sound (P := P) (w := w) (ty := type) s hx hu ht
              exact .pure s (run_builtin (run_v hr)) hv
            · cases hc
          · cases hc
        · rename_i x y
          have hx := hargs (x := x) (by simp)
          have hy := hargs (x := y) (by simp)
          have key : ∀ (st xt elem : TypeId) (dx : TypeDesc) (z0 : List Value) (l : Bool × Nat), argTypes = #[st, xt] → P.underlying st = some (.slice elem) → P.underlying xt = some dx → (∀ k, dx ≠ .int k) → zeroLay P elem = some z0 → layOf P elem = some l →
              ∀ u, appendf elem l.2 (val e x) (val e y) h = some u → OpGoes P ⟨dst, .call ⟨.builtin .append, ⟨[x, y]⟩, argTypes⟩, type, pos, after, guard⟩ ρ μ h w u.1 u.2 := by
            rintro st xt elem dx z0 ⟨agg, n⟩ rfl h1 h2 h3 h4 h5 ⟨u1, u2⟩ hu
            obtain ⟨i, z, g2, g3, g4, g5, g6, g7, g8⟩ := zeroLay_spec h4
            obtain ⟨d, i', k1, k2, k3, k4, k5⟩ := layOf_spec h5
            rw [g2] at k2
            cases k2
            obtain ⟨v', w1, μ1, hr, hv, hs, hxx⟩ := appendf_sound (P := P) (w := w) (ty := type) s hx hy hu h1 h2 h3 g2 k4 g3 g6 g8
            exact .val (run_builtin (run_v hr)) hv hs hxx
          split at hc
          · rename_i st xt
            split at hc
            · rename_i e' e'' h1 h2
              split at hc
              · rename_i z0 agg n h3 h4
                cases hc
                simp only [opK, Option.bind_eq_some_iff] at hk
                obtain ⟨u, hu, hk⟩ := hk
                cases hk
                exact key _ _ _ _ _ _ rfl h1 h2 (by simp) h3 h4 u hu
              · cases hc
            · rename_i e' h1 h2
              split at hc
              · rename_i z0 agg n h3 h4
                cases hc
                simp only [opK, Option.bind_eq_some_iff] at hk
                obtain ⟨u, hu, hk⟩ := hk
                cases hk
                exact key _ _ _ _ _ _ rfl h1 h2 (by simp) h3 h4 u hu
              · cases hc
            · rename_i e' k' h1 h2
              split at hc
              · rename_i z0 agg n h3 h4
                cases hc
                simp only [opK, Option.bind_eq_some_iff] at hk
                obtain ⟨⟨u1, u2⟩, hu, hk⟩ := hk
                cases hk
                obtain ⟨i, z, g2, g3, g4, g5, g6, g7, g8⟩ := zeroLay_spec h3
                obtain ⟨d, i', k1, k2, k3, k4, k5⟩ := layOf_spec h4
                rw [g2] at k2
                cases k2
                obtain ⟨v', w1, μ1, hr, hv, hs, hxx⟩ := appendNf_sound (P := P) (w := w) (ty := type) s hx hy hu h1 h2 g2 k4 g3 g6 g8 g4 g5
                exact .val (run_builtin (run_v hr)) hv hs hxx
              · cases hc
            · cases hc
          · cases hc
        · rename_i x y
          have hx := hargs (x := x) (by simp)
          have hy := hargs (x := y) (by simp)
          split at hc
          · rename_i dt xt
            split at hc
            · rename_i e' h1
              rw [Option.map_eq_some_iff] at hc
              obtain ⟨⟨agg, n⟩, hl, hc⟩ := hc
              cases hc
              simp only [opK, Option.bind_eq_some_iff] at hk
              obtain ⟨⟨u1, u2⟩, hu, hk⟩ := hk
              cases hk
              obtain ⟨d, i', k1, k2, k3, k4, k5⟩ := layOf_spec hl
              obtain ⟨w1, hr, hv, hs, hxx⟩ := copyf_sound (P := P) (w := w) (ty := type) (xt := xt) s hx hy hu h1 k2 k4
              exact .val (run_builtin (run_v hr)) hv hs hxx
            · cases hc
          · cases hc
        · rename_i x
          have hx := hargs (x := x) (by simp)
          split at hc
          · rename_i t
            split at hc
            · rename_i e' h1
              rw [Option.map_eq_some_iff] at hc
              obtain ⟨z0, hz0, hc⟩ := hc
              cases hc
              simp only [opK, Option.bind_eq_some_iff] at hk
              obtain ⟨⟨u1, u2⟩, hu, hk⟩ := hk
              cases hk
              obtain ⟨i, z, h2, h3, rfl, h5, h6, h7, h8⟩ := zeroLay_spec hz0
              obtain ⟨w1, hr, hv, hs, hxx⟩ := clearf_sound (P := P) (w := w) (ty := type) s hx h1 h2 h3 h5 hu
              exact .val (run_builtin (run_v hr)) hv hs hxx
            · cases hc
          · cases hc
        · cases hc
          simp only [opK, Option.bind_eq_some_iff] at hk
          obtain ⟨u, hu, hk⟩ := hk
          cases hk
          have hvs := vals_rel he hall
          cases args with
          | nil => cases hu
          | cons x xs =>
            cases hvs with
            | cons h1 h2 =>
              obtain ⟨v', hr, hv⟩ := foldf_sound (P := P) (w := w) (g := Builtin.max2) (fun x y x' y' v hx hy h => max2f_sound hx hy h) h1 h2 hu
              refine .pure s (run_builtin (run_v ?_)) hv
              simpa [Builtin.max_] using hr
        · cases hc
          simp only [opK, Option.bind_eq_some_iff] at hk
          obtain ⟨u, hu, hk⟩ := hk
          cases hk
          have hvs := vals_rel he hall
          cases args with
          | nil => cases hu
          | cons x xs =>
            cases hvs with
            | cons h1 h2 =>
              obtain ⟨v', hr, hv⟩ := foldf_sound (P := P) (w := w) (g := Builtin.min2) (fun x y x' y' v hx hy h => min2f_sound hx hy h) h1 h2 hu
              refine .pure s (run_builtin (run_v ?_)) hv
              simpa [Builtin.min_] using hr
        · cases hc
    | panic x => cases hc; simp only [opK] at hk; cases hk
    | _ => cases hc
  · cases hc

end Go.Am
