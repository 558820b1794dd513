/- One operation, calls too, in the calculus of the model. -/
import Derived.Test.YteedbdkhlgongaaAm9
set_option linter.unusedSimpArgs false
set_option linter.unusedVariables false
namespace Go.Am
variable {P : Program} {μ : Ren} {w : World}

/-- A fence that lets everything in. -/
def WideF (F : Fence) : Prop := (∀ f, F.fn f) ∧ F.depth = none
/-- What a callee of the machine promises of the model's call. -/
def FnOk (P : Program) (Γ : Callee) (f : FuncId) : Prop :=
  ∀ args h r h1, Γ f args h = some (r, h1) →
    (∀ (xs : Array Value) (w : World), (callFunc f xs).run P w = .ok (.enter f xs) w) ∧
    ∀ (μ : Ren) (w : World) (args' : List Value), Sim P μ h w → VRL μ args args' → ∀ (F : Fence) (n : Nat), WideF F →
      CallsIn F n P f args'.toArray w fun e w' => ∃ v μ1, e = .returned v ∧ VR μ1 r v ∧ Sim P μ1 h1 w' ∧ Ext μ h w μ1 h1 w'
/-- .. and of the model's yield. -/
def YieldOk (P : Program) (Γ : Callee) : Prop :=
  ∀ b args h r h1, Γ yieldId (ptrTo b 0 :: args) h = some (r, h1) →
    ∀ (μ : Ren) (w : World) (args' : List Value) (c K : Nat), Sim P μ h w → VRL μ args args' → μ b = some ⟨c, K⟩ →
      ∃ fn tmps as bd, (Instr.yield c args'.toArray).run P w = .ok (.round c fn tmps as bd) w ∧ ∀ (F : Fence) (n : Nat), WideF F →
        RoundIn F n P c fn tmps as bd w fun e w' => ∃ v μ1, e = .returned v ∧ VR μ1 r v ∧ Sim P μ1 h1 w' ∧ Ext μ h w μ1 h1 w'
structure CallOk (P : Program) (Γ : Callee) : Prop where
  fn : ∀ f, Nat.blt f yieldId = true → FnOk P Γ f
  yield : YieldOk P Γ

theorem resolve_value {c : Call} {f : Operand} {ρ : Operand → Value} {g : FuncId} {xs ys : Array Value} {ty : TypeId} (hc : c.callee = .value f) (hf : ρ f = .func (.func g) xs ys) :
    (resolve ρ c ty).run P w = .ok { target := .fn (.func g) ys, args := xs ++ c.args.map ρ } w := by
  simp [resolve, hc, Deferred.ofValue, hf]
theorem opK_callV {Γ : Callee} {f : Value} {args : List Value} {h h1 : AHeap} {v : Value} (hk : callVf Γ f args h = some (v, h1)) :
    (∃ g xs ys, f = .func (.func g) xs ys ∧ Nat.blt g yieldId = true ∧ Γ g (xs.toList ++ args ++ ys.toList) h = some (v, h1)) ∨ ∃ b, f = .func (.yield b) ⟨[]⟩ ⟨[]⟩ ∧ Γ yieldId (ptrTo b 0 :: args) h = some (v, h1) := by
  unfold callVf at hk
  split at hk
  · rename_i g xs ys
    cases hb : Nat.blt g yieldId with
    | true => rw [hb] at hk; exact .inl ⟨_, _, _, rfl, hb, hk⟩
    | false => rw [hb] at hk; cases hk
  · exact .inr ⟨_, rfl, hk⟩
  · cases hk
theorem resolve_yield {c : Call} {f : Operand} {ρ : Operand → Value} {l : Nat} {ty : TypeId} (hc : c.callee = .value f) (hf : ρ f = .func (.yield l) ⟨[]⟩ ⟨[]⟩) :
    ((do let d ← resolve ρ c ty; invoke d.target d.args : Sem Next)).run P w = (Instr.yield l (c.args.map ρ)).run P w := by
  simp [resolve, hc, Deferred.ofValue, hf, invoke]

theorem builtin_noCall {b : Builtin} {args : List Operand} {tys : Array TypeId} {ao : AOp} (hc : compBuiltin P b args tys = some ao) : isCall ao = false := by
  unfold compBuiltin at hc
  split at hc
  · split at hc
    · split at hc <;> first | (cases hc; rfl) | cases hc
    · cases hc
  · split at hc
    · split at hc
      · split at hc <;> first | (cases hc; rfl) | cases hc
      · split at hc <;> first | (cases hc; rfl) | cases hc
      · split at hc <;> first | (cases hc; rfl) | cases hc
      · cases hc
    · cases hc
  · split at hc
    · split at hc
      · rw [Option.map_eq_some_iff] at hc; obtain ⟨_, _, hc⟩ := hc; cases hc; rfl
      · cases hc
    · cases hc
  · split at hc
    · split at hc
      · rw [Option.map_eq_some_iff] at hc; obtain ⟨_, _, hc⟩ := hc; cases hc; rfl
      · cases hc
    · cases hc
  · cases hc; rfl
  · cases hc; rfl
  · cases hc
theorem bin_noCall {op : BinOp} {t : TypeId} {x y : Operand} {ao : AOp} (hc : compBin P op t x y = some ao) : isCall ao = false := by
  unfold compBin at hc
  split at hc
  · cases hc; rfl
  · cases hc; rfl
  · rw [Option.map_eq_some_iff] at hc; obtain ⟨_, _, hc⟩ := hc; cases hc; rfl
  · split at hc <;> first | (cases hc; rfl) | cases hc
  · split at hc
    · split at hc
      · cases hc; rfl
      · split at hc
        · cases hc; rfl
        · cases hc
    · cases hc
  · cases hc
theorem conv_noCall {s d : TypeId} {x : Operand} {ao : AOp} (hc : compConv P s d x = some ao) : isCall ao = false := by
  unfold compConv at hc
  split at hc
  · cases hc; rfl
  · cases hc; rfl
  · split at hc
    · cases hc; rfl
    · cases hc
  · cases hc
theorem op_wp {F : Fence} {n : Nat} {o : Oper} {ao : AOp} {e : Env} {a : Act} {h h1 : AHeap} {v : Value} {Γ : Callee} {next : Act → World → Prop} {Q : Exit → Act → World → Prop}
    (hF : WideF F) (hc : compOp P o.op = some ao) (hΓ : CallOk P Γ) (he : OpR μ e a.eval) (s : Sim P μ h w) (hk : opK Γ ao e h (fun v h' => some (v, h')) = some (v, h1))
    (hnext : ∀ v' w1 μ1, VR μ1 v v' → Sim P μ1 h1 w1 → Ext μ h w μ1 h1 w1 → next (a.put o.dst v') w1) : o.wpIn F n P a w next Q := by
  refine ⟨fun f _ => hF.1 f, ?_⟩
  have hsem : o.semAt F.round a.eval = execOp a.eval o := by
    apply Oper.semAt_eq
    intro c hd
    rw [hd] at hc
    unfold compOp at hc
    split at hc <;> cases hc
  rw [hsem]
  by_cases hn : isCall ao = false
  · obtain ⟨v', w1, μ1, hr, hv, hs, hx⟩ := op_sound hc hn he s hk
    rcases hr with hr | ⟨hr, rfl⟩
    · rw [hr]; exact hnext v' w1 μ1 hv hs hx
    · rw [hr]; exact hnext undef w1 μ1 hv hs hx
  · unfold compOp at hc
    split at hc
    case isFalse => cases hc
    rename_i hok
    obtain ⟨dst, op, type, pos, after, guard⟩ := o
    simp only at hc hok hnext
    -- the callee's promise, at the arguments as the frame has them
    have key : ∀ (f : FuncId) (args : List Value) (args' : List Value), Nat.blt f yieldId = true → VRL μ args args' → Γ f args h = some (v, h1) → (execOp a.eval ⟨dst, op, type, pos, after, guard⟩).run P w = (callFunc f args'.toArray).run P w →
        Oper.uponIn F n P ⟨dst, op, type, pos, after, guard⟩ a next Q ((execOp a.eval ⟨dst, op, type, pos, after, guard⟩).run P w) := by
      intro f args args' hblt hl hg hr
      obtain ⟨h2, h3⟩ := hΓ.fn f hblt args h v h1 hg
      rw [hr, h2]
      refine ⟨fun hd => (by rw [hF.2] at hd; cases hd), (h3 μ w args' s hl F (n - 1) hF).mono ?_⟩
      rintro e' w' ⟨v', μ1, rfl, hv, hs, hx⟩
      exact hnext v' w' μ1 hv hs hx
    have keyV : ∀ (c : Call) (f : Operand), op = .call c → c.callee = .value f → okX f = true → okL c.args.toList = true → callVf Γ (val e f) (vals e c.args.toList) h = some (v, h1) →
        Oper.uponIn F n P ⟨dst, op, type, pos, after, guard⟩ a next Q ((execOp a.eval ⟨dst, op, type, pos, after, guard⟩).run P w) := by
      intro c f hop hcal hfok hargs hg
      rcases opK_callV hg with ⟨g, xs, ys, hf, hblt, hg⟩ | ⟨b, hf, hg⟩
      case inr =>
        have hvf := he f hfok
        rw [hf] at hvf
        generalize hy : a.eval f = y at hvf
        cases hvf with
        | @yield _ c0 K h5 =>
          obtain ⟨fn, tmps, as, bd, g1, g2⟩ := hΓ.yield b _ h v h1 hg μ w (c.args.toList.map a.eval) c0 K s (vals_rel he hargs) h5
          subst hop
          have hrun : (execOp a.eval ⟨dst, .call c, type, pos, after, guard⟩).run P w = .ok (.round c0 fn tmps as bd) w := by
            have := resolve_yield (P := P) (w := w) (ty := type) hcal hy
            have hm : c.args.map a.eval = (c.args.toList.map a.eval).toArray := Array.ext' (by simp)
            rw [hm, g1] at this
            exact this
          rw [hrun]
          refine ⟨fun hd => (by rw [hF.2] at hd; cases hd), (g2 F (n - 1) hF).mono ?_⟩
          rintro e' w' ⟨v', μ1, rfl, hv, hs, hx⟩
          exact hnext v' w' μ1 hv hs hx
      have hvf := he f hfok
      rw [hf] at hvf
      generalize hy : a.eval f = y at hvf
      cases hvf with
      | @func _ _ _ xs' ys' h5 h6 =>
        refine key g _ (xs'.toList ++ c.args.toList.map a.eval ++ ys'.toList) hblt ((h5.append (vals_rel he hargs)).append h6) hg ?_
        subst hop
        have hm : xs' ++ c.args.map a.eval ++ ys' = (xs'.toList ++ c.args.toList.map a.eval ++ ys'.toList).toArray := Array.ext' (by simp)
        simp only [execOp, Sem.run_bind, resolve_value hcal hy, Result.andThen_ok, invoke, hm]
    cases op with
    | call c =>
      obtain ⟨callee, args, argTypes⟩ := c
      cases callee with
      | value f =>
        have hargs : okL args.toList = true := by
          simp only [okL, Op.operands, Call.operands, Array.toList_append, List.all_append, Bool.and_eq_true] at hok
          exact hok.2
        have hfok : okX f = true := by
          simp only [okL, Op.operands, Call.operands, Array.toList_append, List.all_append, Bool.and_eq_true] at hok
          simpa using hok.1
        cases f with
        | func g =>
          simp only [compOp1] at hc
          split at hc
          case isFalse => cases hc
          rename_i hblt
          cases hc
          have hk' : Γ g (vals e args.toList) h = some (v, h1) := by
            simp only [opK, Option.bind_eq_some_iff] at hk
            obtain ⟨⟨u1, u2⟩, hu, hk⟩ := hk
            cases hk
            exact hu
          refine keyV _ (.func g) rfl rfl hfok hargs ?_
          show (bif Nat.blt g yieldId then Γ g ([] ++ vals e args.toList ++ []) h else none) = some (v, h1)
          rw [hblt, List.nil_append, List.append_nil]
          exact hk'
        | tmp t =>
          cases hc
          have hk' : callVf Γ (val e (.tmp t)) (vals e args.toList) h = some (v, h1) := by
            simp only [opK, Option.bind_eq_some_iff] at hk
            obtain ⟨⟨u1, u2⟩, hu, hk⟩ := hk
            cases hk
            exact hu
          exact keyV _ (.tmp t) rfl rfl hfok hargs hk'
        | const z =>
          cases hc
          have hk' : callVf Γ (val e (.const z)) (vals e args.toList) h = some (v, h1) := by
            simp only [opK, Option.bind_eq_some_iff] at hk
            obtain ⟨⟨u1, u2⟩, hu, hk⟩ := hk
            cases hk
            exact hu
          exact keyV _ (.const z) rfl rfl hfok hargs hk'
        | global g => cases hfok
      | invoke _ _ => cases hc
      | builtin b => exact absurd (builtin_noCall hc) hn
    | binOp _ _ _ _ _ => exact absurd (bin_noCall hc) hn
    | convert _ _ _ => exact absurd (conv_noCall hc) hn
    | makeMap t r => cases r <;> first | (cases hc; done) | (cases hc; exact absurd rfl hn)
    | makeFunc fn _ _ => cases fn <;> first | (cases hc; done) | (cases hc; exact absurd rfl hn)
    | _ =>
      exfalso
      apply hn
      first
        | (cases hc; done)
        | (cases hc; rfl)
        | (simp only [compOp1] at hc
           (repeat' split at hc) <;> first
             | (cases hc; rfl)
             | (rw [Option.map_eq_some_iff] at hc; obtain ⟨_, _, hc⟩ := hc; cases hc; rfl)
             | cases hc)

end Go.Am
