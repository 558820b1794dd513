/- The machine (MaC): parts of one text. -/
import Derived.Test.YtaacaogceplhoaaMaB
set_option linter.unusedSimpArgs false
set_option linter.unusedVariables false
/- One operation, calls too, in the calculus of the model. -/
namespace Go.Am
variable {P : Program} {μ : Ren} {w : World}

/-- A fence that lets everything in. -/
def WideF (F : Fence) : Prop := (∀ f, F.fn f) ∧ F.depth = none
/-- What a callee of the machine promises of the model's call. -/
def FnOk (P : Program) (Γ : Callee) (f : FuncId) : Prop :=
  ∀ args h r h1, Γ f args h = some (r, h1) →
    (∀ (xs : Array Value) (w : World), (callFunc f xs).run P w = .ok (.enter f xs) w) ∧
    ∀ (μ : Ren) (w : World) (args' : List Value), Sim P μ h w → VRL μ args args' → ∀ (F : Fence) (n : Nat), WideF F →
      CallsIn F n P f args'.toArray w fun e w' => ∃ v μ1, e = .returned v ∧ VR μ1 r v ∧ Sim P μ1 h1 w' ∧ Ext μ h w μ1 h1 w'
/-- .. and of the model's yield. -/
def YieldOk (P : Program) (Γ : Callee) : Prop :=
  ∀ b args h r h1, Γ yieldId (ptrTo b 0 :: args) h = some (r, h1) →
    ∀ (μ : Ren) (w : World) (args' : List Value) (c K : Nat), Sim P μ h w → VRL μ args args' → μ b = some ⟨c, K⟩ →
      ∃ fn tmps as bd, (Instr.yield c args'.toArray).run P w = .ok (.round c fn tmps as bd) w ∧ ∀ (F : Fence) (n : Nat), WideF F →
        RoundIn F n P c fn tmps as bd w fun e w' => ∃ v μ1, e = .returned v ∧ VR μ1 r v ∧ Sim P μ1 h1 w' ∧ Ext μ h w μ1 h1 w'
structure CallOk (P : Program) (Γ : Callee) : Prop where
  fn : ∀ f, Nat.blt f yieldId = true → FnOk P Γ f
  yield : YieldOk P Γ

theorem resolve_value {c : Call} {f : Operand} {ρ : Operand → Value} {g : FuncId} {xs ys : Array Value} {ty : TypeId} (hc : c.callee = .value f) (hf : ρ f = .func (.func g) xs ys) :
    (resolve ρ c ty).run P w = .ok { target := .fn (.func g) ys, args := xs ++ c.args.map ρ } w := by
  simp [resolve, hc, Deferred.ofValue, hf]
theorem opK_callV {Γ : Callee} {f : Value} {args : List Value} {h h1 : AHeap} {v : Value} (hk : callVf Γ f args h = some (v, h1)) :
    (∃ g xs ys, f = .func (.func g) xs ys ∧ Nat.blt g yieldId = true ∧ Γ g (xs.toList ++ args ++ ys.toList) h = some (v, h1)) ∨ ∃ b, f = .func (.yield b) ⟨[]⟩ ⟨[]⟩ ∧ Γ yieldId (ptrTo b 0 :: args) h = some (v, h1) := by
  unfold callVf at hk
  split at hk
  · rename_i g xs ys
    cases hb : Nat.blt g yieldId with
    | true => rw [hb] at hk; exact .inl ⟨_, _, _, rfl, hb, hk⟩
    | false => rw [hb] at hk; cases hk
  · exact .inr ⟨_, rfl, hk⟩
  · cases hk
theorem resolve_yield {c : Call} {f : Operand} {ρ : Operand → Value} {l : Nat} {ty : TypeId} (hc : c.callee = .value f) (hf : ρ f = .func (.yield l) ⟨[]⟩ ⟨[]⟩) :
    ((do let d ← resolve ρ c ty; invoke d.target d.args : Sem Next)).run P w = (Instr.yield l (c.args.map ρ)).run P w := by
  simp [resolve, hc, Deferred.ofValue, hf, invoke]

theorem builtin_noCall {b : Builtin} {args : List Operand} {tys : Array TypeId} {ao : AOp} (hc : compBuiltin P b args tys = some ao) : isCall ao = false := by
  unfold compBuiltin at hc
  split at hc
  · split at hc
    · split at hc <;> first | (cases hc; rfl) | cases hc
    · cases hc
  · split at hc
    · split at hc
      · split at hc <;> first | (cases hc; rfl) | cases hc
      · split at hc <;> first | (cases hc; rfl) | cases hc
      · split at hc <;> first | (cases hc; rfl) | cases hc
      · cases hc
    · cases hc
  · split at hc
    · split at hc
      · rw [Option.map_eq_some_iff] at hc; obtain ⟨_, _, hc⟩ := hc; cases hc; rfl
      · cases hc
    · cases hc
  · split at hc
    · split at hc
      · rw [Option.map_eq_some_iff] at hc; obtain ⟨_, _, hc⟩ := hc; cases hc; rfl
      · cases hc
    · cases hc
  · cases hc; rfl
  · cases hc; rfl
  · cases hc
theorem bin_noCall {op : BinOp} {t : TypeId} {x y : Operand} {ao : AOp} (hc : compBin P op t x y = some ao) : isCall ao = false := by
  unfold compBin at hc
  split at hc
  · cases hc; rfl
  · cases hc; rfl
  · rw [Option.map_eq_some_iff] at hc; obtain ⟨_, _, hc⟩ := hc; cases hc; rfl
  · split at hc <;> first | (cases hc; rfl) | cases hc
  · split at hc <;> first | (cases hc; rfl) | cases hc
  · split at hc
    · split at hc
      · cases hc; rfl
      · split at hc
        · cases hc; rfl
        · cases hc
    · cases hc
  · cases hc
theorem conv_noCall {s d : TypeId} {x : Operand} {ao : AOp} (hc : compConv P s d x = some ao) : isCall ao = false := by
  unfold compConv at hc
  split at hc
  · cases hc; rfl
  · cases hc; rfl
  · split at hc
    · cases hc; rfl
    · cases hc
  · cases hc
theorem op_wp {F : Fence} {n : Nat} {o : Oper} {ao : AOp} {e : Env} {a : Act} {h h1 : AHeap} {v : Value} {Γ : Callee} {next : Act → World → Prop} {Q : Exit → Act → World → Prop}
    (hF : WideF F) (hc : compOp P o.op = some ao) (hΓ : CallOk P Γ) (he : OpR μ e a.eval) (s : Sim P μ h w) (hk : opK Γ ao e h (fun v h' => some (v, h')) = some (v, h1))
    (hnext : ∀ v' w1 μ1, VR μ1 v v' → Sim P μ1 h1 w1 → Ext μ h w μ1 h1 w1 → next (a.put o.dst v') w1) : o.wpIn F n P a w next Q := by
  refine ⟨fun f _ => hF.1 f, ?_⟩
  have hsem : o.semAt F.round a.eval = execOp a.eval o := by
    apply Oper.semAt_eq
    intro c hd
    rw [hd] at hc
    unfold compOp at hc
    split at hc <;> cases hc
  rw [hsem]
  by_cases hn : isCall ao = false
  · obtain ⟨v', w1, μ1, hr, hv, hs, hx⟩ := op_sound hc hn he s hk
    rcases hr with hr | ⟨hr, rfl⟩
    · rw [hr]; exact hnext v' w1 μ1 hv hs hx
    · rw [hr]; exact hnext undef w1 μ1 hv hs hx
  · unfold compOp at hc
    split at hc
    case isFalse => cases hc
    rename_i hok
    obtain ⟨dst, op, type, pos, after, guard⟩ := o
    simp only at hc hok hnext
    -- the callee's promise, at the arguments as the frame has them
    have key : ∀ (f : FuncId) (args : List Value) (args' : List Value), Nat.blt f yieldId = true → VRL μ args args' → Γ f args h = some (v, h1) → (execOp a.eval ⟨dst, op, type, pos, after, guard⟩).run P w = (callFunc f args'.toArray).run P w →
        Oper.uponIn F n P ⟨dst, op, type, pos, after, guard⟩ a next Q ((execOp a.eval ⟨dst, op, type, pos, after, guard⟩).run P w) := by
      intro f args args' hblt hl hg hr
      obtain ⟨h2, h3⟩ := hΓ.fn f hblt args h v h1 hg
      rw [hr, h2]
      refine ⟨fun hd => (by rw [hF.2] at hd; cases hd), (h3 μ w args' s hl F (n - 1) hF).mono ?_⟩
      rintro e' w' ⟨v', μ1, rfl, hv, hs, hx⟩
      exact hnext v' w' μ1 hv hs hx
    have keyV : ∀ (c : Call) (f : Operand), op = .call c → c.callee = .value f → okX f = true → okL c.args.toList = true → callVf Γ (val e f) (vals e c.args.toList) h = some (v, h1) →
        Oper.uponIn F n P ⟨dst, op, type, pos, after, guard⟩ a next Q ((execOp a.eval ⟨dst, op, type, pos, after, guard⟩).run P w) := by
      intro c f hop hcal hfok hargs hg
      rcases opK_callV hg with ⟨g, xs, ys, hf, hblt, hg⟩ | ⟨b, hf, hg⟩
      case inr =>
        have hvf := he f hfok
        rw [hf] at hvf
        generalize hy : a.eval f = y at hvf
        cases hvf with
        | @yield _ c0 K h5 =>
          obtain ⟨fn, tmps, as, bd, g1, g2⟩ := hΓ.yield b _ h v h1 hg μ w (c.args.toList.map a.eval) c0 K s (vals_rel he hargs) h5
          subst hop
          have hrun : (execOp a.eval ⟨dst, .call c, type, pos, after, guard⟩).run P w = .ok (.round c0 fn tmps as bd) w := by
            have := resolve_yield (P := P) (w := w) (ty := type) hcal hy
            have hm : c.args.map a.eval = (c.args.toList.map a.eval).toArray := Array.ext' (by simp)
            rw [hm, g1] at this
            exact this
          rw [hrun]
          refine ⟨fun hd => (by rw [hF.2] at hd; cases hd), (g2 F (n - 1) hF).mono ?_⟩
          rintro e' w' ⟨v', μ1, rfl, hv, hs, hx⟩
          exact hnext v' w' μ1 hv hs hx
      have hvf := he f hfok
      rw [hf] at hvf
      generalize hy : a.eval f = y at hvf
      cases hvf with
      | @func _ _ _ xs' ys' h5 h6 =>
        refine key g _ (xs'.toList ++ c.args.toList.map a.eval ++ ys'.toList) hblt ((h5.append (vals_rel he hargs)).append h6) hg ?_
        subst hop
        have hm : xs' ++ c.args.map a.eval ++ ys' = (xs'.toList ++ c.args.toList.map a.eval ++ ys'.toList).toArray := Array.ext' (by simp)
        simp only [execOp, Sem.run_bind, resolve_value hcal hy, Result.andThen_ok, invoke, hm]
    cases op with
    | call c =>
      obtain ⟨callee, args, argTypes⟩ := c
      cases callee with
      | value f =>
        have hargs : okL args.toList = true := by
          simp only [okL, Op.operands, Call.operands, Array.toList_append, List.all_append, Bool.and_eq_true] at hok
          exact hok.2
        have hfok : okX f = true := by
          simp only [okL, Op.operands, Call.operands, Array.toList_append, List.all_append, Bool.and_eq_true] at hok
          simpa using hok.1
        cases f with
        | func g =>
          simp only [compOp1] at hc
          split at hc
          case isFalse => cases hc
          rename_i hblt
          cases hc
          have hk' : Γ g (vals e args.toList) h = some (v, h1) := by
            simp only [opK, Option.bind_eq_some_iff] at hk
            obtain ⟨⟨u1, u2⟩, hu, hk⟩ := hk
            cases hk
            exact hu
          refine keyV _ (.func g) rfl rfl hfok hargs ?_
          show (bif Nat.blt g yieldId then Γ g ([] ++ vals e args.toList ++ []) h else none) = some (v, h1)
          rw [hblt, List.nil_append, List.append_nil]
          exact hk'
        | tmp t =>
          cases hc
          have hk' : callVf Γ (val e (.tmp t)) (vals e args.toList) h = some (v, h1) := by
            simp only [opK, Option.bind_eq_some_iff] at hk
            obtain ⟨⟨u1, u2⟩, hu, hk⟩ := hk
            cases hk
            exact hu
          exact keyV _ (.tmp t) rfl rfl hfok hargs hk'
        | const z =>
          cases hc
          have hk' : callVf Γ (val e (.const z)) (vals e args.toList) h = some (v, h1) := by
            simp only [opK, Option.bind_eq_some_iff] at hk
            obtain ⟨⟨u1, u2⟩, hu, hk⟩ := hk
            cases hk
            exact hu
          exact keyV _ (.const z) rfl rfl hfok hargs hk'
        | global g => cases hfok
      | invoke _ _ => cases hc
      | builtin b => exact absurd (builtin_noCall hc) hn
    | binOp _ _ _ _ _ => exact absurd (bin_noCall hc) hn
    | convert _ _ _ => exact absurd (conv_noCall hc) hn
    | makeMap t r => cases r <;> first | (cases hc; done) | (cases hc; exact absurd rfl hn)
    | makeFunc fn _ _ => cases fn <;> first | (cases hc; done) | (cases hc; exact absurd rfl hn)
    | _ =>
      exfalso
      apply hn
      first
        | (cases hc; done)
        | (cases hc; rfl)
        | (simp only [compOp1] at hc
           (repeat' split at hc) <;> first
             | (cases hc; rfl)
             | (rw [Option.map_eq_some_iff] at hc; obtain ⟨_, _, hc⟩ := hc; cases hc; rfl)
             | cases hc)

end Go.Am

/- Regions: from the tree of steps to the list of operations, and the text's order. -/
namespace Go.Am
variable {P : Program} {μ : Ren} {w : World}

/-! ### Environments -/
theorem upd_self (e : Env) (i : Nat) (v : Value) : upd e i v i = v := by simp [upd]
theorem upd_ne (e : Env) {i j : Nat} (v : Value) (h : i ≠ j) : upd e i v j = e j := by
  have : Nat.beq i j = false := by
    cases hb : Nat.beq i j with
    | false => rfl
    | true => exact absurd (Nat.eq_of_beq_eq_true hb) h
  simp [upd, this]
/-- e' knows no more than e. -/
def Weaker (e' e : Env) : Prop := ∀ i, e' i = e i ∨ e' i = junk
theorem Weaker.refl (e : Env) : Weaker e e := fun _ => .inl rfl
theorem junkAll_mem {e : Env} : ∀ {l : List Nat} {i : Nat}, i ∈ l → junkAll e l i = junk
  | j :: l, i, h => by
    unfold junkAll
    by_cases hj : j = i
    · subst hj; exact upd_self _ _ _
    · rw [upd_ne _ _ hj]
      exact junkAll_mem (by simpa [Ne.symm hj] using h)
theorem junkAll_not {e : Env} : ∀ {l : List Nat} {i : Nat}, i ∉ l → junkAll e l i = e i
  | [], _, _ => rfl
  | j :: l, i, h => by
    simp only [List.mem_cons, not_or] at h
    unfold junkAll
    rw [upd_ne _ _ (Ne.symm h.1)]
    exact junkAll_not h.2

structure FR (μ : Ren) (e : Env) (a : Act) (N : Nat) : Prop where
  size : a.tmps.size = N
  rel : ∀ i, VR μ (e i) (a.tmps.getD i undef)
theorem FR.op {e : Env} {a : Act} {N : Nat} (f : FR μ e a N) : OpR μ e a.eval := by
  intro x hx
  cases x with
  | tmp t => exact f.rel t
  | const v => exact VR.of_noRef hx
  | global g => cases hx
  | func g => exact .func g .nil .nil
theorem FR.mono {μ' : Ren} {e : Env} {a : Act} {N : Nat} (f : FR μ e a N) (h : RenLe μ μ') : FR μ' e a N := ⟨f.size, fun i => (f.rel i).mono h⟩
theorem FR.weak {e e' : Env} {a : Act} {N : Nat} (f : FR μ e a N) (h : Weaker e' e) : FR μ e' a N :=
  ⟨f.size, fun i => by
    rcases h i with h | h
    · rw [h]; exact f.rel i
    · rw [h]; exact .junk _⟩
theorem FR.put {e : Env} {a : Act} {N : Nat} {v v' : Value} (f : FR μ e a N) (hv : VR μ v v') (d : Option Nat) (hd : ∀ i, d = some i → i < N) : FR μ (updO e d v) (a.put d v') N := by
  cases d with
  | none => exact f
  | some i =>
    refine ⟨by simp [Act.put, f.size], fun j => ?_⟩
    show VR μ (upd e i v j) _
    have hi : i < a.tmps.size := by rw [f.size]; exact hd i rfl
    by_cases h : i = j
    · subst h
      rw [upd_self]
      simp [Act.put, hi]
      exact hv
    · rw [upd_ne _ _ h]
      have := f.rel j
      simp only [Act.put, Array.getD_eq_getD_getElem?] at this ⊢
      rw [Array.getElem?_setIfInBounds_ne h]
      exact this

/-! ### The list of operations -/

inductive Tr (Γ : Callee) : List FOp → Env → AHeap → Env → AHeap → Prop
  | nil (e : Env) (h : AHeap) : Tr Γ [] e h e h
  | weak {l : List FOp} {e e' e2 : Env} {h h2 : AHeap} (hw : Weaker e' e) (ht : Tr Γ l e' h e2 h2) : Tr Γ l e h e2 h2
  | skip {f : FOp} {l : List FOp} {e e2 : Env} {h h2 : AHeap} {s : Nat} {b : Bool} (hg : f.guard = some (s, b)) (hs : e s = .bool (!b) ∨ e s = undef)
      (ht : Tr Γ l (updO e f.dst undef) h e2 h2) : Tr Γ (f :: l) e h e2 h2
  | exec {f : FOp} {l : List FOp} {e e2 : Env} {h h1 h2 : AHeap} {v : Value} (hg : f.guard = none ∨ ∃ s b, f.guard = some (s, b) ∧ e s = .bool b)
      (hk : opK Γ f.op e h (fun v h' => some (v, h')) = some (v, h1)) (hc : f.chk = true → h <+: h1) (ht : Tr Γ l (updO e f.dst v) h1 e2 h2) : Tr Γ (f :: l) e h e2 h2
theorem Tr.append {Γ : Callee} {l l' : List FOp} {e e1 e2 : Env} {h h1 h2 : AHeap} (t : Tr Γ l e h e1 h1) (t' : Tr Γ l' e1 h1 e2 h2) : Tr Γ (l ++ l') e h e2 h2 := by
  induction t with
  | nil => exact t'
  | weak hw _ ih => exact .weak hw (ih t')
  | skip hg hs _ ih => exact .skip hg hs (ih t')
  | exec hg hk hc _ ih => exact .exec hg hk hc (ih t')

theorem opK_bind {R : Type} {Γ : Callee} {o : AOp} {e : Env} {h : AHeap} {k : Value → AHeap → Option R} {r : R} (hk : opK Γ o e h k = some r) :
    ∃ v h1, opK Γ o e h (fun v h' => some (v, h')) = some (v, h1) ∧ k v h1 = some r := by
  cases o <;> (try (exfalso; simp only [opK, reduceCtorEq] at hk; done)) <;> simp only [opK, Option.bind_eq_some_iff] at hk ⊢ <;> first
    | exact ⟨_, _, rfl, hk⟩
    | (obtain ⟨u, hu, hk⟩ := hk; exact ⟨_, _, ⟨u, hu, rfl⟩, hk⟩)
theorem chkK_some {R : Type} {chk : Bool} {h h1 : AHeap} {m : Option R} {r : R} (hk : chkK chk h h1 m = some r) : m = some r ∧ (chk = true → h <+: h1) := by
  unfold chkK at hk
  cases chk with
  | true =>
    simp only [sameQ] at hk
    split at hk
    · rename_i hp; exact ⟨hk, fun _ => hp⟩
    · cases hk
  | false => exact ⟨hk, fun h => by cases h⟩

/-- What is not written stays. -/
theorem Weaker.updO {e' e : Env} (h : Weaker e' e) (d : Option Nat) (v : Value) : Weaker (Am.updO e' d v) (Am.updO e d v) := by
  cases d with
  | none => exact h
  | some i =>
    intro j
    by_cases hj : i = j
    · subst hj; left; simp [Am.updO, upd_self]
    · simp only [Am.updO, upd_ne _ _ hj]; exact h j
theorem not_contains {l : List Nat} {i : Nat} (h : (!l.contains i) = true) : i ∉ l := by simpa using h
theorem contains_mem {l : List Nat} {i : Nat} (h : l.contains i = true) : i ∈ l := by simpa using h
structure OkSc (gs : List Nat) (df : Option (List Nat)) (d c : Nat) (tmp : List Nat) (body rest : ASteps) : Prop where
  hd : d ∉ gs
  htmp : ∀ i ∈ tmp, i ∉ gs ∧ i ≠ c
  hc : ∀ l, df = some l → c ∈ l
  hdsts : ∀ i ∈ dstsS body, i ∈ tmp
  hwrites : ∀ i ∈ writesS body, i ∈ tmp
  hdc : d ≠ c
  hbody : okS (c :: gs) (some []) body = true
  hrest : okS gs (df.map (dstsS body ++ [d] ++ ·)) rest = true
theorem okSc {gs : List Nat} {df : Option (List Nat)} {d c : Nat} {isAnd : Bool} {tmp : List Nat} {body rest : ASteps} {y : Operand} (h : okS gs df (.sc d c isAnd tmp body y rest) = true) : OkSc gs df d c tmp body rest := by
  simp only [okS, Bool.and_eq_true] at h
  obtain ⟨⟨⟨⟨⟨⟨⟨h1, h2⟩, h3⟩, h4⟩, h5⟩, h6⟩, h7⟩, h8⟩ := h
  refine ⟨not_contains h1, fun i hi => ?_, fun l hl => ?_, fun i hi => contains_mem (List.all_eq_true.1 h4 i hi), fun i hi => contains_mem (List.all_eq_true.1 h5 i hi), by simpa using h6, h7, h8⟩
  · have := List.all_eq_true.1 h2 i hi
    simp only [Bool.and_eq_true] at this
    exact ⟨not_contains this.1, by simpa using this.2⟩
  · subst hl
    exact contains_mem (by simpa using h3)
theorem okSop {gs : List Nat} {df : Option (List Nat)} {d : Option Nat} {o : AOp} {chk : Bool} {rest : ASteps} (h : okS gs df (.op d o chk rest) = true) : (∀ i, d = some i → i ∉ gs) ∧ okS gs (df.map (d.toList ++ ·)) rest = true := by
  simp only [okS, Bool.and_eq_true] at h
  refine ⟨?_, h.2⟩
  rintro i rfl
  exact not_contains (by simpa using h.1)
theorem updO_ne {e : Env} {d : Option Nat} {v : Value} {i : Nat} (h : ∀ j, d = some j → j ≠ i) : updO e d v i = e i := by
  cases d with
  | none => rfl
  | some j => exact upd_ne _ _ (h j rfl)
/-- A group that is not performed: its operations are skipped, one and all. -/
theorem skip_tr {Γ : Callee} : ∀ (s : ASteps) (gs df : List Nat) (e : Env) (h : AHeap) (c : Nat) (b : Bool), okS gs (some df) s = true → c ∈ gs → (e c = .bool (!b) ∨ e c = undef) → (∀ i ∈ df, e i = undef) →
    ∃ e2, Tr Γ (eraseS s (some (c, b))) e h e2 h ∧ (∀ i, i ∉ dstsS s → e2 i = e i) ∧ (∀ i ∈ dstsS s, e2 i = undef)
  | .nil, gs, df, e, h, c, b, _, _, _, hdf => ⟨e, .nil e h, fun _ _ => rfl, fun i hi => by cases hi⟩
  | .op d o chk rest, gs, df, e, h, c, b, hok, hc, he, hdf => by
    obtain ⟨h1, h2⟩ := okSop hok
    have hec : updO e d undef c = e c := updO_ne (by rintro j rfl rfl; exact h1 j rfl hc)
    have hdd : ∀ i ∈ d.toList ++ df, updO e d undef i = undef := by
      intro i hi
      by_cases hid : d = some i
      · subst hid; exact upd_self _ _ _
      · rw [updO_ne (by rintro j rfl rfl; exact hid rfl)]
        refine hdf i ?_
        rcases List.mem_append.1 hi with h | h
        · exact absurd (by simpa using h) hid
        · exact h
    obtain ⟨e2, ht, h3, h4⟩ := skip_tr (Γ := Γ) rest gs (d.toList ++ df) (updO e d undef) h c b h2 hc (by rw [hec]; exact he) hdd
    refine ⟨e2, .skip rfl he ht, fun i hi => ?_, fun i hi => ?_⟩
    · simp only [dstsS, List.mem_append, not_or] at hi
      rw [h3 i hi.2]
      exact updO_ne (by rintro j rfl rfl; exact hi.1 (by simp))
    · simp only [dstsS, List.mem_append] at hi
      by_cases hir : i ∈ dstsS rest
      · exact h4 i hir
      · rw [h3 i hir]
        exact hdd i (List.mem_append.2 (.inl (hi.resolve_right hir)))
  | .sc d c' isAnd tmp body y rest, gs, df, e, h, c, b, hok, hc, he, hdf => by
    have k := okSc hok
    obtain ⟨e1, t1, g1, g2⟩ := skip_tr (Γ := Γ) body (c' :: gs) [] e h c' isAnd k.hbody (by simp) (.inr (hdf c' (k.hc df rfl))) (by simp)
    have hcw : c ∉ dstsS body := fun hcw => (k.htmp c (k.hdsts c hcw)).1 hc
    have hdc : d ≠ c := by rintro rfl; exact k.hd hc
    have hdd : ∀ i ∈ dstsS body ++ [d] ++ df, upd e1 d undef i = undef := by
      intro i hi
      by_cases hid : d = i
      · subst hid; exact upd_self _ _ _
      · rw [upd_ne _ _ hid]
        by_cases hib : i ∈ dstsS body
        · exact g2 i hib
        · rw [g1 i hib]
          refine hdf i ?_
          simp only [List.mem_append, List.mem_singleton] at hi
          rcases hi with (h | h) | h
          · exact absurd h hib
          · exact absurd h.symm hid
          · exact h
    have hce : e1 c = e c := g1 c hcw
    obtain ⟨e2, t2, k1, k2⟩ := skip_tr (Γ := Γ) rest gs (dstsS body ++ [d] ++ df) (upd e1 d undef) h c b k.hrest hc (by rw [upd_ne _ _ hdc, hce]; exact he) hdd
    refine ⟨e2, t1.append (.skip (s := c) (b := b) rfl (by rw [hce]; exact he) t2), fun i hi => ?_, fun i hi => ?_⟩
    · simp only [dstsS, List.mem_append, List.mem_cons, not_or] at hi
      rw [k1 i hi.2.2, upd_ne _ _ (Ne.symm hi.2.1), g1 i hi.1]
    · by_cases hir : i ∈ dstsS rest
      · exact k2 i hir
      · rw [k1 i hir]
        refine hdd i ?_
        simp only [dstsS, List.mem_append, List.mem_cons] at hi
        simp only [List.mem_append, List.mem_singleton]
        rcases hi with h | h | h
        · exact .inl (.inl h)
        · exact .inl (.inr h)
        · exact absurd h hir

/-- From the steps to the list of operations. -/
theorem steps_tr {R : Type} {Γ : Callee} : ∀ (s : ASteps) (gs : List Nat) (df : Option (List Nat)) (g : Option (Nat × Bool)) (K : Env → AHeap → Option R) (e : Env) (h : AHeap) (r : R), okS gs df s = true →
    (∀ c b, g = some (c, b) → c ∈ gs ∧ e c = .bool b) → stepsK Γ s K e h = some r →
    ∃ e2 h2, Tr Γ (eraseS s g) e h e2 h2 ∧ K e2 h2 = some r ∧ (∀ i, i ∉ writesS s → e2 i = e i)
  | .nil, _, _, _, K, e, h, r, _, _, hk => ⟨e, h, .nil e h, hk, fun _ _ => rfl⟩
  | .op d o chk rest, gs, df, g, K, e, h, r, hok, hg, hk => by
    obtain ⟨h1, h2⟩ := okSop hok
    obtain ⟨v, h', hop, hk⟩ := opK_bind hk
    obtain ⟨hk, hch⟩ := chkK_some hk
    have hgu : g = none ∨ ∃ s b, g = some (s, b) ∧ e s = .bool b := by
      cases g with
      | none => exact .inl rfl
      | some p => exact .inr ⟨p.1, p.2, rfl, (hg p.1 p.2 rfl).2⟩
    obtain ⟨e2, h2', ht, hK, hw⟩ := steps_tr rest gs _ g K (updO e d v) h' r h2 (fun c b hgc => ⟨(hg c b hgc).1, by
      rw [updO_ne (by rintro j rfl rfl; exact h1 j rfl (hg _ b hgc).1)]
      exact (hg c b hgc).2⟩) hk
    refine ⟨e2, h2', .exec hgu hop hch ht, hK, fun i hi => ?_⟩
    simp only [writesS, List.mem_append, not_or] at hi
    rw [hw i hi.2]
    exact updO_ne (by rintro j rfl rfl; exact hi.1 (by simp))
  | .sc d c isAnd tmp body y rest, gs, df, g, K, e, h, r, hok, hg, hk => by
    have k := okSc hok
    simp only [stepsK, J1] at hk
    -- behind the group: the pick, and the rest
    have fin : ∀ (e1 : Env) (h1 : AHeap) (v : Value), Tr Γ (eraseS body (some (c, isAnd))) e h e1 h1 → (∀ i, i ∉ tmp → e1 i = e i) →
        opK Γ (.pick (.tmp c) (if isAnd then y else .const (.bool true)) (if isAnd then .const (.bool false) else y)) e1 h1 (fun v h' => some (v, h')) = some (v, h1) →
        stepsK Γ rest K (upd (junkAll e tmp) d v) h1 = some r →
        ∃ e2 h2, Tr Γ (eraseS (.sc d c isAnd tmp body y rest) g) e h e2 h2 ∧ K e2 h2 = some r ∧ (∀ i, i ∉ writesS (.sc d c isAnd tmp body y rest) → e2 i = e i) := by
      intro e1 h1 v ht he1 hop hk
      have hgt : ∀ c' b, g = some (c', b) → c' ∉ tmp := fun c' b hgc hct => (k.htmp c' hct).1 (hg c' b hgc).1
      have hgu : g = none ∨ ∃ s b, g = some (s, b) ∧ e1 s = .bool b := by
        cases g with
        | none => exact .inl rfl
        | some p => exact .inr ⟨p.1, p.2, rfl, by rw [he1 _ (hgt p.1 p.2 rfl)]; exact (hg p.1 p.2 rfl).2⟩
      have hwk : Weaker (upd (junkAll e tmp) d v) (updO e1 (some d) v) := by
        intro i
        show upd (junkAll e tmp) d v i = upd e1 d v i ∨ _
        by_cases hid : d = i
        · subst hid; left; rw [upd_self, upd_self]
        · rw [upd_ne _ _ hid, upd_ne _ _ hid]
          by_cases hit : i ∈ tmp
          · right; exact junkAll_mem hit
          · left; rw [junkAll_not hit, he1 i hit]
      obtain ⟨e2, h2, ht2, hK, hw⟩ := steps_tr rest gs _ g K (upd (junkAll e tmp) d v) h1 r k.hrest (fun c' b hgc => ⟨(hg c' b hgc).1, by
        have hdc' : d ≠ c' := by rintro rfl; exact k.hd (hg _ b hgc).1
        rw [upd_ne _ _ hdc', junkAll_not (hgt c' b hgc)]
        exact (hg c' b hgc).2⟩) hk
      refine ⟨e2, h2, ht.append (.exec hgu hop (fun h => by cases h) (.weak hwk ht2)), hK, fun i hi => ?_⟩
      simp only [writesS, List.mem_append, List.mem_cons, not_or] at hi
      rw [hw i hi.2.2, upd_ne _ _ (Ne.symm hi.1), junkAll_not hi.2.1.1]
    unfold scK at hk
    split at hk
    · rename_i t hec
      split at hk
      · rename_i hti
        subst hti
        obtain ⟨e1, h1, ht, hK, hw⟩ := steps_tr body (c :: gs) (some []) (some (c, t)) _ e h r k.hbody (fun c' b hgc => by cases hgc; exact ⟨by simp, hec⟩) hk
        have hcw : c ∉ tmp := fun hct => (k.htmp c hct).2 rfl
        have he1 : ∀ i, i ∉ tmp → e1 i = e i := fun i hi => hw i (fun hiw => hi (k.hwrites i hiw))
        have hec1 : e1 c = .bool t := by rw [he1 c hcw]; exact hec
        refine fin e1 h1 (val e1 y) ht he1 ?_ hK
        cases t <;> simp [opK, val, hec1, pickf]
      · rename_i hti
        have ht' : t = !isAnd := by cases t <;> cases isAnd <;> simp_all
        subst ht'
        obtain ⟨e1, ht, hw, _⟩ := skip_tr (Γ := Γ) body (c :: gs) [] e h c isAnd k.hbody (by simp) (.inl hec) (by simp)
        have hcw : c ∉ tmp := fun hct => (k.htmp c hct).2 rfl
        have he1 : ∀ i, i ∉ tmp → e1 i = e i := fun i hi => hw i (fun hiw => hi (k.hdsts i hiw))
        have hec1 : e1 c = .bool (!isAnd) := by rw [he1 c hcw]; exact hec
        refine fin e1 h (.bool !isAnd) ht he1 ?_ hk
        cases isAnd <;> simp [opK, val, hec1, pickf]
    · cases hk

end Go.Am

/- A region in the text's order. -/
namespace Go.Am
variable {P : Program} {μ : Ren} {w : World}

/-- An operation of the model, and the machine's. -/
structure FMatch (P : Program) (ops : Array Oper) (o : Oper) (f : FOp) : Prop where
  op : compOp P o.op = some f.op
  dst : o.dst = f.dst
  guard : match o.guard with
    | none => f.guard = none
    | some (j, b) => ∃ d, (ops[j]?).bind (·.dst) = some d ∧ f.guard = some (d, b)
theorem compF_spec {ops : Array Oper} {chk : Bool} {o : Oper} {f : FOp} (h : compF P ops chk o = some f) : FMatch P ops o f ∧ f.chk = chk := by
  unfold compF at h
  split at h
  · rename_i ao hao
    split at h
    · rename_i hg
      cases h
      exact ⟨⟨hao, rfl, by rw [hg]⟩, rfl⟩
    · rename_i j b hg
      split at h
      · rename_i d hd
        cases h
        exact ⟨⟨hao, rfl, by rw [hg]; exact ⟨d, hd, rfl⟩⟩, rfl⟩
      · cases h
  · cases h
theorem compL_spec {ops : Array Oper} {chkOf : Nat → Bool} : ∀ {l : List Oper} {i : Nat} {fl : List FOp}, compL P ops chkOf l i = some fl →
    fl.length = l.length ∧ ∀ (j : Nat) (o : Oper), l[j]? = some o → ∃ f, fl[j]? = some f ∧ FMatch P ops o f ∧ f.chk = chkOf (i + j)
  | [], i, fl, h => by cases h; exact ⟨rfl, fun j o hj => by simp at hj⟩
  | o :: r, i, fl, h => by
    unfold compL at h
    split at h
    · rename_i f fs hf hfs
      cases h
      obtain ⟨h1, h2⟩ := compL_spec hfs
      refine ⟨by simp [h1], fun j o' hj => ?_⟩
      cases j with
      | zero =>
        simp only [List.getElem?_cons_zero, Option.some.injEq] at hj
        subst hj
        obtain ⟨h3, h4⟩ := compF_spec hf
        exact ⟨f, rfl, h3, h4⟩
      | succ j =>
        obtain ⟨f', hf', h3, h4⟩ := h2 j o' hj
        exact ⟨f', hf', h3, by rw [h4]; congr 1; omega⟩
    · cases h

theorem getD_some {xs : Array Value} {i : Nat} {v : Value} (h : xs.getD i undef = v) (hv : v ≠ undef) : xs[i]? = some v := by
  rw [Array.getD_eq_getD_getElem?] at h
  cases hx : xs[i]? with
  | none => rw [hx] at h; exact absurd h.symm hv
  | some u => rw [hx] at h; exact congrArg some h
theorem bool_ne_undef (b : Bool) : Value.bool b ≠ undef := by intro h; cases h
theorem wanted_yes {ops : Array Oper} {o : Oper} {f : FOp} {e : Env} {a : Act} {N : Nat} (m : FMatch P ops o f) (fr : FR μ e a N) (hg : f.guard = none ∨ ∃ s b, f.guard = some (s, b) ∧ e s = .bool b) :
    Region.wanted o (yielded ops a.tmps) = true := by
  have hm := m.guard
  unfold Region.wanted
  split
  · rfl
  · rename_i j b hgo
    rw [hgo] at hm
    obtain ⟨d, hd, hfg⟩ := hm
    rcases hg with hg | ⟨s, b', hg, he⟩
    · rw [hg] at hfg; cases hfg
    · rw [hg] at hfg
      simp only [Option.some.injEq, Prod.mk.injEq] at hfg
      obtain ⟨h8, h9⟩ := hfg
      subst h8 h9
      have hr := fr.rel s
      rw [he] at hr
      generalize hx : a.tmps.getD s undef = x at hr
      cases hr
      have := getD_some hx (bool_ne_undef _)
      simp [yielded, hd, this]
theorem wanted_no {ops : Array Oper} {o : Oper} {f : FOp} {e : Env} {a : Act} {N : Nat} (m : FMatch P ops o f) (fr : FR μ e a N) {s : Nat} {b : Bool} (hg : f.guard = some (s, b)) (hs : e s = .bool (!b) ∨ e s = undef) :
    Region.wanted o (yielded ops a.tmps) = false := by
  have hm := m.guard
  unfold Region.wanted
  split
  · rename_i hgo
    rw [hgo] at hm
    rw [hg] at hm
    cases hm
  · rename_i j b' hgo
    rw [hgo] at hm
    obtain ⟨d, hd, hfg⟩ := hm
    rw [hg] at hfg
    obtain ⟨h8, h9⟩ : s = d ∧ b = b' := by cases hfg; exact ⟨rfl, rfl⟩
    subst h8 h9
    have hr := fr.rel s
    rcases hs with he | he
    · rw [he] at hr
      generalize hx : a.tmps.getD s undef = x at hr
      cases hr
      have := getD_some hx (bool_ne_undef _)
      simp [yielded, hd, this]
    · rw [he] at hr
      have hu : a.tmps.getD s undef = undef := VR.eq_of_noRef rfl hr
      rw [Array.getD_eq_getD_getElem?] at hu
      simp only [yielded, hd, Option.bind_some]
      cases hx : a.tmps[s]? with
      | none => rfl
      | some u =>
        rw [hx] at hu
        have hu' : u = undef := hu
        subst hu'
        rfl

theorem tr_text {F : Fence} {n N : Nat} {Γ : Callee} {ops : Array Oper} {fl : List FOp} {Q : Exit → Act → World → Prop} (hF : WideF F) (hΓ : CallOk P Γ) (hlen : fl.length = ops.size)
    (hm : ∀ (j : Nat) (o : Oper), ops[j]? = some o → ∃ f, fl[j]? = some f ∧ FMatch P ops o f) (hN : ∀ f ∈ fl, ∀ d, f.dst = some d → d < N) :
    ∀ {l : List FOp} {e e2 : Env} {h h2 : AHeap}, Tr Γ l e h e2 h2 → ∀ (k : Nat) (a : Act) (w : World) (μ : Ren), l = fl.drop k → FR μ e a N → Sim P μ h w →
      (∀ a' w' μ', FR μ' e2 a' N → Sim P μ' h2 w' → Ext μ h w μ' h2 w' → a'.defers = a.defers → Q .normal a' w') → wpOpsIn F n P ops Q (List.range' k l.length) a w := by
  intro l e e2 h h2 t
  induction t with
  | nil e h =>
    intro k a w μ _ fr s hQ
    exact hQ a w μ fr s (Ext.refl _ _ _ s.dom) rfl
  | weak hw _ ih =>
    intro k a w μ hl fr s hQ
    exact ih k a w μ hl (fr.weak hw) s hQ
  | @skip f l e e2 h h2 sl b hg hs _ ih =>
    intro k a w μ hl fr s hQ
    have hfk : fl[k]? = some f := by rw [← List.head?_drop, ← hl]; rfl
    have hk : k < ops.size := by rw [← hlen]; exact (List.getElem?_eq_some_iff.1 hfk).1
    have ho : ops[k]? = some ops[k] := Array.getElem?_eq_getElem hk
    obtain ⟨f', hf', m⟩ := hm k _ ho
    rw [hfk] at hf'
    cases hf'
    have hdrop : l = fl.drop (k + 1) := by
      have := congrArg List.tail hl
      rw [List.tail_drop] at this
      exact this
    have hrange : List.range' k (f :: l).length = k :: List.range' (k + 1) l.length := by simp [List.range'_succ]
    rw [hrange]
    simp only [wpOpsIn, ho]
    rw [wanted_no m fr hg hs]
    simp only [Bool.false_eq_true, if_false]
    refine ⟨fun f _ => hF.1 f, ?_⟩
    rw [m.dst]
    exact ih (k + 1) _ w μ hdrop (fr.put VR.undef f.dst (hN f (List.mem_of_getElem? hfk))) s (fun a' w' μ' h3 h4 h5 h6 => hQ a' w' μ' h3 h4 h5 (by rw [h6]; cases f.dst <;> rfl))
  | @exec f l e e2 h h1 h2 v hg hk hc _ ih =>
    intro k a w μ hl fr s hQ
    have hfk : fl[k]? = some f := by rw [← List.head?_drop, ← hl]; rfl
    have hkk : k < ops.size := by rw [← hlen]; exact (List.getElem?_eq_some_iff.1 hfk).1
    have ho : ops[k]? = some ops[k] := Array.getElem?_eq_getElem hkk
    obtain ⟨f', hf', m⟩ := hm k _ ho
    rw [hfk] at hf'
    cases hf'
    have hdrop : l = fl.drop (k + 1) := by
      have := congrArg List.tail hl
      rw [List.tail_drop] at this
      exact this
    have hrange : List.range' k (f :: l).length = k :: List.range' (k + 1) l.length := by simp [List.range'_succ]
    rw [hrange]
    simp only [wpOpsIn, ho]
    rw [wanted_yes m fr hg]
    simp only [if_true]
    refine op_wp hF m.op hΓ fr.op s hk (fun v' w1 μ1 hv hs hx => ?_)
    rw [m.dst]
    exact ih (k + 1) _ w1 μ1 hdrop ((fr.mono (hx.renLe s.dom)).put hv f.dst (hN f (List.mem_of_getElem? hfk))) hs (fun a' w' μ' h3 h4 h5 h6 => hQ a' w' μ' h3 h4 (hx.trans h5 s.dom) (by rw [h6]; cases f.dst <;> rfl))

end Go.Am

/- A region in whatever order: what the proof needs of a run in the text's order. -/
namespace Go.Am
variable {P : Program} {μ : Ren} {w : World}

/-! ### Cut down to what is named -/
def cutR (μ : Ren) (k : Nat) : Ren := fun b => if b < k then μ b else none
theorem cutR_le (μ : Ren) (k : Nat) : RenLe (cutR μ k) μ := fun b l h => by
  unfold cutR at h
  split at h
  · exact h
  · cases h
theorem cutR_lt {k b : Nat} (h : b < k) : cutR μ k b = μ b := if_pos h
theorem cutR_dom {k b : Nat} {l : Loc} (h : cutR μ k b = some l) : b < k := by
  unfold cutR at h
  split at h
  · assumption
  · cases h
mutual
theorem VR.restrict {μt μ : Ren} {k : Nat} (hd : ∀ b l, μt b = some l → b < k) {x y0 y : Value} : VR μt x y0 → VR μ x y → VR (cutR μ k) x y
  | .junk _, _ => .junk _
  | .bool _, h => by cases h; exact .bool _
  | .int _ _, h => by cases h; exact .int _ _
  | .string _, h => by cases h; exact .string _
  | .ptrNil, h => by cases h; exact .ptrNil
  | .ptr h0, h => by
    cases h with
    | ptr h1 => exact .ptr ((cutR_lt (hd _ _ h0)).trans h1)
  | .slNil, h => by cases h; exact .slNil
  | .sl h0 _, h => by
    cases h with
    | sl h1 h2 => exact .sl ((cutR_lt (hd _ _ h0)).trans h1) h2
    | sl0 _ _ _ => exact .sl0 _ _ _
    | sl00 _ _ => exact .sl00 _ _
  | .sl0 a _ _, h => by
    cases h with
    | sl h1 h2 => exact .sl0 _ _ _
    | sl0 _ _ _ => exact .sl0 _ _ _
  | .sl00 a _, h => by
    cases h with
    | sl h1 h2 =>
      rcases h2 with ⟨_, rfl⟩ | ⟨e, _⟩
      · exact .sl00 _ _
      · exact absurd e (by decide)
    | sl00 _ _ => exact .sl00 _ _
  | .mapNil, h => by cases h; exact .mapNil
  | .map h0, h => by
    cases h with
    | map h1 => exact .map ((cutR_lt (hd _ _ h0)).trans h1)
  | .func _ h0 h0', h => by
    cases h with
    | func _ h1 h1' => exact .func _ (VRL.restrict hd h0 h1) (VRL.restrict hd h0' h1')
  | .yield h0, h => by
    cases h with
    | yield h1 => exact .yield ((cutR_lt (hd _ _ h0)).trans h1)
  | .nilFunc, h => by cases h; exact .nilFunc
  | .nilIface, h => by cases h; exact .nilIface
  | .iface _ h0, h => by
    cases h with
    | iface _ h1 => exact .iface _ (VR.restrict hd h0 h1)
  | .agg h0, h => by
    cases h with
    | agg h1 => exact .agg (VRL.restrict hd h0 h1)
  | .tuple h0, h => by
    cases h with
    | tuple h1 => exact .tuple (VRL.restrict hd h0 h1)
theorem VRL.restrict {μt μ : Ren} {k : Nat} (hd : ∀ b l, μt b = some l → b < k) {xs ys0 ys : List Value} : VRL μt xs ys0 → VRL μ xs ys → VRL (cutR μ k) xs ys
  | .nil, h => by cases h; exact .nil
  | .cons h0 hs0, h => by
    cases h with
    | cons h1 hs1 => exact .cons (VR.restrict hd h0 h1) (VRL.restrict hd hs0 hs1)
end
theorem BR.restrict {μt : Ren} {k : Nat} (hd : ∀ b l, μt b = some l → b < k) {K0 K : Nat} {blk : ABlk} {o0 o : Obj} (h0 : BR P μt K0 blk o0) (h : BR P μ K blk o) : BR P (cutR μ k) K blk o := by
  cases blk with
  | cells vs elem rw =>
    obtain ⟨_, _, _, _, h3, _⟩ := h0
    obtain ⟨c, fr, h1, h2, h3', h4⟩ := h
    exact ⟨c, fr, h1, h2, h3.restrict hd h3', h4⟩
  | map es =>
    obtain ⟨_, _, _, h2, h3⟩ := h0
    obtain ⟨l, k', h1, h2', h3'⟩ := h
    exact ⟨l, k', h1, h2.restrict hd h2', h3.restrict hd h3'⟩
  | loop =>
    obtain ⟨_, _, _, _, _, _, _, _, _, h9⟩ := h0
    obtain ⟨r, h1, h2, h3, h4, h5, h6, h7, h8, h9'⟩ := h
    exact ⟨r, h1, h2, h3, h4, h5, h6, h7, h8, fun i => (h9 i).restrict hd (h9' i)⟩
  | dead => trivial

/-! ### An operation that is known to come to an end -/
theorem call_ok {op : Op} {ao : AOp} (hc : compOp P op = some ao) : (∀ f args, ao = .call f args → okL args = true ∧ Nat.blt f yieldId = true) ∧ (∀ f args, ao = .callV f args → okX f = true ∧ okL args = true) := by
  by_cases hn : isCall ao = false
  · exact ⟨fun f args e => (by subst e; cases hn), fun f args e => (by subst e; cases hn)⟩
  · unfold compOp at hc
    split at hc
    case isFalse => cases hc
    rename_i hok
    cases op with
    | call c =>
      obtain ⟨callee, args, argTypes⟩ := c
      cases callee with
      | value f =>
        simp only [okL, Op.operands, Call.operands, Array.toList_append, List.all_append, Bool.and_eq_true] at hok
        have hf : okX f = true := by simpa using hok.1
        cases f with
        | func g =>
          simp only [compOp1] at hc
          split at hc
          · rename_i hblt
            cases hc; refine ⟨fun f args e => ?_, fun f args e => ?_⟩ <;> first | (cases e; done) | (cases e; exact ⟨hok.2, hblt⟩) | (cases e; exact ⟨hf, hok.2⟩)
          · cases hc
        | _ => cases hc; refine ⟨fun f args e => ?_, fun f args e => ?_⟩ <;> first | (cases e; done) | (cases e; exact hok.2) | (cases e; exact ⟨hf, hok.2⟩)
      | invoke _ _ => cases hc
      | builtin b => exact absurd (builtin_noCall hc) hn
    | binOp _ _ _ _ _ => exact absurd (bin_noCall hc) hn
    | convert _ _ _ => exact absurd (conv_noCall hc) hn
    | makeMap t r => cases r <;> first | (cases hc; done) | (cases hc; exact absurd rfl hn)
    | makeFunc fn _ _ => cases fn <;> first | (cases hc; done) | (cases hc; exact absurd rfl hn)
    | _ =>
      exfalso
      apply hn
      first
        | (cases hc; done)
        | (cases hc; rfl)
        | (simp only [compOp1] at hc
           (repeat' split at hc) <;> first
             | (cases hc; rfl)
             | (rw [Option.map_eq_some_iff] at hc; obtain ⟨_, _, hc⟩ := hc; cases hc; rfl)
             | cases hc)
theorem op_exists {o : Oper} {ao : AOp} {e : Env} {a : Act} {h h1 : AHeap} {v : Value} {Γ : Callee} (hc : compOp P o.op = some ao) (hΓ : CallOk P Γ) (he : OpR μ e a.eval) (s : Sim P μ h w)
    (hk : opK Γ ao e h (fun v h' => some (v, h')) = some (v, h1)) : ∃ v' w1 μ1, VR μ1 v v' ∧ Sim P μ1 h1 w1 ∧ Ext μ h w μ1 h1 w1 := by
  by_cases hn : isCall ao = false
  · obtain ⟨v', w1, μ1, _, h2, h3, h4⟩ := op_sound hc hn he s hk
    exact ⟨v', w1, μ1, h2, h3, h4⟩
  · have key : ∀ (f : FuncId) (args args' : List Value), Nat.blt f yieldId = true → VRL μ args args' → Γ f args h = some (v, h1) → ∃ v' w1 μ1, VR μ1 v v' ∧ Sim P μ1 h1 w1 ∧ Ext μ h w μ1 h1 w1 := by
      intro f args args' hblt hl hg
      obtain ⟨_, h3⟩ := hΓ.fn f hblt args h v h1 hg
      obtain ⟨_, h4⟩ := h3 μ w args' s hl Fence.wide 0 ⟨fun _ => trivial, rfl⟩
      obtain ⟨_, w1, _, ⟨v', μ1, _, h5, h6, h7⟩, _⟩ := h4 [] (room_wide _)
      exact ⟨v', w1, μ1, h5, h6, h7⟩
    have hok : okL o.op.operands.toList = true := by
      unfold compOp at hc
      split at hc
      · assumption
      · cases hc
    cases ao <;> first | (exact absurd rfl hn) | skip
    case call f args =>
      simp only [opK, Option.bind_eq_some_iff] at hk
      obtain ⟨⟨u1, u2⟩, hu, hk⟩ := hk
      cases hk
      exact key f _ _ ((call_ok hc).1 f args rfl).2 (vals_rel he ((call_ok hc).1 f args rfl).1) hu
    case callV f args =>
      simp only [opK, Option.bind_eq_some_iff] at hk
      obtain ⟨⟨u1, u2⟩, hu, hk⟩ := hk
      cases hk
      rcases opK_callV hu with ⟨g, xs, ys, hf, hblt, hg⟩ | ⟨b, hf, hg⟩
      case inr =>
        have hvf := he f ((call_ok hc).2 f args rfl).1
        rw [hf] at hvf
        generalize a.eval f = y at hvf
        cases hvf with
        | @yield _ c0 K h5 =>
          obtain ⟨fn, tmps, as, bd, g1, g2⟩ := hΓ.yield b _ h _ _ hg μ w _ c0 K s (vals_rel he ((call_ok hc).2 f args rfl).2) h5
          obtain ⟨_, h4⟩ := g2 Fence.wide 0 ⟨fun _ => trivial, rfl⟩
          obtain ⟨_, w1, ⟨v', μ1, _, h5, h6, h7⟩, _⟩ := h4 default [] (room_wide _)
          exact ⟨v', w1, μ1, h5, h6, h7⟩
      have hvf := he f ((call_ok hc).2 f args rfl).1
      rw [hf] at hvf
      generalize a.eval f = y at hvf
      cases hvf with
      | @func _ _ _ xs' ys' h5 h6 =>
        exact key g _ _ hblt ((h5.append (vals_rel he ((call_ok hc).2 f args rfl).2)).append h6) hg

/-! ### What a run in the text's order tells of each operation -/
structure Rec where
  e : Env
  h : AHeap
  v : Value
  h' : AHeap
  ran : Bool
structure RecOk (Γ : Callee) (f : FOp) (r : Rec) : Prop where
  chk : f.chk = true → r.h <+: r.h'
  run : r.ran = true → (f.guard = none ∨ ∃ s b, f.guard = some (s, b) ∧ r.e s = .bool b) ∧ opK Γ f.op r.e r.h (fun v h' => some (v, h')) = some (r.v, r.h')
  skip : r.ran = false → (∃ s b, f.guard = some (s, b) ∧ (r.e s = .bool (!b) ∨ r.e s = undef)) ∧ r.v = undef ∧ r.h' = r.h
def Recs (Γ : Callee) : List FOp → List Rec → Env → AHeap → Env → AHeap → Prop
  | [], [], S, h, S2, h2 => S2 = S ∧ h2 = h
  | f :: l, r :: rs, S, h, S2, h2 => r.h = h ∧ Weaker r.e S ∧ RecOk Γ f r ∧ Recs Γ l rs (updO S f.dst r.v) r.h' S2 h2
  | _, _, _, _, _, _ => False
theorem Weaker.trans {a b c : Env} (h : Weaker a b) (h' : Weaker b c) : Weaker a c := fun i => by
  rcases h i with h1 | h1
  · rcases h' i with h2 | h2
    · left; rw [h1, h2]
    · right; rw [h1, h2]
  · right; exact h1
theorem tr_recs {Γ : Callee} {l : List FOp} {e e2 : Env} {h h2 : AHeap} (t : Tr Γ l e h e2 h2) : ∀ S, Weaker e S → ∃ rs S2, Recs Γ l rs S h S2 h2 ∧ Weaker e2 S2 := by
  induction t with
  | nil e h => exact fun S hS => ⟨[], S, ⟨rfl, rfl⟩, hS⟩
  | weak hw _ ih => exact fun S hS => ih S (hw.trans hS)
  | @skip f l e e2 h h2 s b hg hs _ ih =>
    intro S hS
    obtain ⟨rs, S2, h3, h4⟩ := ih (updO S f.dst undef) (hS.updO _ _)
    exact ⟨⟨e, h, undef, h, false⟩ :: rs, S2, ⟨rfl, hS, ⟨fun _ => List.prefix_refl _, fun h => (by cases h), fun _ => ⟨⟨s, b, hg, hs⟩, rfl, rfl⟩⟩, h3⟩, h4⟩
  | @exec f l e e2 h h1 h2 v hg hk hc _ ih =>
    intro S hS
    obtain ⟨rs, S2, h3, h4⟩ := ih (updO S f.dst v) (hS.updO _ _)
    exact ⟨⟨e, h, v, h1, true⟩ :: rs, S2, ⟨rfl, hS, ⟨hc, fun _ => ⟨hg, hk⟩, fun h => (by cases h)⟩, h3⟩, h4⟩

end Go.Am

/- A region in whatever order its edges allow. -/
namespace Go.Am
variable {P : Program} {w : World}

/-! ### What an operation looks at, and what it may do to memory -/
theorem val_congr {e e' : Env} {x : Operand} (h : ∀ t ∈ slotsX x, e t = e' t) : val e x = val e' x := by
  cases x with
  | tmp t => exact h t (by simp [slotsX])
  | _ => rfl
theorem vals_congr {e e' : Env} : ∀ {l : List Operand}, (∀ t ∈ slotsL l, e t = e' t) → vals e l = vals e' l
  | [], _ => rfl
  | x :: l, h => by
    simp only [slotsL, List.mem_append] at h
    simp only [vals]
    rw [val_congr (fun t ht => h t (.inl ht)), vals_congr (fun t ht => h t (.inr ht))]
theorem valO_congr {e e' : Env} {x : Option Operand} (h : ∀ t ∈ slotsO x, e t = e' t) : valO e x = valO e' x := by
  cases x with
  | none => rfl
  | some x => exact congrArg some (val_congr h)
theorem valP_congr {e e' : Env} : ∀ {l : List (Nat × Nat × Operand)}, (∀ t ∈ slotsP l, e t = e' t) → valP e l = valP e' l
  | [], _ => rfl
  | (i, n, x) :: l, h => by
    simp only [slotsP, List.mem_append] at h
    simp only [valP]
    rw [val_congr (fun t ht => h t (.inl ht)), valP_congr (fun t ht => h t (.inr ht))]
theorem opK_congr {R : Type} {Γ : Callee} {o : AOp} {e e' : Env} {h : AHeap} {k : Value → AHeap → Option R} (he : ∀ t ∈ aslots o, e t = e' t) : opK Γ o e h k = opK Γ o e' h k := by
  cases o <;> simp only [aslots, List.mem_append] at he <;> simp only [opK] <;> first
    | rfl
    | rw [val_congr (x := _) (fun t ht => he t ht)]
    | rw [vals_congr (fun t ht => he t ht)]
    | rw [valP_congr (fun t ht => he t ht)]
    | rw [val_congr (fun t ht => he t (.inl ht)), val_congr (fun t ht => he t (.inr ht))]
    | rw [val_congr (fun t ht => he t (.inl ht)), vals_congr (fun t ht => he t (.inr ht))]
    | rw [vals_congr (fun t ht => he t (.inl ht)), vals_congr (fun t ht => he t (.inr ht))]
    | rw [val_congr (fun t ht => he t (.inl ht)), val_congr (fun t ht => he t (.inr (.inl ht))), val_congr (fun t ht => he t (.inr (.inr ht)))]
    | rw [val_congr (fun t ht => he t (.inl ht)), valO_congr (fun t ht => he t (.inr (.inl ht))), valO_congr (fun t ht => he t (.inr (.inr ht)))]
    | rw [val_congr (fun t ht => he t (.inl ht)), valO_congr (fun t ht => he t (.inr (.inl ht))), valO_congr (fun t ht => he t (.inr (.inr (.inl ht)))), valO_congr (fun t ht => he t (.inr (.inr (.inr ht))))]
theorem loud_of_write {o : AOp} (h : mayWrite o = true) : loud o = true := by cases o <;> first | rfl | exact h
theorem soft_op {Γ : Callee} {o : AOp} {e : Env} {h h1 : AHeap} {v : Value} (hl : loud o = false) (hk : opK Γ o e h (fun v h' => some (v, h')) = some (v, h1)) :
    h1 = h ∧ ∀ h', opK Γ o e h' (fun v h' => some (v, h')) = some (v, h') := by
  cases o <;> first
    | (cases hl; done)
    | (exfalso; simp only [opK, reduceCtorEq] at hk; done)
    | (simp only [opK] at hk; cases hk; exact ⟨rfl, fun h' => rfl⟩; done)
    | (simp only [opK, Option.bind_eq_some_iff] at hk; obtain ⟨u, hu, hk⟩ := hk; cases hk; refine ⟨rfl, fun h' => ?_⟩; simp only [opK, hu, Option.bind_some])
theorem calm_op {Γ : Callee} {o : AOp} {e : Env} {h h1 : AHeap} {v : Value} (hl : mayWrite o = false) (hk : opK Γ o e h (fun v h' => some (v, h')) = some (v, h1)) : h <+: h1 := by
  cases o <;> first
    | (cases hl; done)
    | (exfalso; simp only [opK, reduceCtorEq] at hk; done)
    | (simp only [opK, Option.bind_eq_some_iff] at hk; obtain ⟨u, hu, hk⟩ := hk; cases hk; first | exact List.prefix_refl _ | exact List.prefix_append _ _)
    | (simp only [opK] at hk; cases hk; first | exact List.prefix_refl _ | exact List.prefix_append _ _)
    | (simp only [opK, Option.bind_eq_some_iff] at hk
       obtain ⟨⟨u1, u2⟩, hu, hk⟩ := hk
       cases hk
       unfold mkSlicef at hu
       split at hu
       · split at hu
         · cases hu; exact List.prefix_append _ _
         · cases hu
       · cases hu)

end Go.Am

/- A region in whatever order its edges allow: the theorem. -/
namespace Go.Am
variable {P : Program} {w : World}

def Hat (rs : List Rec) (h2 : AHeap) (i : Nat) : AHeap := ((rs[i]?).map (·.h)).getD h2
/-- The environment behind the operations that are listed. -/
def Cur (L : Nat → Bool) : Nat → List FOp → List Rec → Env → Env
  | k, f :: l, r :: rs, S => Cur L (k + 1) l rs (if L k = true then updO S f.dst r.v else S)
  | _, _, _, S => S
theorem recs_length {Γ : Callee} : ∀ {fl : List FOp} {rs : List Rec} {S S2 : Env} {h h2 : AHeap}, Recs Γ fl rs S h S2 h2 → rs.length = fl.length
  | [], [], _, _, _, _, _ => rfl
  | _ :: _, _ :: _, _, _, _, _, h => by simp [recs_length h.2.2.2]
  | [], _ :: _, _, _, _, _, h => h.elim
  | _ :: _, [], _, _, _, _, h => h.elim
theorem hat_zero {Γ : Callee} : ∀ {fl : List FOp} {rs : List Rec} {S S2 : Env} {h h2 : AHeap}, Recs Γ fl rs S h S2 h2 → Hat rs h2 0 = h
  | [], [], _, _, _, _, hr => hr.2
  | _ :: _, _ :: _, _, _, _, _, hr => hr.1
  | [], _ :: _, _, _, _, _, h => h.elim
  | _ :: _, [], _, _, _, _, h => h.elim
theorem hat_succ (r : Rec) (rs : List Rec) (h2 : AHeap) (i : Nat) : Hat (r :: rs) h2 (i + 1) = Hat rs h2 i := rfl
theorem cur_ext {L L' : Nat → Bool} : ∀ (fl : List FOp) (rs : List Rec) (k : Nat) (S : Env), (∀ i, L (k + i) = L' (k + i)) → Cur L k fl rs S = Cur L' k fl rs S
  | f :: l, r :: rs, k, S, h => by
    simp only [Cur]
    rw [show L k = L' k from h 0]
    exact cur_ext l rs (k + 1) _ (fun i => by have := h (i + 1); rwa [show k + (i + 1) = k + 1 + i from by omega] at this)
  | [], _, _, _, _ => by simp [Cur]
  | _ :: _, [], _, _, _ => by simp [Cur]
theorem cur_none {L : Nat → Bool} : ∀ (fl : List FOp) (rs : List Rec) (k : Nat) (S : Env), (∀ i, i < fl.length → L (k + i) = false) → Cur L k fl rs S = S
  | f :: l, r :: rs, k, S, h => by
    simp only [Cur]
    rw [show L k = false from h 0 (by simp)]
    simp only [Bool.false_eq_true, if_false]
    exact cur_none l rs (k + 1) S (fun i hi => by have := h (i + 1) (by simp; omega); rwa [show k + (i + 1) = k + 1 + i from by omega] at this)
  | [], _, _, _, _ => by simp [Cur]
  | _ :: _, [], _, _, _ => by simp [Cur]
/-- What each operation's own record is, by its number. -/
theorem recs_at {Γ : Callee} : ∀ {fl : List FOp} {rs : List Rec} {S S2 : Env} {h h2 : AHeap}, Recs Γ fl rs S h S2 h2 → ∀ (i : Nat) (f : FOp), fl[i]? = some f →
    ∃ r, rs[i]? = some r ∧ RecOk Γ f r ∧ Weaker r.e (Cur (fun j => decide (j < i)) 0 fl rs S) ∧ r.h = Hat rs h2 i ∧ r.h' = Hat rs h2 (i + 1)
  | f0 :: l, r0 :: rs, S, S2, h, h2, hr, 0, f, hf => by
    simp only [List.getElem?_cons_zero, Option.some.injEq] at hf
    subst hf
    refine ⟨r0, rfl, hr.2.2.1, ?_, rfl, ?_⟩
    · rw [cur_none _ _ _ _ (fun i _ => by simp)]
      exact hr.2.1
    · rw [hat_succ, hat_zero hr.2.2.2]
  | f0 :: l, r0 :: rs, S, S2, h, h2, hr, i + 1, f, hf => by
    simp only [List.getElem?_cons_succ] at hf
    obtain ⟨r, h3, h4, h5, h6, h7⟩ := recs_at hr.2.2.2 i f hf
    refine ⟨r, h3, h4, ?_, h6, h7⟩
    have hshift : ∀ (l : List FOp) (rs : List Rec) (k : Nat) (S : Env), Cur (fun j => decide (j < i + 1)) (k + 1) l rs S = Cur (fun j => decide (j < i)) k l rs S := by
      intro l
      induction l with
      | nil => intros; simp [Cur]
      | cons f l ih =>
        intro rs k S
        cases rs with
        | nil => simp [Cur]
        | cons r rs =>
          simp only [Cur]
          rw [ih]
          simp
    simp only [Cur]
    rw [hshift]
    simp only [Nat.zero_lt_succ, decide_true, if_true]
    exact h5
  | [], [], _, _, _, _, _, i, f, hf => by simp at hf
  | [], _ :: _, _, _, _, _, h, _, _, _ => h.elim
  | _ :: _, [], _, _, _, _, h, _, _, _ => h.elim
/-- Which value a slot has: of the one listed operation that writes it, or as it was. -/
theorem cur_spec {L : Nat → Bool} {t : Nat} : ∀ (fl : List FOp) (rs : List Rec) (k : Nat) (S : Env), rs.length = fl.length → (∀ (i j : Nat) (f f' : FOp), i ≠ j → fl[i]? = some f → fl[j]? = some f' → f.dst = some t → f'.dst ≠ some t) →
    (∀ (j : Nat) (f : FOp) (r : Rec), fl[j]? = some f → rs[j]? = some r → L (k + j) = true → f.dst = some t → Cur L k fl rs S t = r.v) ∧
    ((∀ (j : Nat) (f : FOp), fl[j]? = some f → L (k + j) = true → f.dst ≠ some t) → Cur L k fl rs S t = S t)
  | [], [], k, S, _, _ => ⟨fun j f r hf => by simp at hf, fun _ => rfl⟩
  | [], _ :: _, _, _, h, _ => by simp at h
  | _ :: _, [], _, _, h, _ => by simp at h
  | f0 :: l, r0 :: rs, k, S, hlen, hd => by
    have hd' : ∀ (i j : Nat) (f f' : FOp), i ≠ j → l[i]? = some f → l[j]? = some f' → f.dst = some t → f'.dst ≠ some t := fun i j f f' hij hi hj => hd (i + 1) (j + 1) f f' (by omega) hi hj
    obtain ⟨g1, g2⟩ := cur_spec (L := L) (t := t) l rs (k + 1) (if L k = true then updO S f0.dst r0.v else S) (by simpa using hlen) hd'
    constructor
    · intro j f r hf hr hL hdst
      cases j with
      | zero =>
        simp only [List.getElem?_cons_zero, Option.some.injEq] at hf hr
        subst hf hr
        simp only [Cur]
        rw [g2 (fun j f hf hL' hdst' => hd 0 (j + 1) f0 f (by omega) rfl hf hdst hdst'), if_pos (by simpa using hL), hdst]
        exact upd_self _ _ _
      | succ j =>
        simp only [List.getElem?_cons_succ] at hf hr
        simp only [Cur]
        exact g1 j f r hf hr (by rwa [show k + (j + 1) = k + 1 + j from by omega] at hL) hdst
    · intro hno
      simp only [Cur]
      rw [g2 (fun j f hf hL => hno (j + 1) f hf (by rwa [show k + (j + 1) = k + 1 + j from by omega]))]
      split
      · rename_i hLk
        exact updO_ne (fun j hj => by rintro rfl; exact hno 0 f0 rfl hLk hj)
      · rfl
theorem recs_end {Γ : Callee} : ∀ {fl : List FOp} {rs : List Rec} {S S2 : Env} {h h2 : AHeap} {L : Nat → Bool} {k : Nat}, Recs Γ fl rs S h S2 h2 → (∀ i, i < fl.length → L (k + i) = true) → Cur L k fl rs S = S2
  | [], [], _, _, _, _, _, _, hr, _ => by simp only [Cur]; exact hr.1.symm
  | f :: l, r :: rs, S, S2, h, h2, L, k, hr, hL => by
    simp only [Cur]
    rw [if_pos (show L k = true from hL 0 (by simp))]
    exact recs_end hr.2.2.2 (fun i hi => by have := hL (i + 1) (by simp; omega); rwa [show k + (i + 1) = k + 1 + i from by omega] at this)
  | [], _ :: _, _, _, _, _, _, _, h, _ => h.elim
  | _ :: _, [], _, _, _, _, _, _, h, _ => h.elim

/-- What the text's order tells of the memory ahead of each operation. -/
theorem recs_text {Γ : Callee} {N : Nat} (hΓ : CallOk P Γ) : ∀ {fl : List FOp} {rs : List Rec} {S S2 : Env} {h h2 : AHeap} {μ : Ren} {a : Act} {w : World}, Recs Γ fl rs S h S2 h2 →
    (∀ f ∈ fl, (∃ o : Oper, compOp P o.op = some f.op) ∧ ∀ d, f.dst = some d → d < N) → FR μ S a N → Sim P μ h w → ∀ i, i ≤ fl.length →
    ∃ μt at_ wt, FR μt (Cur (fun j => decide (j < i)) 0 fl rs S) at_ N ∧ Sim P μt (Hat rs h2 i) wt ∧ Ext μ h w μt (Hat rs h2 i) wt
  | [], [], S, S2, h, h2, μ, a, w, hr, _, fr, s, i, hi => by
    have h0 : i = 0 := by simpa using hi
    subst h0
    have hh : Hat [] h2 0 = h := hr.2
    rw [hh]
    exact ⟨μ, a, w, fr, s, Ext.refl _ _ _ s.dom⟩
  | f :: l, r :: rs, S, S2, h, h2, μ, a, w, hr, hm, fr, s, i, hi => by
    obtain ⟨rfl, hw, hok, hrest⟩ := hr
    cases i with
    | zero =>
      rw [cur_none _ _ _ _ (fun i _ => by simp)]
      exact ⟨μ, a, w, fr, s, Ext.refl _ _ _ s.dom⟩
    | succ i =>
      have hstep : ∃ μ1 a1 w1, FR μ1 (updO S f.dst r.v) a1 N ∧ Sim P μ1 r.h' w1 ∧ Ext μ r.h w μ1 r.h' w1 := by
        cases hran : r.ran with
        | true =>
          obtain ⟨_, hk⟩ := hok.run hran
          obtain ⟨⟨o, ho⟩, hN⟩ := hm f (by simp)
          obtain ⟨v', w1, μ1, h3, h4, h5⟩ := op_exists ho hΓ (fr.weak hw).op s hk
          exact ⟨μ1, a.put f.dst v', w1, (fr.mono (h5.renLe s.dom)).put h3 f.dst hN, h4, h5⟩
        | false =>
          obtain ⟨_, hv, hh⟩ := hok.skip hran
          rw [hv, hh]
          exact ⟨μ, a.put f.dst undef, w, fr.put VR.undef f.dst (hm f (by simp)).2, s, Ext.refl _ _ _ s.dom⟩
      obtain ⟨μ1, a1, w1, fr1, s1, x1⟩ := hstep
      obtain ⟨μt, at_, wt, h6, h7, h8⟩ := recs_text hΓ hrest (fun f hf => hm f (by simp [hf])) fr1 s1 i (by simpa using hi)
      refine ⟨μt, at_, wt, ?_, h7, x1.trans h8 s.dom⟩
      have hshift : ∀ (l : List FOp) (rs : List Rec) (k : Nat) (S : Env), Cur (fun j => decide (j < i + 1)) (k + 1) l rs S = Cur (fun j => decide (j < i)) k l rs S := by
        intro l
        induction l with
        | nil => intros; simp [Cur]
        | cons f l ih =>
          intro rs k S
          cases rs with
          | nil => simp [Cur]
          | cons r rs =>
            simp only [Cur]
            rw [ih]
            simp
      simp only [Cur]
      rw [hshift]
      simp only [Nat.zero_lt_succ, decide_true, if_true]
      exact h6
  | [], _ :: _, _, _, _, _, _, _, _, h, _, _, _, _, _ => h.elim
  | _ :: _, [], _, _, _, _, _, _, _, h, _, _, _, _, _ => h.elim

end Go.Am

/- A region in whatever order its edges allow: the theorem. -/
namespace Go.Am
variable {P : Program}

/-- What is asked of the edges. B: for each operation, the bits of those that come ahead of it in every order. -/
structure OrdOk (ops : Array Oper) (fl : List FOp) (B : List Nat) : Prop where
  edges : ∀ (i : Nat) (o : Oper), ops[i]? = some o → ∀ e ∈ o.after.toList, Region.binds .any e = true → e.on < i
  cert : ∀ (i j : Nat) (o : Oper), ops[i]? = some o → (B.getD i 0).testBit j = true → ∃ e ∈ o.after.toList, Region.binds .any e = true ∧ (j = e.on ∨ (B.getD e.on 0).testBit j = true)
  dist : ∀ (i j : Nat) (f f' : FOp) (t : Nat), i ≠ j → fl[i]? = some f → fl[j]? = some f' → f.dst = some t → f'.dst ≠ some t
  look : ∀ (i j : Nat) (f f' : FOp) (t : Nat), i < j → fl[i]? = some f → fl[j]? = some f' → ((f.dst = some t ∧ t ∈ looksF f') ∨ (f'.dst = some t ∧ t ∈ looksF f)) → (B.getD j 0).testBit i = true
  wr : ∀ (i : Nat) (f : FOp), fl[i]? = some f → mayWrite f.op = true → f.chk = false → ∀ (j : Nat) (f' : FOp), fl[j]? = some f' → loud f'.op = true →
    (i < j → (B.getD j 0).testBit i = true) ∧ (j < i → (B.getD i 0).testBit j = true ∨ exempt fl i j = true)

/-- What is listed holds with each operation all that is ahead of it. -/
def Closed (ops : Array Oper) (L : Nat → Bool) : Prop := ∀ (i : Nat) (o : Oper), ops[i]? = some o → L i = true → ∀ e ∈ o.after.toList, Region.binds .any e = true → L e.on = true
theorem bef_listed {ops : Array Oper} {fl : List FOp} {B : List Nat} (ok : OrdOk ops fl B) {L : Nat → Bool} (hc : Closed ops L) : ∀ (m i : Nat), i ≤ m → ∀ o, ops[i]? = some o →
    (∀ e ∈ o.after.toList, Region.binds .any e = true → L e.on = true) → ∀ j, (B.getD i 0).testBit j = true → L j = true := by
  intro m
  induction m with
  | zero =>
    intro i hi o ho he j hj
    obtain ⟨e, hem, heb, hcase⟩ := ok.cert i j o ho hj
    have := ok.edges i o ho e hem heb
    omega
  | succ m ih =>
    intro i hi o ho he j hj
    obtain ⟨e, hem, heb, hcase⟩ := ok.cert i j o ho hj
    have hlt := ok.edges i o ho e hem heb
    rcases hcase with rfl | hcase
    · exact he e hem heb
    · have hsz : e.on < ops.size := by have := (Array.getElem?_eq_some_iff.1 ho).1; omega
      have ho' : ops[e.on]? = some ops[e.on] := Array.getElem?_eq_getElem hsz
      exact ih e.on (by omega) _ ho' (hc e.on _ ho' (he e hem heb)) j hcase

section
variable {F : Fence} {n N : Nat} {Γ : Callee} {ops : Array Oper} {fl : List FOp} {rs : List Rec} {S0 S2 : Env} {h0 h2 : AHeap} {B : List Nat} {Q : Exit → Act → World → Prop} {μ0 : Ren} {a0 : Act} {w0 : World}

def Calm (rs : List Rec) (h2 : AHeap) (i : Nat) : Prop := Hat rs h2 i <+: Hat rs h2 (i + 1)

/-- A state on the way. -/
structure AnyInv (P : Program) (fl : List FOp) (rs : List Rec) (S0 : Env) (h0 h2 : AHeap) (μ0 : Ren) (a0 : Act) (w0 : World) (N : Nat) (L : Nat → Bool) (μ : Ren) (q : Nat) (a : Act) (w : World) : Prop where
  le : q ≤ fl.length
  done : ∀ i, i < q → ¬ Calm rs h2 i → L i = true
  next : q < fl.length → ¬ Calm rs h2 q ∧ L q = false
  later : ∀ i f, q < i → fl[i]? = some f → loud f.op = true → L i = false
  sim : Sim P μ (Hat rs h2 q) w
  ext : ExtP μ0 h0 w0 μ (Hat rs h2 q) w
  mapped : ∀ i, i < q → L i = true → ∀ b, (Hat rs h2 i).length ≤ b → b < (Hat rs h2 (i + 1)).length → live (Hat rs h2 q) b → ∃ l, μ b = some l
  free : ∀ i, i < q → L i = false → ∀ b, (Hat rs h2 i).length ≤ b → b < (Hat rs h2 (i + 1)).length → μ b = none
  size : a.tmps.size = N
  slots : ∀ t, VR μ (Cur L 0 fl rs S0 t) (a.tmps.getD t undef)
  defers : a.defers = a0.defers

theorem chain_prefix {i q : Nat} (h : ∀ k, i ≤ k → k < q → Calm rs h2 k) (hiq : i ≤ q) : Hat rs h2 i <+: Hat rs h2 q := by
  induction q with
  | zero => have : i = 0 := by omega
            subst this
            exact List.prefix_refl _
  | succ q ih =>
    by_cases hq : i = q + 1
    · subst hq; exact List.prefix_refl _
    · exact (ih (fun k h1 h2 => h k h1 (by omega)) (by omega)).trans (h q (by omega) (by omega))
theorem prefix_get {α : Type} {l l' : List α} (h : l <+: l') {i : Nat} (hi : i < l.length) : l'[i]? = l[i]? := by
  obtain ⟨t, rfl⟩ := h
  exact List.getElem?_append_left hi
theorem live_prefix {h h' : AHeap} (hp : h <+: h') {b : Nat} (hb : b < h.length) : live h' b ↔ live h b := by
  unfold live
  rw [prefix_get hp hb]
theorem isRo_prefix {h h' : AHeap} (hp : h <+: h') {b : Nat} (hr : isRo h b) : isRo h' b := by
  obtain ⟨vs, t, e⟩ := hr
  exact ⟨vs, t, by rw [prefix_get hp (List.getElem?_eq_some_iff.1 e).1]; exact e⟩

/-- Listing one more operation: the slots. -/
theorem slots_step {L : Nat → Bool} {i : Nat} {f : FOp} {r : Rec} {μ μ1 : Ren} {a : Act} {v' : Value} (hlen : rs.length = fl.length) (hd : ∀ (i j : Nat) (f f' : FOp) (t : Nat), i ≠ j → fl[i]? = some f → fl[j]? = some f' → f.dst = some t → f'.dst ≠ some t)
    (hf : fl[i]? = some f) (hr : rs[i]? = some r) (hN : ∀ d, f.dst = some d → d < N) (hsz : a.tmps.size = N) (hLi : L i = false) (hs : ∀ t, VR μ (Cur L 0 fl rs S0 t) (a.tmps.getD t undef)) (hm : ∀ x y, VR μ x y → VR μ1 x y) (hv : VR μ1 r.v v') :
    (a.put f.dst v').tmps.size = N ∧ ∀ t, VR μ1 (Cur (fun j => if j = i then true else L j) 0 fl rs S0 t) ((a.put f.dst v').tmps.getD t undef) := by
  have hspec := fun (L : Nat → Bool) t => cur_spec (L := L) (t := t) fl rs 0 S0 hlen (fun i j f f' hij hi hj => hd i j f f' t hij hi hj)
  refine ⟨by cases f.dst <;> simp [Act.put, hsz], fun t => ?_⟩
  by_cases hdt : f.dst = some t
  · rw [(hspec (fun j => if j = i then true else L j) t).1 i f r hf hr (by simp) hdt, hdt]
    have : t < a.tmps.size := by rw [hsz]; exact hN t hdt
    simp [Act.put, this]
    exact hv
  · have h1 : (a.put f.dst v').tmps.getD t undef = a.tmps.getD t undef := by
      cases hfd : f.dst with
      | none => rfl
      | some d =>
        have : d ≠ t := by rintro rfl; exact hdt hfd
        simp [Act.put, Array.getElem?_setIfInBounds_ne this]
    have h2 : Cur (fun j => if j = i then true else L j) 0 fl rs S0 t = Cur L 0 fl rs S0 t := by
      by_cases hex : ∃ j f', fl[j]? = some f' ∧ L j = true ∧ f'.dst = some t
      · obtain ⟨j, f', hf', hLj, hdj⟩ := hex
        have hjl : j < rs.length := by rw [hlen]; exact (List.getElem?_eq_some_iff.1 hf').1
        have hrj : rs[j]? = some rs[j] := List.getElem?_eq_getElem hjl
        rw [(hspec L t).1 j f' _ hf' hrj (by simpa using hLj) hdj, (hspec (fun j => if j = i then true else L j) t).1 j f' _ hf' hrj (by simp [hLj]) hdj]
      · rw [(hspec L t).2 (fun j f' hf' hLj hdj => hex ⟨j, f', hf', by simpa using hLj, hdj⟩), (hspec (fun j => if j = i then true else L j) t).2 (fun j f' hf' hLj hdj => ?_)]
        simp only [Nat.zero_add] at hLj
        split at hLj
        · rename_i hji; subst hji; rw [hf] at hf'; cases hf'; exact hdt hdj
        · exact hex ⟨j, f', hf', hLj, hdj⟩
    rw [h1, h2]
    exact hm _ _ (hs t)
end
end Go.Am

/- A region in whatever order its edges allow: one more operation. -/
namespace Go.Am
variable {P : Program}
section
variable {F : Fence} {n N : Nat} {Γ : Callee} {ops : Array Oper} {fl : List FOp} {rs : List Rec} {S0 S2 : Env} {h0 h2 : AHeap} {B : List Nat} {Q : Exit → Act → World → Prop} {μ0 : Ren} {a0 : Act} {w0 : World}

/-- What is known of a region that was run in the text's order. -/
structure Known (P : Program) (Γ : Callee) (ops : Array Oper) (fl : List FOp) (rs : List Rec) (S0 S2 : Env) (h0 h2 : AHeap) (B : List Nat) (μ0 : Ren) (a0 : Act) (w0 : World) (N : Nat) : Prop where
  recs : Recs Γ fl rs S0 h0 S2 h2
  ord : OrdOk ops fl B
  callee : CallOk P Γ
  len : fl.length = ops.size
  fmatch : ∀ (j : Nat) (o : Oper), ops[j]? = some o → ∃ f, fl[j]? = some f ∧ FMatch P ops o f
  dst : ∀ f ∈ fl, ∀ d, f.dst = some d → d < N
  fr : FR μ0 S0 a0 N
  sim : Sim P μ0 h0 w0

theorem Known.text (k : Known P Γ ops fl rs S0 S2 h0 h2 B μ0 a0 w0 N) (i : Nat) (hi : i ≤ fl.length) :
    ∃ μt at_ wt, FR μt (Cur (fun j => decide (j < i)) 0 fl rs S0) at_ N ∧ Sim P μt (Hat rs h2 i) wt ∧ Ext μ0 h0 w0 μt (Hat rs h2 i) wt := by
  refine recs_text k.callee k.recs (fun f hf => ⟨?_, k.dst f hf⟩) k.fr k.sim i hi
  obtain ⟨j, hj⟩ := List.getElem?_of_mem hf
  have hjl : j < ops.size := by rw [← k.len]; exact (List.getElem?_eq_some_iff.1 hj).1
  obtain ⟨f', hf', m⟩ := k.fmatch j _ (Array.getElem?_eq_getElem hjl)
  rw [hj] at hf'
  cases hf'
  exact ⟨_, m.op⟩
/-- An operation that isn't calm may write, and is ordered. -/
theorem Known.uncalm (k : Known P Γ ops fl rs S0 S2 h0 h2 B μ0 a0 w0 N) {i : Nat} (hi : i < fl.length) (hn : ¬ Calm rs h2 i) : ∃ f, fl[i]? = some f ∧ mayWrite f.op = true ∧ f.chk = false := by
  obtain ⟨f, hf⟩ : ∃ f, fl[i]? = some f := ⟨_, List.getElem?_eq_getElem hi⟩
  obtain ⟨r, hr, hok, hw, hh, hh'⟩ := recs_at k.recs i f hf
  refine ⟨f, hf, ?_, ?_⟩
  · cases hm : mayWrite f.op with
    | true => rfl
    | false =>
      exfalso
      apply hn
      unfold Calm
      rw [← hh, ← hh']
      cases hran : r.ran with
      | true => exact calm_op hm (hok.run hran).2
      | false => rw [(hok.skip hran).2.2]; exact List.prefix_refl _
  · cases hc : f.chk with
    | false => rfl
    | true =>
      exfalso
      apply hn
      unfold Calm
      rw [← hh, ← hh']
      exact hok.chk hc

/-- The environment ahead of an operation that may come up: what it looks at is as in the text's order. -/
theorem Known.looks (k : Known P Γ ops fl rs S0 S2 h0 h2 B μ0 a0 w0 N) {L : Nat → Bool} (hc : Closed ops L) {i : Nat} {o : Oper} {f : FOp} (ho : ops[i]? = some o) (hf : fl[i]? = some f) (hLi : L i = false)
    (he : ∀ e ∈ o.after.toList, Region.binds .any e = true → L e.on = true) {t : Nat} (ht : t ∈ looksF f) :
    Cur (fun j => decide (j < i)) 0 fl rs S0 t = Cur L 0 fl rs S0 t := by
  have hlen := recs_length k.recs
  have hspec := fun (L : Nat → Bool) => cur_spec (L := L) (t := t) fl rs 0 S0 hlen (fun i j f f' hij hi hj => k.ord.dist i j f f' t hij hi hj)
  -- an operation that is listed and comes behind this one in the text isn't ordered behind it
  have hback : ∀ j f', fl[j]? = some f' → f'.dst = some t → i < j → L j = false := by
    intro j f' hf' hdj hij
    have hb := k.ord.look i j f f' t hij hf hf' (.inr ⟨hdj, ht⟩)
    have hjl : j < ops.size := by rw [← k.len]; exact (List.getElem?_eq_some_iff.1 hf').1
    cases hLj : L j with
    | false => rfl
    | true =>
      have ho' : ops[j]? = some ops[j] := Array.getElem?_eq_getElem hjl
      have := bef_listed k.ord hc j j (Nat.le_refl _) _ ho' (hc j _ ho' hLj) i hb
      rw [hLi] at this
      cases this
  have hfore : ∀ j f', fl[j]? = some f' → f'.dst = some t → j < i → L j = true := by
    intro j f' hf' hdj hji
    exact bef_listed k.ord hc i i (Nat.le_refl _) o ho he j (k.ord.look j i f' f t hji hf' hf (.inl ⟨hdj, ht⟩))
  by_cases hex : ∃ j f', fl[j]? = some f' ∧ j < i ∧ f'.dst = some t
  · obtain ⟨j, f', hf', hji, hdj⟩ := hex
    have hjl : j < rs.length := by rw [hlen]; exact (List.getElem?_eq_some_iff.1 hf').1
    have hrj : rs[j]? = some rs[j] := List.getElem?_eq_getElem hjl
    rw [(hspec _).1 j f' _ hf' hrj (by simpa using hji) hdj, (hspec L).1 j f' _ hf' hrj (by rw [Nat.zero_add]; exact hfore j f' hf' hdj hji) hdj]
  · rw [(hspec _).2 (fun j f' hf' hLj hdj => hex ⟨j, f', hf', by simpa using hLj, hdj⟩), (hspec L).2 (fun j f' hf' hLj hdj => ?_)]
    rw [Nat.zero_add] at hLj
    by_cases hji : j < i
    · exact hex ⟨j, f', hf', hji, hdj⟩
    · by_cases hij : i = j
      · subst hij; rw [hLi] at hLj; cases hLj
      · rw [hback j f' hf' hdj (by omega)] at hLj
        cases hLj

def addL (L : Nat → Bool) (i : Nat) : Nat → Bool := fun j => if j = i then true else L j

/-- The frame, as an operation that may come up sees it: what it looks at, and nothing else. -/
def only (e : Env) (l : List Nat) : Env := fun t => if t ∈ l then e t else junk
theorem only_mem {e : Env} {l : List Nat} {t : Nat} (h : t ∈ l) : only e l t = e t := if_pos h
theorem Known.seen (k : Known P Γ ops fl rs S0 S2 h0 h2 B μ0 a0 w0 N) {L : Nat → Bool} (hc : Closed ops L) {i : Nat} {o : Oper} {f : FOp} {r : Rec} (ho : ops[i]? = some o) (hf : fl[i]? = some f) (hr : Weaker r.e (Cur (fun j => decide (j < i)) 0 fl rs S0)) (hLi : L i = false)
    (he : ∀ e ∈ o.after.toList, Region.binds .any e = true → L e.on = true) {μ : Ren} {a : Act} (hs : ∀ t, VR μ (Cur L 0 fl rs S0 t) (a.tmps.getD t undef)) (hsz : a.tmps.size = N) :
    FR μ (only r.e (looksF f)) a N := by
  refine ⟨hsz, fun t => ?_⟩
  unfold only
  split
  · rename_i ht
    rcases hr t with h | h
    · rw [h, k.looks hc ho hf hLi he ht]; exact hs t
    · rw [h]; exact .junk _
  · exact .junk _

theorem Known.grows (k : Known P Γ ops fl rs S0 S2 h0 h2 B μ0 a0 w0 N) {i : Nat} (hi : i < fl.length) : (Hat rs h2 i).length ≤ (Hat rs h2 (i + 1)).length := by
  obtain ⟨f, hf⟩ : ∃ f, fl[i]? = some f := ⟨_, List.getElem?_eq_getElem hi⟩
  obtain ⟨r, hr, hok, hw, hh, hh'⟩ := recs_at k.recs i f hf
  obtain ⟨μt, at_, wt, h3, h4, h5⟩ := k.text i (Nat.le_of_lt hi)
  rw [← hh, ← hh']
  rw [← hh] at h4
  cases hran : r.ran with
  | true =>
    have hil : i < ops.size := by rw [← k.len]; exact hi
    obtain ⟨f', hf', m⟩ := k.fmatch i _ (Array.getElem?_eq_getElem hil)
    rw [hf] at hf'
    cases hf'
    obtain ⟨v', w1, μ1, _, _, h6⟩ := op_exists m.op k.callee (h3.weak hw).op h4 (hok.run hran).2
    exact h6.le
  | false => rw [(hok.skip hran).2.2]; exact Nat.le_refl _
theorem Known.grows' (k : Known P Γ ops fl rs S0 S2 h0 h2 B μ0 a0 w0 N) {i : Nat} : ∀ {j : Nat}, i ≤ j → j ≤ fl.length → (Hat rs h2 i).length ≤ (Hat rs h2 j).length
  | 0, hij, _ => by have : i = 0 := by omega
                    subst this
                    exact Nat.le_refl _
  | j + 1, hij, hj => by
    by_cases h : i = j + 1
    · subst h; exact Nat.le_refl _
    · exact Nat.le_trans (k.grows' (j := j) (by omega) (by omega)) (k.grows (by omega))
/-- Nothing loud comes up behind a stage's end. -/
theorem Known.noLate (k : Known P Γ ops fl rs S0 S2 h0 h2 B μ0 a0 w0 N) {L : Nat → Bool} {μ : Ren} {q : Nat} {a : Act} {w : World} (inv : AnyInv P fl rs S0 h0 h2 μ0 a0 w0 N L μ q a w) (hc : Closed ops L) {i : Nat} {o : Oper}
    (ho : ops[i]? = some o) (he : ∀ e ∈ o.after.toList, Region.binds .any e = true → L e.on = true) {f : FOp} (hf : fl[i]? = some f) (hqi : q < i) : loud f.op = false := by
  cases hl : loud f.op with
  | false => rfl
  | true =>
    exfalso
    have hq : q < fl.length := by have := (List.getElem?_eq_some_iff.1 hf).1; omega
    obtain ⟨hn, hLq⟩ := inv.next hq
    obtain ⟨fq, hfq, hmw, hch⟩ := k.uncalm hq hn
    have := bef_listed k.ord hc i i (Nat.le_refl _) o ho he q ((k.ord.wr q fq hfq hmw hch i f hf hl).1 hqi)
    rw [hLq] at this
    cases this

/-- An operation for which memory doesn't matter, or that is skipped. -/
theorem any_soft (hF : WideF F) (k : Known P Γ ops fl rs S0 S2 h0 h2 B μ0 a0 w0 N) {L : Nat → Bool} {μ : Ren} {q : Nat} {a : Act} {w : World} (inv : AnyInv P fl rs S0 h0 h2 μ0 a0 w0 N L μ q a w) (hc : Closed ops L) {i : Nat} {o : Oper}
    (ho : ops[i]? = some o) (hLi : L i = false) (he : ∀ e ∈ o.after.toList, Region.binds .any e = true → L e.on = true) {f : FOp} (hf : fl[i]? = some f) (m : FMatch P ops o f) {r : Rec} (hr : rs[i]? = some r) (hok : RecOk Γ f r) (hwk : Weaker r.e (Cur (fun j => decide (j < i)) 0 fl rs S0))
    (hsoft : r.ran = false ∨ loud f.op = false) (hiq : q < fl.length → i ≠ q) : wpOpIn F n P ops Q i (fun a' w' => ∃ μ' q', AnyInv P fl rs S0 h0 h2 μ0 a0 w0 N (addL L i) μ' q' a' w') a w := by
  have hfr := k.seen hc ho hf hwk hLi he inv.slots inv.size
  have hmem : f ∈ fl := List.mem_of_getElem? hf
  have hlen := recs_length k.recs
  have common : ∀ μ1 v' w1, VR μ1 r.v v' → Sim P μ1 (Hat rs h2 q) w1 → Ext μ (Hat rs h2 q) w μ1 (Hat rs h2 q) w1 → AnyInv P fl rs S0 h0 h2 μ0 a0 w0 N (addL L i) μ1 q (a.put f.dst v') w1 := by
    intro μ1 v' w1 hv hs hx
    obtain ⟨h3, h4⟩ := slots_step (μ1 := μ1) (S0 := S0) hlen k.ord.dist hf hr (k.dst f hmem) inv.size hLi inv.slots (fun x y h => h.mono (hx.renLe inv.sim.dom)) hv
    refine ⟨inv.le, fun j hj hn => ?_, fun hq => ⟨(inv.next hq).1, ?_⟩, fun j f' hj hf' hl => ?_, hs, inv.ext.trans hx.toExtP k.sim.dom, fun j hj hL b hb1 hb2 hlv => ?_, fun j hj hL b hb1 hb2 => ?_, h3, h4, ?_⟩
    · have := inv.done j hj hn
      unfold addL; split <;> first | rfl | exact this
    · unfold addL; rw [if_neg (Ne.symm (hiq hq))]; exact (inv.next hq).2
    · unfold addL
      split
      · rename_i hji
        subst hji
        rw [hf] at hf'
        cases hf'
        rw [k.noLate inv hc ho he hf hj] at hl
        cases hl
      · exact inv.later j f' hj hf' hl
    · rw [hx.old b (Nat.lt_of_lt_of_le hb2 (k.grows' hj inv.le))]
      unfold addL at hL
      split at hL
      · rename_i hji
        subst hji
        -- nothing is made by it
        have heq : Hat rs h2 (j + 1) = Hat rs h2 j := by
          obtain ⟨r', hr', hok', _, hh, hh'⟩ := recs_at k.recs j f hf
          rw [hr] at hr'
          cases hr'
          rw [← hh, ← hh']
          rcases hsoft with hs' | hs'
          · exact (hok.skip hs').2.2
          · cases hran : r.ran with
            | false => exact (hok.skip hran).2.2
            | true => exact (soft_op hs' (hok.run hran).2).1
        rw [heq] at hb2
        omega
      · exact inv.mapped j hj hL b hb1 hb2 hlv
    · have hLj : L j = false := by
        unfold addL at hL
        split at hL
        · cases hL
        · exact hL
      rw [hx.old b ?_]
      · exact inv.free j hj hLj b hb1 hb2
      · exact Nat.lt_of_lt_of_le hb2 (k.grows' hj inv.le)
    · rw [show (a.put f.dst v').defers = a.defers from by cases f.dst <;> rfl]; exact inv.defers
  unfold wpOpIn
  simp only [ho]
  cases hran : r.ran with
  | false =>
    obtain ⟨⟨s, b, hg, hs⟩, hv, hh⟩ := hok.skip hran
    have hmem' : s ∈ looksF f := by simp [looksF, hg]
    rw [wanted_no m hfr hg (by rw [only_mem hmem']; exact hs)]
    simp only [Bool.false_eq_true, if_false]
    refine ⟨fun f _ => hF.1 f, μ, q, ?_⟩
    rw [m.dst]
    exact common μ undef w (by rw [hv]; exact VR.undef) inv.sim (Ext.refl _ _ _ inv.sim.dom)
  | true =>
    obtain ⟨hg, hk⟩ := hok.run hran
    have hl : loud f.op = false := hsoft.resolve_left (by rw [hran]; simp)
    obtain ⟨hh, hk'⟩ := soft_op hl hk
    rw [wanted_yes m hfr (by
      rcases hg with hg | ⟨s, b, hg, hs⟩
      · exact .inl hg
      · exact .inr ⟨s, b, hg, by rw [only_mem (by simp [looksF, hg])]; exact hs⟩)]
    simp only [if_true]
    have hk2 := hk' (Hat rs h2 q)
    rw [opK_congr (e' := only r.e (looksF f)) (fun t ht => (only_mem (by simp [looksF, ht])).symm)] at hk2
    refine op_wp hF m.op k.callee hfr.op inv.sim hk2 (fun v' w1 μ1 hv hs hx => ⟨μ1, q, ?_⟩)
    rw [m.dst]
    exact common μ1 v' w1 hv hs hx
end
end Go.Am
