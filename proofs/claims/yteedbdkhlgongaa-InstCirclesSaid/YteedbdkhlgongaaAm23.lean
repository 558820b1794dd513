/- Calls without a bound. -/
import Derived.Test.YteedbdkhlgongaaAm22
set_option linter.unusedSimpArgs false
set_option linter.unusedVariables false
namespace Go.Am

/-- What x comes to, the row comes to and stays at. -/
def Evl {α : Type} (xs : Nat → Option α) (x : Option α) : Prop := ∀ r, x = some r → ∃ m, ∀ k, m ≤ k → xs k = some r
theorem Evl.const {α : Type} (x : Option α) : Evl (fun _ => x) x := fun r h => ⟨0, fun _ _ => h⟩
theorem Evl.bind {α β : Type} {xs : Nat → Option α} {x : Option α} {fs : Nat → α → Option β} {f : α → Option β} (h : Evl xs x) (hf : ∀ a, Evl (fun k => fs k a) (f a)) :
    Evl (fun k => (xs k).bind (fs k)) (x.bind f) := by
  intro r hr
  rw [Option.bind_eq_some_iff] at hr
  obtain ⟨a, ha, hr⟩ := hr
  obtain ⟨m1, h1⟩ := h a ha
  obtain ⟨m2, h2⟩ := hf a r hr
  refine ⟨max m1 m2, fun k hk => ?_⟩
  show (xs k).bind (fs k) = some r
  rw [h1 k (by omega)]
  exact h2 k (by omega)

variable {R : Type}
theorem callVf_evl {Γs : Nat → Callee} {Γ : Callee} (hΓ : ∀ f args h, Evl (fun k => Γs k f args h) (Γ f args h)) (f : Value) (args : List Value) (h : AHeap) : Evl (fun k => callVf (Γs k) f args h) (callVf Γ f args h) := by
  unfold callVf
  split
  · rename_i g xs ys
    cases Nat.blt g yieldId
    · exact Evl.const _
    · exact hΓ _ _ _
  · exact hΓ _ _ _
  · exact Evl.const _
theorem callFf_evl {Γs : Nat → Callee} {Γ : Callee} (hΓ : ∀ f args h, Evl (fun k => Γs k f args h) (Γ f args h)) (f : Value) (args : List Value) (h : AHeap) : Evl (fun k => callFf (Γs k) f args h) (callFf Γ f args h) := by
  unfold callFf
  split
  · rename_i g xs ys
    cases Nat.blt g yieldId
    · exact Evl.const _
    · exact hΓ _ _ _
  · exact Evl.const _
theorem opK_evl {Γs : Nat → Callee} {Γ : Callee} (hΓ : ∀ f args h, Evl (fun k => Γs k f args h) (Γ f args h)) (o : AOp) (e : Env) (h : AHeap)
    {ks : Nat → Value → AHeap → Option R} {k : Value → AHeap → Option R} (hk : ∀ v h, Evl (fun i => ks i v h) (k v h)) : Evl (fun i => opK (Γs i) o e h (ks i)) (opK Γ o e h k) := by
  cases o with
  | call f args => exact (hΓ f _ h).bind fun p => hk _ _
  | callV f args =>
    simp only [opK]
    exact (callVf_evl hΓ _ _ _).bind fun p => hk _ _
  | _ =>
    simp only [opK]
    first
      | exact hk _ _
      | exact (Evl.const _).bind fun v => hk _ _
      | exact Evl.const _

theorem chkK_evl (chk : Bool) (h h' : AHeap) {ms : Nat → Option R} {m : Option R} (hm : Evl ms m) : Evl (fun k => chkK chk h h' (ms k)) (chkK chk h h' m) := by
  cases chk with
  | false => exact hm
  | true =>
    simp only [chkK, sameQ]
    split
    · exact hm
    · exact Evl.const _

theorem stepsK_evl {Γs : Nat → Callee} {Γ : Callee} (hΓ : ∀ f args h, Evl (fun k => Γs k f args h) (Γ f args h)) :
    ∀ (s : ASteps) {Ks : Nat → Env → AHeap → Option R} {K : Env → AHeap → Option R}, (∀ e h, Evl (fun k => Ks k e h) (K e h)) → ∀ (e : Env) (h : AHeap), Evl (fun k => stepsK (Γs k) s (Ks k) e h) (stepsK Γ s K e h) := by
  intro s
  induction s with
  | nil => intro Ks K hK e h; exact hK e h
  | op dst o chk rest ih =>
    intro Ks K hK e h
    exact opK_evl hΓ o e h fun v h' => chkK_evl chk h h' (ih hK _ _)
  | sc dst c isAnd tmp body y rest ihb ihr =>
    intro Ks K hK e h
    simp only [stepsK, J1, scK]
    split
    · split
      · exact ihb (fun e' h' => ihr hK _ _) _ _
      · exact ihr hK _ _
    · exact Evl.const _

theorem loopN_evl {Bs : Nat → (List Value → AHeap → Option R) → List Value → AHeap → Option R} {B : (List Value → AHeap → Option R) → List Value → AHeap → Option R}
    (hB : ∀ (cs : Nat → List Value → AHeap → Option R) (c : List Value → AHeap → Option R), (∀ vs h, Evl (fun k => cs k vs h) (c vs h)) → ∀ vs h, Evl (fun k => Bs k (cs k) vs h) (B c vs h)) :
    ∀ (n : Nat) (js : Nat → Nat), (∃ m, ∀ k, m ≤ k → n ≤ js k) → ∀ vs h, Evl (fun k => loopN (Bs k) (js k) vs h) (loopN B n vs h)
  | 0, js, hj, vs, h => by intro r hr; cases hr
  | n + 1, js, ⟨m, hm⟩, vs, h => by
    intro r hr
    obtain ⟨m2, h2⟩ := hB (fun k => loopN (Bs k) (js k - 1)) (loopN B n) (fun vs h => loopN_evl hB n (fun k => js k - 1) ⟨m, fun k hk => by have := hm k hk; omega⟩ vs h) vs h r hr
    refine ⟨max m m2, fun k hk => ?_⟩
    have h3 := hm k (by omega)
    obtain ⟨j, hj⟩ : ∃ j, js k = j + 1 := ⟨js k - 1, by omega⟩
    show loopN (Bs k) (js k) vs h = some r
    rw [hj]
    have h4 : Bs k (loopN (Bs k) (js k - 1)) vs h = some r := h2 k (by omega)
    rw [hj] at h4
    exact h4

theorem codeK_evl {Γs : Nat → Callee} {Γ : Callee} (hΓ : ∀ f args h, Evl (fun k => Γs k f args h) (Γ f args h)) (n : Nat) :
    ∀ (c : ACode) {Ks : Nat → AExit → Env → AHeap → Option R} {K : AExit → Env → AHeap → Option R}, (∀ o e h, Evl (fun k => Ks k o e h) (K o e h)) → ∀ (e : Env) (h : AHeap), Evl (fun k => codeK (Γs k) k c (Ks k) e h) (codeK Γ n c K e h) := by
  intro c
  induction c with
  | skip => intro Ks K hK e h; exact hK _ _ _
  | region d s => intro Ks K hK e h; exact stepsK_evl hΓ s (fun e h => hK _ _ _) e h
  | seq a b iha ihb =>
    intro Ks K hK e h
    refine iha (fun o e h => ?_) e h
    cases o with
    | normal => exact ihb hK e h
    | exit i => exact hK _ _ _
    | ret => exact hK _ _ _
  | cond c mod tmp a b iha ihb =>
    intro Ks K hK e h
    simp only [codeK, JL, ifK]
    split
    · split
      · refine iha (fun o e h => ?_) e h
        cases o with
        | normal => exact hK _ _ _
        | exit i => exact hK _ _ _
        | ret => exact hK _ _ _
      · refine ihb (fun o e h => ?_) e h
        cases o with
        | normal => exact hK _ _ _
        | exit i => exact hK _ _ _
        | ret => exact hK _ _ _
    · exact Evl.const _
  | block id mod tmp c ih =>
    intro Ks K hK e h
    simp only [codeK, JL]
    refine ih (fun o e h => ?_) e h
    cases o with
    | normal => exact hK _ _ _
    | exit i => simp only []; cases Nat.beq i id <;> exact hK _ _ _
    | ret => exact hK _ _ _
  | loop mod tmp c ih =>
    intro Ks K hK e h
    simp only [codeK]
    refine loopN_evl (fun cs c hc vs h => ?_) n (fun k => k) ⟨n, fun k hk => hk⟩ _ _
    refine ih (fun o e h => ?_) _ _
    cases o with
    | normal => exact hc _ _
    | exit i => exact hK _ _ _
    | ret => exact hK _ _ _
  | exit i => intro Ks K hK e h; exact hK _ _ _
  | ret => intro Ks K hK e h; exact hK _ _ _
  | rangeF g lv ps ab bb iha ihb =>
    intro Ks K hK e h
    simp only [codeK]
    refine (callFf_evl hΓ _ _ _).bind fun p => (Evl.const _).bind fun o => ?_
    cases o with
    | none => exact hK _ _ _
    | some x => exact hK _ _ _

theorem roundK_evl {Γs : Nat → Callee} {Γ : Callee} (hΓ : ∀ f args h, Evl (fun k => Γs k f args h) (Γ f args h)) (n : Nat) (args : List Value) (h : AHeap) : Evl (fun k => roundK (Γs k) k args h) (roundK Γ n args h) := by
  unfold roundK
  split
  · split
    · rename_i b0 vs x vals lv ps ab bb pend hb
      cases Nat.beq vs.length ps.length with
      | false => exact Evl.const _
      | true =>
        simp only [cond_true]
        refine codeK_evl hΓ n ab (fun o e h1 => ?_) _ _
        cases o with
        | normal => exact (Evl.const _).bind fun h2 => codeK_evl (Ks := fun _ o _ h3 => endRound b0 o h3) (K := fun o _ h3 => endRound b0 o h3) hΓ n bb (fun o _ h3 => Evl.const _) e h2
        | exit i => exact Evl.const _
        | ret => exact Evl.const _
    · exact Evl.const _
  · exact Evl.const _
theorem resultsK_evl : ∀ (rs : List ARes) (e : Env) (h : AHeap) {ks : Nat → List Value → Option R} {k : List Value → Option R}, (∀ vs, Evl (fun i => ks i vs) (k vs)) → Evl (fun i => resultsK rs e h (ks i)) (resultsK rs e h k)
  | [], e, h, ks, k, hk => hk []
  | .tmp t :: rs, e, h, ks, k, hk => resultsK_evl rs e h fun vs => hk _
  | .cell t agg n :: rs, e, h, ks, k, hk => (Evl.const _).bind fun v => resultsK_evl rs e h fun vs => hk _

theorem funK_evl {Γs : Nat → Callee} {Γ : Callee} (hΓ : ∀ f args h, Evl (fun k => Γs k f args h) (Γ f args h)) (n : Nat) (F : AFun) (args : List Value) (h : AHeap) : Evl (fun k => funK (Γs k) k F args h) (funK Γ n F args h) := by
  simp only [funK]
  cases Nat.beq args.length F.nargs with
  | false => exact Evl.const _
  | true =>
    simp only [cond_true]
    refine codeK_evl hΓ n F.code (fun o e h' => ?_) _ _
    exact Evl.const _

theorem acall_evl {Γ0 : Callee} {T : ATable} : ∀ (n : Nat) (f : FuncId) (args : List Value) (h : AHeap), Evl (fun k => acall Γ0 T k f args h) (acall Γ0 T n f args h)
  | 0, f, args, h => by
    intro r hr
    unfold acall at hr
    cases hf : Nat.beq f yieldId with
    | true => rw [hf] at hr; cases hr
    | false =>
      rw [hf] at hr
      simp only [cond_false] at hr
      split at hr
      · cases hr
      · rename_i hT
        refine ⟨0, fun k _ => ?_⟩
        cases k <;> (simp only [acall, hf, cond_false, hT]; exact hr)
  | n + 1, f, args, h => by
    intro r hr
    unfold acall at hr
    cases hf : Nat.beq f yieldId with
    | true =>
      rw [hf] at hr
      simp only [cond_true] at hr
      obtain ⟨m, hm⟩ := roundK_evl (acall_evl n) n args h r hr
      refine ⟨m + 1, fun k hk => ?_⟩
      obtain ⟨j, rfl⟩ : ∃ j, k = j + 1 := ⟨k - 1, by omega⟩
      simp only [acall, hf, cond_true]
      exact hm j (by omega)
    | false =>
      rw [hf] at hr
      simp only [cond_false] at hr
      split at hr
      · rename_i F hT
        obtain ⟨m, hm⟩ := funK_evl (acall_evl n) n F args h r hr
        refine ⟨m + 1, fun k hk => ?_⟩
        obtain ⟨j, rfl⟩ : ∃ j, k = j + 1 := ⟨k - 1, by omega⟩
        simp only [acall, hf, cond_false, hT]
        exact hm j (by omega)
      · rename_i hT
        refine ⟨0, fun k _ => ?_⟩
        cases k <;> (simp only [acall, hf, cond_false, hT]; exact hr)
theorem run_of_acall {Γ0 : Callee} {T : ATable} {n : Nat} {f : FuncId} {args : List Value} {h : AHeap} {r : Value × AHeap} (hk : acall Γ0 T n f args h = some r) : run Γ0 T f args h = some r := by
  have H : ∃ n, (acall Γ0 T n f args h).isSome = true := ⟨n, by rw [hk]; rfl⟩
  unfold run
  rw [dif_pos H]
  cases hc : acall Γ0 T (Classical.choose H) f args h with
  | none => have := Classical.choose_spec H; rw [hc] at this; cases this
  | some r' =>
    obtain ⟨m1, h1⟩ := acall_evl n f args h r hk
    obtain ⟨m2, h2⟩ := acall_evl _ f args h r' hc
    have e1 := h1 (max m1 m2) (by omega)
    have e2 := h2 (max m1 m2) (by omega)
    rw [← e1, ← e2]
theorem run_evl {Γ0 : Callee} {T : ATable} (f : FuncId) (args : List Value) (h : AHeap) : Evl (fun k => acall Γ0 T k f args h) (run Γ0 T f args h) := by
  intro r hr
  obtain ⟨n, hn⟩ := run_some hr
  exact acall_evl n f args h r hn
/-- What a function's body comes to, calls and all, is what a call of it comes to. -/
theorem run_of_body {Γ0 : Callee} {T : ATable} {f : FuncId} {F : AFun} (hT : T.get f = some F) (n : Nat) {args : List Value} {h : AHeap} {r : Value × AHeap} (hk : funK (run Γ0 T) n F args h = some r) (hf : Nat.beq f yieldId = false := by rfl) : run Γ0 T f args h = some r := by
  obtain ⟨m, hm⟩ := funK_evl run_evl n F args h r hk
  refine run_of_acall (n := m + 1) ?_
  simp only [acall, hf, cond_false, hT]
  exact hm m (Nat.le_refl _)
/-- What a round comes to. -/
theorem run_of_round {Γ0 : Callee} {T : ATable} (n : Nat) {args : List Value} {h : AHeap} {r : Value × AHeap} (hk : roundK (run Γ0 T) n args h = some r) : run Γ0 T yieldId args h = some r := by
  obtain ⟨m, hm⟩ := roundK_evl run_evl n args h r hk
  refine run_of_acall (n := m + 1) ?_
  simp only [acall, Nat.beq_refl, cond_true]
  exact hm m (Nat.le_refl _)
theorem run_of_base {Γ0 : Callee} {T : ATable} {f : FuncId} (hT : T.get f = none) {args : List Value} {h : AHeap} {r : Value × AHeap} (hk : Γ0 f args h = some r) (hf : Nat.beq f yieldId = false := by rfl) : run Γ0 T f args h = some r :=
  run_of_acall (n := 0) (by simp only [acall, hf, cond_false, hT]; exact hk)

end Go.Am
