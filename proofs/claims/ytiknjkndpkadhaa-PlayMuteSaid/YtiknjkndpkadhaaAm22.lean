/- Functions. -/
import Derived.Test.YtiknjkndpkadhaaAm21
set_option linter.unusedSimpArgs false
set_option linter.unusedVariables false
namespace Go.Am
variable {P : Program}

def compRes (P : Program) : ResultVar → Option ARes
  | .tmp t => some (.tmp t)
  | .cell a t => match layOf P t with
    | some (agg, n) => some (.cell a agg n)
    | none => none
/-- The machine's form of a function is that function. -/
structure FunOk (P : Program) (f : FuncId) (fn : Func) (c : Code) (F : AFun) : Prop where
  at_ : P.funcs[f]? = some fn
  body : fn.body = some c
  name : (fn.name == "runtime.NumGoroutine") = false
  code : compCode P fn.ntmps c = some (eraseC F.code)
  ok : okC F.code = true
  nargs : F.nargs ≤ fn.ntmps
  results : fn.results.toList.mapM (compRes P) = some F.results

theorem mapM_cons_some {α β : Type} {f : α → Option β} {x : α} {l : List α} {r : List β} (h : (x :: l).mapM f = some r) : ∃ y ys, f x = some y ∧ l.mapM f = some ys ∧ r = y :: ys := by
  rw [List.mapM_cons] at h
  cases hx : f x with
  | none => rw [hx] at h; cases h
  | some y =>
    rw [hx] at h
    cases hl : l.mapM f with
    | none => rw [hl] at h; cases h
    | some ys => rw [hl] at h; cases h; exact ⟨y, ys, rfl, rfl, rfl⟩

theorem results_sound {R : Type} {μ : Ren} {e : Env} {h : AHeap} {w : World} {tmps : Array Value} (s : Sim P μ h w) (hrel : ∀ i, VR μ (e i) (tmps.getD i undef)) :
    ∀ (rv : List ResultVar) (rs : List ARes) (k : List Value → Option R) (r : R), rv.mapM (compRes P) = some rs → resultsK rs e h k = some r →
      ∃ vs vs', k vs = some r ∧ VRL μ vs vs' ∧ ∀ f : ResultVar → Sem Value, (∀ t, f (.tmp t) = pure (tmps.getD t undef)) → (∀ a t, f (.cell a t) = (do loadVar t (← asAddr (tmps.getD a undef)))) → (rv.mapM f).run P w = .ok vs' w := by
  intro rv
  induction rv with
  | nil =>
    intro rs k r hc hk
    cases hc
    exact ⟨[], [], hk, .nil, fun _ _ _ => rfl⟩
  | cons x rv ih =>
    intro rs k r hc hk
    obtain ⟨y, ys, hx, hl, rfl⟩ := mapM_cons_some hc
    cases x with
    | tmp t =>
      cases hx
      simp only [resultsK] at hk
      obtain ⟨vs, vs', h1, h2, h3⟩ := ih ys _ r hl hk
      refine ⟨_, _, h1, .cons (hrel t) h2, fun f hf1 hf2 => ?_⟩
      rw [List.mapM_cons]
      simp only [hf1, Sem.run_bind, Sem.run_pure, Result.andThen_ok, h3 f hf1 hf2]
    | cell t ty =>
      simp only [compRes] at hx
      split at hx
      · rename_i agg n hlay
        cases hx
        simp only [resultsK, Option.bind_eq_some_iff] at hk
        obtain ⟨v, hv, hk⟩ := hk
        obtain ⟨vs, vs', h1, h2, h3⟩ := ih ys _ r hl hk
        obtain ⟨d, i, hd, hi, ha, hn, h0⟩ := layOf_spec hlay
        obtain ⟨v', hrun, hvr⟩ := loadf_sound s (hrel t) hv hd hi ha hn
        refine ⟨_, _, h1, .cons hvr h2, fun f hf1 hf2 => ?_⟩
        rw [List.mapM_cons]
        have hrun' : (do loadVar ty (← asAddr (tmps.getD t undef)) : Sem Value).run P w = .ok v' w := by
          have hv0 := hrel t
          unfold loadf at hv
          split at hv
          · rename_i heq
            rw [heq] at hv0
            generalize hy : tmps.getD t undef = y0 at hv0 hrun
            cases hv0 with
            | ptr hb =>
              simpa only [Instr.loadAt, Instr.sureAddr, asAddr, Sem.run_bind, Sem.run_pure, Result.andThen_ok] using hrun
          · cases hv
        simp only [hf2, Sem.run_bind, Sem.run_pure, Result.andThen_ok] at hrun' ⊢
        rw [hrun']
        simp only [h3 f hf1 hf2, Result.andThen_ok]
      · cases hx

theorem gc_sound {μ μ' : Ren} {h h' : AHeap} {w w' : World} {r v : Value} (s : Sim P μ h w) (hv : VR μ' r v) (s' : Sim P μ' h' w') (x : Ext μ h w μ' h' w') :
    ∃ μ1, VR μ1 r v ∧ Sim P μ1 (gc r h h') w' ∧ Ext μ h w μ1 (gc r h h') w' := by
  unfold gc
  split
  · rename_i hg
    obtain ⟨hn, t, ht⟩ := hg
    have e := VR.eq_of_noRef hn hv
    subst e
    refine ⟨μ, VR.of_noRef hn, ⟨s.dom, fun b l blk hb hblk hd => ?_, s.inj, fun b l hb => Nat.lt_of_lt_of_le (s.lt b l hb) x.size⟩,
      ⟨⟨Nat.le_refl _, fun _ _ => rfl, x.size, x.frame, x.ro, fun _ _ => rfl, fun b l hb e => absurd (s.dom b l e) (by omega), fun _ _ h => h, x.out⟩, fun b hb hl => absurd hl.lt (by omega)⟩⟩
    have hlt := s.dom b l hb
    have hblk' : h'[b]? = some blk := by rw [← ht, List.getElem?_append_left hlt]; exact hblk
    obtain ⟨o0, _, hb0⟩ := s.rel b l blk hb hblk hd
    obtain ⟨o, ho, hb1⟩ := s'.rel b l blk ((x.old b hlt).trans hb) hblk' hd
    exact ⟨o, ho, hb0.cut (x.renLe s.dom) hb1⟩
  · exact ⟨μ', hv, s', x⟩

theorem single_rel {μ : Ren} {vs vs' : List Value} (h : VRL μ vs vs') : VR μ (single vs) (if h : vs'.toArray.size = 1 then vs'.toArray[0] else .tuple vs'.toArray) := by
  cases h with
  | nil => exact .tuple .nil
  | cons h hs =>
    cases hs with
    | nil => exact h
    | cons h' hs' =>
      simp only [single, List.size_toArray, List.length_cons]
      rw [dif_neg (by omega)]
      exact .tuple (.cons h (.cons h' hs'))

theorem enter_run {f : FuncId} {fn : Func} {c : Code} {xs : Array Value} {w : World} (h1 : P.funcs[f]? = some fn) (h2 : fn.body = some c) (h3 : (fn.name == "runtime.NumGoroutine") = false) :
    (callFunc f xs).run P w = .ok (.enter f xs) w := by
  have h3' : ¬ fn.name = "runtime.NumGoroutine" := by simpa using h3
  simp [callFunc, go_sem, h1, h2, h3']

theorem fun_sound {f : FuncId} {fn : Func} {c : Code} {AF : AFun} {Γ : Callee} {fuel : Nat} (hmix : P.follows .mixedOrders = true) (ok : FunOk P f fn c AF) (hΓ : CallOk P Γ)
    {args : List Value} {h h1 : AHeap} {r : Value} (hk : funK Γ fuel AF args h = some (r, h1)) :
    (∀ (xs : Array Value) (w : World), (callFunc f xs).run P w = .ok (.enter f xs) w) ∧
    ∀ (μ : Ren) (w : World) (args' : List Value), Sim P μ h w → VRL μ args args' → ∀ (F : Fence) (n : Nat), WideF F →
      CallsIn F n P f args'.toArray w fun e w' => ∃ v μ1, e = .returned v ∧ VR μ1 r v ∧ Sim P μ1 h1 w' ∧ Ext μ h w μ1 h1 w' := by
  refine ⟨fun xs w => enter_run ok.at_ ok.body ok.name, fun μ w args' s hargs F n hF => ?_⟩
  show CallsIn F.plain n P f args'.toArray w _
  unfold funK at hk
  cases hn : Nat.beq args.length AF.nargs with
  | false => rw [hn] at hk; cases hk
  | true =>
    rw [hn] at hk
    simp only [cond_true] at hk
    have hlen := Nat.eq_of_beq_eq_true hn
    have hlen' := hargs.length
    have hna := ok.nargs
    refine callsIn_of_wp ok.at_ ok.body (hF.1 f) ?_ rfl
    refine wpIn_mono (code_sound (F := F.plain) (n := n) (N := fn.ntmps) (fuel := fuel) hF hmix hΓ AF.code c _ (initEnv args) h (r, h1) _ w μ ok.code ok.ok hk ⟨?_, ?_⟩ s) ?_
    · simp only [Array.size_append, Array.size_replicate, List.size_toArray]
      omega
    · intro i
      simp only [initEnv]
      by_cases hi : i < args.length
      · have hi' : i < args'.length := by omega
        have hg : (args'.toArray ++ Array.replicate (fn.ntmps - args'.toArray.size) undef).getD i undef = args'[i] := by
          rw [Array.getD_eq_getD_getElem?, Array.getElem?_append_left (by simpa using hi')]
          simp [hi']
        rw [hg]
        obtain ⟨y, hy, hr⟩ := hargs.get (List.getElem?_eq_getElem hi)
        rw [List.getElem?_eq_getElem hi'] at hy
        cases hy
        rw [List.getD_eq_getElem?_getD, List.getElem?_eq_getElem hi]
        exact hr
      · have hg : (args'.toArray ++ Array.replicate (fn.ntmps - args'.toArray.size) undef).getD i undef = undef := by
          rw [Array.getD_eq_getD_getElem?, Array.getElem?_append_right (by simp; omega), Array.getElem?_replicate]
          split <;> rfl
        rw [hg, List.getD_eq_getElem?_getD, List.getElem?_eq_none (by omega)]
        exact .undef
    · have fin : ∀ {e' : Env} {h' : AHeap} {μ' : Ren} {a' : Act} {w' : World}, (resultsK AF.results e' h' fun vs => some (single vs, gc (single vs) h h')) = some (r, h1) → FR μ' e' a' fn.ntmps → Sim P μ' h' w' → Ext μ h w μ' h' w' →
          ∃ v, (results fn a'.tmps).run P w' = .ok v w' ∧ ∃ v' μ1, Ending.returned v = .returned v' ∧ VR μ1 r v' ∧ Sim P μ1 h1 w' ∧ Ext μ h w μ1 h1 w' := by
        intro e' h' μ' a' w' hK fr s1 x1
        obtain ⟨vs, vs', h2, h3, h4⟩ := results_sound s1 fr.rel _ _ _ _ ok.results hK
        cases h2
        obtain ⟨μ1, h5, h6, h7⟩ := gc_sound s (single_rel h3) s1 x1
        refine ⟨_, ?_, _, μ1, rfl, h5, h6, h7⟩
        unfold results
        rw [Array.mapM_eq_mapM_toList]
        rw [Sem.run_bind, Sem.run_map, h4 _ (fun _ => rfl) (fun _ _ => rfl)]
        simp only [Sem.run_pure, Result.andThen_ok]
      rintro x1 a1 w1 ⟨o, e1, h1', μ1, rfl, hK, hag, fr1, s1, x1, hd⟩
      cases o with
      | normal => obtain ⟨v, hr, hrest⟩ := fin hK fr1 s1 x1; exact ⟨hd, v, hr, hrest⟩
      | ret => obtain ⟨v, hr, hrest⟩ := fin hK fr1 s1 x1; exact ⟨hd, v, hr, hrest⟩
      | exit i => cases hK

/-- Every function of the table is one of the program's. -/
def TableOk (P : Program) (T : ATable) : Prop := ∀ f AF, T.get f = some AF → ∃ fn c, FunOk P f fn c AF
theorem tableOk_nil : TableOk P [] := fun f AF h => by cases h
theorem tableOk_cons {g : FuncId} {F : AFun} {T : ATable} {fn : Func} {c : Code} (h : FunOk P g fn c F) (ht : TableOk P T) : TableOk P ((g, F) :: T) := by
  intro f AF hf
  unfold ATable.get at hf
  cases hb : Nat.beq g f with
  | true =>
    rw [hb] at hf
    cases hf
    have := Nat.eq_of_beq_eq_true hb
    subst this
    exact ⟨fn, c, h⟩
  | false => rw [hb] at hf; exact ht f AF hf
theorem acall_ok {Γ0 : Callee} {T : ATable} (hmix : P.follows .mixedOrders = true) (hT : TableOk P T) (h0 : CallOk P Γ0) : ∀ n, CallOk P (acall Γ0 T n)
  | 0 => by
    intro f args h r h1 hk
    unfold acall at hk
    split at hk
    · cases hk
    · exact h0 f args h r h1 hk
  | n + 1 => by
    intro f args h r h1 hk
    unfold acall at hk
    split at hk
    · rename_i F hF
      obtain ⟨fn, c, ok⟩ := hT f F hF
      exact fun_sound hmix ok (acall_ok hmix hT h0 n) hk
    · exact h0 f args h r h1 hk
theorem run_some {Γ0 : Callee} {T : ATable} {f : FuncId} {args : List Value} {h : AHeap} {r : Value × AHeap} (hk : run Γ0 T f args h = some r) : ∃ n, acall Γ0 T n f args h = some r := by
  unfold run at hk
  split at hk
  · exact ⟨_, hk⟩
  · cases hk
theorem run_ok {Γ0 : Callee} {T : ATable} (hmix : P.follows .mixedOrders = true) (hT : TableOk P T) (h0 : CallOk P Γ0) : CallOk P (run Γ0 T) := by
  intro f args h r h1 hk
  obtain ⟨n, hn⟩ := run_some hk
  exact acall_ok hmix hT h0 n f args h r h1 hn
theorem noCallee_ok : CallOk P noCallee := by intro f args h r h1 hk; cases hk

end Go.Am
