/- Functions. -/
import Derived.Test.YteedbdkhlgongaaAm21
set_option linter.unusedSimpArgs false
set_option linter.unusedVariables false
namespace Go.Am
variable {P : Program}

def compRes (P : Program) : ResultVar → Option ARes
  | .tmp t => some (.tmp t)
  | .cell a t => match layOf P t with
    | some (agg, n) => some (.cell a agg n)
    | none => none
/-- The machine's form of a function is that function. -/
structure FunOk (P : Program) (f : FuncId) (fn : Func) (c : Code) (F : AFun) : Prop where
  at_ : P.funcs[f]? = some fn
  body : fn.body = some c
  name : (fn.name == "runtime.NumGoroutine") = false
  code : compCode P fn.ntmps c = some (eraseC F.code)
  ok : okC F.code = true
  nargs : F.nargs ≤ fn.ntmps
  results : fn.results.toList.mapM (compRes P) = some F.results

theorem mapM_cons_some {α β : Type} {f : α → Option β} {x : α} {l : List α} {r : List β} (h : (x :: l).mapM f = some r) : ∃ y ys, f x = some y ∧ l.mapM f = some ys ∧ r = y :: ys := by
  rw [List.mapM_cons] at h
  cases hx : f x with
  | none => rw [hx] at h; cases h
  | some y =>
    rw [hx] at h
    cases hl : l.mapM f with
    | none => rw [hl] at h; cases h
    | some ys => rw [hl] at h; cases h; exact ⟨y, ys, rfl, rfl, rfl⟩

theorem results_sound {R : Type} {μ : Ren} {e : Env} {h : AHeap} {w : World} {tmps : Array Value} (s : Sim P μ h w) (hrel : ∀ i, VR μ (e i) (tmps.getD i undef)) :
    ∀ (rv : List ResultVar) (rs : List ARes) (k : List Value → Option R) (r : R), rv.mapM (compRes P) = some rs → resultsK rs e h k = some r →
      ∃ vs vs', k vs = some r ∧ VRL μ vs vs' ∧ ∀ f : ResultVar → Sem Value, (∀ t, f (.tmp t) = pure (tmps.getD t undef)) → (∀ a t, f (.cell a t) = (do loadVar t (← asAddr (tmps.getD a undef)))) → (rv.mapM f).run P w = .ok vs' w := by
  intro rv
  induction rv with
  | nil =>
    intro rs k r hc hk
    cases hc
    exact ⟨[], [], hk, .nil, fun _ _ _ => rfl⟩
  | cons x rv ih =>
    intro rs k r hc hk
    obtain ⟨y, ys, hx, hl, rfl⟩ := mapM_cons_some hc
    cases x with
    | tmp t =>
      cases hx
      simp only [resultsK] at hk
      obtain ⟨vs, vs', h1, h2, h3⟩ := ih ys _ r hl hk
      refine ⟨_, _, h1, .cons (hrel t) h2, fun f hf1 hf2 => ?_⟩
      rw [List.mapM_cons]
      simp only [hf1, Sem.run_bind, Sem.run_pure, Result.andThen_ok, h3 f hf1 hf2]
    | cell t ty =>
      simp only [compRes] at hx
      split at hx
      · rename_i agg n hlay
        cases hx
        simp only [resultsK, Option.bind_eq_some_iff] at hk
        obtain ⟨v, hv, hk⟩ := hk
        obtain ⟨vs, vs', h1, h2, h3⟩ := ih ys _ r hl hk
        obtain ⟨d, i, hd, hi, ha, hn, h0⟩ := layOf_spec hlay
        obtain ⟨v', hrun, hvr⟩ := loadf_sound s (hrel t) hv hd hi ha hn
        refine ⟨_, _, h1, .cons hvr h2, fun f hf1 hf2 => ?_⟩
        rw [List.mapM_cons]
        have hrun' : (do loadVar ty (← asAddr (tmps.getD t undef)) : Sem Value).run P w = .ok v' w := by
          have hv0 := hrel t
          unfold loadf at hv
          split at hv
          · rename_i heq
            rw [heq] at hv0
            generalize hy : tmps.getD t undef = y0 at hv0 hrun
            cases hv0 with
            | ptr hb =>
              simpa only [Instr.loadAt, Instr.sureAddr, asAddr, Sem.run_bind, Sem.run_pure, Result.andThen_ok] using hrun
          · cases hv
        simp only [hf2, Sem.run_bind, Sem.run_pure, Result.andThen_ok] at hrun' ⊢
        rw [hrun']
        simp only [h3 f hf1 hf2, Result.andThen_ok]
      · cases hx

theorem gc_sound {μ μ' : Ren} {h h' : AHeap} {w w' : World} {r v : Value} (s : Sim P μ h w) (hv : VR μ' r v) (s' : Sim P μ' h' w') (x : Ext μ h w μ' h' w') :
    ∃ μ1, VR μ1 r v ∧ Sim P μ1 (gc r h h') w' ∧ Ext μ h w μ1 (gc r h h') w' := by
  unfold gc
  split
  · rename_i hg
    obtain ⟨hn, t, ht⟩ := hg
    have e := VR.eq_of_noRef hn hv
    subst e
    refine ⟨μ, VR.of_noRef hn, ⟨s.dom, fun b l blk hb hblk hd => ?_, s.inj, fun b l hb => Nat.lt_of_lt_of_le (s.lt b l hb) x.size⟩,
      ⟨⟨Nat.le_refl _, fun _ _ => rfl, x.size, x.frame, x.ro, fun _ _ => rfl, fun b l hb e => absurd (s.dom b l e) (by omega), fun _ _ h => h, x.out⟩, fun b hb hl => absurd hl.lt (by omega)⟩⟩
    have hlt := s.dom b l hb
    have hblk' : h'[b]? = some blk := by rw [← ht, List.getElem?_append_left hlt]; exact hblk
    obtain ⟨o0, _, hb0⟩ := s.rel b l blk hb hblk hd
    obtain ⟨o, ho, hb1⟩ := s'.rel b l blk ((x.old b hlt).trans hb) hblk' hd
    exact ⟨o, ho, hb0.cut (x.renLe s.dom) hb1⟩
  · exact ⟨μ', hv, s', x⟩

theorem single_rel {μ : Ren} {vs vs' : List Value} (h : VRL μ vs vs') : VR μ (single vs) (if h : vs'.toArray.size = 1 then vs'.toArray[0] else .tuple vs'.toArray) := by
  cases h with
  | nil => exact .tuple .nil
  | cons h hs =>
    cases hs with
    | nil => exact h
    | cons h' hs' =>
      simp only [single, List.size_toArray, List.length_cons]
      rw [dif_neg (by omega)]
      exact .tuple (.cons h (.cons h' hs'))

theorem enter_run {f : FuncId} {fn : Func} {c : Code} {xs : Array Value} {w : World} (h1 : P.funcs[f]? = some fn) (h2 : fn.body = some c) (h3 : (fn.name == "runtime.NumGoroutine") = false) :
    (callFunc f xs).run P w = .ok (.enter f xs) w := by
  have h3' : ¬ fn.name = "runtime.NumGoroutine" := by simpa using h3
  simp [callFunc, go_sem, h1, h2, h3']

/-- A block that nobody names is written. -/
theorem Sim.spareSet {μ : Ren} {h : AHeap} {w : World} (s : Sim P μ h w) {r : Nat} (o : Obj) (hu : ∀ b l, live h b → μ b = some l → l.blk ≠ r) : Sim P μ h (w.putObj r o) :=
  ⟨s.dom, fun b l blk e hb hn => by
    obtain ⟨o', ho, hbr⟩ := s.rel b l blk e hb hn
    exact ⟨o', by rw [World.putObj_heap_other (hu b l ⟨_, hb, hn⟩ e)]; exact ho, hbr⟩, s.inj, fun b l e => by have := s.lt b l e; simpa [World.putObj] using this⟩
theorem Ext.spareSet {μ μ' : Ren} {h h' : AHeap} {w w' : World} (s : Sim P μ h w) (x : Ext μ h w μ' h' w') {r : Nat} (o : Obj) (hr : w.heap.size ≤ r) : Ext μ h w μ' h' (w'.putObj r o) :=
  ⟨⟨x.le, x.old, by have := x.size; simpa [World.putObj] using this, fun c hc hn => by rw [World.putObj_heap_other (by omega)]; exact x.frame c hc hn, fun b l e hro => by
    have := s.lt b l e
    rw [World.putObj_heap_other (by omega)]; exact x.ro b l e hro, x.roStay, x.new, x.dead, ⟨x.out.1, x.out.2.1, x.out.2.2⟩⟩, x.tot⟩
theorem leaves_marks {F : Fence} {n : Nat} {fn : Func} {tmps : Array Value} {Q : Ending → World → Prop} {μ0 μ : Ren} {h0 h : AHeap} {w0 : World} (s0 : Sim P μ0 h0 w0)
    (hQ : ∀ w', Sim P μ h w' → Ext μ0 h0 w0 μ h w' → ∃ v, (results fn tmps).run P w' = .ok v w' ∧ Q (.returned v) w') :
    ∀ (rs : List Nat) (w : World), Sim P μ h w → Ext μ0 h0 w0 μ h w → rs.Nodup → (∀ r ∈ rs, w0.heap.size ≤ r ∧ w.heap[r]? = some (.deferred (some [])) ∧ ∀ b l, live h b → μ b = some l → l.blk ≠ r) →
      LeavesInM F n P fn tmps Q (rs.map fun r => { target := .collected r, args := #[] }) .returning w := by
  intro rs
  induction rs with
  | nil => intro w s x _ _; exact hQ w s x
  | cons r rs ih =>
    intro w s x hn hr
    obtain ⟨k1, k2, k3⟩ := hr r (by simp)
    refine ⟨by simp, .inl ⟨r, _, rfl, run_takeDeferred k2, ih _ (s.spareSet _ k3) (x.spareSet s0 _ k1) (List.nodup_cons.1 hn).2 fun r' hr' => ?_⟩⟩
    obtain ⟨j1, j2, j3⟩ := hr r' (by simp [hr'])
    have hne : r' ≠ r := fun e => (List.nodup_cons.1 hn).1 (by rw [← e]; exact hr')
    exact ⟨j1, by rw [World.putObj_heap_other hne]; exact j2, j3⟩

theorem fun_sound {f : FuncId} {fn : Func} {c : Code} {AF : AFun} {Γ : Callee} {fuel : Nat} (hmix : P.follows .mixedOrders = true) (ok : FunOk P f fn c AF) (hΓ : CallOk P Γ)
    {args : List Value} {h h1 : AHeap} {r : Value} (hk : funK Γ fuel AF args h = some (r, h1)) :
    (∀ (xs : Array Value) (w : World), (callFunc f xs).run P w = .ok (.enter f xs) w) ∧
    ∀ (μ : Ren) (w : World) (args' : List Value), Sim P μ h w → VRL μ args args' → ∀ (F : Fence) (n : Nat), WideF F →
      CallsIn F n P f args'.toArray w fun e w' => ∃ v μ1, e = .returned v ∧ VR μ1 r v ∧ Sim P μ1 h1 w' ∧ Ext μ h w μ1 h1 w' := by
  refine ⟨fun xs w => enter_run ok.at_ ok.body ok.name, fun μ w args' s hargs F n hF => ?_⟩
  show CallsIn F.plain n P f args'.toArray w _
  unfold funK at hk
  cases hn : Nat.beq args.length AF.nargs with
  | false => rw [hn] at hk; cases hk
  | true =>
    rw [hn] at hk
    simp only [cond_true] at hk
    have hlen := Nat.eq_of_beq_eq_true hn
    have hlen' := hargs.length
    have hna := ok.nargs
    refine callsIn_of_wp_marks ok.at_ ok.body (hF.1 f) ?_ rfl
    refine wpIn_mono (code_sound (F := F.plain) (n := n) (N := fn.ntmps) (fuel := fuel) hF hmix hΓ AF.code c _ (initEnv args) h (r, h1) _ w μ ok.code ok.ok (.inl rfl) hk ⟨?_, ?_⟩ s) ?_
    · simp only [Array.size_append, Array.size_replicate, List.size_toArray]
      omega
    · intro i
      simp only [initEnv]
      by_cases hi : i < args.length
      · have hi' : i < args'.length := by omega
        have hg : (args'.toArray ++ Array.replicate (fn.ntmps - args'.toArray.size) undef).getD i undef = args'[i] := by
          rw [Array.getD_eq_getD_getElem?, Array.getElem?_append_left (by simpa using hi')]
          simp [hi']
        rw [hg]
        obtain ⟨y, hy, hr⟩ := hargs.get (List.getElem?_eq_getElem hi)
        rw [List.getElem?_eq_getElem hi'] at hy
        cases hy
        rw [List.getD_eq_getElem?_getD, List.getElem?_eq_getElem hi]
        exact hr
      · have hg : (args'.toArray ++ Array.replicate (fn.ntmps - args'.toArray.size) undef).getD i undef = undef := by
          rw [Array.getD_eq_getD_getElem?, Array.getElem?_append_right (by simp; omega), Array.getElem?_replicate]
          split <;> rfl
        rw [hg, List.getD_eq_getElem?_getD, List.getElem?_eq_none (by omega)]
        exact .undef
    · have fin : ∀ {e' : Env} {h' : AHeap} {μ' : Ren} {a' : Act} {w' : World}, (resultsK AF.results e' h' fun vs => some (single vs, gc (single vs) h h')) = some (r, h1) → FR μ' e' a' fn.ntmps → Sim P μ' h' w' → Ext μ h w μ' h' w' →
          ∃ v, (results fn a'.tmps).run P w' = .ok v w' ∧ ∃ v' μ1, Ending.returned v = .returned v' ∧ VR μ1 r v' ∧ Sim P μ1 h1 w' ∧ Ext μ h w μ1 h1 w' := by
        intro e' h' μ' a' w' hK fr s1 x1
        obtain ⟨vs, vs', h2, h3, h4⟩ := results_sound s1 fr.rel _ _ _ _ ok.results hK
        cases h2
        obtain ⟨μ1, h5, h6, h7⟩ := gc_sound s (single_rel h3) s1 x1
        refine ⟨_, ?_, _, μ1, rfl, h5, h6, h7⟩
        unfold results
        rw [Array.mapM_eq_mapM_toList]
        rw [Sem.run_bind, Sem.run_map, h4 _ (fun _ => rfl) (fun _ _ => rfl)]
        simp only [Sem.run_pure, Result.andThen_ok]
      rintro x1 a1 w1 ⟨o, e1, h1', μ1, rfl, hK, hag, fr1, s1, x1, rs, hd, hd2, hd3⟩
      rw [List.append_nil] at hd
      cases o with
      | normal =>
        show LeavesInM _ _ _ _ _ _ a1.defers .returning w1
        rw [hd]
        exact leaves_marks s (fun w' s' x' => fin hK ⟨fr1.size, fr1.rel⟩ s' x') rs w1 s1 x1 hd2 hd3
      | ret =>
        show LeavesInM _ _ _ _ _ _ a1.defers .returning w1
        rw [hd]
        exact leaves_marks s (fun w' s' x' => fin hK ⟨fr1.size, fr1.rel⟩ s' x') rs w1 s1 x1 hd2 hd3
      | exit i => cases hK

/-! ### A round of a range over a function -/
theorem setMany_congr {e e' : Env} : ∀ {l : List Nat} {vs : List Value} {i : Nat}, e i = e' i → setMany e l vs i = setMany e' l vs i
  | [], _, _, h => h
  | p :: l, vs, i, h => by
    simp only [setMany, upd]
    rw [setMany_congr h]
theorem setMany_not {e : Env} : ∀ {l : List Nat} {vs : List Value} {i : Nat}, i ∉ l → setMany e l vs i = e i
  | [], _, _, _ => rfl
  | p :: l, vs, i, h => by
    simp only [setMany]
    rw [upd_ne _ _ (fun e => h (by simp [e])), setMany_not (fun hm => h (by simp [hm]))]
theorem round_tmps {μ : Ren} : ∀ (ps : List Nat) (vs vs' : List Value) (e : Env) (tmps : Array Value), VRL μ vs vs' → ps.length = vs.length → ps.Nodup → (∀ p ∈ ps, p < tmps.size) → (∀ i, VR μ (e i) (tmps.getD i undef)) →
    ∀ i, VR μ (setMany e ps vs i) (((ps.zip vs').foldl (fun tmps x => tmps.setIfInBounds x.1 x.2) tmps).getD i undef)
  | [], vs, vs', e, tmps, hv, _, _, _, hr, i => by simpa [setMany] using hr i
  | p :: ps, [], vs', e, tmps, hv, hl, _, _, hr, i => by simp at hl
  | p :: ps, v :: vs, vs', e, tmps, hv, hl, hn, hb, hr, i => by
    cases hv with
    | @cons _ y _ ys h1 h2 =>
      have hnp := List.nodup_cons.1 hn
      have hpb : p < tmps.size := hb p (by simp)
      have ih := round_tmps ps vs ys (upd e p v) (tmps.setIfInBounds p y) h2 (by simpa using hl) hnp.2 (fun q hq => by rw [Array.size_setIfInBounds]; exact hb q (by simp [hq])) (fun j => by
        by_cases hj : j = p
        · subst hj
          rw [upd_self]
          simp only [Array.getD_eq_getD_getElem?, Array.getElem?_setIfInBounds_self_of_lt hpb, Option.getD_some]
          exact h1
        · rw [upd_ne _ _ (fun h => hj h.symm)]
          have := hr j
          simp only [Array.getD_eq_getD_getElem?] at this ⊢
          rw [Array.getElem?_setIfInBounds_ne (fun h => hj h.symm)]
          exact this) i
      simp only [List.zip_cons_cons, List.foldl_cons]
      have e1 : setMany e (p :: ps) (v :: vs) i = setMany (upd e p v) ps vs i := by
        simp only [setMany, List.tail_cons, List.headD_cons]
        by_cases hi : i = p
        · subst hi
          rw [upd_self, setMany_not hnp.1, upd_self]
        · rw [upd_ne _ _ (fun h => hi h.symm)]
          exact setMany_congr (by rw [upd_ne _ _ (fun h => hi h.symm)])
      rw [e1]
      exact ih
theorem round_size : ∀ (l : List (Nat × Value)) (tmps : Array Value), (l.foldl (fun tmps x => tmps.setIfInBounds x.1 x.2) tmps).size = tmps.size
  | [], _ => rfl
  | x :: l, tmps => by rw [List.foldl_cons, round_size l, Array.size_setIfInBounds]
/-- The end of a round. -/
theorem endRound_sound {μ : Ren} {h h1 : AHeap} {w : World} {b c K : Nat} {o : AExit} {r : Value} (s : Sim P μ h w) (e : μ b = some ⟨c, K⟩) (hk : endRound b o h = some (r, h1)) :
    ∃ v w', (Instr.endRound c (match o with | .normal => none | .exit i => some (.exit i) | .ret => some .ret)).run P w = .ok v w' ∧ VR μ r v ∧ Sim P μ h1 w' ∧ Ext μ h w μ h1 w' := by
  unfold endRound at hk
  split at hk
  · rename_i vals lv ps ab bb pend hb
    obtain ⟨o0, ho0, r0, rfl, k1, k2, k3, k4, k5, k6, k7, k8⟩ := s.rel _ _ _ e hb (by simp)
    have hro : ¬ isRo h b := by rintro ⟨vs, t', e2⟩; rw [hb] at e2; cases e2
    cases o with
    | normal =>
      cases hk
      obtain ⟨q1, q2⟩ := s.setBlk (blk' := .loop vals lv ps ab bb .ready none) (o' := .loop { r0 with state := .ready, pending := none }) e hb (by simp) hro (by simp) (by simp) ⟨_, rfl, rfl, rfl, k3, k4, k5, k6, k7, k8⟩
      exact ⟨_, _, run_endRound none ho0, .bool _, q1, q2⟩
    | exit i =>
      cases hk
      obtain ⟨q1, q2⟩ := s.setBlk (blk' := .loop vals lv ps ab bb .done (some (.exit i))) (o' := .loop { r0 with state := .done, pending := some (.exit i) }) e hb (by simp) hro (by simp) (by simp) ⟨_, rfl, rfl, rfl, k3, k4, k5, k6, k7, k8⟩
      exact ⟨_, _, run_endRound (some (.exit i)) ho0, .bool _, q1, q2⟩
    | ret =>
      cases hk
      obtain ⟨q1, q2⟩ := s.setBlk (blk' := .loop vals lv ps ab bb .done (some .ret)) (o' := .loop { r0 with state := .done, pending := some .ret }) e hb (by simp) hro (by simp) (by simp) ⟨_, rfl, rfl, rfl, k3, k4, k5, k6, k7, k8⟩
      exact ⟨_, _, run_endRound (some .ret) ho0, .bool _, q1, q2⟩
  · cases hk
theorem round_sound {Γ : Callee} {fuel : Nat} (hmix : P.follows .mixedOrders = true) (hΓ : CallOk P Γ) {b : Nat} {args : List Value} {h h1 : AHeap} {r : Value} (hk : roundK Γ fuel (ptrTo b 0 :: args) h = some (r, h1)) :
    ∀ (μ : Ren) (w : World) (args' : List Value) (c K : Nat), Sim P μ h w → VRL μ args args' → μ b = some ⟨c, K⟩ →
      ∃ fn tmps as bd, (Instr.yield c args'.toArray).run P w = .ok (.round c fn tmps as bd) w ∧ ∀ (F : Fence) (n : Nat), WideF F →
        RoundIn F n P c fn tmps as bd w fun e w' => ∃ v μ1, e = .returned v ∧ VR μ1 r v ∧ Sim P μ1 h1 w' ∧ Ext μ h w μ1 h1 w' := by
  intro μ w args' c K s hargs e
  unfold roundK ptrTo at hk
  simp only at hk
  split at hk
  · rename_i vals lv ps ab bb pend hb
    cases hn : Nat.beq args.length ps.length with
    | false => rw [hn] at hk; cases hk
    | true =>
      rw [hn] at hk
      simp only [cond_true] at hk
      have hlen := Nat.eq_of_beq_eq_true hn
      obtain ⟨o0, ho0, r0, rfl, k1, k2, k3, k4, k5, k6, k7, k8⟩ := s.rel _ _ _ e hb (by simp)
      have hps : r0.params = ps.toArray := Array.ext' (by simpa using k3)
      have hal := hargs.length
      have hsz : args'.toArray.size = r0.params.size := by rw [hps]; simp; omega
      refine ⟨_, _, _, _, run_yield ho0 hsz, fun F n hF => roundIn_of_wpIn (hF.1 _) ?_⟩
      have hz : ((r0.params.zip args'.toArray).foldl (fun tmps (t, a) => tmps.setIfInBounds t a) r0.tmps) = ((ps.zip args').foldl (fun tmps x => tmps.setIfInBounds x.1 x.2) r0.tmps) := by
        rw [hps]
        simp [← Array.foldl_toList]
      rw [hz]
      have hFin : WideF (F.inRound c) := hF
      have hfr : FR μ (setMany (setMany (fun _ => junk) lv vals) ps args) { tmps := (ps.zip args').foldl (fun tmps x => tmps.setIfInBounds x.1 x.2) r0.tmps, defers := [] } r0.tmps.size :=
        ⟨round_size _ _, round_tmps ps args args' _ _ hargs hlen.symm k5 (fun p hp => by simpa using List.all_eq_true.1 k4 p hp) k8⟩
      refine wpIn_mono (code_sound (F := F.inRound c) (n := n) (N := r0.tmps.size) (fuel := fuel) hFin hmix hΓ ab r0.assign _ _ h (r, h1) _ w μ k6.1 k6.2.1 (.inr k6.2.2) hk hfr s) ?_
      rintro x1 a1 w1 ⟨o, e1, h1', μ1, rfl, hK, hag, fr1, s1, x1, hd⟩
      cases o with
      | exit i => cases hK
      | ret => cases hK
      | normal =>
        simp only [Option.bind_eq_some_iff] at hK
        obtain ⟨h2, hbg, hK⟩ := hK
        unfold beginRound at hbg
        split at hbg
        · rename_i vals2 lv2 ps2 ab2 bb2 pend2 hb2
          cases hbg
          have e1' : μ1 b = some ⟨c, K⟩ := (x1.old b (s.dom b _ e)).trans e
          obtain ⟨o1, ho1, r1, rfl, j1, j2, j3, j4, j5, j6, j7, j8⟩ := s1.rel _ _ _ e1' hb2 (by simp)
          have hro : ¬ isRo h1' b := by rintro ⟨vs, t', e2⟩; rw [hb2] at e2; cases e2
          obtain ⟨q1, q2⟩ := s1.setBlk (blk' := .loop vals2 lv2 ps2 ab2 bb2 .busy pend2) (o' := .loop { r1 with state := .busy }) e1' hb2 (by simp) hro (by simp) (by simp) ⟨_, rfl, rfl, j2, j3, j4, j5, j6, j7, j8⟩
          refine ⟨_, run_beginRound ho1 j1, ?_⟩
          refine wpIn_mono (code_sound (F := F.inRound c) (n := n) (N := r0.tmps.size) (fuel := fuel) hFin hmix hΓ bb r0.body _ _ _ (r, h1) _ _ μ1 k7.1 k7.2.1 (.inr k7.2.2) hK fr1 q1) ?_
          rintro x3 a3 w3 ⟨o3, e3, h3, μ3, rfl, hK3, hag3, fr3, s3, x3, hd3⟩
          have e3' : μ3 b = some ⟨c, K⟩ := (x3.old b (by have := s1.dom b _ e1'; simpa using this)).trans e1'
          obtain ⟨v, w4, g1, g2, g3, g4⟩ := endRound_sound s3 e3' hK3
          have hxx := x1.trans (q2.trans (x3.trans g4 q1.dom) s1.dom) s.dom
          cases o3 with
          | normal => exact ⟨v, w4, g1, v, μ3, rfl, g2, g3, hxx⟩
          | exit i => exact ⟨v, w4, g1, v, μ3, rfl, g2, g3, hxx⟩
          | ret => exact ⟨v, w4, g1, v, μ3, rfl, g2, g3, hxx⟩
        · cases hbg
  · cases hk

/-- Every function of the table is one of the program's. -/
def TableOk (P : Program) (T : ATable) : Prop := ∀ f AF, T.get f = some AF → ∃ fn c, FunOk P f fn c AF
theorem tableOk_nil : TableOk P [] := fun f AF h => by cases h
theorem tableOk_cons {g : FuncId} {F : AFun} {T : ATable} {fn : Func} {c : Code} (h : FunOk P g fn c F) (ht : TableOk P T) : TableOk P ((g, F) :: T) := by
  intro f AF hf
  unfold ATable.get at hf
  cases hb : Nat.beq g f with
  | true =>
    rw [hb] at hf
    cases hf
    have := Nat.eq_of_beq_eq_true hb
    subst this
    exact ⟨fn, c, h⟩
  | false => rw [hb] at hf; exact ht f AF hf
theorem blt_beq {f : FuncId} (h : Nat.blt f yieldId = true) : Nat.beq f yieldId = false := by
  cases hb : Nat.beq f yieldId with
  | false => rfl
  | true =>
    have := Nat.eq_of_beq_eq_true hb
    subst this
    exact absurd h (by decide)
theorem acall_ok {Γ0 : Callee} {T : ATable} (hmix : P.follows .mixedOrders = true) (hT : TableOk P T) (h0 : CallOk P Γ0) : ∀ n, CallOk P (acall Γ0 T n)
  | 0 => ⟨fun f hf args h r h1 hk => by
      unfold acall at hk
      rw [blt_beq hf] at hk
      simp only [cond_false] at hk
      split at hk
      · cases hk
      · exact h0.fn f hf args h r h1 hk,
    fun b args h r h1 hk => by
      unfold acall at hk
      rw [Nat.beq_refl] at hk
      cases hk⟩
  | n + 1 => ⟨fun f hf args h r h1 hk => by
      unfold acall at hk
      rw [blt_beq hf] at hk
      simp only [cond_false] at hk
      split at hk
      · rename_i F hF
        obtain ⟨fn, c, ok⟩ := hT f F hF
        exact fun_sound hmix ok (acall_ok hmix hT h0 n) hk
      · exact h0.fn f hf args h r h1 hk,
    fun b args h r h1 hk => by
      unfold acall at hk
      rw [Nat.beq_refl] at hk
      exact round_sound hmix (acall_ok hmix hT h0 n) hk⟩
theorem run_some {Γ0 : Callee} {T : ATable} {f : FuncId} {args : List Value} {h : AHeap} {r : Value × AHeap} (hk : run Γ0 T f args h = some r) : ∃ n, acall Γ0 T n f args h = some r := by
  unfold run at hk
  split at hk
  · exact ⟨_, hk⟩
  · cases hk
theorem run_ok {Γ0 : Callee} {T : ATable} (hmix : P.follows .mixedOrders = true) (hT : TableOk P T) (h0 : CallOk P Γ0) : CallOk P (run Γ0 T) := by
  refine ⟨fun f hf args h r h1 hk => ?_, fun b args h r h1 hk => ?_⟩
  · obtain ⟨n, hn⟩ := run_some hk
    exact (acall_ok hmix hT h0 n).fn f hf args h r h1 hn
  · obtain ⟨n, hn⟩ := run_some hk
    exact (acall_ok hmix hT h0 n).yield b args h r h1 hn
theorem noCallee_ok : CallOk P noCallee := ⟨fun f hf args h r h1 hk => (by cases hk), fun b args h r h1 hk => (by cases hk)⟩

end Go.Am
