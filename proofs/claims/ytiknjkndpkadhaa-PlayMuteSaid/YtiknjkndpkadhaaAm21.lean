/- Code. -/
import Derived.Test.YtiknjkndpkadhaaAm20
set_option linter.unusedSimpArgs false
set_option linter.unusedVariables false
namespace Go.Am
variable {P : Program}

inductive FCode where
  | skip
  | region (draw : Bool) (fl : List FOp)
  | seq (a b : FCode)
  | cond (c : Operand) (a b : FCode)
  | block (id : Nat) (c : FCode)
  | loop (c : FCode)
  | exit (id : Nat)
  | ret
def eraseC : ACode → FCode
  | .skip => .skip
  | .region draw s => .region draw (eraseS s none)
  | .seq a b => .seq (eraseC a) (eraseC b)
  | .cond c _ _ a b => .cond c (eraseC a) (eraseC b)
  | .block id _ _ c => .block id (eraseC c)
  | .loop _ _ c => .loop (eraseC c)
  | .exit i => .exit i
  | .ret => .ret
def compCode (P : Program) (N : Nat) : Code → Option FCode
  | .skip => some .skip
  | .label _ => some .skip
  | .region _ ops draw => match compRegion P N ops draw with
    | some fl => some (.region draw fl)
    | none => none
  | .seq a b => match compCode P N a, compCode P N b with
    | some a, some b => some (.seq a b)
    | _, _ => none
  | .cond c a b => match okX c, compCode P N a, compCode P N b with
    | true, some a, some b => some (.cond c a b)
    | _, _, _ => none
  | .block id c => match compCode P N c with
    | some c => some (.block id c)
    | none => none
  | .loop c => match compCode P N c with
    | some c => some (.loop c)
    | none => none
  | .exit i => some (.exit i)
  | .ret => some .ret
  | _ => none
def writesC : ACode → List Nat
  | .region _ s => writesS s
  | .seq a b => writesC a ++ writesC b
  | .cond _ mod tmp _ _ => mod ++ tmp
  | .block _ mod tmp _ => mod ++ tmp
  | .loop mod tmp _ => mod ++ tmp
  | _ => []
def subB (a b : List Nat) : Bool := a.all b.contains
theorem subB_spec {a b : List Nat} (h : subB a b = true) : ∀ i ∈ a, i ∈ b := fun i hi => contains_mem (List.all_eq_true.1 h i hi)
def okC : ACode → Bool
  | .region _ s => okS [] none s
  | .seq a b => okC a && okC b
  | .cond _ mod tmp a b => subB (writesC a) (mod ++ tmp) && subB (writesC b) (mod ++ tmp) && okC a && okC b
  | .block _ mod tmp c => subB (writesC c) (mod ++ tmp) && okC c
  | .loop mod tmp c => subB (writesC c) (mod ++ tmp) && okC c
  | _ => true

theorem setMany_get {e e1 : Env} : ∀ {l : List Nat} {t : Nat}, setMany e l (getMany e1 l) t = if t ∈ l then e1 t else e t
  | [], t => by simp [getMany, setMany]
  | i :: l, t => by
    simp only [getMany, setMany]
    by_cases h : i = t
    · subst h; rw [upd_self]; simp
    · rw [upd_ne _ _ h]
      show setMany e l (getMany e1 l) t = _
      rw [setMany_get]
      have : t ≠ i := Ne.symm h
      simp [this]
/-- Where ways meet: the slots that are told, the ones that are forgotten, and the rest. -/
theorem join_weaker {e e1 : Env} {mod tmp : List Nat} (h : ∀ t, t ∉ mod ++ tmp → e1 t = e t) : Weaker (setMany (junkAll e tmp) mod (getMany e1 mod)) e1 := by
  intro t
  rw [setMany_get]
  split
  · left; rfl
  · rename_i hm
    by_cases ht : t ∈ tmp
    · right; exact junkAll_mem ht
    · left; rw [junkAll_not ht]; exact (h t (by simp [hm, ht])).symm
theorem join_same {e : Env} {mod tmp : List Nat} {vs : List Value} {t : Nat} (h : t ∉ mod ++ tmp) : setMany (junkAll e tmp) mod vs t = e t := by
  simp only [List.mem_append, not_or] at h
  have : ∀ (l : List Nat) (vs : List Value) (e : Env), t ∉ l → setMany e l vs t = e t := by
    intro l
    induction l with
    | nil => intros; simp [setMany]
    | cons i l ih =>
      intro vs e hn
      simp only [List.mem_cons, not_or] at hn
      simp only [setMany]; rw [upd_ne _ _ (Ne.symm hn.1)]; exact ih _ e hn.2
  rw [this mod vs _ h.1, junkAll_not h.2]

def exitOf : AExit → Exit
  | .normal => .normal
  | .exit i => .exit i
  | .ret => .ret
/-- How a piece of code ends. -/
def CPost {R : Type} (P : Program) (K : AExit → Env → AHeap → Option R) (r : R) (wr : List Nat) (e : Env) (μ : Ren) (h : AHeap) (w : World) (a : Act) (N : Nat) : Exit → Act → World → Prop :=
  fun x a' w' => ∃ o e' h' μ', exitOf o = x ∧ K o e' h' = some r ∧ (∀ t, t ∉ wr → e' t = e t) ∧ FR μ' e' a' N ∧ Sim P μ' h' w' ∧ Ext μ h w μ' h' w' ∧ a'.defers = a.defers

noncomputable def leastN (p : Nat → Prop) : Nat := open Classical in if H : ∃ n, p n then Classical.choose (show ∃ n, p n ∧ ∀ k, k < n → ¬ p k by
  obtain ⟨m, hm⟩ := H
  obtain ⟨q, _, _, h3, h4⟩ := least_from p m 0 m (by omega) hm
  exact ⟨q, h3, fun k hk => h4 k (Nat.zero_le _) hk⟩) else 0
theorem leastN_spec {p : Nat → Prop} {m : Nat} (h : p m) : p (leastN p) ∧ leastN p ≤ m := by
  have H : ∃ n, p n := ⟨m, h⟩
  unfold leastN
  rw [dif_pos H]
  generalize hc : Classical.choose _ = c
  have hs := Classical.choose_spec (show ∃ n, p n ∧ ∀ k, k < n → ¬ p k by
    obtain ⟨m, hm⟩ := H
    obtain ⟨q, _, _, h3, h4⟩ := least_from p m 0 m (by omega) hm
    exact ⟨q, h3, fun k hk => h4 k (Nat.zero_le _) hk⟩)
  rw [hc] at hs
  refine ⟨hs.1, ?_⟩
  apply Classical.byContradiction
  intro hn
  exact hs.2 m (by omega) h

theorem code_sound {R : Type} {F : Fence} {n N fuel : Nat} {Γ : Callee} (hF : WideF F) (hmix : P.follows .mixedOrders = true) (hΓ : CallOk P Γ) :
    ∀ (ac : ACode) (c : Code) (K : AExit → Env → AHeap → Option R) (e : Env) (h : AHeap) (r : R) (a : Act) (w : World) (μ : Ren), compCode P N c = some (eraseC ac) → okC ac = true → codeK Γ fuel ac K e h = some r →
      FR μ e a N → Sim P μ h w → c.wpIn F n P (CPost P K r (writesC ac) e μ h w a N) a w := by
  intro ac
  induction ac with
  | skip =>
    intro c K e h r a w μ hc hok hk fr s
    have hpost : CPost P K r (writesC .skip) e μ h w a N .normal a w := ⟨.normal, e, h, μ, rfl, hk, fun _ _ => rfl, fr, s, Ext.refl _ _ _ s.dom, rfl⟩
    cases c with
    | skip => exact wpIn_skip hpost
    | label l => exact wpIn_label hpost
    | region _ _ _ => simp only [compCode, eraseC] at hc; split at hc <;> cases hc
    | seq _ _ => simp only [compCode, eraseC] at hc; split at hc <;> cases hc
    | cond _ _ _ => simp only [compCode, eraseC] at hc; split at hc <;> cases hc
    | block _ _ => simp only [compCode, eraseC] at hc; split at hc <;> cases hc
    | loop _ => simp only [compCode, eraseC] at hc; split at hc <;> cases hc
    | _ => cases hc
  | region draw st =>
    intro c K e h r a w μ hc hok hk fr s
    cases c with
    | region id ops draw' =>
      simp only [compCode, eraseC] at hc
      split at hc
      · rename_i fl hfl
        cases hc
        obtain ⟨e2, h2, ht, hK, hw⟩ := steps_tr st [] none none _ e h r hok (fun c b hg => by cases hg) hk
        exact region_sound hF hmix hΓ hfl ht fr s (fun a' w' μ' h3 h4 h5 h6 => ⟨.normal, e2, h2, μ', rfl, hK, hw, h3, h4, h5, h6⟩)
      · cases hc
    | seq _ _ => simp only [compCode, eraseC] at hc; split at hc <;> cases hc
    | cond _ _ _ => simp only [compCode, eraseC] at hc; split at hc <;> cases hc
    | block _ _ => simp only [compCode, eraseC] at hc; split at hc <;> cases hc
    | loop _ => simp only [compCode, eraseC] at hc; split at hc <;> cases hc
    | _ => cases hc
  | seq x y ihx ihy =>
    intro c K e h r a w μ hc hok hk fr s
    simp only [okC, Bool.and_eq_true] at hok
    cases c with
    | seq c1 c2 =>
      simp only [compCode, eraseC] at hc
      split at hc
      · rename_i f1 f2 h1 h2
        cases hc
        refine wpIn_seq (wpIn_mono (ihx c1 _ e h r a w μ h1 hok.1 hk fr s) ?_)
        rintro x1 a1 w1 ⟨o, e1, h1', μ1, rfl, hK, hag, fr1, s1, x1, hd⟩
        cases o with
        | normal =>
          refine wpIn_mono (ihy c2 K e1 h1' r a1 w1 μ1 h2 hok.2 hK fr1 s1) ?_
          rintro x2 a2 w2 ⟨o2, e2, h2', μ2, rfl, hK2, hag2, fr2, s2, x2, hd2⟩
          exact ⟨o2, e2, h2', μ2, rfl, hK2, fun t ht => by
            simp only [writesC, List.mem_append, not_or] at ht
            rw [hag2 t ht.2, hag t ht.1], fr2, s2, x1.trans x2 s.dom, hd2.trans hd⟩
        | exit i => exact ⟨.exit i, e1, h1', μ1, rfl, hK, fun t ht => hag t (fun h => ht (by simp [writesC, h])), fr1, s1, x1, hd⟩
        | ret => exact ⟨.ret, e1, h1', μ1, rfl, hK, fun t ht => hag t (fun h => ht (by simp [writesC, h])), fr1, s1, x1, hd⟩
      · cases hc
    | region _ _ _ => simp only [compCode, eraseC] at hc; split at hc <;> cases hc
    | cond _ _ _ => simp only [compCode, eraseC] at hc; split at hc <;> cases hc
    | block _ _ => simp only [compCode, eraseC] at hc; split at hc <;> cases hc
    | loop _ => simp only [compCode, eraseC] at hc; split at hc <;> cases hc
    | _ => cases hc
  | cond x mod tmp y z ihy ihz =>
    intro c K e h r a w μ hc hok hk fr s
    simp only [okC, Bool.and_eq_true] at hok
    obtain ⟨⟨⟨hs1, hs2⟩, ho1⟩, ho2⟩ := hok
    cases c with
    | cond x' c1 c2 =>
      simp only [compCode, eraseC] at hc
      split at hc
      · rename_i f1 f2 hx h1 h2
        cases hc
        simp only [codeK, JL, ifK] at hk
        have hvx := fr.op x hx
        split at hk
        · rename_i t ht
          rw [ht] at hvx
          generalize hy : a.eval x = y' at hvx
          cases hvx
          refine wpIn_cond hy ?_
          cases t with
          | true =>
            rw [if_pos rfl] at hk
            refine wpIn_mono (ihy c1 _ e h r a w μ h1 ho1 hk fr s) ?_
            rintro x1 a1 w1 ⟨o, e1, h1', μ1, rfl, hK, hag, fr1, s1, x1, hd⟩
            have hag' : ∀ t, t ∉ mod ++ tmp → e1 t = e t := fun t ht => hag t (fun h => ht (subB_spec hs1 t h))
            cases o with
            | normal => exact ⟨.normal, _, h1', μ1, rfl, hK, fun t ht => join_same ht, fr1.weak (join_weaker hag'), s1, x1, hd⟩
            | exit i => exact ⟨.exit i, e1, h1', μ1, rfl, hK, hag', fr1, s1, x1, hd⟩
            | ret => exact ⟨.ret, e1, h1', μ1, rfl, hK, hag', fr1, s1, x1, hd⟩
          | false =>
            rw [if_neg (by simp)] at hk
            refine wpIn_mono (ihz c2 _ e h r a w μ h2 ho2 hk fr s) ?_
            rintro x1 a1 w1 ⟨o, e1, h1', μ1, rfl, hK, hag, fr1, s1, x1, hd⟩
            have hag' : ∀ t, t ∉ mod ++ tmp → e1 t = e t := fun t ht => hag t (fun h => ht (subB_spec hs2 t h))
            cases o with
            | normal => exact ⟨.normal, _, h1', μ1, rfl, hK, fun t ht => join_same ht, fr1.weak (join_weaker hag'), s1, x1, hd⟩
            | exit i => exact ⟨.exit i, e1, h1', μ1, rfl, hK, hag', fr1, s1, x1, hd⟩
            | ret => exact ⟨.ret, e1, h1', μ1, rfl, hK, hag', fr1, s1, x1, hd⟩
        · cases hk
      · cases hc
    | region _ _ _ => simp only [compCode, eraseC] at hc; split at hc <;> cases hc
    | seq _ _ => simp only [compCode, eraseC] at hc; split at hc <;> cases hc
    | block _ _ => simp only [compCode, eraseC] at hc; split at hc <;> cases hc
    | loop _ => simp only [compCode, eraseC] at hc; split at hc <;> cases hc
    | _ => cases hc
  | block id mod tmp y ihy =>
    intro c K e h r a w μ hc hok hk fr s
    simp only [okC, Bool.and_eq_true] at hok
    cases c with
    | block id' c1 =>
      simp only [compCode, eraseC] at hc
      split at hc
      · rename_i f1 h1
        cases hc
        simp only [codeK, JL] at hk
        refine wpIn_block (wpIn_mono (ihy c1 _ e h r a w μ h1 hok.2 hk fr s) ?_)
        rintro x1 a1 w1 ⟨o, e1, h1', μ1, rfl, hK, hag, fr1, s1, x1, hd⟩
        have hag' : ∀ t, t ∉ mod ++ tmp → e1 t = e t := fun t ht => hag t (fun h => ht (subB_spec hok.1 t h))
        cases o with
        | normal => exact ⟨.normal, _, h1', μ1, rfl, hK, fun t ht => join_same ht, fr1.weak (join_weaker hag'), s1, x1, hd⟩
        | exit i =>
          simp only [exitOf, Exit.inBlock]
          split
          · rename_i hi
            subst hi
            have : Nat.beq i i = true := Nat.beq_refl i
            simp only [this, cond_true] at hK
            exact ⟨.normal, _, h1', μ1, rfl, hK, fun t ht => join_same ht, fr1.weak (join_weaker hag'), s1, x1, hd⟩
          · rename_i hi
            have : Nat.beq i id = false := by
              cases hb : Nat.beq i id with
              | false => rfl
              | true => exact absurd (Nat.eq_of_beq_eq_true hb) hi
            simp only [this, cond_false] at hK
            exact ⟨.exit i, e1, h1', μ1, rfl, hK, hag', fr1, s1, x1, hd⟩
        | ret => exact ⟨.ret, e1, h1', μ1, rfl, hK, hag', fr1, s1, x1, hd⟩
      · cases hc
    | region _ _ _ => simp only [compCode, eraseC] at hc; split at hc <;> cases hc
    | seq _ _ => simp only [compCode, eraseC] at hc; split at hc <;> cases hc
    | cond _ _ _ => simp only [compCode, eraseC] at hc; split at hc <;> cases hc
    | loop _ => simp only [compCode, eraseC] at hc; split at hc <;> cases hc
    | _ => cases hc
  | loop mod tmp y ihy =>
    intro c K e h r a w μ hc hok hk fr s
    simp only [okC, Bool.and_eq_true] at hok
    cases c with
    | loop c1 =>
      simp only [compCode, eraseC] at hc
      split at hc
      · rename_i f1 h1
        cases hc
        simp only [codeK] at hk
        generalize hB : (fun (cont : List Value → AHeap → Option R) (vs : List Value) (h : AHeap) => codeK Γ fuel y (fun o e h => match o with | .normal => cont (getMany e mod) h | .exit i => K (.exit i) e h | .ret => K .ret e h) (setMany (junkAll e tmp) mod vs) h) = B at hk
        let LI : Nat → Act → World → Prop := fun k a1 w1 => ∃ vs h1 μ1, loopN B k vs h1 = some r ∧ FR μ1 (setMany (junkAll e tmp) mod vs) a1 N ∧ Sim P μ1 h1 w1 ∧ Ext μ h w μ1 h1 w1 ∧ a1.defers = a.defers
        refine wpIn_loop (fun a1 w1 => ∃ k, LI k a1 w1) (fun a1 w1 => leastN fun k => LI k a1 w1) ⟨fuel, getMany e mod, h, μ, hk, fr.weak (join_weaker (fun t _ => rfl)), s, Ext.refl _ _ _ s.dom, rfl⟩ ?_
        rintro a1 w1 ⟨k0, hk0⟩
        obtain ⟨hl, _⟩ := leastN_spec (p := fun k => LI k a1 w1) hk0
        generalize leastN (fun k => LI k a1 w1) = k at hl ⊢
        obtain ⟨vs, h1', μ1, hloop, fr1, s1, x1, hd1⟩ := hl
        cases k with
        | zero => cases hloop
        | succ k =>
          simp only [loopN] at hloop
          rw [← hB] at hloop
          simp only at hloop
          rw [hB] at hloop
          refine wpIn_mono (ihy c1 _ _ h1' r a1 w1 μ1 h1 hok.2 hloop fr1 s1) ?_
          rintro x2 a2 w2 ⟨o, e2, h2', μ2, rfl, hK, hag, fr2, s2, x2, hd2⟩
          have hag' : ∀ t, t ∉ mod ++ tmp → e2 t = e t := fun t ht => (hag t (fun h => ht (subB_spec hok.1 t h))).trans (join_same ht)
          have hxx := x1.trans x2 s.dom
          cases o with
          | normal =>
            have hLI : LI k a2 w2 := ⟨getMany e2 mod, h2', μ2, hK, fr2.weak (join_weaker hag'), s2, hxx, hd2.trans hd1⟩
            exact ⟨⟨k, hLI⟩, Nat.lt_succ_of_le (leastN_spec (p := fun k => LI k a2 w2) hLI).2⟩
          | exit i => exact ⟨.exit i, e2, h2', μ2, rfl, hK, hag', fr2, s2, hxx, hd2.trans hd1⟩
          | ret => exact ⟨.ret, e2, h2', μ2, rfl, hK, hag', fr2, s2, hxx, hd2.trans hd1⟩
      · cases hc
    | region _ _ _ => simp only [compCode, eraseC] at hc; split at hc <;> cases hc
    | seq _ _ => simp only [compCode, eraseC] at hc; split at hc <;> cases hc
    | cond _ _ _ => simp only [compCode, eraseC] at hc; split at hc <;> cases hc
    | block _ _ => simp only [compCode, eraseC] at hc; split at hc <;> cases hc
    | _ => cases hc
  | exit i =>
    intro c K e h r a w μ hc hok hk fr s
    cases c with
    | exit j => cases hc; exact wpIn_exit ⟨.exit i, e, h, μ, rfl, hk, fun _ _ => rfl, fr, s, Ext.refl _ _ _ s.dom, rfl⟩
    | region _ _ _ => simp only [compCode, eraseC] at hc; split at hc <;> cases hc
    | seq _ _ => simp only [compCode, eraseC] at hc; split at hc <;> cases hc
    | cond _ _ _ => simp only [compCode, eraseC] at hc; split at hc <;> cases hc
    | block _ _ => simp only [compCode, eraseC] at hc; split at hc <;> cases hc
    | loop _ => simp only [compCode, eraseC] at hc; split at hc <;> cases hc
    | _ => cases hc
  | ret =>
    intro c K e h r a w μ hc hok hk fr s
    cases c with
    | ret => exact wpIn_ret ⟨.ret, e, h, μ, rfl, hk, fun _ _ => rfl, fr, s, Ext.refl _ _ _ s.dom, rfl⟩
    | region _ _ _ => simp only [compCode, eraseC] at hc; split at hc <;> cases hc
    | seq _ _ => simp only [compCode, eraseC] at hc; split at hc <;> cases hc
    | cond _ _ _ => simp only [compCode, eraseC] at hc; split at hc <;> cases hc
    | block _ _ => simp only [compCode, eraseC] at hc; split at hc <;> cases hc
    | loop _ => simp only [compCode, eraseC] at hc; split at hc <;> cases hc
    | _ => cases hc

end Go.Am
