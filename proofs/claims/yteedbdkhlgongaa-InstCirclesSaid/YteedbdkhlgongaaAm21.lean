/- Code. -/
import Derived.Test.YteedbdkhlgongaaAm20
set_option linter.unusedSimpArgs false
set_option linter.unusedVariables false
namespace Go.Am
variable {P : Program}

theorem subB_spec {a b : List Nat} (h : subB a b = true) : ∀ i ∈ a, i ∈ b := fun i hi => contains_mem (List.all_eq_true.1 h i hi)

theorem setMany_get {e e1 : Env} : ∀ {l : List Nat} {t : Nat}, setMany e l (getMany e1 l) t = if t ∈ l then e1 t else e t
  | [], t => by simp [getMany, setMany]
  | i :: l, t => by
    simp only [getMany, setMany]
    by_cases h : i = t
    · subst h; rw [upd_self]; simp
    · rw [upd_ne _ _ h]
      show setMany e l (getMany e1 l) t = _
      rw [setMany_get]
      have : t ≠ i := Ne.symm h
      simp [this]
/-- Where ways meet: the slots that are told, the ones that are forgotten, and the rest. -/
theorem join_weaker {e e1 : Env} {mod tmp : List Nat} (h : ∀ t, t ∉ mod ++ tmp → e1 t = e t) : Weaker (setMany (junkAll e tmp) mod (getMany e1 mod)) e1 := by
  intro t
  rw [setMany_get]
  split
  · left; rfl
  · rename_i hm
    by_cases ht : t ∈ tmp
    · right; exact junkAll_mem ht
    · left; rw [junkAll_not ht]; exact (h t (by simp [hm, ht])).symm
theorem join_same {e : Env} {mod tmp : List Nat} {vs : List Value} {t : Nat} (h : t ∉ mod ++ tmp) : setMany (junkAll e tmp) mod vs t = e t := by
  simp only [List.mem_append, not_or] at h
  have : ∀ (l : List Nat) (vs : List Value) (e : Env), t ∉ l → setMany e l vs t = e t := by
    intro l
    induction l with
    | nil => intros; simp [setMany]
    | cons i l ih =>
      intro vs e hn
      simp only [List.mem_cons, not_or] at hn
      simp only [setMany]; rw [upd_ne _ _ (Ne.symm hn.1)]; exact ih _ e hn.2
  rw [this mod vs _ h.1, junkAll_not h.2]

def exitOf : AExit → Exit
  | .normal => .normal
  | .exit i => .exit i
  | .ret => .ret
variable {μ : Ren} {w : World}
/-! Marks -/
/-- The deferred calls are what they were, and marks of ranges over functions, whose blocks nobody else names. -/
def DefersOk (lo : Nat) (μ : Ren) (h : AHeap) (w : World) (d0 d : List Deferred) : Prop :=
  ∃ rs : List Nat, d = rs.map (fun r => { target := .collected r, args := #[] }) ++ d0 ∧ rs.Nodup ∧ ∀ r ∈ rs, lo ≤ r ∧ w.heap[r]? = some (.deferred (some [])) ∧ ∀ b l, live h b → μ b = some l → l.blk ≠ r
theorem DefersOk.rfl {lo : Nat} {h : AHeap} {d : List Deferred} : DefersOk lo μ h w d d := ⟨[], by simp, by simp, fun r hr => by cases hr⟩
theorem mark_ext {μ' : Ren} {h h' : AHeap} {w' : World} (x : Ext μ h w μ' h' w') {r : Nat} (h1 : w.heap[r]? = some (.deferred (some []))) (h2 : ∀ b l, live h b → μ b = some l → l.blk ≠ r) :
    w'.heap[r]? = some (.deferred (some [])) ∧ ∀ b l, live h' b → μ' b = some l → l.blk ≠ r := by
  have hr : r < w.heap.size := (Array.getElem?_eq_some_iff.1 h1).1
  refine ⟨by rw [x.frame r hr h2]; exact h1, fun b l hb e => ?_⟩
  by_cases hlt : b < h.length
  · have hl : live h b := Classical.byContradiction fun hn => x.dead b hlt hn hb
    exact h2 b l hl ((x.old b hlt).symm.trans e)
  · rcases x.new b l (by omega) e with h3 | ⟨b0, l0, hl0, _, e0, e1, _⟩
    · omega
    · rw [← e1]; exact h2 b0 l0 hl0 e0
theorem DefersOk.trans {lo : Nat} {μ' : Ren} {h h' : AHeap} {w' : World} {d0 d1 d2 : List Deferred} (a : DefersOk lo μ h w d0 d1) (x : Ext μ h w μ' h' w') (b : DefersOk w.heap.size μ' h' w' d1 d2) (hlo : lo ≤ w.heap.size) : DefersOk lo μ' h' w' d0 d2 := by
  obtain ⟨rs1, e1, n1, k1⟩ := a
  obtain ⟨rs2, e2, n2, k2⟩ := b
  refine ⟨rs2 ++ rs1, by rw [e2, e1]; simp, ?_, fun r hr => ?_⟩
  · refine List.nodup_append.2 ⟨n2, n1, fun r hr r' hr' hne => ?_⟩
    subst hne
    have := (k2 r hr).1
    have h3 := (Array.getElem?_eq_some_iff.1 (k1 r hr').2.1).1
    omega
  · rcases List.mem_append.1 hr with hr | hr
    · exact ⟨by have := (k2 r hr).1; omega, (k2 r hr).2⟩
    · exact ⟨(k1 r hr).1, mark_ext x (k1 r hr).2.1 (k1 r hr).2.2⟩
/-- How a piece of code ends. -/
def CPost {R : Type} (P : Program) (K : AExit → Env → AHeap → Option R) (r : R) (wr : List Nat) (e : Env) (μ : Ren) (h : AHeap) (w : World) (a : Act) (N : Nat) : Exit → Act → World → Prop :=
  fun x a' w' => ∃ o e' h' μ', exitOf o = x ∧ K o e' h' = some r ∧ (∀ t, t ∉ wr → e' t = e t) ∧ FR μ' e' a' N ∧ Sim P μ' h' w' ∧ Ext μ h w μ' h' w' ∧ DefersOk w.heap.size μ' h' w' a.defers a'.defers

noncomputable def leastN (p : Nat → Prop) : Nat := open Classical in if H : ∃ n, p n then Classical.choose (show ∃ n, p n ∧ ∀ k, k < n → ¬ p k by
  obtain ⟨m, hm⟩ := H
  obtain ⟨q, _, _, h3, h4⟩ := least_from p m 0 m (by omega) hm
  exact ⟨q, h3, fun k hk => h4 k (Nat.zero_le _) hk⟩) else 0
theorem leastN_spec {p : Nat → Prop} {m : Nat} (h : p m) : p (leastN p) ∧ leastN p ≤ m := by
  have H : ∃ n, p n := ⟨m, h⟩
  unfold leastN
  rw [dif_pos H]
  generalize hc : Classical.choose _ = c
  have hs := Classical.choose_spec (show ∃ n, p n ∧ ∀ k, k < n → ¬ p k by
    obtain ⟨m, hm⟩ := H
    obtain ⟨q, _, _, h3, h4⟩ := least_from p m 0 m (by omega) hm
    exact ⟨q, h3, fun k hk => h4 k (Nat.zero_le _) hk⟩)
  rw [hc] at hs
  refine ⟨hs.1, ?_⟩
  apply Classical.byContradiction
  intro hn
  exact hs.2 m (by omega) h

theorem endLoop_some {h : AHeap} {b : Nat} {o : Option AExit} (ho : pendOf b h = some o) : ∃ vals lv2 ps2 ab2 bb2 st, h[b]? = some (.loop vals lv2 ps2 ab2 bb2 st o) ∧ st ≠ .busy := by
  unfold pendOf at ho
  split at ho
  · cases ho; exact ⟨_, _, _, _, _, _, by assumption, by simp⟩
  · cases ho; exact ⟨_, _, _, _, _, _, by assumption, by simp⟩
  · cases ho
theorem callFf_some {Γ : Callee} {f : Value} {args : List Value} {h : AHeap} {r : Value × AHeap} (hp : callFf Γ f args h = some r) : ∃ g xs ys, f = .func (.func g) xs ys ∧ Nat.blt g yieldId = true ∧ Γ g (xs.toList ++ args ++ ys.toList) h = some r := by
  unfold callFf at hp
  split at hp
  · rename_i g xs ys
    cases hblt : Nat.blt g yieldId with
    | false => rw [hblt] at hp; cases hp
    | true => rw [hblt] at hp; exact ⟨g, xs, ys, rfl, hblt, hp⟩
  · cases hp
/-- Behind the call of a range over a function. -/
theorem range_end {R : Type} {F : Fence} {n N : Nat} {lv ps : List Nat} {ab bb : ACode} {g : Operand} {K : AExit → Env → AHeap → Option R} {e : Env} {h h2 : AHeap} {r : R} {a : Act} {w2 w3 : World} {μ3 : Ren} {v : Value} {o : Option AExit} {blk : ABlk}
    (s : Sim P μ h w) (x1 : Ext μ h w μ h (w.alloc (.deferred (some [])))) (x2 : Ext μ h (w.alloc (.deferred (some []))) (grow μ h.length (w.heap.size + 1) 0) (h ++ [blk]) w2) (x3 : Ext (grow μ h.length (w.heap.size + 1) 0) (h ++ [blk]) w2 μ3 h2 w3)
    (hd1 : ∀ b l, μ b = some l → b < h.length) (hd2 : ∀ b l, grow μ h.length (w.heap.size + 1) 0 b = some l → b < (h ++ [blk]).length) (s3 : Sim P μ3 h2 w3)
    (hk : (match o with | none => K .normal e (h2.set h.length .dead) | some x => K x e (h2.set h.length .dead)) = some r) (ho : pendOf h.length h2 = some o) (fr : FR μ e a N) :
    rangePost F n P (w.heap.size + 1) (CPost P K r (writesC (.rangeF g lv ps ab bb)) e μ h w a N) { a with defers := [{ target := .collected w.heap.size, args := #[] }] ++ a.defers } (.returned v) w3 := by
  have hmu : μ3 h.length = some ⟨w.heap.size + 1, 0⟩ := (x3.old h.length (by simp)).trans (grow_new _ _ _)
  obtain ⟨vals, lv2, ps2, ab2, bb2, st, hblk, hst⟩ := endLoop_some ho
  obtain ⟨o3, ho3, r3, rfl, hs3, hp3, _⟩ := s3.rel _ _ _ hmu hblk (by simp)
  have hroB : ¬ isRo h2 h.length := by rintro ⟨vs, t', e2⟩; rw [hblk] at e2; cases e2
  obtain ⟨s4, x4⟩ := s3.killBlk (o' := .loop { r3 with state := .exhausted }) hmu hblk (by simp) hroB
  have hxx : Ext μ h w μ3 (h2.set h.length .dead) (w3.putObj (w.heap.size + 1) (.loop { r3 with state := .exhausted })) := x1.trans (x2.trans (x3.trans x4 hd2) hd1) hd1
  have hmk0 : (w.alloc (.deferred (some []))).heap[w.heap.size]? = some (.deferred (some [])) := getElem?_alloc_new w _
  have hmk1 := mark_ext x2 hmk0 (fun b l _ e2 => by have := s.lt b l e2; omega)
  have hmk2 := mark_ext x3 hmk1.1 hmk1.2
  have hmk3 := mark_ext x4 hmk2.1 hmk2.2
  have hdef : DefersOk w.heap.size μ3 (h2.set h.length .dead) (w3.putObj (w.heap.size + 1) (.loop { r3 with state := .exhausted })) a.defers ([{ target := .collected w.heap.size, args := #[] }] ++ a.defers) :=
    ⟨[w.heap.size], rfl, by simp, fun r hr => by rw [List.mem_singleton] at hr; subst hr; exact ⟨Nat.le_refl _, hmk3⟩⟩
  have hfr : FR μ3 e { a with defers := [{ target := .collected w.heap.size, args := #[] }] ++ a.defers } N := ⟨fr.size, fun i => (fr.rel i).mono (hxx.renLe s.dom)⟩
  have hrun := run_endLoop (P := P) ho3 (by rw [hs3]; cases st <;> first | exact absurd rfl hst | simp [lstOf])
  generalize w3.putObj (w.heap.size + 1) (.loop { r3 with state := .exhausted }) = W4 at hrun s4 hxx hdef
  refine ⟨r3.pending, W4, hrun, ?_⟩
  rw [hp3]
  cases o with
  | none => exact ⟨.normal, e, _, μ3, rfl, hk, fun _ _ => rfl, hfr, s4, hxx, hdef⟩
  | some x =>
    have hq : ∀ x' : AExit, K x' e (h2.set h.length .dead) = some r → CPost P K r (writesC (.rangeF g lv ps ab bb)) e μ h w a N (exitOf x') { a with defers := [{ target := .collected w.heap.size, args := #[] }] ++ a.defers } W4 :=
      fun x' hk' => ⟨x', e, _, μ3, rfl, hk', fun _ _ => rfl, hfr, s4, hxx, hdef⟩
    cases x with
    | normal => exact wpIn_skip (hq .normal hk)
    | exit i => exact wpIn_exit (hq (.exit i) hk)
    | ret => exact wpIn_ret (hq .ret hk)
theorem range_sound {R : Type} {F : Fence} {n N fuel : Nat} {Γ : Callee} (hF : WideF F) (hΓ : CallOk P Γ) {g : Operand} {lv : List Nat} {ps' : Array Tmp} {ab bb : ACode} {as bd : Code} {K : AExit → Env → AHeap → Option R} {e : Env} {h : AHeap} {r : R} {a : Act}
    (c1 : (ps'.toList.all fun p => decide (p < N)) = true) (c2 : ps'.toList.Nodup) (h1 : CodeOk P N ab as) (h2 : CodeOk P N bb bd) (hx : okX g = true) (hro : F.round = none)
    (hk : codeK Γ fuel (.rangeF g lv ps'.toList ab bb) K e h = some r) (fr : FR μ e a N) (s : Sim P μ h w) :
    (Code.rangeFunc g ps' as bd).wpIn F n P (CPost P K r (writesC (.rangeF g lv ps'.toList ab bb)) e μ h w a N) a w := by
  simp only [codeK, Option.bind_eq_some_iff] at hk
  obtain ⟨⟨v, h2'⟩, hp, o, ho, hk⟩ := hk
  simp only at ho hk
  obtain ⟨f, xs, ys, hf, hblt, hp⟩ := callFf_some hp
  have hvx := fr.op g hx
  rw [hf] at hvx
  generalize hy : a.eval g = y at hvx
  cases hvx with
  | @func _ _ _ xs' ys' q1 q2 =>
    obtain ⟨hcf, hcall⟩ := hΓ.fn f hblt _ _ _ _ hp
    refine wpIn_rangeFunc (fun fn hfn => ?_)
    rw [hro]
    obtain ⟨s1, x1⟩ := s.spare (.deferred (some []))
    have hsz1 : (w.alloc (.deferred (some []))).heap.size = w.heap.size + 1 := size_alloc' _ _
    have hrel : ∀ i, VR (grow μ h.length (w.alloc (.deferred (some []))).heap.size 0) (setMany (fun _ => junk) lv (getMany e lv) i) (a.tmps.getD i undef) := fun i => by
      rw [setMany_get]
      split
      · exact (fr.rel i).mono (grow_le s1 _ _)
      · exact .junk _
    obtain ⟨s2, x2⟩ := s1.alloc (w0 := w.alloc (.deferred (some []))) rfl Out.rfl (K := 0) (blk := .loop (getMany e lv) lv ps'.toList ab bb .ready none)
      (o := .loop { state := .ready, pending := none, fn := fn, tmps := a.tmps, params := ps', assign := as, body := bd, defers := w.heap.size })
      ⟨_, rfl, rfl, rfl, rfl, by rw [fr.size]; exact c1, c2, by rw [fr.size]; exact h1, by rw [fr.size]; exact h2, hrel⟩
    rw [hsz1] at s2 x2
    have hle : RenLe μ (grow μ h.length (w.heap.size + 1) 0) := grow_le s1 _ _
    have hargs : VRL (grow μ h.length (w.heap.size + 1) 0) (xs.toList ++ [Value.func (.yield h.length) ⟨[]⟩ ⟨[]⟩] ++ ys.toList) (xs'.toList ++ [Value.func (.yield (w.heap.size + 1)) ⟨[]⟩ ⟨[]⟩] ++ ys'.toList) :=
      ((q1.mono hle).append (.cons (.yield (grow_new _ _ _)) .nil)).append (q2.mono hle)
    refine ⟨w.heap.size + 1, _, _, _, _, f, (xs'.toList ++ [Value.func (.yield (w.heap.size + 1)) ⟨[]⟩ ⟨[]⟩] ++ ys'.toList).toArray, _, run_enterLoop_outer _ _ _ _ _, resolve_value rfl hy, fun f' _ => hF.1 f', ?_, fun hd => (by rw [hF.2] at hd; cases hd),
      (hcall _ _ _ s2 hargs F (n - 1) hF).mono ?_⟩
    · have hm : xs' ++ (rangeCall g (w.heap.size + 1)).args.map a.eval ++ ys' = (xs'.toList ++ [Value.func (.yield (w.heap.size + 1)) ⟨[]⟩ ⟨[]⟩] ++ ys'.toList).toArray := Array.ext' (by simp [rangeCall, Act.eval])
      simp only [invoke, hm]
      exact hcf _ _
    · rintro e' w3 ⟨v', μ3, rfl, hv, s3, x3⟩
      exact range_end s x1 x2 x3 s1.dom s2.dom s3 hk ho fr
theorem code_sound {R : Type} {F : Fence} {n N fuel : Nat} {Γ : Callee} (hF : WideF F) (hmix : P.follows .mixedOrders = true) (hΓ : CallOk P Γ) :
    ∀ (ac : ACode) (c : Code) (K : AExit → Env → AHeap → Option R) (e : Env) (h : AHeap) (r : R) (a : Act) (w : World) (μ : Ren), compCode P N c = some (eraseC ac) → okC ac = true → (F.round = none ∨ noRange (eraseC ac) = true) → codeK Γ fuel ac K e h = some r →
      FR μ e a N → Sim P μ h w → c.wpIn F n P (CPost P K r (writesC ac) e μ h w a N) a w := by
  intro ac
  induction ac with
  | skip =>
    intro c K e h r a w μ hc hok hR hk fr s
    have hpost : CPost P K r (writesC .skip) e μ h w a N .normal a w := ⟨.normal, e, h, μ, rfl, hk, fun _ _ => rfl, fr, s, Ext.refl _ _ _ s.dom, DefersOk.rfl⟩
    cases c with
    | skip => exact wpIn_skip hpost
    | label l => exact wpIn_label hpost
    | region _ _ _ => simp only [compCode, eraseC] at hc; split at hc <;> cases hc
    | seq _ _ => simp only [compCode, eraseC] at hc; split at hc <;> cases hc
    | cond _ _ _ => simp only [compCode, eraseC] at hc; split at hc <;> cases hc
    | block _ _ => simp only [compCode, eraseC] at hc; split at hc <;> cases hc
    | loop _ => simp only [compCode, eraseC] at hc; split at hc <;> cases hc
    | rangeFunc _ _ _ _ => simp only [compCode, eraseC] at hc; split at hc <;> first | cases hc | (split at hc <;> cases hc)
    | _ => cases hc
  | region draw st =>
    intro c K e h r a w μ hc hok hR hk fr s
    cases c with
    | region id ops draw' =>
      simp only [compCode, eraseC] at hc
      split at hc
      · rename_i fl hfl
        cases hc
        obtain ⟨e2, h2, ht, hK, hw⟩ := steps_tr st [] none none _ e h r hok (fun c b hg => by cases hg) hk
        exact region_sound hF hmix hΓ hfl ht fr s (fun a' w' μ' h3 h4 h5 h6 => ⟨.normal, e2, h2, μ', rfl, hK, hw, h3, h4, h5, by rw [h6]; exact DefersOk.rfl⟩)
      · cases hc
    | seq _ _ => simp only [compCode, eraseC] at hc; split at hc <;> cases hc
    | cond _ _ _ => simp only [compCode, eraseC] at hc; split at hc <;> cases hc
    | block _ _ => simp only [compCode, eraseC] at hc; split at hc <;> cases hc
    | loop _ => simp only [compCode, eraseC] at hc; split at hc <;> cases hc
    | rangeFunc _ _ _ _ => simp only [compCode, eraseC] at hc; split at hc <;> first | cases hc | (split at hc <;> cases hc)
    | _ => cases hc
  | seq x y ihx ihy =>
    intro c K e h r a w μ hc hok hR hk fr s
    simp only [okC, Bool.and_eq_true] at hok
    cases c with
    | seq c1 c2 =>
      simp only [compCode, eraseC] at hc
      split at hc
      · rename_i f1 f2 h1 h2
        cases hc
        refine wpIn_seq (wpIn_mono (ihx c1 _ e h r a w μ h1 hok.1 (hR.imp (fun h => h) fun h => by simp only [noRange, eraseC, Bool.and_eq_true] at h; exact h.1) hk fr s) ?_)
        rintro x1 a1 w1 ⟨o, e1, h1', μ1, rfl, hK, hag, fr1, s1, x1, hd⟩
        cases o with
        | normal =>
          refine wpIn_mono (ihy c2 K e1 h1' r a1 w1 μ1 h2 hok.2 (hR.imp (fun h => h) fun h => by simp only [noRange, eraseC, Bool.and_eq_true] at h; exact h.2) hK fr1 s1) ?_
          rintro x2 a2 w2 ⟨o2, e2, h2', μ2, rfl, hK2, hag2, fr2, s2, x2, hd2⟩
          exact ⟨o2, e2, h2', μ2, rfl, hK2, fun t ht => by
            simp only [writesC, List.mem_append, not_or] at ht
            rw [hag2 t ht.2, hag t ht.1], fr2, s2, x1.trans x2 s.dom, hd.trans x2 hd2 x1.size⟩
        | exit i => exact ⟨.exit i, e1, h1', μ1, rfl, hK, fun t ht => hag t (fun h => ht (by simp [writesC, h])), fr1, s1, x1, hd⟩
        | ret => exact ⟨.ret, e1, h1', μ1, rfl, hK, fun t ht => hag t (fun h => ht (by simp [writesC, h])), fr1, s1, x1, hd⟩
      · cases hc
    | region _ _ _ => simp only [compCode, eraseC] at hc; split at hc <;> cases hc
    | cond _ _ _ => simp only [compCode, eraseC] at hc; split at hc <;> cases hc
    | block _ _ => simp only [compCode, eraseC] at hc; split at hc <;> cases hc
    | loop _ => simp only [compCode, eraseC] at hc; split at hc <;> cases hc
    | rangeFunc _ _ _ _ => simp only [compCode, eraseC] at hc; split at hc <;> first | cases hc | (split at hc <;> cases hc)
    | _ => cases hc
  | cond x mod tmp y z ihy ihz =>
    intro c K e h r a w μ hc hok hR hk fr s
    simp only [okC, Bool.and_eq_true] at hok
    obtain ⟨⟨⟨hs1, hs2⟩, ho1⟩, ho2⟩ := hok
    cases c with
    | cond x' c1 c2 =>
      simp only [compCode, eraseC] at hc
      split at hc
      · rename_i f1 f2 hx h1 h2
        cases hc
        simp only [codeK, JL, ifK] at hk
        have hvx := fr.op x hx
        split at hk
        · rename_i t ht
          rw [ht] at hvx
          generalize hy : a.eval x = y' at hvx
          cases hvx
          refine wpIn_cond hy ?_
          cases t with
          | true =>
            rw [if_pos rfl] at hk
            refine wpIn_mono (ihy c1 _ e h r a w μ h1 ho1 (hR.imp (fun h => h) fun h => by simp only [noRange, eraseC, Bool.and_eq_true] at h; exact h.1) hk fr s) ?_
            rintro x1 a1 w1 ⟨o, e1, h1', μ1, rfl, hK, hag, fr1, s1, x1, hd⟩
            have hag' : ∀ t, t ∉ mod ++ tmp → e1 t = e t := fun t ht => hag t (fun h => ht (subB_spec hs1 t h))
            cases o with
            | normal => exact ⟨.normal, _, h1', μ1, rfl, hK, fun t ht => join_same ht, fr1.weak (join_weaker hag'), s1, x1, hd⟩
            | exit i => exact ⟨.exit i, e1, h1', μ1, rfl, hK, hag', fr1, s1, x1, hd⟩
            | ret => exact ⟨.ret, e1, h1', μ1, rfl, hK, hag', fr1, s1, x1, hd⟩
          | false =>
            rw [if_neg (by simp)] at hk
            refine wpIn_mono (ihz c2 _ e h r a w μ h2 ho2 (hR.imp (fun h => h) fun h => by simp only [noRange, eraseC, Bool.and_eq_true] at h; exact h.2) hk fr s) ?_
            rintro x1 a1 w1 ⟨o, e1, h1', μ1, rfl, hK, hag, fr1, s1, x1, hd⟩
            have hag' : ∀ t, t ∉ mod ++ tmp → e1 t = e t := fun t ht => hag t (fun h => ht (subB_spec hs2 t h))
            cases o with
            | normal => exact ⟨.normal, _, h1', μ1, rfl, hK, fun t ht => join_same ht, fr1.weak (join_weaker hag'), s1, x1, hd⟩
            | exit i => exact ⟨.exit i, e1, h1', μ1, rfl, hK, hag', fr1, s1, x1, hd⟩
            | ret => exact ⟨.ret, e1, h1', μ1, rfl, hK, hag', fr1, s1, x1, hd⟩
        · cases hk
      · cases hc
    | region _ _ _ => simp only [compCode, eraseC] at hc; split at hc <;> cases hc
    | seq _ _ => simp only [compCode, eraseC] at hc; split at hc <;> cases hc
    | block _ _ => simp only [compCode, eraseC] at hc; split at hc <;> cases hc
    | loop _ => simp only [compCode, eraseC] at hc; split at hc <;> cases hc
    | rangeFunc _ _ _ _ => simp only [compCode, eraseC] at hc; split at hc <;> first | cases hc | (split at hc <;> cases hc)
    | _ => cases hc
  | block id mod tmp y ihy =>
    intro c K e h r a w μ hc hok hR hk fr s
    simp only [okC, Bool.and_eq_true] at hok
    cases c with
    | block id' c1 =>
      simp only [compCode, eraseC] at hc
      split at hc
      · rename_i f1 h1
        cases hc
        simp only [codeK, JL] at hk
        refine wpIn_block (wpIn_mono (ihy c1 _ e h r a w μ h1 hok.2 (hR.imp (fun h => h) fun h => h) hk fr s) ?_)
        rintro x1 a1 w1 ⟨o, e1, h1', μ1, rfl, hK, hag, fr1, s1, x1, hd⟩
        have hag' : ∀ t, t ∉ mod ++ tmp → e1 t = e t := fun t ht => hag t (fun h => ht (subB_spec hok.1 t h))
        cases o with
        | normal => exact ⟨.normal, _, h1', μ1, rfl, hK, fun t ht => join_same ht, fr1.weak (join_weaker hag'), s1, x1, hd⟩
        | exit i =>
          simp only [exitOf, Exit.inBlock]
          split
          · rename_i hi
            subst hi
            have : Nat.beq i i = true := Nat.beq_refl i
            simp only [this, cond_true] at hK
            exact ⟨.normal, _, h1', μ1, rfl, hK, fun t ht => join_same ht, fr1.weak (join_weaker hag'), s1, x1, hd⟩
          · rename_i hi
            have : Nat.beq i id = false := by
              cases hb : Nat.beq i id with
              | false => rfl
              | true => exact absurd (Nat.eq_of_beq_eq_true hb) hi
            simp only [this, cond_false] at hK
            exact ⟨.exit i, e1, h1', μ1, rfl, hK, hag', fr1, s1, x1, hd⟩
        | ret => exact ⟨.ret, e1, h1', μ1, rfl, hK, hag', fr1, s1, x1, hd⟩
      · cases hc
    | region _ _ _ => simp only [compCode, eraseC] at hc; split at hc <;> cases hc
    | seq _ _ => simp only [compCode, eraseC] at hc; split at hc <;> cases hc
    | cond _ _ _ => simp only [compCode, eraseC] at hc; split at hc <;> cases hc
    | loop _ => simp only [compCode, eraseC] at hc; split at hc <;> cases hc
    | rangeFunc _ _ _ _ => simp only [compCode, eraseC] at hc; split at hc <;> first | cases hc | (split at hc <;> cases hc)
    | _ => cases hc
  | loop mod tmp y ihy =>
    intro c K e h r a w μ hc hok hR hk fr s
    simp only [okC, Bool.and_eq_true] at hok
    cases c with
    | loop c1 =>
      simp only [compCode, eraseC] at hc
      split at hc
      · rename_i f1 h1
        cases hc
        simp only [codeK] at hk
        generalize hB : (fun (cont : List Value → AHeap → Option R) (vs : List Value) (h : AHeap) => codeK Γ fuel y (fun o e h => match o with | .normal => cont (getMany e mod) h | .exit i => K (.exit i) e h | .ret => K .ret e h) (setMany (junkAll e tmp) mod vs) h) = B at hk
        let LI : Nat → Act → World → Prop := fun k a1 w1 => ∃ vs h1 μ1, loopN B k vs h1 = some r ∧ FR μ1 (setMany (junkAll e tmp) mod vs) a1 N ∧ Sim P μ1 h1 w1 ∧ Ext μ h w μ1 h1 w1 ∧ DefersOk w.heap.size μ1 h1 w1 a.defers a1.defers
        refine wpIn_loop (fun a1 w1 => ∃ k, LI k a1 w1) (fun a1 w1 => leastN fun k => LI k a1 w1) ⟨fuel, getMany e mod, h, μ, hk, fr.weak (join_weaker (fun t _ => rfl)), s, Ext.refl _ _ _ s.dom, DefersOk.rfl⟩ ?_
        rintro a1 w1 ⟨k0, hk0⟩
        obtain ⟨hl, _⟩ := leastN_spec (p := fun k => LI k a1 w1) hk0
        generalize leastN (fun k => LI k a1 w1) = k at hl ⊢
        obtain ⟨vs, h1', μ1, hloop, fr1, s1, x1, hd1⟩ := hl
        cases k with
        | zero => cases hloop
        | succ k =>
          simp only [loopN] at hloop
          rw [← hB] at hloop
          simp only at hloop
          rw [hB] at hloop
          refine wpIn_mono (ihy c1 _ _ h1' r a1 w1 μ1 h1 hok.2 (hR.imp (fun h => h) fun h => h) hloop fr1 s1) ?_
          rintro x2 a2 w2 ⟨o, e2, h2', μ2, rfl, hK, hag, fr2, s2, x2, hd2⟩
          have hag' : ∀ t, t ∉ mod ++ tmp → e2 t = e t := fun t ht => (hag t (fun h => ht (subB_spec hok.1 t h))).trans (join_same ht)
          have hxx := x1.trans x2 s.dom
          cases o with
          | normal =>
            have hLI : LI k a2 w2 := ⟨getMany e2 mod, h2', μ2, hK, fr2.weak (join_weaker hag'), s2, hxx, hd1.trans x2 hd2 x1.size⟩
            exact ⟨⟨k, hLI⟩, Nat.lt_succ_of_le (leastN_spec (p := fun k => LI k a2 w2) hLI).2⟩
          | exit i => exact ⟨.exit i, e2, h2', μ2, rfl, hK, hag', fr2, s2, hxx, hd1.trans x2 hd2 x1.size⟩
          | ret => exact ⟨.ret, e2, h2', μ2, rfl, hK, hag', fr2, s2, hxx, hd1.trans x2 hd2 x1.size⟩
      · cases hc
    | region _ _ _ => simp only [compCode, eraseC] at hc; split at hc <;> cases hc
    | seq _ _ => simp only [compCode, eraseC] at hc; split at hc <;> cases hc
    | cond _ _ _ => simp only [compCode, eraseC] at hc; split at hc <;> cases hc
    | block _ _ => simp only [compCode, eraseC] at hc; split at hc <;> cases hc
    | rangeFunc _ _ _ _ => simp only [compCode, eraseC] at hc; split at hc <;> first | cases hc | (split at hc <;> cases hc)
    | _ => cases hc
  | exit i =>
    intro c K e h r a w μ hc hok hR hk fr s
    cases c with
    | exit j => cases hc; exact wpIn_exit ⟨.exit i, e, h, μ, rfl, hk, fun _ _ => rfl, fr, s, Ext.refl _ _ _ s.dom, DefersOk.rfl⟩
    | region _ _ _ => simp only [compCode, eraseC] at hc; split at hc <;> cases hc
    | seq _ _ => simp only [compCode, eraseC] at hc; split at hc <;> cases hc
    | cond _ _ _ => simp only [compCode, eraseC] at hc; split at hc <;> cases hc
    | block _ _ => simp only [compCode, eraseC] at hc; split at hc <;> cases hc
    | loop _ => simp only [compCode, eraseC] at hc; split at hc <;> cases hc
    | rangeFunc _ _ _ _ => simp only [compCode, eraseC] at hc; split at hc <;> first | cases hc | (split at hc <;> cases hc)
    | _ => cases hc
  | ret =>
    intro c K e h r a w μ hc hok hR hk fr s
    cases c with
    | ret => exact wpIn_ret ⟨.ret, e, h, μ, rfl, hk, fun _ _ => rfl, fr, s, Ext.refl _ _ _ s.dom, DefersOk.rfl⟩
    | region _ _ _ => simp only [compCode, eraseC] at hc; split at hc <;> cases hc
    | seq _ _ => simp only [compCode, eraseC] at hc; split at hc <;> cases hc
    | cond _ _ _ => simp only [compCode, eraseC] at hc; split at hc <;> cases hc
    | block _ _ => simp only [compCode, eraseC] at hc; split at hc <;> cases hc
    | loop _ => simp only [compCode, eraseC] at hc; split at hc <;> cases hc
    | rangeFunc _ _ _ _ => simp only [compCode, eraseC] at hc; split at hc <;> first | cases hc | (split at hc <;> cases hc)
    | _ => cases hc
  | rangeF g lv ps ab bb iha ihb =>
    intro c K e h r a w μ hc hok hR hk fr s
    cases c with
    | rangeFunc g' ps' as bd =>
      simp only [okC, Bool.and_eq_true] at hok
      simp only [compCode, eraseC] at hc
      split at hc
      · rename_i fa fb hx h1 h2
        split at hc
        · rename_i hcond
          cases hc
          exact range_sound hF hΓ hcond.1 hcond.2.1 ⟨h1, hok.1, hcond.2.2.1⟩ ⟨h2, hok.2, hcond.2.2.2⟩ hx (hR.resolve_right (by simp [noRange, eraseC])) hk fr s
        · cases hc
      · cases hc
    | region _ _ _ => simp only [compCode, eraseC] at hc; split at hc <;> cases hc
    | seq _ _ => simp only [compCode, eraseC] at hc; split at hc <;> cases hc
    | cond _ _ _ => simp only [compCode, eraseC] at hc; split at hc <;> cases hc
    | block _ _ => simp only [compCode, eraseC] at hc; split at hc <;> cases hc
    | loop _ => simp only [compCode, eraseC] at hc; split at hc <;> cases hc
    | _ => cases hc

end Go.Am
