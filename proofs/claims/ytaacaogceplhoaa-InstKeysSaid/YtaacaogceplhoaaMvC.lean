/- The machine (MvC): parts of one text. -/
import Derived.Test.YtaacaogceplhoaaMvB
set_option linter.unusedSimpArgs false
set_option linter.unusedVariables false
/- Steps, code, functions, rounds and runs of the value machine are the abstract machine's. -/
namespace Go.Vm
open Go.Am
variable {μ : Ren} {φ : Frz} {hp : PHeap} {ha : AHeap}

section
variable {R Ra : Type} {Q : R → Ra → Prop}
/-- What follows here is followed there. -/
def SR (Q : R → Ra → Prop) (μ : Ren) (φ : Frz) (hp : PHeap) (ha : AHeap) (K : PEnv → PHeap → Option R) (Ka : Env → AHeap → Option Ra) : Prop :=
  ∀ e hp' r ea ha' μ' φ', K e hp' = some r → EnvR μ' φ' e ea → Rel μ' φ' hp' ha' → Ext μ φ hp ha μ' φ' hp' ha' → ∃ ra, Ka ea ha' = some ra ∧ Q r ra
theorem SR.ext {μ' : Ren} {φ' : Frz} {hp' : PHeap} {ha' : AHeap} {K : PEnv → PHeap → Option R} {Ka : Env → AHeap → Option Ra} (h : SR Q μ φ hp ha K Ka) (x : Ext μ φ hp ha μ' φ' hp' ha') : SR Q μ' φ' hp' ha' K Ka :=
  fun e h1 r ea h2 m f hk he s y => h e h1 r ea h2 m f hk he s (x.trans y)
theorem rel_more (s : Rel μ φ hp ha) {ha' : AHeap} (hl : ha.length ≤ ha'.length) (hs : ∀ a, a < ha.length → ha'[a]? = ha[a]?) : Rel μ φ hp ha' where
  dom b k o h := ⟨(s.dom b k o h).1, fun l e => Nat.lt_of_lt_of_le ((s.dom b k o h).2 l e) hl⟩
  rel b blk h1 h2 := by
    rcases s.rel b blk h1 h2 with q | ⟨l, blk', q1, q2, q3⟩
    · exact .inl q
    · exact .inr ⟨l, blk', q1, by rw [hs _ (List.getElem?_eq_some_iff.1 q2).1]; exact q2, q3⟩
  inj := s.inj
  sep := s.sep
  frz a blk h := by
    have := s.frz a blk h
    rw [hs _ (List.getElem?_eq_some_iff.1 this).1]; exact this
  top := s.top
theorem scal1_pr {μ' : Ren} {φ' : Frz} {v : PV} {v' : Value} (h : PR μ φ v v') (hs : scal1 v = true) : PR μ' φ' v v' := by
  cases h <;> first | (cases hs; done) | exact .int _ _ | exact .bool _ | exact .str _
theorem scal1_prl {μ' : Ren} {φ' : Frz} : ∀ {l : List PV} {l' : List Value}, PRL μ φ l l' → l.all scal1 = true → PRL μ' φ' l l'
  | [], _, h, _ => by cases h; exact .nil
  | x :: l, _, h, hs => by
    rw [List.all_cons, Bool.and_eq_true] at hs
    cases h with
    | cons h1 h2 => exact .cons (scal1_pr h1 hs.1) (scal1_prl h2 hs.2)
theorem scal_pr {μ' : Ren} {φ' : Frz} {v : PV} {v' : Value} (h : PR μ φ v v') (hs : scal v = true) : PR μ' φ' v v' := by
  cases h with
  | tuple h => exact .tuple (scal1_prl h hs)
  | int => exact .int _ _
  | bool => exact .bool _
  | str => exact .str _
  | _ => cases hs
theorem fzE_sim : ∀ (ts : List (Nat × FS)) {φ : Frz} {hp : PHeap} {e : PEnv} {ea : Env} {k : PEnv → PHeap → Option R} {r : R}, Rel μ φ hp ha → EnvR μ φ e ea → fzE ts e hp k = some r → ∃ φ' e1 h1, k e1 h1 = some r ∧ EnvR μ φ' e1 ea ∧ Rel μ φ' h1 ha ∧ Ext μ φ hp ha μ φ' h1 ha
  | [], _, _, _, _, _, _, s, he, h => ⟨_, _, _, h, he, s, Ext.refl _ _ _ _⟩
  | p :: ts, _, _, e, _, k, r, s, he, h => by
    simp only [fzE, Option.bind_eq_some_iff] at h
    obtain ⟨q1, h1, h2⟩ := h
    obtain ⟨φ', g1, g2, g3⟩ := fz_sim p.2 s (he p.1) h1
    obtain ⟨φ2, e1, hh, k0, k1, k2, k3⟩ := fzE_sim ts g2 (fun i => by
      unfold pupd
      cases hi : Nat.beq p.1 i with
      | false => exact (he i).mono g3.mu g3.phi
      | true =>
        obtain rfl := Nat.eq_of_beq_eq_true hi
        exact g1) h2
    exact ⟨φ2, e1, hh, k0, k1, k2, g3.trans k3⟩
theorem psteps_sim {Γ : PCallee} {Γa : Am.Callee} (hΓ : CallR Γ Γa) : ∀ (st : PSteps) {μ : Ren} {φ : Frz} {hp : PHeap} {ha : AHeap} {K : PEnv → PHeap → Option R} {Ka : Env → AHeap → Option Ra} {e : PEnv} {ea : Env} {r : R},
    EnvR μ φ e ea → Rel μ φ hp ha → SR Q μ φ hp ha K Ka → pstepsK Γ st K e hp = some r → ∃ ra, stepsK Γa (eraseP st) Ka ea ha = some ra ∧ Q r ra := by
  intro st
  induction st with
  | nil => intro μ φ hp ha K Ka e ea r he s hK h; exact hK _ _ _ _ _ _ _ h he s (Ext.refl _ _ _ _)
  | op d o chk rest ih =>
    intro μ φ hp ha K Ka e ea r he s hK h
    cases chk with
    | false =>
      simp only [pstepsK] at h
      simp only [eraseP, stepsK]
      refine popK_sim hΓ o he s (ka := fun v h' => chkK false ha h' (stepsK Γa (eraseP rest) Ka (Am.updO ea d v) h')) (fun v hp' r v' ha' μ' φ' hk hv s' x => ?_) h
      exact ih ((he.mono x.mu x.phi).updO hv d) s' (hK.ext x) hk
    | true =>
      simp only [pstepsK] at h
      simp only [eraseP, stepsK]
      refine popK_sim hΓ o he (lock_sim s) (ka := fun v h' => chkK true ha h' (stepsK Γa (eraseP rest) Ka (Am.updO ea d v) h')) (fun v hp' r v' ha' μ' φ' hk hv s' x => ?_) h
      unfold unl at hk
      split at hk
      · rename_i hpre
        obtain ⟨q1, q2, q3⟩ := unl_sim s s' x hpre
        obtain ⟨ra, k1, k2⟩ := ih ((he.mono x.mu x.phi).updO hv d) q2 (hK.ext q3) hk
        refine ⟨ra, ?_, k2⟩
        simp only [chkK, sameQ]
        rw [if_pos q1]
        exact k1
      · cases hk
  | sc d c isAnd tmp body y rest ihb ihr =>
    intro μ φ hp ha K Ka e ea r he s hK h
    simp only [pstepsK, K1, scP] at h
    simp only [eraseP, stepsK, J1, scK]
    have hc := he c
    split at h
    · rename_i t ht
      rw [ht] at hc
      generalize hea : ea c = w at hc
      cases hc
      simp only
      split at h
      · rename_i hti
        rw [if_pos hti]
        refine ihb he s (fun e' hp' r ea' ha' μ' φ' hk he' s' x => ?_) h
        exact ihr (((he.mono x.mu x.phi).junk tmp).upd (he'.val y) d) s' (hK.ext x) hk
      · rename_i hti
        rw [if_neg hti]
        exact ihr ((he.junk tmp).upd (.bool _) d) s hK h
    · cases h
  | fz t sh rest ih =>
    intro μ φ hp ha K Ka e ea r he s hK h
    simp only [pstepsK, Option.bind_eq_some_iff] at h
    obtain ⟨q, h1, h2⟩ := h
    obtain ⟨φ', q1, q2, q3⟩ := fz_sim sh s (he t) h1
    simp only [eraseP]
    refine ih (fun i => ?_) q2 (hK.ext q3) h2
    unfold pupd
    cases hi : Nat.beq t i with
    | false => exact (he i).mono q3.mu q3.phi
    | true =>
      obtain rfl := Nat.eq_of_beq_eq_true hi
      exact q1

  | bor ts d o chk rest ih =>
    intro μ φ hp ha K Ka e ea r he s hK h
    simp only [pstepsK] at h
    obtain ⟨φ1, e1, h1, h2, g1, g2, g3⟩ := fzE_sim ts s he h
    simp only [eraseP, stepsK]
    refine popK_sim hΓ o g1 (lock_sim g2) (ka := fun v h' => chkK chk ha h' (stepsK Γa (eraseP rest) Ka (Am.updO ea d v) h')) (fun v hp' r v' ha' μ' φ' hk hv s' x => ?_) h2
    have hs : ∀ a, a < ha.length → ha'[a]? = ha[a]? := fun a hlt => x.frame a hlt fun b blk l hb hw _ => by
      obtain ⟨b0, _, rfl⟩ := lock_get hb
      exact absurd hw (lockB_wr b0)
    have hpre : ha <+: ha' := by
      rw [List.prefix_iff_eq_take]
      apply List.ext_getElem?
      intro i
      by_cases hi : i < ha.length
      · rw [List.getElem?_take_of_lt hi, hs i hi]
      · rw [List.getElem?_eq_none (by omega), List.getElem?_eq_none (by rw [List.length_take]; omega)]
    split at hk
    · rename_i hsc
      have s2 := rel_more s x.leA hs
      obtain ⟨ra, k1, k2⟩ := ih (he.updO (scal_pr hv hsc) d) s2 (hK.ext ⟨Nat.le_refl _, x.leA, RenLe.refl _, FrzLe.refl _, fun a hlt _ => hs a hlt, fun b blk l h1 h2 h3 => .inr ⟨b, blk, l, h1, h2, h3, rfl⟩⟩) hk
      refine ⟨ra, ?_, k2⟩
      cases chk with
      | false => exact k1
      | true => simp only [chkK, sameQ]; rw [if_pos hpre]; exact k1
    · cases hk

/-- .. with the way of going on. -/
def CR (Q : R → Ra → Prop) (μ : Ren) (φ : Frz) (hp : PHeap) (ha : AHeap) (K : AExit → PEnv → PHeap → Option R) (Ka : AExit → Env → AHeap → Option Ra) : Prop :=
  ∀ o e hp' r ea ha' μ' φ', K o e hp' = some r → EnvR μ' φ' e ea → Rel μ' φ' hp' ha' → Ext μ φ hp ha μ' φ' hp' ha' → ∃ ra, Ka o ea ha' = some ra ∧ Q r ra
theorem CR.ext {μ' : Ren} {φ' : Frz} {hp' : PHeap} {ha' : AHeap} {K : AExit → PEnv → PHeap → Option R} {Ka : AExit → Env → AHeap → Option Ra} (h : CR Q μ φ hp ha K Ka) (x : Ext μ φ hp ha μ' φ' hp' ha') : CR Q μ' φ' hp' ha' K Ka :=
  fun o e h1 r ea h2 m f hk he s y => h o e h1 r ea h2 m f hk he s (x.trans y)
/-- A range's own block ends. -/
theorem kill_sim (s : Rel μ φ hp ha) {b : Nat} {blk : PBlk} {l : Am.Loc} (hb : hp[b]? = some blk) (hw : wrB blk) (e : μ b (ver blk) = some (some l)) : Rel μ φ (hp.set b .dead) (ha.set l.blk .dead) ∧ Ext μ φ hp ha μ φ (hp.set b .dead) (ha.set l.blk .dead) := by
  have hbl := some_lt hb
  have hsep := s.sep b blk l hb hw.own e
  constructor
  · refine s.step b .dead (by simp) (by simp) (RenLe.refl _) (FrzLe.refl _) (set_at hbl) (fun b' h => set_oth h) (fun b' k h => rfl) (fun k l' h => by rw [List.length_set]; exact (s.dom _ _ _ h).2 l' rfl) (fun b' blk' l' h1 h2 h3 h4 => set_oth fun h5 => h1 (s.inj b' b blk' blk l' l h2 h3 hb hw.live h4 e h5))
      (fun a x h => ?_) (fun b' blk l' hb' h1 h2 h3 => s.sep b' blk l' h2 h1 h3) (fun k o h _ => absurd rfl h) (fun h => absurd rfl h)
    rw [set_oth (by rintro rfl; rw [hsep] at h; cases h)]
    exact s.frz a x h
  · exact Ext.step b .dead (by simp) (by simp) (RenLe.refl _) (FrzLe.refl _) (set_at hbl) (fun b' h => set_oth h) (fun b' k h => rfl) (fun a h1 h2 => set_oth fun h => h2 blk l hb hw e h.symm) (fun l' h1 _ => h1.elim)
theorem loop_at {b : Nat} {vals : List PV} {lv ps : List Nat} {ab bb : PCode} {st : LSt} {pend : Option AExit} {md : Md} {l : Am.Loc} (s : Rel μ φ hp ha) (hb : hp[b]? = some (.loop vals lv ps ab bb st pend md)) (e : μ b 0 = some (some l)) :
    ∃ vals', ha[l.blk]? = some (.loop vals' lv ps (eraseK ab) (eraseK bb) st pend) ∧ PRL μ φ vals vals' := by
  rcases s.rel b _ hb (by simp) with ⟨_, _, _, _, h⟩ | ⟨l', blk', h1, h2, h3⟩
  · cases h
  · have : μ b 0 = some (some l') := h1
    rw [e] at this
    cases this
    obtain ⟨es', rfl, k1⟩ := h3
    exact ⟨es', h2, k1⟩
theorem pcode_sim {Γ : PCallee} {Γa : Am.Callee} (hΓ : CallR Γ Γa) (n : Nat) : ∀ (c : PCode) {μ : Ren} {φ : Frz} {hp : PHeap} {ha : AHeap} {K : AExit → PEnv → PHeap → Option R} {Ka : AExit → Env → AHeap → Option Ra} {e : PEnv} {ea : Env} {r : R},
    EnvR μ φ e ea → Rel μ φ hp ha → CR Q μ φ hp ha K Ka → pcodeK Γ n c K e hp = some r → ∃ ra, codeK Γa n (eraseK c) Ka ea ha = some ra ∧ Q r ra := by
  intro c
  induction c with
  | skip => intro μ φ hp ha K Ka e ea r he s hK h; exact hK _ _ _ _ _ _ _ _ h he s (Ext.refl _ _ _ _)
  | region d st => intro μ φ hp ha K Ka e ea r he s hK h; exact psteps_sim hΓ st he s (fun e' hp' r ea' ha' μ' φ' hk he' s' x => hK _ _ _ _ _ _ _ _ hk he' s' x) h
  | seq a b iha ihb =>
    intro μ φ hp ha K Ka e ea r he s hK h
    refine iha he s (fun o e' hp' r ea' ha' μ' φ' hk he' s' x => ?_) h
    cases o with
    | normal => exact ihb he' s' (hK.ext x) hk
    | exit i => exact hK _ _ _ _ _ _ _ _ hk he' s' x
    | ret => exact hK _ _ _ _ _ _ _ _ hk he' s' x
  | cond c mod tmp a b iha ihb =>
    intro μ φ hp ha K Ka e ea r he s hK h
    simp only [pcodeK, KL, ifP] at h
    simp only [eraseK, codeK, JL, ifK]
    have hc := he.val c
    have fine : CR Q μ φ hp ha (fun o e' h' => match o with | .normal => K .normal (psetMany (pjunk e tmp) mod (pgetMany e' mod)) h' | .exit i => K (.exit i) e' h' | .ret => K .ret e' h')
        (fun o e' h' => match o with | .normal => Ka .normal (Am.setMany (junkAll ea tmp) mod (Am.getMany e' mod)) h' | .exit i => Ka (.exit i) e' h' | .ret => Ka .ret e' h') := by
      intro o e' hp' r ea' ha' μ' φ' hk he' s' x
      cases o with
      | normal => exact hK _ _ _ _ _ _ _ _ hk (((he.mono x.mu x.phi).junk tmp).setMany mod (he'.getMany mod)) s' x
      | exit i => exact hK _ _ _ _ _ _ _ _ hk he' s' x
      | ret => exact hK _ _ _ _ _ _ _ _ hk he' s' x
    split at h
    · rename_i t ht
      rw [ht] at hc
      generalize hea : Am.val ea c = w at hc
      cases hc
      simp only
      split at h
      · rename_i htt
        rw [if_pos htt]
        exact iha he s fine h
      · rename_i htt
        rw [if_neg htt]
        exact ihb he s fine h
    · cases h
  | block id mod tmp c ih =>
    intro μ φ hp ha K Ka e ea r he s hK h
    simp only [pcodeK, KL] at h
    simp only [eraseK, codeK, JL]
    refine ih he s (fun o e' hp' r ea' ha' μ' φ' hk he' s' x => ?_) h
    have nrm : ∀ r, K .normal (psetMany (pjunk e tmp) mod (pgetMany e' mod)) hp' = some r → ∃ ra, Ka .normal (Am.setMany (junkAll ea tmp) mod (Am.getMany ea' mod)) ha' = some ra ∧ Q r ra := fun r hk =>
      hK _ _ _ _ _ _ _ _ hk (((he.mono x.mu x.phi).junk tmp).setMany mod (he'.getMany mod)) s' x
    cases o with
    | normal => exact nrm _ hk
    | exit i =>
      simp only at hk ⊢
      cases hi : Nat.beq i id with
      | true => rw [hi] at hk; exact nrm _ hk
      | false => rw [hi] at hk; exact hK _ _ _ _ _ _ _ _ hk he' s' x
    | ret => exact hK _ _ _ _ _ _ _ _ hk he' s' x
  | loop mod tmp c ih =>
    intro μ φ hp ha K Ka e ea r he s hK h
    simp only [pcodeK] at h
    simp only [eraseK, codeK]
    have main : ∀ (m : Nat) {vs : List PV} {vs' : List Value} {μ1 : Ren} {φ1 : Frz} {h1 : PHeap} {ha1 : AHeap} {r : R}, PRL μ1 φ1 vs vs' → Rel μ1 φ1 h1 ha1 → Ext μ φ hp ha μ1 φ1 h1 ha1 →
        loopP (fun cont vs h1 => pcodeK Γ n c (fun o e h2 => match o with | .normal => cont (pgetMany e mod) (trim hp (pgetMany e mod) h2) | .exit i => K (.exit i) e h2 | .ret => K .ret e h2) (psetMany (pjunk e tmp) mod vs) h1) m vs h1 = some r →
        ∃ ra, loopN (fun cont vs h => codeK Γa n (eraseK c) (fun o e h => match o with | .normal => cont (Am.getMany e mod) h | .exit i => Ka (.exit i) e h | .ret => Ka .ret e h) (Am.setMany (junkAll ea tmp) mod vs) h) m vs' ha1 = some ra ∧ Q r ra := by
      intro m
      induction m with
      | zero => intro vs vs' μ1 φ1 h1 ha1 r _ _ _ h; cases h
      | succ m ihm =>
        intro vs vs' μ1 φ1 h1 ha1 r hv s1 x1 h
        simp only [loopP] at h
        simp only [loopN]
        refine ih (((he.mono x1.mu x1.phi).junk tmp).setMany mod hv) s1 (fun o e' hp' r ea' ha' μ' φ' hk he' s' x => ?_) h
        cases o with
        | normal =>
          obtain ⟨μ3, q1, q2, q3⟩ := trim_sim s s' (x1.trans x) (he'.getMany mod)
          exact ihm q1 q2 q3 hk
        | exit i => exact hK _ _ _ _ _ _ _ _ hk he' s' (x1.trans x)
        | ret => exact hK _ _ _ _ _ _ _ _ hk he' s' (x1.trans x)
    exact main n (he.getMany mod) s (Ext.refl _ _ _ _) h
  | exit i => intro μ φ hp ha K Ka e ea r he s hK h; exact hK _ _ _ _ _ _ _ _ h he s (Ext.refl _ _ _ _)
  | ret => intro μ φ hp ha K Ka e ea r he s hK h; exact hK _ _ _ _ _ _ _ _ h he s (Ext.refl _ _ _ _)
  | rangeF g lv ps ab bb iha ihb =>
    intro μ φ hp ha K Ka e ea r he s hK h
    simp only [pcodeK, Option.bind_eq_some_iff] at h
    obtain ⟨⟨v, h1⟩, hc, o, ho, h⟩ := h
    obtain ⟨q1, q2⟩ := s.push (.loop (pgetMany e lv) lv ps ab bb .ready none .rw) (.loop (Am.getMany ea lv) lv ps (eraseK ab) (eraseK bb) .ready none) 0 ⟨_, rfl, (he.getMany lv).mono (put_new s _ _) (FrzLe.refl _)⟩
    obtain ⟨v', ha1, μ1, φ1, k1, k2, k3, k4⟩ := callFP_sim hΓ q1 ((he.val g).mono q2.mu q2.phi) (.cons (.yield (put_self _ _ _ _)) .nil) hc
    have hm : μ1 hp.length 0 = some (some ⟨ha.length, 0⟩) := k4.mu _ _ _ (put_self _ _ _ _)
    have x1 := q2.trans k4
    have hpend : ∃ vals lv' ps' ab' bb' st pend, h1[hp.length]? = some (.loop vals lv' ps' ab' bb' st pend .rw) ∧ (st = .ready ∨ st = .done) ∧ o = pend := by
      unfold pendOfP at ho
      simp only at ho
      split at ho
      · rename_i hb; cases ho; exact ⟨_, _, _, _, _, _, _, hb, .inl rfl, rfl⟩
      · rename_i hb; cases ho; exact ⟨_, _, _, _, _, _, _, hb, .inr rfl, rfl⟩
      · cases ho
    obtain ⟨vals, lv', ps', ab', bb', st, pend, hb, hst, rfl⟩ := hpend
    obtain ⟨vals', hb', _⟩ := loop_at k3 hb hm
    have hpa : pendOf ha.length ha1 = some o := by
      unfold pendOf
      simp only at hb'
      rw [hb']
      rcases hst with rfl | rfl <;> rfl
    obtain ⟨g1, g2⟩ := kill_sim k3 hb trivial hm
    obtain ⟨μ3, _, g4, g5⟩ := trim_sim (roots := []) (roots' := []) s g1 (x1.trans g2) .nil
    have he3 : EnvR μ3 φ1 e ea := he.mono g5.mu g5.phi
    simp only [eraseK, codeK]
    rw [k1]
    simp only [Option.bind_some]
    rw [hpa]
    simp only [Option.bind_some]
    cases o with
    | none => exact hK _ _ _ _ _ _ _ _ h he3 g4 g5
    | some x => exact hK _ _ _ _ _ _ _ _ h he3 g4 g5
theorem presults_sim (s : Rel μ φ hp ha) {e : PEnv} {ea : Env} (he : EnvR μ φ e ea) : ∀ (rs : List ARes) {k : List PV → Option R} {ka : List Value → Option Ra} {r : R}, (∀ vs vs' r, k vs = some r → PRL μ φ vs vs' → ∃ ra, ka vs' = some ra ∧ Q r ra) → presultsK rs e hp k = some r → ∃ ra, resultsK rs ea ha ka = some ra ∧ Q r ra
  | [], k, ka, r, hk, h => hk _ _ _ h .nil
  | .tmp t :: rs, k, ka, r, hk, h => presults_sim s he rs (fun vs vs' r h1 h2 => hk _ _ _ h1 (.cons (he t) h2)) h
  | .cell t agg n :: rs, k, ka, r, hk, h => by
    simp only [presultsK, Option.bind_eq_some_iff] at h
    obtain ⟨v, h1, h2⟩ := h
    obtain ⟨v', k1, k2⟩ := loadP_sim s (he t) h1
    obtain ⟨ra, k3, k4⟩ := presults_sim s he rs (fun vs vs' r h1 h2 => hk _ _ _ h1 (.cons k2 h2)) h2
    exact ⟨ra, by simp only [resultsK, k1, Option.bind_some]; exact k3, k4⟩
end
/-- How calls answer. -/
def Ans (μ : Ren) (φ : Frz) (hp : PHeap) (ha : AHeap) (r : PV × PHeap) (ra : Value × AHeap) : Prop := ∃ μ' φ', PR μ' φ' r.1 ra.1 ∧ Rel μ' φ' r.2 ra.2 ∧ Ext μ φ hp ha μ' φ' r.2 ra.2
theorem single_sim {vs : List PV} {vs' : List Value} (h : PRL μ φ vs vs') : PR μ φ (singleP vs) (single vs') := by
  cases h with
  | nil => exact .tuple .nil
  | cons h hs =>
    cases hs with
    | nil => exact h
    | cons h' hs' => exact .tuple (.cons h (.cons h' hs'))
theorem pinit_sim {args : List PV} {args' : List Value} (h : PRL μ φ args args') : EnvR μ φ (pinit args) (initEnv args') := by
  intro i
  unfold pinit initEnv
  rw [List.getD_eq_getElem?_getD, List.getD_eq_getElem?_getD]
  cases hi : args[i]? with
  | none =>
    have : args'[i]? = none := by
      rw [List.getElem?_eq_none_iff] at hi ⊢
      rw [← h.length]; exact hi
    rw [this]
    exact PR.undef
  | some x =>
    obtain ⟨y, h1, h2⟩ := h.get hi
    rw [h1]
    exact h2
theorem pfun_sim {Γ : PCallee} {Γa : Am.Callee} (hΓ : CallR Γ Γa) (n : Nat) (F : PFun) (s : Rel μ φ hp ha) {args : List PV} {args' : List Value} (hargs : PRL μ φ args args') {r : PV × PHeap} (h : pfunK Γ n F args hp = some r) :
    ∃ ra, funK Γa n F.erase args' ha = some ra ∧ Ans μ φ hp ha r ra := by
  unfold pfunK at h
  unfold funK
  cases hn : Nat.beq args.length F.nargs with
  | false => rw [hn] at h; cases h
  | true =>
    rw [hn] at h
    have hn' : Nat.beq args'.length F.erase.nargs = true := by rw [← hargs.length]; exact hn
    rw [hn']
    simp only [cond_true] at h ⊢
    have fine : ∀ {e : PEnv} {hp' : PHeap} {r : PV × PHeap} {ea : Env} {ha' : AHeap} {μ' : Ren} {φ' : Frz}, (presultsK F.results e hp' fun vs => finP F.shapes hp hp' vs) = some r → EnvR μ' φ' e ea → Rel μ' φ' hp' ha' → Ext μ φ hp ha μ' φ' hp' ha' →
        ∃ ra, (resultsK F.results ea ha' fun vs => some (single vs, gc (single vs) ha ha')) = some ra ∧ Ans μ φ hp ha r ra := by
      intro e hp' r ea ha' μ' φ' hk he' s' x
      refine presults_sim s' he' F.results (fun vs vs' r h1 h2 => ?_) hk
      unfold finP at h1
      rw [Option.map_eq_some_iff] at h1
      obtain ⟨q, h3, rfl⟩ := h1
      obtain ⟨φ2, q1, q2, q3⟩ := fzL_sim F.shapes s' h2 h3
      obtain ⟨μ3, g1, g2, g3⟩ := trim_sim s q2 (x.trans q3) q1
      exact ⟨_, rfl, μ3, φ2, single_sim g1, g2, g3⟩
    refine pcode_sim hΓ n F.code (pinit_sim hargs) s (fun o e hp' r ea ha' μ' φ' hk he' s' x => ?_) h
    cases o with
    | normal => exact fine hk he' s' x
    | ret => exact fine hk he' s' x
    | exit i => cases hk
theorem pround_sim {Γ : PCallee} {Γa : Am.Callee} (hΓ : CallR Γ Γa) (n : Nat) (s : Rel μ φ hp ha) {args : List PV} {args' : List Value} (hargs : PRL μ φ args args') {r : PV × PHeap} (h : proundK Γ n args hp = some r) :
    ∃ ra, roundK Γa n args' ha = some ra ∧ Ans μ φ hp ha r ra := by
  unfold proundK at h
  split at h
  · rename_i b vs
    split at h
    · rename_i vals lv ps ab bb pend md hb
      cases hargs with | cons h1 h2 =>
        cases h1 with | @ptr _ _ l hm =>
          obtain ⟨vals', hb', hvals⟩ := loop_at s hb hm
          cases hn : Nat.beq vs.length ps.length with
          | false => rw [hn] at h; cases h
          | true =>
            rw [hn] at h
            simp only [cond_true] at h
            have := roundK_eq (Γ := Γa) (n := n) (h := ha) hb' (show Nat.beq _ ps.length = true by rw [← h2.length]; exact hn)
            unfold ptrTo at this
            rw [this]
            have hj : EnvR μ φ (fun _ => .junk) (fun _ => Am.junk) := fun _ => .junk _
            refine pcode_sim hΓ n ab ((hj.setMany lv hvals).setMany ps h2) s (fun o e hp' r ea ha' μ' φ' hk he' s' x => ?_) h
            cases o with
            | exit i => cases hk
            | ret => cases hk
            | normal =>
              simp only [Option.bind_eq_some_iff] at hk ⊢
              obtain ⟨h2', hbg, hk⟩ := hk
              unfold beginRoundP at hbg
              split at hbg
              · rename_i vals2 lv2 ps2 ab2 bb2 pend2 hb2
                cases hbg
                have hm' := x.mu _ _ _ hm
                obtain ⟨vals3, hb3, hv3⟩ := loop_at s' hb2 hm'
                obtain ⟨q1, q2⟩ := s'.write0 (blk1 := .loop vals2 lv2 ps2 ab2 bb2 .busy pend2 .rw) (blk' := .loop vals3 lv2 ps2 (eraseK ab2) (eraseK bb2) .busy pend2) hb2 trivial hm' rfl ⟨_, rfl, hv3⟩
                have hbga : beginRound l.blk ha' = some (ha'.set l.blk (.loop vals3 lv2 ps2 (eraseK ab2) (eraseK bb2) .busy pend2)) := by unfold beginRound; rw [hb3]
                refine (pcode_sim (Q := Ans μ φ hp ha) hΓ n bb (Ka := fun o _ h3 => endRound l.blk o h3) (he'.mono q2.mu q2.phi) q1 (fun o3 e3 hp3 r3 ea3 ha3 μ3 φ3 hk3 he3 s3 x3 => ?_) hk).elim fun ra hra => ⟨ra, ⟨_, hbga, hra.1⟩, hra.2⟩
                · rw [Option.map_eq_some_iff] at hk3
                  obtain ⟨q, hk3, rfl⟩ := hk3
                  unfold endRoundP at hk3
                  split at hk3
                  · rename_i vals4 lv4 ps4 ab4 bb4 pend4 hb4
                    have hm3 := x3.mu _ _ _ (q2.mu _ _ _ hm')
                    obtain ⟨vals5, hb5, hv5⟩ := loop_at s3 hb4 hm3
                    have hx := (x.trans q2).trans x3
                    have go : ∀ (st : LSt) (pe : Option AExit) (bv : Bool), Ans μ φ hp ha (.bool bv, trim hp [] (hp3.set b (.loop vals4 lv4 ps4 ab4 bb4 st pe .rw))) (.bool bv, ha3.set l.blk (.loop vals5 lv4 ps4 (eraseK ab4) (eraseK bb4) st pe)) := by
                      intro st pe bv
                      obtain ⟨g1, g2⟩ := s3.write0 (blk1 := .loop vals4 lv4 ps4 ab4 bb4 st pe .rw) (blk' := .loop vals5 lv4 ps4 (eraseK ab4) (eraseK bb4) st pe) hb4 trivial hm3 rfl ⟨_, rfl, hv5⟩
                      obtain ⟨μ4, _, g4, g5⟩ := trim_sim (roots := []) (roots' := []) s g1 (hx.trans g2) .nil
                      exact ⟨μ4, φ3, .bool _, g4, g5⟩
                    cases o3 with
                    | normal => cases hk3; exact ⟨_, by simp only [endRound, hb5], go .ready none true⟩
                    | exit i => cases hk3; exact ⟨_, by simp only [endRound, hb5], go .done (some (.exit i)) false⟩
                    | ret => cases hk3; exact ⟨_, by simp only [endRound, hb5], go .done (some .ret) false⟩
                  · cases hk3
              · cases hbg
    · cases h
  · cases h
theorem get_erase : ∀ (T : PTable) (f : FuncId), (PTable.erase T).get f = (T.get f).map PFun.erase
  | [], f => rfl
  | (g, F) :: r, f => by
    simp only [PTable.erase, PTable.get, ATable.get]
    cases Nat.beq g f
    · exact get_erase r f
    · rfl
/-- Runs of the value machine are the abstract machine's. -/
theorem pcall_sim {Γ0 : PCallee} {Γa0 : Am.Callee} {T : PTable} (h0 : CallR Γ0 (Am.run Γa0 T.erase)) : ∀ n, CallR (pcall Γ0 T n) (Am.run Γa0 T.erase)
  | 0 => fun f args hp r hp' h μ φ ha args' s hargs => by
    unfold pcall at h
    cases hf : Nat.beq f yieldId with
    | true => rw [hf] at h; cases h
    | false =>
      rw [hf] at h
      simp only [cond_false] at h
      split at h
      · cases h
      · exact h0 _ _ _ _ _ h μ φ ha _ s hargs
  | n + 1 => fun f args hp r hp' h μ φ ha args' s hargs => by
    unfold pcall at h
    cases hf : Nat.beq f yieldId with
    | true =>
      rw [hf] at h
      simp only [cond_true] at h
      obtain rfl := Nat.eq_of_beq_eq_true hf
      obtain ⟨ra, k1, μ', φ', k2, k3, k4⟩ := pround_sim (pcall_sim h0 n) n s hargs h
      exact ⟨ra.1, ra.2, μ', φ', run_of_round n k1, k2, k3, k4⟩
    | false =>
      rw [hf] at h
      simp only [cond_false] at h
      split at h
      · rename_i F hF
        obtain ⟨ra, k1, μ', φ', k2, k3, k4⟩ := pfun_sim (pcall_sim h0 n) n F s hargs h
        exact ⟨ra.1, ra.2, μ', φ', run_of_body (by rw [get_erase, hF]; rfl) n k1 hf, k2, k3, k4⟩
      · exact h0 _ _ _ _ _ h μ φ ha _ s hargs
theorem prun_some {Γ0 : PCallee} {T : PTable} {f : FuncId} {args : List PV} {h : PHeap} {r : PV × PHeap} (hk : prun Γ0 T f args h = some r) : ∃ n, pcall Γ0 T n f args h = some r := by
  unfold prun at hk
  split at hk
  · exact ⟨_, hk⟩
  · cases hk
theorem prun_sim {Γ0 : PCallee} {Γa0 : Am.Callee} {T : PTable} (h0 : CallR Γ0 (Am.run Γa0 T.erase)) : CallR (prun Γ0 T) (Am.run Γa0 T.erase) := fun f args hp r hp' h => by
  obtain ⟨n, hn⟩ := prun_some h
  exact pcall_sim h0 n f args hp r hp' hn
theorem noCalleeP_sim {Γa : Am.Callee} : CallR noCalleeP Γa := fun f args hp r hp' h => by cases h
end Go.Vm

/- Calls of the value machine without a bound. -/
namespace Go.Vm
open Go.Am
variable {R : Type}
theorem callVP_evl {Γs : Nat → PCallee} {Γ : PCallee} (hΓ : ∀ f args h, Evl (fun k => Γs k f args h) (Γ f args h)) (f : PV) (args : List PV) (h : PHeap) : Evl (fun k => callVP (Γs k) f args h) (callVP Γ f args h) := by
  unfold callVP
  split
  · rename_i g xs ys
    cases Nat.blt g yieldId
    · exact Evl.const _
    · exact hΓ _ _ _
  · exact hΓ _ _ _
  · exact Evl.const _
theorem callFP_evl {Γs : Nat → PCallee} {Γ : PCallee} (hΓ : ∀ f args h, Evl (fun k => Γs k f args h) (Γ f args h)) (f : PV) (args : List PV) (h : PHeap) : Evl (fun k => callFP (Γs k) f args h) (callFP Γ f args h) := by
  unfold callFP
  split
  · rename_i g xs ys
    cases Nat.blt g yieldId
    · exact Evl.const _
    · exact hΓ _ _ _
  · exact Evl.const _
theorem popK_evl {Γs : Nat → PCallee} {Γ : PCallee} (hΓ : ∀ f args h, Evl (fun k => Γs k f args h) (Γ f args h)) (o : POp) (e : PEnv) (h : PHeap)
    {ks : Nat → PV → PHeap → Option R} {k : PV → PHeap → Option R} (hk : ∀ v h, Evl (fun i => ks i v h) (k v h)) : Evl (fun i => popK (Γs i) o e h (ks i)) (popK Γ o e h k) := by
  cases o with
  | growNil t sz => simp only [popK]; split <;> first | exact hk _ _ | exact Evl.const _
  | growBox isNew t el sz => simp only [popK]; split <;> first | exact hk _ _ | exact Evl.const _
  | buildF t zero n parts =>
    simp only [popK]
    split
    · refine (Evl.const _).bind fun l => ?_
      split <;> first | exact hk _ _ | exact Evl.const _
    · exact Evl.const _
  | a o =>
    cases o with
    | call f args => exact (hΓ f _ h).bind fun p => hk _ _
    | isNil t neg x =>
      simp only [popK, isNilK]
      split
      · intro r hr
        unfold both at hr
        split at hr
        · rename_i hab
          obtain ⟨m1, h1⟩ := hk (.bool true) h r hr
          obtain ⟨m2, h2⟩ := hk (.bool false) h r (by rw [← hab]; exact hr)
          refine ⟨max m1 m2, fun i hi => ?_⟩
          have e1 : ks i (.bool true) h = some r := h1 i (by omega)
          have e2 : ks i (.bool false) h = some r := h2 i (by omega)
          show both (ks i (.bool true) h) (ks i (.bool false) h) = some r
          rw [e1, e2]
          exact if_pos rfl
        · cases hr
      · exact (Evl.const _).bind fun v => hk _ _
    | callV f args =>
      simp only [popK]
      exact (callVP_evl hΓ _ _ _).bind fun p => hk _ _
    | buildSlice t zero n parts =>
      simp only [popK]
      split
      · exact (Evl.const _).bind fun l => hk _ _
      · split <;> first | exact hk _ _ | exact Evl.const _
    | mkSlice t zero n c =>
      simp only [popK]
      split
      · exact (Evl.const _).bind fun l => hk _ _
      · exact Evl.const _
    | _ =>
      simp only [popK]
      first
        | exact hk _ _
        | exact (Evl.const _).bind fun v => hk _ _
        | exact Evl.const _
theorem psteps_evl {Γs : Nat → PCallee} {Γ : PCallee} (hΓ : ∀ f args h, Evl (fun k => Γs k f args h) (Γ f args h)) :
    ∀ (s : PSteps) {Ks : Nat → PEnv → PHeap → Option R} {K : PEnv → PHeap → Option R}, (∀ e h, Evl (fun k => Ks k e h) (K e h)) → ∀ (e : PEnv) (h : PHeap), Evl (fun k => pstepsK (Γs k) s (Ks k) e h) (pstepsK Γ s K e h) := by
  intro s
  induction s with
  | nil => intro Ks K hK e h; exact hK e h
  | op dst o chk rest ih =>
    intro Ks K hK e h
    cases chk with
    | false => exact popK_evl hΓ o e h fun v h' => ih hK _ _
    | true =>
      refine popK_evl hΓ o e (lock h) fun v h' => ?_
      simp only [unl]
      split
      · exact ih hK _ _
      · exact Evl.const _
  | sc dst c isAnd tmp body y rest ihb ihr =>
    intro Ks K hK e h
    simp only [pstepsK, K1, scP]
    split
    · split
      · exact ihb (fun e' h' => ihr hK _ _) _ _
      · exact ihr hK _ _
    · exact Evl.const _
  | fz t sh rest ih =>
    intro Ks K hK e h
    exact (Evl.const _).bind fun q => ih hK _ _
  | bor ts d o chk rest ih =>
    intro Ks K hK e h
    simp only [pstepsK]
    have key : ∀ (ts : List (Nat × FS)) (e1 : PEnv) (h1 : PHeap), Evl (fun k => fzE ts e1 h1 fun e1 h1 => popK (Γs k) o e1 (lock h1) fun v _ => if scal v = true then pstepsK (Γs k) rest (Ks k) (pupdO e d v) h else none)
        (fzE ts e1 h1 fun e1 h1 => popK Γ o e1 (lock h1) fun v _ => if scal v = true then pstepsK Γ rest K (pupdO e d v) h else none) := by
      intro ts
      induction ts with
      | nil =>
        intro e1 h1
        simp only [fzE]
        refine popK_evl hΓ o _ _ fun v h' => ?_
        split
        · exact ih hK _ _
        · exact Evl.const _
      | cons p ts iht =>
        intro e1 h1
        simp only [fzE]
        exact (Evl.const _).bind fun q => iht _ _
    exact key ts e h
theorem loopP_evl {Bs : Nat → (List PV → PHeap → Option R) → List PV → PHeap → Option R} {B : (List PV → PHeap → Option R) → List PV → PHeap → Option R}
    (hB : ∀ (cs : Nat → List PV → PHeap → Option R) (c : List PV → PHeap → Option R), (∀ vs h, Evl (fun k => cs k vs h) (c vs h)) → ∀ vs h, Evl (fun k => Bs k (cs k) vs h) (B c vs h)) :
    ∀ (n : Nat) (js : Nat → Nat), (∃ m, ∀ k, m ≤ k → n ≤ js k) → ∀ vs h, Evl (fun k => loopP (Bs k) (js k) vs h) (loopP B n vs h)
  | 0, js, hj, vs, h => by intro r hr; cases hr
  | n + 1, js, ⟨m, hm⟩, vs, h => by
    intro r hr
    obtain ⟨m2, h2⟩ := hB (fun k => loopP (Bs k) (js k - 1)) (loopP B n) (fun vs h => loopP_evl hB n (fun k => js k - 1) ⟨m, fun k hk => by have := hm k hk; omega⟩ vs h) vs h r hr
    refine ⟨max m m2, fun k hk => ?_⟩
    have h3 := hm k (by omega)
    obtain ⟨j, hj⟩ : ∃ j, js k = j + 1 := ⟨js k - 1, by omega⟩
    show loopP (Bs k) (js k) vs h = some r
    rw [hj]
    have h4 : Bs k (loopP (Bs k) (js k - 1)) vs h = some r := h2 k (by omega)
    rw [hj] at h4
    exact h4
theorem pcode_evl {Γs : Nat → PCallee} {Γ : PCallee} (hΓ : ∀ f args h, Evl (fun k => Γs k f args h) (Γ f args h)) (n : Nat) :
    ∀ (c : PCode) {Ks : Nat → AExit → PEnv → PHeap → Option R} {K : AExit → PEnv → PHeap → Option R}, (∀ o e h, Evl (fun k => Ks k o e h) (K o e h)) → ∀ (e : PEnv) (h : PHeap), Evl (fun k => pcodeK (Γs k) k c (Ks k) e h) (pcodeK Γ n c K e h) := by
  intro c
  induction c with
  | skip => intro Ks K hK e h; exact hK _ _ _
  | region d s => intro Ks K hK e h; exact psteps_evl hΓ s (fun e h => hK _ _ _) e h
  | seq a b iha ihb =>
    intro Ks K hK e h
    refine iha (fun o e h => ?_) e h
    cases o with
    | normal => exact ihb hK e h
    | exit i => exact hK _ _ _
    | ret => exact hK _ _ _
  | cond c mod tmp a b iha ihb =>
    intro Ks K hK e h
    simp only [pcodeK, KL, ifP]
    split
    · split
      · refine iha (fun o e h => ?_) e h
        cases o with
        | normal => exact hK _ _ _
        | exit i => exact hK _ _ _
        | ret => exact hK _ _ _
      · refine ihb (fun o e h => ?_) e h
        cases o with
        | normal => exact hK _ _ _
        | exit i => exact hK _ _ _
        | ret => exact hK _ _ _
    · exact Evl.const _
  | block id mod tmp c ih =>
    intro Ks K hK e h
    simp only [pcodeK, KL]
    refine ih (fun o e h => ?_) e h
    cases o with
    | normal => exact hK _ _ _
    | exit i => simp only []; cases Nat.beq i id <;> exact hK _ _ _
    | ret => exact hK _ _ _
  | loop mod tmp c ih =>
    intro Ks K hK e h
    simp only [pcodeK]
    refine loopP_evl (fun cs c hc vs h => ?_) n (fun k => k) ⟨n, fun k hk => hk⟩ _ _
    refine ih (fun o e h => ?_) _ _
    cases o with
    | normal => exact hc _ _
    | exit i => exact hK _ _ _
    | ret => exact hK _ _ _
  | exit i => intro Ks K hK e h; exact hK _ _ _
  | ret => intro Ks K hK e h; exact hK _ _ _
  | rangeF g lv ps ab bb iha ihb =>
    intro Ks K hK e h
    simp only [pcodeK]
    refine (callFP_evl hΓ _ _ _).bind fun p => (Evl.const _).bind fun o => ?_
    cases o with
    | none => exact hK _ _ _
    | some x => exact hK _ _ _
theorem pround_evl {Γs : Nat → PCallee} {Γ : PCallee} (hΓ : ∀ f args h, Evl (fun k => Γs k f args h) (Γ f args h)) (n : Nat) (args : List PV) (h : PHeap) : Evl (fun k => proundK (Γs k) k args h) (proundK Γ n args h) := by
  unfold proundK
  split
  · split
    · rename_i b0 vs x vals lv ps ab bb pend md hb
      cases Nat.beq vs.length ps.length with
      | false => exact Evl.const _
      | true =>
        simp only [cond_true]
        refine pcode_evl hΓ n ab (fun o e h1 => ?_) _ _
        cases o with
        | normal => exact (Evl.const _).bind fun h2 => pcode_evl (Ks := fun _ o _ h3 => (endRoundP b0 o h3).map fun q => (q.1, trim h [] q.2)) (K := fun o _ h3 => (endRoundP b0 o h3).map fun q => (q.1, trim h [] q.2)) hΓ n bb (fun o _ h3 => Evl.const _) e h2
        | exit i => exact Evl.const _
        | ret => exact Evl.const _
    · exact Evl.const _
  · exact Evl.const _
theorem presults_evl : ∀ (rs : List ARes) (e : PEnv) (h : PHeap) {ks : Nat → List PV → Option R} {k : List PV → Option R}, (∀ vs, Evl (fun i => ks i vs) (k vs)) → Evl (fun i => presultsK rs e h (ks i)) (presultsK rs e h k)
  | [], e, h, ks, k, hk => hk []
  | .tmp t :: rs, e, h, ks, k, hk => presults_evl rs e h fun vs => hk _
  | .cell t agg n :: rs, e, h, ks, k, hk => (Evl.const _).bind fun v => presults_evl rs e h fun vs => hk _
theorem pfun_evl {Γs : Nat → PCallee} {Γ : PCallee} (hΓ : ∀ f args h, Evl (fun k => Γs k f args h) (Γ f args h)) (n : Nat) (F : PFun) (args : List PV) (h : PHeap) : Evl (fun k => pfunK (Γs k) k F args h) (pfunK Γ n F args h) := by
  simp only [pfunK]
  cases Nat.beq args.length F.nargs with
  | false => exact Evl.const _
  | true =>
    simp only [cond_true]
    refine pcode_evl hΓ n F.code (fun o e h' => ?_) _ _
    exact Evl.const _
theorem pcall_evl {Γ0 : PCallee} {T : PTable} : ∀ (n : Nat) (f : FuncId) (args : List PV) (h : PHeap), Evl (fun k => pcall Γ0 T k f args h) (pcall Γ0 T n f args h)
  | 0, f, args, h => by
    intro r hr
    unfold pcall at hr
    cases hf : Nat.beq f yieldId with
    | true => rw [hf] at hr; cases hr
    | false =>
      rw [hf] at hr
      simp only [cond_false] at hr
      split at hr
      · cases hr
      · rename_i hT
        refine ⟨0, fun k _ => ?_⟩
        cases k <;> (simp only [pcall, hf, cond_false, hT]; exact hr)
  | n + 1, f, args, h => by
    intro r hr
    unfold pcall at hr
    cases hf : Nat.beq f yieldId with
    | true =>
      rw [hf] at hr
      simp only [cond_true] at hr
      obtain ⟨m, hm⟩ := pround_evl (pcall_evl n) n args h r hr
      refine ⟨m + 1, fun k hk => ?_⟩
      obtain ⟨j, rfl⟩ : ∃ j, k = j + 1 := ⟨k - 1, by omega⟩
      simp only [pcall, hf, cond_true]
      exact hm j (by omega)
    | false =>
      rw [hf] at hr
      simp only [cond_false] at hr
      split at hr
      · rename_i F hT
        obtain ⟨m, hm⟩ := pfun_evl (pcall_evl n) n F args h r hr
        refine ⟨m + 1, fun k hk => ?_⟩
        obtain ⟨j, rfl⟩ : ∃ j, k = j + 1 := ⟨k - 1, by omega⟩
        simp only [pcall, hf, cond_false, hT]
        exact hm j (by omega)
      · rename_i hT
        refine ⟨0, fun k _ => ?_⟩
        cases k <;> (simp only [pcall, hf, cond_false, hT]; exact hr)
theorem prun_of_pcall {Γ0 : PCallee} {T : PTable} {n : Nat} {f : FuncId} {args : List PV} {h : PHeap} {r : PV × PHeap} (hk : pcall Γ0 T n f args h = some r) : prun Γ0 T f args h = some r := by
  have H : ∃ n, (pcall Γ0 T n f args h).isSome = true := ⟨n, by rw [hk]; rfl⟩
  unfold prun
  rw [dif_pos H]
  cases hc : pcall Γ0 T (Classical.choose H) f args h with
  | none => have := Classical.choose_spec H; rw [hc] at this; cases this
  | some r' =>
    obtain ⟨m1, h1⟩ := pcall_evl n f args h r hk
    obtain ⟨m2, h2⟩ := pcall_evl _ f args h r' hc
    have e1 := h1 (max m1 m2) (by omega)
    have e2 := h2 (max m1 m2) (by omega)
    rw [← e1, ← e2]
theorem prun_evl {Γ0 : PCallee} {T : PTable} (f : FuncId) (args : List PV) (h : PHeap) : Evl (fun k => pcall Γ0 T k f args h) (prun Γ0 T f args h) := by
  intro r hr
  obtain ⟨n, hn⟩ := prun_some hr
  exact pcall_evl n f args h r hn
theorem prun_of_body {Γ0 : PCallee} {T : PTable} {f : FuncId} {F : PFun} (hT : T.get f = some F) (n : Nat) {args : List PV} {h : PHeap} {r : PV × PHeap} (hk : pfunK (prun Γ0 T) n F args h = some r) (hf : Nat.beq f yieldId = false := by rfl) : prun Γ0 T f args h = some r := by
  obtain ⟨m, hm⟩ := pfun_evl prun_evl n F args h r hk
  refine prun_of_pcall (n := m + 1) ?_
  simp only [pcall, hf, cond_false, hT]
  exact hm m (Nat.le_refl _)
theorem prun_of_round {Γ0 : PCallee} {T : PTable} (n : Nat) {args : List PV} {h : PHeap} {r : PV × PHeap} (hk : proundK (prun Γ0 T) n args h = some r) : prun Γ0 T yieldId args h = some r := by
  obtain ⟨m, hm⟩ := pround_evl prun_evl n args h r hk
  refine prun_of_pcall (n := m + 1) ?_
  simp only [pcall, Nat.beq_refl, cond_true]
  exact hm m (Nat.le_refl _)
theorem prun_of_base {Γ0 : PCallee} {T : PTable} {f : FuncId} (hT : T.get f = none) {args : List PV} {h : PHeap} {r : PV × PHeap} (hk : Γ0 f args h = some r) (hf : Nat.beq f yieldId = false := by rfl) : prun Γ0 T f args h = some r :=
  prun_of_pcall (n := 0) (by simp only [pcall, hf, cond_false, hT]; exact hk)
end Go.Vm

/- Words of the printed forms; what is read at the start. -/
namespace Go.Vm
open Go.Am
abbrev Pt := Option (PV × PHeap)
/-- A value and a heap, and what follows. -/
def forkP {R : Type} (v : PV) (h : PHeap) (k : PV → PHeap → Option R) : Option R := k v h
def guardP {R : Type} (b : Bool) (m : Option R) : Option R := if b = true then m else none
theorem proundK_eq {Γ : PCallee} {n b : Nat} {vals vs : List PV} {lv ps : List Nat} {ab bb : PCode} {pend : Option AExit} {md : Md} {h : PHeap} (hb : h[b]? = some (.loop vals lv ps ab bb .ready pend md)) (hl : Nat.beq vs.length ps.length = true) :
    proundK Γ n (.ptr b 0 :: vs) h = pcodeK Γ n ab (fun o e h1 => match o with
      | .normal => (beginRoundP b h1).bind fun h2 => pcodeK Γ n bb (fun o _ h3 => (endRoundP b o h3).map fun q => (q.1, trim h [] q.2)) e h2
      | _ => none) (psetMany (psetMany (fun _ => .junk) lv vals) ps vs) h := by
  unfold proundK
  simp only [hb, hl, cond_true]
  congr 1
end Go.Vm
