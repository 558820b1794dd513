/- A region in the text's order. -/
import Derived.Test.YteedbdkhlgongaaAm11
set_option linter.unusedSimpArgs false
set_option linter.unusedVariables false
namespace Go.Am
variable {P : Program} {μ : Ren} {w : World}

/-- An operation of the model, and the machine's. -/
structure FMatch (P : Program) (ops : Array Oper) (o : Oper) (f : FOp) : Prop where
  op : compOp P o.op = some f.op
  dst : o.dst = f.dst
  guard : match o.guard with
    | none => f.guard = none
    | some (j, b) => ∃ d, (ops[j]?).bind (·.dst) = some d ∧ f.guard = some (d, b)
theorem compF_spec {ops : Array Oper} {chk : Bool} {o : Oper} {f : FOp} (h : compF P ops chk o = some f) : FMatch P ops o f ∧ f.chk = chk := by
  unfold compF at h
  split at h
  · rename_i ao hao
    split at h
    · rename_i hg
      cases h
      exact ⟨⟨hao, rfl, by rw [hg]⟩, rfl⟩
    · rename_i j b hg
      split at h
      · rename_i d hd
        cases h
        exact ⟨⟨hao, rfl, by rw [hg]; exact ⟨d, hd, rfl⟩⟩, rfl⟩
      · cases h
  · cases h
theorem compL_spec {ops : Array Oper} {chkOf : Nat → Bool} : ∀ {l : List Oper} {i : Nat} {fl : List FOp}, compL P ops chkOf l i = some fl →
    fl.length = l.length ∧ ∀ (j : Nat) (o : Oper), l[j]? = some o → ∃ f, fl[j]? = some f ∧ FMatch P ops o f ∧ f.chk = chkOf (i + j)
  | [], i, fl, h => by cases h; exact ⟨rfl, fun j o hj => by simp at hj⟩
  | o :: r, i, fl, h => by
    unfold compL at h
    split at h
    · rename_i f fs hf hfs
      cases h
      obtain ⟨h1, h2⟩ := compL_spec hfs
      refine ⟨by simp [h1], fun j o' hj => ?_⟩
      cases j with
      | zero =>
        simp only [List.getElem?_cons_zero, Option.some.injEq] at hj
        subst hj
        obtain ⟨h3, h4⟩ := compF_spec hf
        exact ⟨f, rfl, h3, h4⟩
      | succ j =>
        obtain ⟨f', hf', h3, h4⟩ := h2 j o' hj
        exact ⟨f', hf', h3, by rw [h4]; congr 1; omega⟩
    · cases h

theorem getD_some {xs : Array Value} {i : Nat} {v : Value} (h : xs.getD i undef = v) (hv : v ≠ undef) : xs[i]? = some v := by
  rw [Array.getD_eq_getD_getElem?] at h
  cases hx : xs[i]? with
  | none => rw [hx] at h; exact absurd h.symm hv
  | some u => rw [hx] at h; exact congrArg some h
theorem bool_ne_undef (b : Bool) : Value.bool b ≠ undef := by intro h; cases h
theorem wanted_yes {ops : Array Oper} {o : Oper} {f : FOp} {e : Env} {a : Act} {N : Nat} (m : FMatch P ops o f) (fr : FR μ e a N) (hg : f.guard = none ∨ ∃ s b, f.guard = some (s, b) ∧ e s = .bool b) :
    Region.wanted o (yielded ops a.tmps) = true := by
  have hm := m.guard
  unfold Region.wanted
  split
  · rfl
  · rename_i j b hgo
    rw [hgo] at hm
    obtain ⟨d, hd, hfg⟩ := hm
    rcases hg with hg | ⟨s, b', hg, he⟩
    · rw [hg] at hfg; cases hfg
    · rw [hg] at hfg
      simp only [Option.some.injEq, Prod.mk.injEq] at hfg
      obtain ⟨h8, h9⟩ := hfg
      subst h8 h9
      have hr := fr.rel s
      rw [he] at hr
      generalize hx : a.tmps.getD s undef = x at hr
      cases hr
      have := getD_some hx (bool_ne_undef _)
      simp [yielded, hd, this]
theorem wanted_no {ops : Array Oper} {o : Oper} {f : FOp} {e : Env} {a : Act} {N : Nat} (m : FMatch P ops o f) (fr : FR μ e a N) {s : Nat} {b : Bool} (hg : f.guard = some (s, b)) (hs : e s = .bool (!b) ∨ e s = undef) :
    Region.wanted o (yielded ops a.tmps) = false := by
  have hm := m.guard
  unfold Region.wanted
  split
  · rename_i hgo
    rw [hgo] at hm
    rw [hg] at hm
    cases hm
  · rename_i j b' hgo
    rw [hgo] at hm
    obtain ⟨d, hd, hfg⟩ := hm
    rw [hg] at hfg
    obtain ⟨h8, h9⟩ : s = d ∧ b = b' := by cases hfg; exact ⟨rfl, rfl⟩
    subst h8 h9
    have hr := fr.rel s
    rcases hs with he | he
    · rw [he] at hr
      generalize hx : a.tmps.getD s undef = x at hr
      cases hr
      have := getD_some hx (bool_ne_undef _)
      simp [yielded, hd, this]
    · rw [he] at hr
      have hu : a.tmps.getD s undef = undef := VR.eq_of_noRef rfl hr
      rw [Array.getD_eq_getD_getElem?] at hu
      simp only [yielded, hd, Option.bind_some]
      cases hx : a.tmps[s]? with
      | none => rfl
      | some u =>
        rw [hx] at hu
        have hu' : u = undef := hu
        subst hu'
        rfl

theorem tr_text {F : Fence} {n N : Nat} {Γ : Callee} {ops : Array Oper} {fl : List FOp} {Q : Exit → Act → World → Prop} (hF : WideF F) (hΓ : CallOk P Γ) (hlen : fl.length = ops.size)
    (hm : ∀ (j : Nat) (o : Oper), ops[j]? = some o → ∃ f, fl[j]? = some f ∧ FMatch P ops o f) (hN : ∀ f ∈ fl, ∀ d, f.dst = some d → d < N) :
    ∀ {l : List FOp} {e e2 : Env} {h h2 : AHeap}, Tr Γ l e h e2 h2 → ∀ (k : Nat) (a : Act) (w : World) (μ : Ren), l = fl.drop k → FR μ e a N → Sim P μ h w →
      (∀ a' w' μ', FR μ' e2 a' N → Sim P μ' h2 w' → Ext μ h w μ' h2 w' → a'.defers = a.defers → Q .normal a' w') → wpOpsIn F n P ops Q (List.range' k l.length) a w := by
  intro l e e2 h h2 t
  induction t with
  | nil e h =>
    intro k a w μ _ fr s hQ
    exact hQ a w μ fr s (Ext.refl _ _ _ s.dom) rfl
  | weak hw _ ih =>
    intro k a w μ hl fr s hQ
    exact ih k a w μ hl (fr.weak hw) s hQ
  | @skip f l e e2 h h2 sl b hg hs _ ih =>
    intro k a w μ hl fr s hQ
    have hfk : fl[k]? = some f := by rw [← List.head?_drop, ← hl]; rfl
    have hk : k < ops.size := by rw [← hlen]; exact (List.getElem?_eq_some_iff.1 hfk).1
    have ho : ops[k]? = some ops[k] := Array.getElem?_eq_getElem hk
    obtain ⟨f', hf', m⟩ := hm k _ ho
    rw [hfk] at hf'
    cases hf'
    have hdrop : l = fl.drop (k + 1) := by
      have := congrArg List.tail hl
      rw [List.tail_drop] at this
      exact this
    have hrange : List.range' k (f :: l).length = k :: List.range' (k + 1) l.length := by simp [List.range'_succ]
    rw [hrange]
    simp only [wpOpsIn, ho]
    rw [wanted_no m fr hg hs]
    simp only [Bool.false_eq_true, if_false]
    refine ⟨fun f _ => hF.1 f, ?_⟩
    rw [m.dst]
    exact ih (k + 1) _ w μ hdrop (fr.put VR.undef f.dst (hN f (List.mem_of_getElem? hfk))) s (fun a' w' μ' h3 h4 h5 h6 => hQ a' w' μ' h3 h4 h5 (by rw [h6]; cases f.dst <;> rfl))
  | @exec f l e e2 h h1 h2 v hg hk hc _ ih =>
    intro k a w μ hl fr s hQ
    have hfk : fl[k]? = some f := by rw [← List.head?_drop, ← hl]; rfl
    have hkk : k < ops.size := by rw [← hlen]; exact (List.getElem?_eq_some_iff.1 hfk).1
    have ho : ops[k]? = some ops[k] := Array.getElem?_eq_getElem hkk
    obtain ⟨f', hf', m⟩ := hm k _ ho
    rw [hfk] at hf'
    cases hf'
    have hdrop : l = fl.drop (k + 1) := by
      have := congrArg List.tail hl
      rw [List.tail_drop] at this
      exact this
    have hrange : List.range' k (f :: l).length = k :: List.range' (k + 1) l.length := by simp [List.range'_succ]
    rw [hrange]
    simp only [wpOpsIn, ho]
    rw [wanted_yes m fr hg]
    simp only [if_true]
    refine op_wp hF m.op hΓ fr.op s hk (fun v' w1 μ1 hv hs hx => ?_)
    rw [m.dst]
    exact ih (k + 1) _ w1 μ1 hdrop ((fr.mono (hx.renLe s.dom)).put hv f.dst (hN f (List.mem_of_getElem? hfk))) hs (fun a' w' μ' h3 h4 h5 h6 => hQ a' w' μ' h3 h4 (hx.trans h5 s.dom) (by rw [h6]; cases f.dst <;> rfl))

end Go.Am
