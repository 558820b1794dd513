/- A region in whatever order its edges allow: the theorem. -/
import Derived.Test.YteedbdkhlgongaaAm14
set_option linter.unusedSimpArgs false
set_option linter.unusedVariables false
namespace Go.Am
variable {P : Program} {w : World}

def Hat (rs : List Rec) (h2 : AHeap) (i : Nat) : AHeap := ((rs[i]?).map (·.h)).getD h2
/-- The environment behind the operations that are listed. -/
def Cur (L : Nat → Bool) : Nat → List FOp → List Rec → Env → Env
  | k, f :: l, r :: rs, S => Cur L (k + 1) l rs (if L k = true then updO S f.dst r.v else S)
  | _, _, _, S => S
theorem recs_length {Γ : Callee} : ∀ {fl : List FOp} {rs : List Rec} {S S2 : Env} {h h2 : AHeap}, Recs Γ fl rs S h S2 h2 → rs.length = fl.length
  | [], [], _, _, _, _, _ => rfl
  | _ :: _, _ :: _, _, _, _, _, h => by simp [recs_length h.2.2.2]
  | [], _ :: _, _, _, _, _, h => h.elim
  | _ :: _, [], _, _, _, _, h => h.elim
theorem hat_zero {Γ : Callee} : ∀ {fl : List FOp} {rs : List Rec} {S S2 : Env} {h h2 : AHeap}, Recs Γ fl rs S h S2 h2 → Hat rs h2 0 = h
  | [], [], _, _, _, _, hr => hr.2
  | _ :: _, _ :: _, _, _, _, _, hr => hr.1
  | [], _ :: _, _, _, _, _, h => h.elim
  | _ :: _, [], _, _, _, _, h => h.elim
theorem hat_succ (r : Rec) (rs : List Rec) (h2 : AHeap) (i : Nat) : Hat (r :: rs) h2 (i + 1) = Hat rs h2 i := rfl
theorem cur_ext {L L' : Nat → Bool} : ∀ (fl : List FOp) (rs : List Rec) (k : Nat) (S : Env), (∀ i, L (k + i) = L' (k + i)) → Cur L k fl rs S = Cur L' k fl rs S
  | f :: l, r :: rs, k, S, h => by
    simp only [Cur]
    rw [show L k = L' k from h 0]
    exact cur_ext l rs (k + 1) _ (fun i => by have := h (i + 1); rwa [show k + (i + 1) = k + 1 + i from by omega] at this)
  | [], _, _, _, _ => by simp [Cur]
  | _ :: _, [], _, _, _ => by simp [Cur]
theorem cur_none {L : Nat → Bool} : ∀ (fl : List FOp) (rs : List Rec) (k : Nat) (S : Env), (∀ i, i < fl.length → L (k + i) = false) → Cur L k fl rs S = S
  | f :: l, r :: rs, k, S, h => by
    simp only [Cur]
    rw [show L k = false from h 0 (by simp)]
    simp only [Bool.false_eq_true, if_false]
    exact cur_none l rs (k + 1) S (fun i hi => by have := h (i + 1) (by simp; omega); rwa [show k + (i + 1) = k + 1 + i from by omega] at this)
  | [], _, _, _, _ => by simp [Cur]
  | _ :: _, [], _, _, _ => by simp [Cur]
/-- What each operation's own record is, by its number. -/
theorem recs_at {Γ : Callee} : ∀ {fl : List FOp} {rs : List Rec} {S S2 : Env} {h h2 : AHeap}, Recs Γ fl rs S h S2 h2 → ∀ (i : Nat) (f : FOp), fl[i]? = some f →
    ∃ r, rs[i]? = some r ∧ RecOk Γ f r ∧ Weaker r.e (Cur (fun j => decide (j < i)) 0 fl rs S) ∧ r.h = Hat rs h2 i ∧ r.h' = Hat rs h2 (i + 1)
  | f0 :: l, r0 :: rs, S, S2, h, h2, hr, 0, f, hf => by
    simp only [List.getElem?_cons_zero, Option.some.injEq] at hf
    subst hf
    refine ⟨r0, rfl, hr.2.2.1, ?_, rfl, ?_⟩
    · rw [cur_none _ _ _ _ (fun i _ => by simp)]
      exact hr.2.1
    · rw [hat_succ, hat_zero hr.2.2.2]
  | f0 :: l, r0 :: rs, S, S2, h, h2, hr, i + 1, f, hf => by
    simp only [List.getElem?_cons_succ] at hf
    obtain ⟨r, h3, h4, h5, h6, h7⟩ := recs_at hr.2.2.2 i f hf
    refine ⟨r, h3, h4, ?_, h6, h7⟩
    have hshift : ∀ (l : List FOp) (rs : List Rec) (k : Nat) (S : Env), Cur (fun j => decide (j < i + 1)) (k + 1) l rs S = Cur (fun j => decide (j < i)) k l rs S := by
      intro l
      induction l with
      | nil => intros; simp [Cur]
      | cons f l ih =>
        intro rs k S
        cases rs with
        | nil => simp [Cur]
        | cons r rs =>
          simp only [Cur]
          rw [ih]
          simp
    simp only [Cur]
    rw [hshift]
    simp only [Nat.zero_lt_succ, decide_true, if_true]
    exact h5
  | [], [], _, _, _, _, _, i, f, hf => by simp at hf
  | [], _ :: _, _, _, _, _, h, _, _, _ => h.elim
  | _ :: _, [], _, _, _, _, h, _, _, _ => h.elim
/-- Which value a slot has: of the one listed operation that writes it, or as it was. -/
theorem cur_spec {L : Nat → Bool} {t : Nat} : ∀ (fl : List FOp) (rs : List Rec) (k : Nat) (S : Env), rs.length = fl.length → (∀ (i j : Nat) (f f' : FOp), i ≠ j → fl[i]? = some f → fl[j]? = some f' → f.dst = some t → f'.dst ≠ some t) →
    (∀ (j : Nat) (f : FOp) (r : Rec), fl[j]? = some f → rs[j]? = some r → L (k + j) = true → f.dst = some t → Cur L k fl rs S t = r.v) ∧
    ((∀ (j : Nat) (f : FOp), fl[j]? = some f → L (k + j) = true → f.dst ≠ some t) → Cur L k fl rs S t = S t)
  | [], [], k, S, _, _ => ⟨fun j f r hf => by simp at hf, fun _ => rfl⟩
  | [], _ :: _, _, _, h, _ => by simp at h
  | _ :: _, [], _, _, h, _ => by simp at h
  | f0 :: l, r0 :: rs, k, S, hlen, hd => by
    have hd' : ∀ (i j : Nat) (f f' : FOp), i ≠ j → l[i]? = some f → l[j]? = some f' → f.dst = some t → f'.dst ≠ some t := fun i j f f' hij hi hj => hd (i + 1) (j + 1) f f' (by omega) hi hj
    obtain ⟨g1, g2⟩ := cur_spec (L := L) (t := t) l rs (k + 1) (if L k = true then updO S f0.dst r0.v else S) (by simpa using hlen) hd'
    constructor
    · intro j f r hf hr hL hdst
      cases j with
      | zero =>
        simp only [List.getElem?_cons_zero, Option.some.injEq] at hf hr
        subst hf hr
        simp only [Cur]
        rw [g2 (fun j f hf hL' hdst' => hd 0 (j + 1) f0 f (by omega) rfl hf hdst hdst'), if_pos (by simpa using hL), hdst]
        exact upd_self _ _ _
      | succ j =>
        simp only [List.getElem?_cons_succ] at hf hr
        simp only [Cur]
        exact g1 j f r hf hr (by rwa [show k + (j + 1) = k + 1 + j from by omega] at hL) hdst
    · intro hno
      simp only [Cur]
      rw [g2 (fun j f hf hL => hno (j + 1) f hf (by rwa [show k + (j + 1) = k + 1 + j from by omega]))]
      split
      · rename_i hLk
        exact updO_ne (fun j hj => by rintro rfl; exact hno 0 f0 rfl hLk hj)
      · rfl
theorem recs_end {Γ : Callee} : ∀ {fl : List FOp} {rs : List Rec} {S S2 : Env} {h h2 : AHeap} {L : Nat → Bool} {k : Nat}, Recs Γ fl rs S h S2 h2 → (∀ i, i < fl.length → L (k + i) = true) → Cur L k fl rs S = S2
  | [], [], _, _, _, _, _, _, hr, _ => by simp only [Cur]; exact hr.1.symm
  | f :: l, r :: rs, S, S2, h, h2, L, k, hr, hL => by
    simp only [Cur]
    rw [if_pos (show L k = true from hL 0 (by simp))]
    exact recs_end hr.2.2.2 (fun i hi => by have := hL (i + 1) (by simp; omega); rwa [show k + (i + 1) = k + 1 + i from by omega] at this)
  | [], _ :: _, _, _, _, _, _, _, h, _ => h.elim
  | _ :: _, [], _, _, _, _, _, _, h, _ => h.elim

/-- What the text's order tells of the memory ahead of each operation. -/
theorem recs_text {Γ : Callee} {N : Nat} (hΓ : CallOk P Γ) : ∀ {fl : List FOp} {rs : List Rec} {S S2 : Env} {h h2 : AHeap} {μ : Ren} {a : Act} {w : World}, Recs Γ fl rs S h S2 h2 →
    (∀ f ∈ fl, (∃ o : Oper, compOp P o.op = some f.op) ∧ ∀ d, f.dst = some d → d < N) → FR μ S a N → Sim P μ h w → ∀ i, i ≤ fl.length →
    ∃ μt at_ wt, FR μt (Cur (fun j => decide (j < i)) 0 fl rs S) at_ N ∧ Sim P μt (Hat rs h2 i) wt ∧ Ext μ h w μt (Hat rs h2 i) wt
  | [], [], S, S2, h, h2, μ, a, w, hr, _, fr, s, i, hi => by
    have h0 : i = 0 := by simpa using hi
    subst h0
    have hh : Hat [] h2 0 = h := hr.2
    rw [hh]
    exact ⟨μ, a, w, fr, s, Ext.refl _ _ _ s.dom⟩
  | f :: l, r :: rs, S, S2, h, h2, μ, a, w, hr, hm, fr, s, i, hi => by
    obtain ⟨rfl, hw, hok, hrest⟩ := hr
    cases i with
    | zero =>
      rw [cur_none _ _ _ _ (fun i _ => by simp)]
      exact ⟨μ, a, w, fr, s, Ext.refl _ _ _ s.dom⟩
    | succ i =>
      have hstep : ∃ μ1 a1 w1, FR μ1 (updO S f.dst r.v) a1 N ∧ Sim P μ1 r.h' w1 ∧ Ext μ r.h w μ1 r.h' w1 := by
        cases hran : r.ran with
        | true =>
          obtain ⟨_, hk⟩ := hok.run hran
          obtain ⟨⟨o, ho⟩, hN⟩ := hm f (by simp)
          obtain ⟨v', w1, μ1, h3, h4, h5⟩ := op_exists ho hΓ (fr.weak hw).op s hk
          exact ⟨μ1, a.put f.dst v', w1, (fr.mono (h5.renLe s.dom)).put h3 f.dst hN, h4, h5⟩
        | false =>
          obtain ⟨_, hv, hh⟩ := hok.skip hran
          rw [hv, hh]
          exact ⟨μ, a.put f.dst undef, w, fr.put VR.undef f.dst (hm f (by simp)).2, s, Ext.refl _ _ _ s.dom⟩
      obtain ⟨μ1, a1, w1, fr1, s1, x1⟩ := hstep
      obtain ⟨μt, at_, wt, h6, h7, h8⟩ := recs_text hΓ hrest (fun f hf => hm f (by simp [hf])) fr1 s1 i (by simpa using hi)
      refine ⟨μt, at_, wt, ?_, h7, x1.trans h8 s.dom⟩
      have hshift : ∀ (l : List FOp) (rs : List Rec) (k : Nat) (S : Env), Cur (fun j => decide (j < i + 1)) (k + 1) l rs S = Cur (fun j => decide (j < i)) k l rs S := by
        intro l
        induction l with
        | nil => intros; simp [Cur]
        | cons f l ih =>
          intro rs k S
          cases rs with
          | nil => simp [Cur]
          | cons r rs =>
            simp only [Cur]
            rw [ih]
            simp
      simp only [Cur]
      rw [hshift]
      simp only [Nat.zero_lt_succ, decide_true, if_true]
      exact h6
  | [], _ :: _, _, _, _, _, _, _, _, h, _, _, _, _, _ => h.elim
  | _ :: _, [], _, _, _, _, _, _, _, h, _, _, _, _, _ => h.elim

end Go.Am
