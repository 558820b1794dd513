/- Regions: from the tree of steps to the list of operations, and the text's order. -/
import Derived.Test.YteedbdkhlgongaaAm10
set_option linter.unusedSimpArgs false
set_option linter.unusedVariables false
namespace Go.Am
variable {P : Program} {μ : Ren} {w : World}

/-! ### Environments -/
theorem upd_self (e : Env) (i : Nat) (v : Value) : upd e i v i = v := by simp [upd]
theorem upd_ne (e : Env) {i j : Nat} (v : Value) (h : i ≠ j) : upd e i v j = e j := by
  have : Nat.beq i j = false := by
    cases hb : Nat.beq i j with
    | false => rfl
    | true => exact absurd (Nat.eq_of_beq_eq_true hb) h
  simp [upd, this]
/-- e' knows no more than e. -/
def Weaker (e' e : Env) : Prop := ∀ i, e' i = e i ∨ e' i = junk
theorem Weaker.refl (e : Env) : Weaker e e := fun _ => .inl rfl
theorem junkAll_mem {e : Env} : ∀ {l : List Nat} {i : Nat}, i ∈ l → junkAll e l i = junk
  | j :: l, i, h => by
    unfold junkAll
    by_cases hj : j = i
    · subst hj; exact upd_self _ _ _
    · rw [upd_ne _ _ hj]
      exact junkAll_mem (by simpa [Ne.symm hj] using h)
theorem junkAll_not {e : Env} : ∀ {l : List Nat} {i : Nat}, i ∉ l → junkAll e l i = e i
  | [], _, _ => rfl
  | j :: l, i, h => by
    simp only [List.mem_cons, not_or] at h
    unfold junkAll
    rw [upd_ne _ _ (Ne.symm h.1)]
    exact junkAll_not h.2

structure FR (μ : Ren) (e : Env) (a : Act) (N : Nat) : Prop where
  size : a.tmps.size = N
  rel : ∀ i, VR μ (e i) (a.tmps.getD i undef)
theorem FR.op {e : Env} {a : Act} {N : Nat} (f : FR μ e a N) : OpR μ e a.eval := by
  intro x hx
  cases x with
  | tmp t => exact f.rel t
  | const v => exact VR.of_noRef hx
  | global g => cases hx
  | func g => exact .func g .nil .nil
theorem FR.mono {μ' : Ren} {e : Env} {a : Act} {N : Nat} (f : FR μ e a N) (h : RenLe μ μ') : FR μ' e a N := ⟨f.size, fun i => (f.rel i).mono h⟩
theorem FR.weak {e e' : Env} {a : Act} {N : Nat} (f : FR μ e a N) (h : Weaker e' e) : FR μ e' a N :=
  ⟨f.size, fun i => by
    rcases h i with h | h
    · rw [h]; exact f.rel i
    · rw [h]; exact .junk _⟩
theorem FR.put {e : Env} {a : Act} {N : Nat} {v v' : Value} (f : FR μ e a N) (hv : VR μ v v') (d : Option Nat) (hd : ∀ i, d = some i → i < N) : FR μ (updO e d v) (a.put d v') N := by
  cases d with
  | none => exact f
  | some i =>
    refine ⟨by simp [Act.put, f.size], fun j => ?_⟩
    show VR μ (upd e i v j) _
    have hi : i < a.tmps.size := by rw [f.size]; exact hd i rfl
    by_cases h : i = j
    · subst h
      rw [upd_self]
      simp [Act.put, hi]
      exact hv
    · rw [upd_ne _ _ h]
      have := f.rel j
      simp only [Act.put, Array.getD_eq_getD_getElem?] at this ⊢
      rw [Array.getElem?_setIfInBounds_ne h]
      exact this

/-! ### The list of operations -/

inductive Tr (Γ : Callee) : List FOp → Env → AHeap → Env → AHeap → Prop
  | nil (e : Env) (h : AHeap) : Tr Γ [] e h e h
  | weak {l : List FOp} {e e' e2 : Env} {h h2 : AHeap} (hw : Weaker e' e) (ht : Tr Γ l e' h e2 h2) : Tr Γ l e h e2 h2
  | skip {f : FOp} {l : List FOp} {e e2 : Env} {h h2 : AHeap} {s : Nat} {b : Bool} (hg : f.guard = some (s, b)) (hs : e s = .bool (!b) ∨ e s = undef)
      (ht : Tr Γ l (updO e f.dst undef) h e2 h2) : Tr Γ (f :: l) e h e2 h2
  | exec {f : FOp} {l : List FOp} {e e2 : Env} {h h1 h2 : AHeap} {v : Value} (hg : f.guard = none ∨ ∃ s b, f.guard = some (s, b) ∧ e s = .bool b)
      (hk : opK Γ f.op e h (fun v h' => some (v, h')) = some (v, h1)) (hc : f.chk = true → h <+: h1) (ht : Tr Γ l (updO e f.dst v) h1 e2 h2) : Tr Γ (f :: l) e h e2 h2
theorem Tr.append {Γ : Callee} {l l' : List FOp} {e e1 e2 : Env} {h h1 h2 : AHeap} (t : Tr Γ l e h e1 h1) (t' : Tr Γ l' e1 h1 e2 h2) : Tr Γ (l ++ l') e h e2 h2 := by
  induction t with
  | nil => exact t'
  | weak hw _ ih => exact .weak hw (ih t')
  | skip hg hs _ ih => exact .skip hg hs (ih t')
  | exec hg hk hc _ ih => exact .exec hg hk hc (ih t')

theorem opK_bind {R : Type} {Γ : Callee} {o : AOp} {e : Env} {h : AHeap} {k : Value → AHeap → Option R} {r : R} (hk : opK Γ o e h k = some r) :
    ∃ v h1, opK Γ o e h (fun v h' => some (v, h')) = some (v, h1) ∧ k v h1 = some r := by
  cases o <;> (try (exfalso; simp only [opK, reduceCtorEq] at hk; done)) <;> simp only [opK, Option.bind_eq_some_iff] at hk ⊢ <;> first
    | exact ⟨_, _, rfl, hk⟩
    | (obtain ⟨u, hu, hk⟩ := hk; exact ⟨_, _, ⟨u, hu, rfl⟩, hk⟩)
theorem chkK_some {R : Type} {chk : Bool} {h h1 : AHeap} {m : Option R} {r : R} (hk : chkK chk h h1 m = some r) : m = some r ∧ (chk = true → h <+: h1) := by
  unfold chkK at hk
  cases chk with
  | true =>
    simp only [sameQ] at hk
    split at hk
    · rename_i hp; exact ⟨hk, fun _ => hp⟩
    · cases hk
  | false => exact ⟨hk, fun h => by cases h⟩

/-- What is not written stays. -/
theorem Weaker.updO {e' e : Env} (h : Weaker e' e) (d : Option Nat) (v : Value) : Weaker (Am.updO e' d v) (Am.updO e d v) := by
  cases d with
  | none => exact h
  | some i =>
    intro j
    by_cases hj : i = j
    · subst hj; left; simp [Am.updO, upd_self]
    · simp only [Am.updO, upd_ne _ _ hj]; exact h j
theorem not_contains {l : List Nat} {i : Nat} (h : (!l.contains i) = true) : i ∉ l := by simpa using h
theorem contains_mem {l : List Nat} {i : Nat} (h : l.contains i = true) : i ∈ l := by simpa using h
structure OkSc (gs : List Nat) (df : Option (List Nat)) (d c : Nat) (tmp : List Nat) (body rest : ASteps) : Prop where
  hd : d ∉ gs
  htmp : ∀ i ∈ tmp, i ∉ gs ∧ i ≠ c
  hc : ∀ l, df = some l → c ∈ l
  hdsts : ∀ i ∈ dstsS body, i ∈ tmp
  hwrites : ∀ i ∈ writesS body, i ∈ tmp
  hdc : d ≠ c
  hbody : okS (c :: gs) (some []) body = true
  hrest : okS gs (df.map (dstsS body ++ [d] ++ ·)) rest = true
theorem okSc {gs : List Nat} {df : Option (List Nat)} {d c : Nat} {isAnd : Bool} {tmp : List Nat} {body rest : ASteps} {y : Operand} (h : okS gs df (.sc d c isAnd tmp body y rest) = true) : OkSc gs df d c tmp body rest := by
  simp only [okS, Bool.and_eq_true] at h
  obtain ⟨⟨⟨⟨⟨⟨⟨h1, h2⟩, h3⟩, h4⟩, h5⟩, h6⟩, h7⟩, h8⟩ := h
  refine ⟨not_contains h1, fun i hi => ?_, fun l hl => ?_, fun i hi => contains_mem (List.all_eq_true.1 h4 i hi), fun i hi => contains_mem (List.all_eq_true.1 h5 i hi), by simpa using h6, h7, h8⟩
  · have := List.all_eq_true.1 h2 i hi
    simp only [Bool.and_eq_true] at this
    exact ⟨not_contains this.1, by simpa using this.2⟩
  · subst hl
    exact contains_mem (by simpa using h3)
theorem okSop {gs : List Nat} {df : Option (List Nat)} {d : Option Nat} {o : AOp} {chk : Bool} {rest : ASteps} (h : okS gs df (.op d o chk rest) = true) : (∀ i, d = some i → i ∉ gs) ∧ okS gs (df.map (d.toList ++ ·)) rest = true := by
  simp only [okS, Bool.and_eq_true] at h
  refine ⟨?_, h.2⟩
  rintro i rfl
  exact not_contains (by simpa using h.1)
theorem updO_ne {e : Env} {d : Option Nat} {v : Value} {i : Nat} (h : ∀ j, d = some j → j ≠ i) : updO e d v i = e i := by
  cases d with
  | none => rfl
  | some j => exact upd_ne _ _ (h j rfl)
/-- A group that is not performed: its operations are skipped, one and all. -/
theorem skip_tr {Γ : Callee} : ∀ (s : ASteps) (gs df : List Nat) (e : Env) (h : AHeap) (c : Nat) (b : Bool), okS gs (some df) s = true → c ∈ gs → (e c = .bool (!b) ∨ e c = undef) → (∀ i ∈ df, e i = undef) →
    ∃ e2, Tr Γ (eraseS s (some (c, b))) e h e2 h ∧ (∀ i, i ∉ dstsS s → e2 i = e i) ∧ (∀ i ∈ dstsS s, e2 i = undef)
  | .nil, gs, df, e, h, c, b, _, _, _, hdf => ⟨e, .nil e h, fun _ _ => rfl, fun i hi => by cases hi⟩
  | .op d o chk rest, gs, df, e, h, c, b, hok, hc, he, hdf => by
    obtain ⟨h1, h2⟩ := okSop hok
    have hec : updO e d undef c = e c := updO_ne (by rintro j rfl rfl; exact h1 j rfl hc)
    have hdd : ∀ i ∈ d.toList ++ df, updO e d undef i = undef := by
      intro i hi
      by_cases hid : d = some i
      · subst hid; exact upd_self _ _ _
      · rw [updO_ne (by rintro j rfl rfl; exact hid rfl)]
        refine hdf i ?_
        rcases List.mem_append.1 hi with h | h
        · exact absurd (by simpa using h) hid
        · exact h
    obtain ⟨e2, ht, h3, h4⟩ := skip_tr (Γ := Γ) rest gs (d.toList ++ df) (updO e d undef) h c b h2 hc (by rw [hec]; exact he) hdd
    refine ⟨e2, .skip rfl he ht, fun i hi => ?_, fun i hi => ?_⟩
    · simp only [dstsS, List.mem_append, not_or] at hi
      rw [h3 i hi.2]
      exact updO_ne (by rintro j rfl rfl; exact hi.1 (by simp))
    · simp only [dstsS, List.mem_append] at hi
      by_cases hir : i ∈ dstsS rest
      · exact h4 i hir
      · rw [h3 i hir]
        exact hdd i (List.mem_append.2 (.inl (hi.resolve_right hir)))
  | .sc d c' isAnd tmp body y rest, gs, df, e, h, c, b, hok, hc, he, hdf => by
    have k := okSc hok
    obtain ⟨e1, t1, g1, g2⟩ := skip_tr (Γ := Γ) body (c' :: gs) [] e h c' isAnd k.hbody (by simp) (.inr (hdf c' (k.hc df rfl))) (by simp)
    have hcw : c ∉ dstsS body := fun hcw => (k.htmp c (k.hdsts c hcw)).1 hc
    have hdc : d ≠ c := by rintro rfl; exact k.hd hc
    have hdd : ∀ i ∈ dstsS body ++ [d] ++ df, upd e1 d undef i = undef := by
      intro i hi
      by_cases hid : d = i
      · subst hid; exact upd_self _ _ _
      · rw [upd_ne _ _ hid]
        by_cases hib : i ∈ dstsS body
        · exact g2 i hib
        · rw [g1 i hib]
          refine hdf i ?_
          simp only [List.mem_append, List.mem_singleton] at hi
          rcases hi with (h | h) | h
          · exact absurd h hib
          · exact absurd h.symm hid
          · exact h
    have hce : e1 c = e c := g1 c hcw
    obtain ⟨e2, t2, k1, k2⟩ := skip_tr (Γ := Γ) rest gs (dstsS body ++ [d] ++ df) (upd e1 d undef) h c b k.hrest hc (by rw [upd_ne _ _ hdc, hce]; exact he) hdd
    refine ⟨e2, t1.append (.skip (s := c) (b := b) rfl (by rw [hce]; exact he) t2), fun i hi => ?_, fun i hi => ?_⟩
    · simp only [dstsS, List.mem_append, List.mem_cons, not_or] at hi
      rw [k1 i hi.2.2, upd_ne _ _ (Ne.symm hi.2.1), g1 i hi.1]
    · by_cases hir : i ∈ dstsS rest
      · exact k2 i hir
      · rw [k1 i hir]
        refine hdd i ?_
        simp only [dstsS, List.mem_append, List.mem_cons] at hi
        simp only [List.mem_append, List.mem_singleton]
        rcases hi with h | h | h
        · exact .inl (.inl h)
        · exact .inl (.inr h)
        · exact absurd h hir

/-- From the steps to the list of operations. -/
theorem steps_tr {R : Type} {Γ : Callee} : ∀ (s : ASteps) (gs : List Nat) (df : Option (List Nat)) (g : Option (Nat × Bool)) (K : Env → AHeap → Option R) (e : Env) (h : AHeap) (r : R), okS gs df s = true →
    (∀ c b, g = some (c, b) → c ∈ gs ∧ e c = .bool b) → stepsK Γ s K e h = some r →
    ∃ e2 h2, Tr Γ (eraseS s g) e h e2 h2 ∧ K e2 h2 = some r ∧ (∀ i, i ∉ writesS s → e2 i = e i)
  | .nil, _, _, _, K, e, h, r, _, _, hk => ⟨e, h, .nil e h, hk, fun _ _ => rfl⟩
  | .op d o chk rest, gs, df, g, K, e, h, r, hok, hg, hk => by
    obtain ⟨h1, h2⟩ := okSop hok
    obtain ⟨v, h', hop, hk⟩ := opK_bind hk
    obtain ⟨hk, hch⟩ := chkK_some hk
    have hgu : g = none ∨ ∃ s b, g = some (s, b) ∧ e s = .bool b := by
      cases g with
      | none => exact .inl rfl
      | some p => exact .inr ⟨p.1, p.2, rfl, (hg p.1 p.2 rfl).2⟩
    obtain ⟨e2, h2', ht, hK, hw⟩ := steps_tr rest gs _ g K (updO e d v) h' r h2 (fun c b hgc => ⟨(hg c b hgc).1, by
      rw [updO_ne (by rintro j rfl rfl; exact h1 j rfl (hg _ b hgc).1)]
      exact (hg c b hgc).2⟩) hk
    refine ⟨e2, h2', .exec hgu hop hch ht, hK, fun i hi => ?_⟩
    simp only [writesS, List.mem_append, not_or] at hi
    rw [hw i hi.2]
    exact updO_ne (by rintro j rfl rfl; exact hi.1 (by simp))
  | .sc d c isAnd tmp body y rest, gs, df, g, K, e, h, r, hok, hg, hk => by
    have k := okSc hok
    simp only [stepsK, J1] at hk
    -- behind the group: the pick, and the rest
    have fin : ∀ (e1 : Env) (h1 : AHeap) (v : Value), Tr Γ (eraseS body (some (c, isAnd))) e h e1 h1 → (∀ i, i ∉ tmp → e1 i = e i) →
        opK Γ (.pick (.tmp c) (if isAnd then y else .const (.bool true)) (if isAnd then .const (.bool false) else y)) e1 h1 (fun v h' => some (v, h')) = some (v, h1) →
        stepsK Γ rest K (upd (junkAll e tmp) d v) h1 = some r →
        ∃ e2 h2, Tr Γ (eraseS (.sc d c isAnd tmp body y rest) g) e h e2 h2 ∧ K e2 h2 = some r ∧ (∀ i, i ∉ writesS (.sc d c isAnd tmp body y rest) → e2 i = e i) := by
      intro e1 h1 v ht he1 hop hk
      have hgt : ∀ c' b, g = some (c', b) → c' ∉ tmp := fun c' b hgc hct => (k.htmp c' hct).1 (hg c' b hgc).1
      have hgu : g = none ∨ ∃ s b, g = some (s, b) ∧ e1 s = .bool b := by
        cases g with
        | none => exact .inl rfl
        | some p => exact .inr ⟨p.1, p.2, rfl, by rw [he1 _ (hgt p.1 p.2 rfl)]; exact (hg p.1 p.2 rfl).2⟩
      have hwk : Weaker (upd (junkAll e tmp) d v) (updO e1 (some d) v) := by
        intro i
        show upd (junkAll e tmp) d v i = upd e1 d v i ∨ _
        by_cases hid : d = i
        · subst hid; left; rw [upd_self, upd_self]
        · rw [upd_ne _ _ hid, upd_ne _ _ hid]
          by_cases hit : i ∈ tmp
          · right; exact junkAll_mem hit
          · left; rw [junkAll_not hit, he1 i hit]
      obtain ⟨e2, h2, ht2, hK, hw⟩ := steps_tr rest gs _ g K (upd (junkAll e tmp) d v) h1 r k.hrest (fun c' b hgc => ⟨(hg c' b hgc).1, by
        have hdc' : d ≠ c' := by rintro rfl; exact k.hd (hg _ b hgc).1
        rw [upd_ne _ _ hdc', junkAll_not (hgt c' b hgc)]
        exact (hg c' b hgc).2⟩) hk
      refine ⟨e2, h2, ht.append (.exec hgu hop (fun h => by cases h) (.weak hwk ht2)), hK, fun i hi => ?_⟩
      simp only [writesS, List.mem_append, List.mem_cons, not_or] at hi
      rw [hw i hi.2.2, upd_ne _ _ (Ne.symm hi.1), junkAll_not hi.2.1.1]
    unfold scK at hk
    split at hk
    · rename_i t hec
      split at hk
      · rename_i hti
        subst hti
        obtain ⟨e1, h1, ht, hK, hw⟩ := steps_tr body (c :: gs) (some []) (some (c, t)) _ e h r k.hbody (fun c' b hgc => by cases hgc; exact ⟨by simp, hec⟩) hk
        have hcw : c ∉ tmp := fun hct => (k.htmp c hct).2 rfl
        have he1 : ∀ i, i ∉ tmp → e1 i = e i := fun i hi => hw i (fun hiw => hi (k.hwrites i hiw))
        have hec1 : e1 c = .bool t := by rw [he1 c hcw]; exact hec
        refine fin e1 h1 (val e1 y) ht he1 ?_ hK
        cases t <;> simp [opK, val, hec1, pickf]
      · rename_i hti
        have ht' : t = !isAnd := by cases t <;> cases isAnd <;> simp_all
        subst ht'
        obtain ⟨e1, ht, hw, _⟩ := skip_tr (Γ := Γ) body (c :: gs) [] e h c isAnd k.hbody (by simp) (.inl hec) (by simp)
        have hcw : c ∉ tmp := fun hct => (k.htmp c hct).2 rfl
        have he1 : ∀ i, i ∉ tmp → e1 i = e i := fun i hi => hw i (fun hiw => hi (k.hdsts i hiw))
        have hec1 : e1 c = .bool (!isAnd) := by rw [he1 c hcw]; exact hec
        refine fin e1 h (.bool !isAnd) ht he1 ?_ hk
        cases isAnd <;> simp [opK, val, hec1, pickf]
    · cases hk

end Go.Am
