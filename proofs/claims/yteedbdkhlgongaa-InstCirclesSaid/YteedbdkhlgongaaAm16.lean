/- A region in whatever order its edges allow: the theorem. -/
import Derived.Test.YteedbdkhlgongaaAm15
set_option linter.unusedSimpArgs false
set_option linter.unusedVariables false
namespace Go.Am
variable {P : Program}

/-- What is asked of the edges. B: for each operation, the bits of those that come ahead of it in every order. -/
structure OrdOk (ops : Array Oper) (fl : List FOp) (B : List Nat) : Prop where
  edges : ∀ (i : Nat) (o : Oper), ops[i]? = some o → ∀ e ∈ o.after.toList, Region.binds .any e = true → e.on < i
  cert : ∀ (i j : Nat) (o : Oper), ops[i]? = some o → (B.getD i 0).testBit j = true → ∃ e ∈ o.after.toList, Region.binds .any e = true ∧ (j = e.on ∨ (B.getD e.on 0).testBit j = true)
  dist : ∀ (i j : Nat) (f f' : FOp) (t : Nat), i ≠ j → fl[i]? = some f → fl[j]? = some f' → f.dst = some t → f'.dst ≠ some t
  look : ∀ (i j : Nat) (f f' : FOp) (t : Nat), i < j → fl[i]? = some f → fl[j]? = some f' → ((f.dst = some t ∧ t ∈ looksF f') ∨ (f'.dst = some t ∧ t ∈ looksF f)) → (B.getD j 0).testBit i = true
  wr : ∀ (i : Nat) (f : FOp), fl[i]? = some f → mayWrite f.op = true → f.chk = false → ∀ (j : Nat) (f' : FOp), fl[j]? = some f' → loud f'.op = true →
    (i < j → (B.getD j 0).testBit i = true) ∧ (j < i → (B.getD i 0).testBit j = true ∨ exempt fl i j = true)

/-- What is listed holds with each operation all that is ahead of it. -/
def Closed (ops : Array Oper) (L : Nat → Bool) : Prop := ∀ (i : Nat) (o : Oper), ops[i]? = some o → L i = true → ∀ e ∈ o.after.toList, Region.binds .any e = true → L e.on = true
theorem bef_listed {ops : Array Oper} {fl : List FOp} {B : List Nat} (ok : OrdOk ops fl B) {L : Nat → Bool} (hc : Closed ops L) : ∀ (m i : Nat), i ≤ m → ∀ o, ops[i]? = some o →
    (∀ e ∈ o.after.toList, Region.binds .any e = true → L e.on = true) → ∀ j, (B.getD i 0).testBit j = true → L j = true := by
  intro m
  induction m with
  | zero =>
    intro i hi o ho he j hj
    obtain ⟨e, hem, heb, hcase⟩ := ok.cert i j o ho hj
    have := ok.edges i o ho e hem heb
    omega
  | succ m ih =>
    intro i hi o ho he j hj
    obtain ⟨e, hem, heb, hcase⟩ := ok.cert i j o ho hj
    have hlt := ok.edges i o ho e hem heb
    rcases hcase with rfl | hcase
    · exact he e hem heb
    · have hsz : e.on < ops.size := by have := (Array.getElem?_eq_some_iff.1 ho).1; omega
      have ho' : ops[e.on]? = some ops[e.on] := Array.getElem?_eq_getElem hsz
      exact ih e.on (by omega) _ ho' (hc e.on _ ho' (he e hem heb)) j hcase

section
variable {F : Fence} {n N : Nat} {Γ : Callee} {ops : Array Oper} {fl : List FOp} {rs : List Rec} {S0 S2 : Env} {h0 h2 : AHeap} {B : List Nat} {Q : Exit → Act → World → Prop} {μ0 : Ren} {a0 : Act} {w0 : World}

def Calm (rs : List Rec) (h2 : AHeap) (i : Nat) : Prop := Hat rs h2 i <+: Hat rs h2 (i + 1)

/-- A state on the way. -/
structure AnyInv (P : Program) (fl : List FOp) (rs : List Rec) (S0 : Env) (h0 h2 : AHeap) (μ0 : Ren) (a0 : Act) (w0 : World) (N : Nat) (L : Nat → Bool) (μ : Ren) (q : Nat) (a : Act) (w : World) : Prop where
  le : q ≤ fl.length
  done : ∀ i, i < q → ¬ Calm rs h2 i → L i = true
  next : q < fl.length → ¬ Calm rs h2 q ∧ L q = false
  later : ∀ i f, q < i → fl[i]? = some f → loud f.op = true → L i = false
  sim : Sim P μ (Hat rs h2 q) w
  ext : ExtP μ0 h0 w0 μ (Hat rs h2 q) w
  mapped : ∀ i, i < q → L i = true → ∀ b, (Hat rs h2 i).length ≤ b → b < (Hat rs h2 (i + 1)).length → live (Hat rs h2 q) b → ∃ l, μ b = some l
  free : ∀ i, i < q → L i = false → ∀ b, (Hat rs h2 i).length ≤ b → b < (Hat rs h2 (i + 1)).length → μ b = none
  size : a.tmps.size = N
  slots : ∀ t, VR μ (Cur L 0 fl rs S0 t) (a.tmps.getD t undef)
  defers : a.defers = a0.defers

theorem chain_prefix {i q : Nat} (h : ∀ k, i ≤ k → k < q → Calm rs h2 k) (hiq : i ≤ q) : Hat rs h2 i <+: Hat rs h2 q := by
  induction q with
  | zero => have : i = 0 := by omega
            subst this
            exact List.prefix_refl _
  | succ q ih =>
    by_cases hq : i = q + 1
    · subst hq; exact List.prefix_refl _
    · exact (ih (fun k h1 h2 => h k h1 (by omega)) (by omega)).trans (h q (by omega) (by omega))
theorem prefix_get {α : Type} {l l' : List α} (h : l <+: l') {i : Nat} (hi : i < l.length) : l'[i]? = l[i]? := by
  obtain ⟨t, rfl⟩ := h
  exact List.getElem?_append_left hi
theorem live_prefix {h h' : AHeap} (hp : h <+: h') {b : Nat} (hb : b < h.length) : live h' b ↔ live h b := by
  unfold live
  rw [prefix_get hp hb]
theorem isRo_prefix {h h' : AHeap} (hp : h <+: h') {b : Nat} (hr : isRo h b) : isRo h' b := by
  obtain ⟨vs, t, e⟩ := hr
  exact ⟨vs, t, by rw [prefix_get hp (List.getElem?_eq_some_iff.1 e).1]; exact e⟩

/-- Listing one more operation: the slots. -/
theorem slots_step {L : Nat → Bool} {i : Nat} {f : FOp} {r : Rec} {μ μ1 : Ren} {a : Act} {v' : Value} (hlen : rs.length = fl.length) (hd : ∀ (i j : Nat) (f f' : FOp) (t : Nat), i ≠ j → fl[i]? = some f → fl[j]? = some f' → f.dst = some t → f'.dst ≠ some t)
    (hf : fl[i]? = some f) (hr : rs[i]? = some r) (hN : ∀ d, f.dst = some d → d < N) (hsz : a.tmps.size = N) (hLi : L i = false) (hs : ∀ t, VR μ (Cur L 0 fl rs S0 t) (a.tmps.getD t undef)) (hm : ∀ x y, VR μ x y → VR μ1 x y) (hv : VR μ1 r.v v') :
    (a.put f.dst v').tmps.size = N ∧ ∀ t, VR μ1 (Cur (fun j => if j = i then true else L j) 0 fl rs S0 t) ((a.put f.dst v').tmps.getD t undef) := by
  have hspec := fun (L : Nat → Bool) t => cur_spec (L := L) (t := t) fl rs 0 S0 hlen (fun i j f f' hij hi hj => hd i j f f' t hij hi hj)
  refine ⟨by cases f.dst <;> simp [Act.put, hsz], fun t => ?_⟩
  by_cases hdt : f.dst = some t
  · rw [(hspec (fun j => if j = i then true else L j) t).1 i f r hf hr (by simp) hdt, hdt]
    have : t < a.tmps.size := by rw [hsz]; exact hN t hdt
    simp [Act.put, this]
    exact hv
  · have h1 : (a.put f.dst v').tmps.getD t undef = a.tmps.getD t undef := by
      cases hfd : f.dst with
      | none => rfl
      | some d =>
        have : d ≠ t := by rintro rfl; exact hdt hfd
        simp [Act.put, Array.getElem?_setIfInBounds_ne this]
    have h2 : Cur (fun j => if j = i then true else L j) 0 fl rs S0 t = Cur L 0 fl rs S0 t := by
      by_cases hex : ∃ j f', fl[j]? = some f' ∧ L j = true ∧ f'.dst = some t
      · obtain ⟨j, f', hf', hLj, hdj⟩ := hex
        have hjl : j < rs.length := by rw [hlen]; exact (List.getElem?_eq_some_iff.1 hf').1
        have hrj : rs[j]? = some rs[j] := List.getElem?_eq_getElem hjl
        rw [(hspec L t).1 j f' _ hf' hrj (by simpa using hLj) hdj, (hspec (fun j => if j = i then true else L j) t).1 j f' _ hf' hrj (by simp [hLj]) hdj]
      · rw [(hspec L t).2 (fun j f' hf' hLj hdj => hex ⟨j, f', hf', by simpa using hLj, hdj⟩), (hspec (fun j => if j = i then true else L j) t).2 (fun j f' hf' hLj hdj => ?_)]
        simp only [Nat.zero_add] at hLj
        split at hLj
        · rename_i hji; subst hji; rw [hf] at hf'; cases hf'; exact hdt hdj
        · exact hex ⟨j, f', hf', hLj, hdj⟩
    rw [h1, h2]
    exact hm _ _ (hs t)
end
end Go.Am
