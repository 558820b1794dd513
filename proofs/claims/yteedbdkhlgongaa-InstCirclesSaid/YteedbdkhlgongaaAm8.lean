/- From the model's operations to the machine's, and that each is met. -/
import Derived.Test.YteedbdkhlgongaaAm7m
import Derived.Great.BuildSlice
set_option linter.unusedSimpArgs false
set_option linter.unusedVariables false
namespace Go.Am
variable {P : Program} {μ : Ren} {w : World}

theorem layOf_spec {t : TypeId} {agg : Bool} {n : Nat} (h : layOf P t = some (agg, n)) : ∃ d i, P.underlying t = some d ∧ P.info? t = some i ∧ isAggD d = agg ∧ i.size = n ∧ 0 < n := by
  unfold layOf at h
  split at h
  · rename_i d i hd hi
    split at h
    · rename_i h0
      cases h
      exact ⟨d, i, hd, hi, rfl, rfl, h0⟩
    · cases h
  · cases h
theorem zeroLay_spec {t : TypeId} {zero : List Value} (h : zeroLay P t = some zero) : ∃ i z, P.info? t = some i ∧ i.zero = some z ∧ z.cells.toList = zero ∧ zero.all noRef1 = true ∧ z.cells.size = i.size ∧ 0 < i.size ∧ i.bytes ≤ 16384 := by
  unfold zeroLay at h
  split at h
  · rename_i i hi
    split at h
    · rename_i z hz
      split at h
      · rename_i hc
        cases h
        exact ⟨i, z, hi, hz, rfl, hc.1, hc.2.1, hc.2.2.1, hc.2.2.2⟩
      · cases h
    · cases h
  · cases h
theorem isNilConst_spec {d : TypeDesc} {x : Operand} (h : isNilConst d x = true) : ∃ z, x = .const z ∧ nilOf d = some z := by
  unfold isNilConst at h
  split at h <;> first | exact ⟨_, rfl, rfl⟩ | cases h
theorem negOf_spec {op : BinOp} {neg : Bool} (h : negOf op = some neg) : op = if neg then .neq else .eql := by
  cases op <;> simp [negOf] at h <;> subst h <;> rfl
theorem kindOk_of {d : TypeDesc} {k : NilKind} {x : Value} (h : kindOf d = some k) (hk : kindIs k x = true) : kindOk d x = true := by
  cases d <;> simp [kindOf] at h <;> subst h <;> cases x <;> simp_all [kindIs, kindOk]
theorem fieldOf_spec {t : TypeId} {f : Nat} {fd : Field} {agg : Bool} {n : Nat} (h : fieldOf P t f = some (fd, agg, n)) :
    ∃ fs d i, P.underlying t = some (.struct fs) ∧ fs[f]? = some fd ∧ P.underlying fd.type = some d ∧ P.info? fd.type = some i ∧ isAggD d = agg ∧ i.size = n ∧ 0 < n := by
  unfold fieldOf at h
  split at h
  · rename_i fs hu
    split at h
    · rename_i fd' hf
      rw [Option.map_eq_some_iff] at h
      obtain ⟨⟨a, m⟩, hl, e⟩ := h
      cases e
      obtain ⟨d, i, h1, h2, h3, h4, h5⟩ := layOf_spec hl
      exact ⟨fs, d, i, hu, hf, h1, h2, h3, h4, h5⟩
    · cases h
  · cases h
theorem built_of {t : TypeId} {place : Nat → Option (Nat × Nat)} {i : TypeInfo} {z : Value} (h : placeOf P t = some place) (hi : P.info? t = some i) (hz : i.zero = some z) (parts : List (Nat × Value)) :
    P.built t parts = Instr.fill place z.cells parts := by
  unfold placeOf at h
  unfold Program.built
  rw [hi]
  split at h
  · rename_i n e hu
    rw [Option.map_eq_some_iff] at h
    obtain ⟨ie, hie, rfl⟩ := h
    simp only [hu, hz, hie]
  · rename_i fs hu
    rw [Option.map_eq_some_iff] at h
    obtain ⟨l, hl, rfl⟩ := h
    simp only [hu, hz, hl]
  · cases h
/-- Operands as the frame has them. -/
def OpR (μ : Ren) (e : Env) (ρ : Operand → Value) : Prop := ∀ x, okX x = true → VR μ (val e x) (ρ x)
theorem partsOf_spec {place : Nat → Option (Nat × Nat)} {e : Env} {ρ : Operand → Value} (he : OpR μ e ρ) : ∀ {l : List (Nat × Operand)} {ps : List (Nat × Nat × Operand)}, partsOf place l = some ps → (l.all fun x => okX x.2) = true →
    PartsR μ place (valP e ps) (l.map fun x => (x.1, ρ x.2))
  | [], ps, h, _ => by cases h; trivial
  | (i, x) :: r, ps, h, hk => by
    simp only [List.all_cons, Bool.and_eq_true] at hk
    unfold partsOf at h
    split at h
    · rename_i off size ps' hp hps
      split at h
      · rename_i h0
        cases h
        exact ⟨hp, h0, he x hk.1, partsOf_spec he hps hk.2⟩
      · cases h
    · cases h
theorem vals_rel {e : Env} {ρ : Operand → Value} (he : OpR μ e ρ) : ∀ {l : List Operand}, okL l = true → VRL μ (vals e l) (l.map ρ)
  | [], _ => .nil
  | x :: l, h => by
    simp only [okL, List.all_cons, Bool.and_eq_true] at h
    exact .cons (he x h.1) (vals_rel he h.2)
theorem valO_rel {e : Env} {ρ : Operand → Value} (he : OpR μ e ρ) {x : Option Operand} (h : (x.all okX) = true) : OR μ (valO e x) (x.map ρ) := by
  cases x with
  | none => trivial
  | some x => exact he x h

end Go.Am
