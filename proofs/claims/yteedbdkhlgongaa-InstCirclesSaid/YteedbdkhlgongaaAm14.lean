/- A region in whatever order its edges allow. -/
import Derived.Test.YteedbdkhlgongaaAm13
set_option linter.unusedSimpArgs false
set_option linter.unusedVariables false
namespace Go.Am
variable {P : Program} {w : World}

/-! ### What an operation looks at, and what it may do to memory -/
theorem val_congr {e e' : Env} {x : Operand} (h : ∀ t ∈ slotsX x, e t = e' t) : val e x = val e' x := by
  cases x with
  | tmp t => exact h t (by simp [slotsX])
  | _ => rfl
theorem vals_congr {e e' : Env} : ∀ {l : List Operand}, (∀ t ∈ slotsL l, e t = e' t) → vals e l = vals e' l
  | [], _ => rfl
  | x :: l, h => by
    simp only [slotsL, List.mem_append] at h
    simp only [vals]
    rw [val_congr (fun t ht => h t (.inl ht)), vals_congr (fun t ht => h t (.inr ht))]
theorem valO_congr {e e' : Env} {x : Option Operand} (h : ∀ t ∈ slotsO x, e t = e' t) : valO e x = valO e' x := by
  cases x with
  | none => rfl
  | some x => exact congrArg some (val_congr h)
theorem valP_congr {e e' : Env} : ∀ {l : List (Nat × Nat × Operand)}, (∀ t ∈ slotsP l, e t = e' t) → valP e l = valP e' l
  | [], _ => rfl
  | (i, n, x) :: l, h => by
    simp only [slotsP, List.mem_append] at h
    simp only [valP]
    rw [val_congr (fun t ht => h t (.inl ht)), valP_congr (fun t ht => h t (.inr ht))]
theorem opK_congr {R : Type} {Γ : Callee} {o : AOp} {e e' : Env} {h : AHeap} {k : Value → AHeap → Option R} (he : ∀ t ∈ aslots o, e t = e' t) : opK Γ o e h k = opK Γ o e' h k := by
  cases o <;> simp only [aslots, List.mem_append] at he <;> simp only [opK] <;> first
    | rfl
    | rw [val_congr (x := _) (fun t ht => he t ht)]
    | rw [vals_congr (fun t ht => he t ht)]
    | rw [valP_congr (fun t ht => he t ht)]
    | rw [val_congr (fun t ht => he t (.inl ht)), val_congr (fun t ht => he t (.inr ht))]
    | rw [val_congr (fun t ht => he t (.inl ht)), vals_congr (fun t ht => he t (.inr ht))]
    | rw [vals_congr (fun t ht => he t (.inl ht)), vals_congr (fun t ht => he t (.inr ht))]
    | rw [val_congr (fun t ht => he t (.inl ht)), val_congr (fun t ht => he t (.inr (.inl ht))), val_congr (fun t ht => he t (.inr (.inr ht)))]
    | rw [val_congr (fun t ht => he t (.inl ht)), valO_congr (fun t ht => he t (.inr (.inl ht))), valO_congr (fun t ht => he t (.inr (.inr ht)))]
    | rw [val_congr (fun t ht => he t (.inl ht)), valO_congr (fun t ht => he t (.inr (.inl ht))), valO_congr (fun t ht => he t (.inr (.inr (.inl ht)))), valO_congr (fun t ht => he t (.inr (.inr (.inr ht))))]
theorem loud_of_write {o : AOp} (h : mayWrite o = true) : loud o = true := by cases o <;> first | rfl | exact h
theorem soft_op {Γ : Callee} {o : AOp} {e : Env} {h h1 : AHeap} {v : Value} (hl : loud o = false) (hk : opK Γ o e h (fun v h' => some (v, h')) = some (v, h1)) :
    h1 = h ∧ ∀ h', opK Γ o e h' (fun v h' => some (v, h')) = some (v, h') := by
  cases o <;> first
    | (cases hl; done)
    | (exfalso; simp only [opK, reduceCtorEq] at hk; done)
    | (simp only [opK] at hk; cases hk; exact ⟨rfl, fun h' => rfl⟩; done)
    | (simp only [opK, Option.bind_eq_some_iff] at hk; obtain ⟨u, hu, hk⟩ := hk; cases hk; refine ⟨rfl, fun h' => ?_⟩; simp only [opK, hu, Option.bind_some])
theorem calm_op {Γ : Callee} {o : AOp} {e : Env} {h h1 : AHeap} {v : Value} (hl : mayWrite o = false) (hk : opK Γ o e h (fun v h' => some (v, h')) = some (v, h1)) : h <+: h1 := by
  cases o <;> first
    | (cases hl; done)
    | (exfalso; simp only [opK, reduceCtorEq] at hk; done)
    | (simp only [opK, Option.bind_eq_some_iff] at hk; obtain ⟨u, hu, hk⟩ := hk; cases hk; first | exact List.prefix_refl _ | exact List.prefix_append _ _)
    | (simp only [opK] at hk; cases hk; first | exact List.prefix_refl _ | exact List.prefix_append _ _)
    | (simp only [opK, Option.bind_eq_some_iff] at hk
       obtain ⟨⟨u1, u2⟩, hu, hk⟩ := hk
       cases hk
       unfold mkSlicef at hu
       split at hu
       · split at hu
         · cases hu; exact List.prefix_append _ _
         · cases hu
       · cases hu)

end Go.Am
