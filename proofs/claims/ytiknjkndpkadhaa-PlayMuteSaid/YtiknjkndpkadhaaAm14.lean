/- A region in whatever order its edges allow. -/
import Derived.Test.YtiknjkndpkadhaaAm13
set_option linter.unusedSimpArgs false
set_option linter.unusedVariables false
namespace Go.Am
variable {P : Program} {w : World}

/-! ### What an operation looks at, and what it may do to memory -/
def slotsX : Operand → List Nat
  | .tmp t => [t]
  | _ => []
def slotsL : List Operand → List Nat
  | [] => []
  | x :: r => slotsX x ++ slotsL r
def slotsO : Option Operand → List Nat
  | some x => slotsX x
  | none => []
def slotsP : List (Nat × Nat × Operand) → List Nat
  | [] => []
  | x :: r => slotsX x.2.2 ++ slotsP r
def aslots : AOp → List Nat
  | .move x => slotsX x
  | .pick c a b => slotsX c ++ (slotsX a ++ slotsX b)
  | .bin _ x y => slotsX x ++ slotsX y
  | .eqBool _ x y => slotsX x ++ slotsX y
  | .isNil _ _ x => slotsX x
  | .eqAgg _ _ x y => slotsX x ++ slotsX y
  | .un _ x => slotsX x
  | .conv _ x => slotsX x
  | .strId x => slotsX x
  | .len _ x => slotsX x
  | .extract x _ => slotsX x
  | .field _ _ _ x => slotsX x
  | .indexArr _ _ _ x i => slotsX x ++ slotsX i
  | .indexStr x i => slotsX x ++ slotsX i
  | .fieldAddr _ x => slotsX x
  | .indexAddr _ x i => slotsX x ++ slotsX i
  | .indexAddrArr _ _ x i => slotsX x ++ slotsX i
  | .nilCheck x => slotsX x
  | .slice _ x lo hi mx => slotsX x ++ (slotsO lo ++ (slotsO hi ++ slotsO mx))
  | .sliceStr x lo hi => slotsX x ++ (slotsO lo ++ slotsO hi)
  | .sliceArr _ _ x lo hi mx => slotsX x ++ (slotsO lo ++ (slotsO hi ++ slotsO mx))
  | .max xs => slotsL xs
  | .min xs => slotsL xs
  | .build _ ps => slotsP ps
  | .mkFunc _ a b => slotsL a ++ slotsL b
  | .mkIface _ x => slotsX x
  | .box _ x => slotsX x
  | .new _ _ => []
  | .buildSlice _ _ _ ps => slotsP ps
  | .mkSlice _ _ n c => slotsX n ++ slotsX c
  | .load _ _ x => slotsX x
  | .store _ x v => slotsX x ++ slotsX v
  | .append _ _ s x => slotsX s ++ slotsX x
  | .copy _ d s => slotsX d ++ slotsX s
  | .clear _ x => slotsX x
  | .bytesToStr x => slotsX x
  | .call _ args => slotsL args
  | .callV f args => slotsX f ++ slotsL args
  | .fail => []
theorem val_congr {e e' : Env} {x : Operand} (h : ∀ t ∈ slotsX x, e t = e' t) : val e x = val e' x := by
  cases x with
  | tmp t => exact h t (by simp [slotsX])
  | _ => rfl
theorem vals_congr {e e' : Env} : ∀ {l : List Operand}, (∀ t ∈ slotsL l, e t = e' t) → vals e l = vals e' l
  | [], _ => rfl
  | x :: l, h => by
    simp only [slotsL, List.mem_append] at h
    simp only [vals]
    rw [val_congr (fun t ht => h t (.inl ht)), vals_congr (fun t ht => h t (.inr ht))]
theorem valO_congr {e e' : Env} {x : Option Operand} (h : ∀ t ∈ slotsO x, e t = e' t) : valO e x = valO e' x := by
  cases x with
  | none => rfl
  | some x => exact congrArg some (val_congr h)
theorem valP_congr {e e' : Env} : ∀ {l : List (Nat × Nat × Operand)}, (∀ t ∈ slotsP l, e t = e' t) → valP e l = valP e' l
  | [], _ => rfl
  | (i, n, x) :: l, h => by
    simp only [slotsP, List.mem_append] at h
    simp only [valP]
    rw [val_congr (fun t ht => h t (.inl ht)), valP_congr (fun t ht => h t (.inr ht))]
theorem opK_congr {R : Type} {Γ : Callee} {o : AOp} {e e' : Env} {h : AHeap} {k : Value → AHeap → Option R} (he : ∀ t ∈ aslots o, e t = e' t) : opK Γ o e h k = opK Γ o e' h k := by
  cases o <;> simp only [aslots, List.mem_append] at he <;> simp only [opK] <;> first
    | rfl
    | rw [val_congr (x := _) (fun t ht => he t ht)]
    | rw [vals_congr (fun t ht => he t ht)]
    | rw [valP_congr (fun t ht => he t ht)]
    | rw [val_congr (fun t ht => he t (.inl ht)), val_congr (fun t ht => he t (.inr ht))]
    | rw [val_congr (fun t ht => he t (.inl ht)), vals_congr (fun t ht => he t (.inr ht))]
    | rw [vals_congr (fun t ht => he t (.inl ht)), vals_congr (fun t ht => he t (.inr ht))]
    | rw [val_congr (fun t ht => he t (.inl ht)), val_congr (fun t ht => he t (.inr (.inl ht))), val_congr (fun t ht => he t (.inr (.inr ht)))]
    | rw [val_congr (fun t ht => he t (.inl ht)), valO_congr (fun t ht => he t (.inr (.inl ht))), valO_congr (fun t ht => he t (.inr (.inr ht)))]
    | rw [val_congr (fun t ht => he t (.inl ht)), valO_congr (fun t ht => he t (.inr (.inl ht))), valO_congr (fun t ht => he t (.inr (.inr (.inl ht)))), valO_congr (fun t ht => he t (.inr (.inr (.inr ht))))]
/-- May it write, or give up, what was there? -/
def mayWrite : AOp → Bool
  | .store _ _ _ | .append _ _ _ _ | .copy _ _ _ | .clear _ _ | .call _ _ | .callV _ _ => true
  | _ => false
/-- Does memory matter to it, or it to memory? -/
def loud : AOp → Bool
  | .box _ _ | .new _ _ | .buildSlice _ _ _ _ | .mkSlice _ _ _ _ | .load _ _ _ | .bytesToStr _ => true
  | o => mayWrite o
theorem loud_of_write {o : AOp} (h : mayWrite o = true) : loud o = true := by cases o <;> first | rfl | exact h
theorem soft_op {Γ : Callee} {o : AOp} {e : Env} {h h1 : AHeap} {v : Value} (hl : loud o = false) (hk : opK Γ o e h (fun v h' => some (v, h')) = some (v, h1)) :
    h1 = h ∧ ∀ h', opK Γ o e h' (fun v h' => some (v, h')) = some (v, h') := by
  cases o <;> first
    | (cases hl; done)
    | (exfalso; simp only [opK, reduceCtorEq] at hk; done)
    | (simp only [opK] at hk; cases hk; exact ⟨rfl, fun h' => rfl⟩; done)
    | (simp only [opK, Option.bind_eq_some_iff] at hk; obtain ⟨u, hu, hk⟩ := hk; cases hk; refine ⟨rfl, fun h' => ?_⟩; simp only [opK, hu, Option.bind_some])
theorem calm_op {Γ : Callee} {o : AOp} {e : Env} {h h1 : AHeap} {v : Value} (hl : mayWrite o = false) (hk : opK Γ o e h (fun v h' => some (v, h')) = some (v, h1)) : h <+: h1 := by
  cases o <;> first
    | (cases hl; done)
    | (exfalso; simp only [opK, reduceCtorEq] at hk; done)
    | (simp only [opK, Option.bind_eq_some_iff] at hk; obtain ⟨u, hu, hk⟩ := hk; cases hk; first | exact List.prefix_refl _ | exact List.prefix_append _ _)
    | (simp only [opK] at hk; cases hk; first | exact List.prefix_refl _ | exact List.prefix_append _ _)
    | (simp only [opK, Option.bind_eq_some_iff] at hk
       obtain ⟨⟨u1, u2⟩, hu, hk⟩ := hk
       cases hk
       unfold mkSlicef at hu
       split at hu
       · split at hu
         · cases hu; exact List.prefix_append _ _
         · cases hu
       · cases hu)

end Go.Am
