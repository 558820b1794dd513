/- Slices, literals, append, copy, make. -/
import Derived.Test.YteedbdkhlgongaaAm5
set_option linter.unusedSimpArgs false
namespace Go.Am
variable {P : Program} {μ : Ren} {w : World}

/-- Two optional operands. -/
def OR (μ : Ren) (x x' : Option Value) : Prop := match x, x' with
  | none, none => True
  | some v, some v' => VR μ v v'
  | _, _ => False
theorem boundf_run {d most : Nat} {x x' : Option Value} {m most' : Nat} (hx : OR μ x x') (h : boundf d x most = some m) (hm : most ≤ most') :
    (x = none ∧ x' = none ∧ m = d) ∨ ∃ v v', x = some v ∧ x' = some v' ∧ m ≤ most ∧ ∀ code, (Instr.sliceBound v' most' code).run P w = .ok m w := by
  cases x with
  | none =>
    cases x' with
    | none => cases h; exact .inl ⟨rfl, rfl, rfl⟩
    | some v' => exact hx.elim
  | some v =>
    cases x' with
    | none => exact hx.elim
    | some v' =>
      unfold boundf at h
      split at h
      · rename_i e; cases e
      · rename_i k j e
        cases e
        have hv : VR μ (.int k j) v' := hx
        cases hv
        split at h
        · rename_i hj
          cases h
          refine .inr ⟨_, _, rfl, rfl, by omega, fun code => ?_⟩
          simp only [Instr.sliceBound, asIntOf, Sem.run_bind, Sem.run_pure, Result.andThen_ok]
          rw [if_pos (by omega)]
          rfl
        · cases h
      · cases h
theorem sliceBounds_run {isS : Bool} {n most most' : Nat} {lo lo' hi hi' mx mx' : Option Value} {l h m : Nat} (h1 : OR μ lo lo') (h2 : OR μ hi hi') (h3 : OR μ mx mx')
    (hmx : mx.isSome = true → hi.isSome = true) (hm : most ≤ most')
    (e3 : boundf most mx most = some m) (e2 : boundf n hi m = some h) (e1 : boundf 0 lo h = some l) :
    ∃ m', (Instr.sliceBounds isS n most' lo' hi' mx').run P w = .ok (l, h, m') w ∧ l ≤ h ∧ (n ≤ most → h ≤ m) ∧ m ≤ most ∧ ((mx = none ∧ m = most ∧ m' = most') ∨ (mx ≠ none ∧ m' = m)) := by
  unfold Instr.sliceBounds
  rcases boundf_run (P := P) (w := w) (most' := most') h3 e3 hm with ⟨rfl, rfl, hm'⟩ | ⟨v3, v3', rfl, rfl, hm', r3⟩
  · rcases boundf_run (P := P) (w := w) (most' := most') h2 e2 (by omega) with ⟨rfl, rfl, hh'⟩ | ⟨v2, v2', rfl, rfl, hh', r2⟩
    · rcases boundf_run (P := P) (w := w) (most' := h) h1 e1 (Nat.le_refl _) with ⟨rfl, rfl, hl'⟩ | ⟨v1, v1', rfl, rfl, hl', r1⟩
      · exact ⟨most', by subst hh' hl'; simp, by omega, by omega, by omega, .inl ⟨rfl, hm', rfl⟩⟩
      · exact ⟨most', by subst hh'; simp [r1], by omega, by omega, by omega, .inl ⟨rfl, hm', rfl⟩⟩
    · rcases boundf_run (P := P) (w := w) (most' := h) h1 e1 (Nat.le_refl _) with ⟨rfl, rfl, hl'⟩ | ⟨v1, v1', rfl, rfl, hl', r1⟩
      · exact ⟨most', by subst hl'; simp [r2], by omega, by omega, by omega, .inl ⟨rfl, hm', rfl⟩⟩
      · exact ⟨most', by simp [r1, r2], by omega, by omega, by omega, .inl ⟨rfl, hm', rfl⟩⟩
  · rcases boundf_run (P := P) (w := w) (most' := m) h2 e2 (Nat.le_refl _) with ⟨rfl, rfl, hh'⟩ | ⟨v2, v2', rfl, rfl, hh', r2⟩
    · simp at hmx
    · rcases boundf_run (P := P) (w := w) (most' := h) h1 e1 (Nat.le_refl _) with ⟨rfl, rfl, hl'⟩ | ⟨v1, v1', rfl, rfl, hl', r1⟩
      · exact ⟨m, by subst hl'; simp [r2, r3], by omega, by omega, by omega, .inr ⟨by simp, rfl⟩⟩
      · exact ⟨m, by simp [r1, r2, r3], by omega, by omega, by omega, .inr ⟨by simp, rfl⟩⟩

theorem slicef_sound {size : Nat} {x x' v : Value} {lo lo' hi hi' mx mx' : Option Value} (hx : VR μ x x') (h1 : OR μ lo lo') (h2 : OR μ hi hi') (h3 : OR μ mx mx')
    (hmx : mx.isSome = true → hi.isSome = true) (h : slicef size x lo hi mx = some v) {t e : TypeId} {i : TypeInfo} (ht : P.underlying t = some (.slice e)) (hin : P.info? e = some i) (hn : i.size = size) (hpos : 0 < size) :
    ∃ v', (Instr.sliceAt t x' lo' hi' mx').run P w = .ok v' w ∧ VR μ v v' := by
  have key : ∀ a' n c' l h m', (Instr.sliceBounds true n c' lo' hi' mx').run P w = .ok (l, h, m') w →
      (Instr.sliceAt t (.slice a' n c') lo' hi' mx').run P w = .ok (.slice (if m' = l then a' else a'.map (·.add (l * size))) (h - l) (m' - l)) w := by
    intro a' n c' l h m' hr
    simp only [Instr.sliceAt, Sem.run_bind, run_underlying' ht, Result.andThen_ok, Instr.slice, hr, run_sizeOf' hin, hn, Sem.run_pure]
  unfold slicef at h
  split at h
  · rename_i a n c
    simp only [Option.bind_eq_some_iff] at h
    obtain ⟨m, e3, hh, e2, l, e1, h⟩ := h
    cases hx with
    | slNil =>
      have hc : (0 : Nat) ≠ capU := by decide
      rw [if_neg hc] at e3
      rw [if_neg hc] at h
      cases h
      obtain ⟨m', hr, hlh, hhm, hmm, hcase⟩ := sliceBounds_run (P := P) (w := w) (isS := true) (most' := 0) h1 h2 h3 hmx (Nat.le_refl _) e3 e2 e1
      refine ⟨_, key _ _ _ _ _ _ hr, ?_⟩
      have hm0 : m = 0 := by omega
      have hm0' : m' = 0 := by rcases hcase with ⟨_, _, h5⟩ | ⟨_, h5⟩ <;> omega
      have hh0 : hh = 0 := by have := hhm (Nat.le_refl _); omega
      subst hm0 hm0' hh0
      have : (if (0 : Nat) = l then (none : Option Addr) else none.map fun a : Addr => ⟨a.block, a.off + l * size, none⟩) = none := by split <;> rfl
      have h7 : (if (0 : Nat) = l then (none : Option Addr) else none.map fun a : Addr => a.add (l * size)) = none := by split <;> rfl
      simp only [Option.map_none] at this h7 ⊢
      rw [this, Nat.zero_sub]
      exact .slNil
    | @sl b c0 K o _ _ c1 e hcap =>
      rcases hcap with ⟨hc, rfl⟩ | ⟨hc, hle, hK⟩
      · have hc' : c1 ≠ capU := by omega
        rw [if_neg hc'] at e3
        rw [if_neg hc'] at h
        cases h
        obtain ⟨m', hr, hlh, hhm, hmm, hcase⟩ := sliceBounds_run (P := P) (w := w) (isS := true) (most' := c1) h1 h2 h3 hmx (Nat.le_refl _) e3 e2 e1
        have hm' : m' = m := by rcases hcase with ⟨_, h4, h5⟩ | ⟨_, h5⟩ <;> omega
        subst hm'
        refine ⟨_, key _ _ _ _ _ _ hr, ?_⟩
        have hcl : m' - l < capU := by omega
        split
        · exact .sl e (.inl ⟨hcl, rfl⟩)
        · simp only [Option.map_some, addr_add]
          exact .sl e (.inl ⟨hcl, rfl⟩)
      · subst hc
        rw [if_pos rfl] at e3
        obtain ⟨m', hr, hlh, hhm, hmm, hcase⟩ := sliceBounds_run (P := P) (w := w) (isS := true) (most' := c1) h1 h2 h3 hmx hle e3 e2 e1
        refine ⟨_, key _ _ _ _ _ _ hr, ?_⟩
        have hhm' := hhm (Nat.le_refl _)
        rw [if_pos rfl] at h
        rcases hcase with ⟨rfl, h4, h5⟩ | ⟨h4, rfl⟩
        · cases h
          simp only [Option.map_some, addr_add]
          by_cases hml : m' = l
          · rw [if_pos hml]
            have : hh - l = 0 := by omega
            rw [this]
            exact .sl0 _ _ _
          · rw [if_neg hml]
            exact .sl e (.inr ⟨rfl, by omega, fun ho => by
              have hl0 : l * size = 0 := by omega
              have hl0' : l = 0 := by rcases Nat.mul_eq_zero.1 hl0 with h8 | h8 <;> omega
              have := hK (by omega)
              omega⟩)
        · cases mx with
          | none => exact absurd rfl h4
          | some mv =>
            simp only [] at h
            split at h
            · rename_i hlt
              cases h
              simp only [Option.map_some, addr_add]
              by_cases hml : m' = l
              · rw [if_pos hml, if_pos hml]
                exact .sl e (.inl ⟨by omega, rfl⟩)
              · rw [if_neg hml, if_neg hml]
                exact .sl e (.inl ⟨by omega, rfl⟩)
            · cases h
    | sl0 a1 a2 c1 =>
      rw [if_pos rfl] at e3
      obtain ⟨m', hr, hlh, hhm, hmm, hcase⟩ := sliceBounds_run (P := P) (w := w) (isS := true) (most' := c1) h1 h2 h3 hmx (Nat.zero_le _) e3 e2 e1
      refine ⟨_, key _ _ _ _ _ _ hr, ?_⟩
      have hhm' := hhm (Nat.le_refl _)
      have hm0 : m = 0 := by omega
      have hh0 : hh = 0 := by omega
      have hl0 : l = 0 := by omega
      subst hm0 hh0 hl0
      rw [if_pos rfl] at h
      have hsome : (if m' = 0 then some a2 else (some a2).map fun a => a.add (0 * size)) = some a2 := by
        split
        · rfl
        · rw [Nat.zero_mul]; rfl
      rw [hsome, Nat.sub_self]
      rcases hcase with ⟨rfl, h4, h5⟩ | ⟨h4, h5⟩
      · cases h
        exact .sl0 _ _ _
      · cases mx with
        | none => exact absurd rfl h4
        | some mv =>
          simp only [] at h
          split at h
          · cases h
            subst h5
            exact .sl00 _ _
          · cases h
    | sl00 a1 a2 =>
      have hc : (0 : Nat) ≠ capU := by decide
      rw [if_neg hc] at e3 h
      cases h
      obtain ⟨m', hr, hlh, hhm, hmm, hcase⟩ := sliceBounds_run (P := P) (w := w) (isS := true) (most' := 0) h1 h2 h3 hmx (Nat.le_refl _) e3 e2 e1
      refine ⟨_, key _ _ _ _ _ _ hr, ?_⟩
      have hm0 : m = 0 := by omega
      have hm0' : m' = 0 := by rcases hcase with ⟨_, _, h5⟩ | ⟨_, h5⟩ <;> omega
      have hh0 : hh = 0 := by have := hhm (Nat.le_refl _); omega
      have hl0 : l = 0 := by omega
      subst hm0 hm0' hh0 hl0
      exact .sl00 _ _
  · cases h
theorem sliceStrf_sound {x x' v : Value} {lo lo' hi hi' : Option Value} (hx : VR μ x x') (h1 : OR μ lo lo') (h2 : OR μ hi hi') (h : sliceStrf x lo hi = some v)
    {t : TypeId} (ht : P.underlying t = some .string) : (Instr.sliceAt t x' lo' hi' none).run P w = .ok v w ∧ VR μ v v := by
  unfold sliceStrf at h
  split at h
  · rename_i s
    cases hx
    simp only [Option.bind_eq_some_iff] at h
    obtain ⟨hh, e2, l, e1, h⟩ := h
    cases h
    obtain ⟨m', hr, _⟩ := sliceBounds_run (P := P) (w := w) (isS := false) (n := s.size) (most' := s.size) (mx := none) (mx' := none) h1 h2 trivial (by simp) (Nat.le_refl s.size) rfl e2 e1
    refine ⟨?_, .string _⟩
    simp [Instr.sliceAt, run_underlying' ht, Instr.slice, hr]
  · cases h
theorem sliceArrf_sound {n size : Nat} {x x' v : Value} {lo lo' hi hi' mx mx' : Option Value} (hx : VR μ x x') (h1 : OR μ lo lo') (h2 : OR μ hi hi') (h3 : OR μ mx mx')
    (hmx : mx.isSome = true → hi.isSome = true) (h : sliceArrf n size x lo hi mx = some v) {t e : TypeId} {i : TypeInfo} (ht : P.underlying t = some (.array n e)) (hin : P.info? e = some i) (hn : i.size = size) (hnU : n < capU) :
    ∃ v', (Instr.sliceAt t x' lo' hi' mx').run P w = .ok v' w ∧ VR μ v v' := by
  unfold sliceArrf at h
  split at h
  · cases hx with
    | @ptr b c K o e =>
      simp only [Option.bind_eq_some_iff] at h
      obtain ⟨m, e3, hh, e2, l, e1, h⟩ := h
      cases h
      obtain ⟨m', hr, hlh, hhm, hmm, hcase⟩ := sliceBounds_run (P := P) (w := w) (isS := false) (most' := n) h1 h2 h3 hmx (Nat.le_refl _) e3 e2 e1
      have hm' : m' = m := by rcases hcase with ⟨_, h4, h5⟩ | ⟨_, h5⟩ <;> omega
      subst hm'
      refine ⟨.slice (some (if m' = l then ⟨c, o, none⟩ else (⟨c, o, none⟩ : Addr).add (l * size))) (hh - l) (m' - l), ?_, ?_⟩
      · simp only [Instr.sliceAt, Sem.run_bind, run_underlying' ht, Result.andThen_ok, Instr.sureAddr, Sem.run_pure, hr, run_sizeOf' hin, hn]
      · rw [addr_add]
        split
        · exact .sl e (.inl ⟨by omega, rfl⟩)
        · exact .sl e (.inl ⟨by omega, rfl⟩)
  · cases h
end Go.Am
