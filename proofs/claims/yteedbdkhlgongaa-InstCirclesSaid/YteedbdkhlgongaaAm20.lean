/- Regions: the check of the edges, and the two theorems as one. -/
import Derived.Test.YteedbdkhlgongaaAm19
set_option linter.unusedSimpArgs false
set_option linter.unusedVariables false
namespace Go.Am
variable {P : Program}

theorem ordOk_of {ops : Array Oper} {fl : List FOp} {B : List Nat} (h : drawOkB ops fl B = true) : OrdOk ops fl B := by
  simp only [drawOkB, Bool.and_eq_true] at h
  obtain ⟨⟨h1, h2⟩, h3⟩ := h
  have hpair : ∀ (i j : Nat) (f f' : FOp), fl[i]? = some f → fl[j]? = some f' → (i = j ∨ sameDst f f' = false) ∧ (i < j → clash f f' = true → (B.getD j 0).testBit i = true) ∧
      (mayWrite f.op = true → f.chk = false → loud f'.op = true → (i < j → (B.getD j 0).testBit i = true) ∧ (j < i → (B.getD i 0).testBit j = true ∨ exempt fl i j = true)) := by
    intro i j f f' hf hf'
    have hi := (List.getElem?_eq_some_iff.1 hf).1
    have hj := (List.getElem?_eq_some_iff.1 hf').1
    have := List.all_eq_true.1 (List.all_eq_true.1 h3 i (List.mem_range.2 hi)) j (List.mem_range.2 hj)
    rw [hf, hf'] at this
    simp only [Bool.and_eq_true, Bool.or_eq_true, Bool.not_eq_true', decide_eq_false_iff_not, beq_iff_eq] at this
    obtain ⟨⟨g1, g2⟩, g3⟩ := this
    refine ⟨g1, fun hij hcl => ?_, fun hm hc hl => ?_⟩
    · rcases g2 with (g | g) | g
      · exact absurd hij g
      · rw [hcl] at g; cases g
      · exact g
    · rcases g3 with ((g | g) | g) | g
      · rw [hm] at g; cases g
      · rw [hc] at g; cases g
      · rw [hl] at g; cases g
      · exact ⟨fun hij => g.1.resolve_left (by simpa using hij), fun hji => by
          rcases g.2 with (g2 | g2) | g2
          · exact absurd hji g2
          · exact .inl g2
          · exact .inr g2⟩
  refine ⟨fun i o ho e he hb => ?_, fun i j o ho hj => ?_, fun i j f f' t hij hf hf' hd hd' => ?_, fun i j f f' t hij hf hf' hc => ?_, fun i f hf hm hc j f' hf' hl => (hpair i j f f' hf hf').2.2 hm hc hl⟩
  · have hi := (Array.getElem?_eq_some_iff.1 ho).1
    have := List.all_eq_true.1 h1 i (List.mem_range.2 hi)
    rw [ho] at this
    have := List.all_eq_true.1 this e he
    rw [hb] at this
    simpa using this
  · have hi := (Array.getElem?_eq_some_iff.1 ho).1
    have h4 := List.all_eq_true.1 h2 i (List.mem_range.2 hi)
    simp only [Bool.and_eq_true, decide_eq_true_eq] at h4
    have hjn : j < ops.size := by
      apply Classical.byContradiction
      intro hn
      have : (B.getD i 0).testBit j = false := Nat.testBit_lt_two_pow (Nat.lt_of_lt_of_le h4.1 (Nat.pow_le_pow_right (by omega) (by omega)))
      rw [this] at hj
      cases hj
    have h5 := List.all_eq_true.1 h4.2 j (List.mem_range.2 hjn)
    rw [hj, ho] at h5
    simp only [Bool.not_true, Bool.false_or, List.any_eq_true, Bool.and_eq_true, Bool.or_eq_true, beq_iff_eq] at h5
    obtain ⟨e, he, hb, hc⟩ := h5
    exact ⟨e, he, hb, hc⟩
  · have := (hpair i j f f' hf hf').1.resolve_left hij
    unfold sameDst at this
    rw [hd, hd'] at this
    simp at this
  · refine (hpair i j f f' hf hf').2.1 hij ?_
    unfold clash
    rcases hc with ⟨hd, ht⟩ | ⟨hd, ht⟩
    · rw [hd]; simp [ht]
    · rw [hd]; simp [ht]

theorem dst_of {fl : List FOp} {N : Nat} (h : (fl.all fun f => f.dst.toList.all fun d => decide (d < N)) = true) : ∀ f ∈ fl, ∀ d, f.dst = some d → d < N := by
  intro f hf d hd
  have := List.all_eq_true.1 h f hf
  rw [hd] at this
  simpa using this

/-- A region goes as its list of operations does in the text's order. -/
theorem region_sound {F : Fence} {n N : Nat} {Γ : Callee} {id : Nat} {ops : Array Oper} {draw : Bool} {fl : List FOp} {e e2 : Env} {h h2 : AHeap} {μ : Ren} {a : Act} {w : World} {Q : Exit → Act → World → Prop}
    (hF : WideF F) (hmix : P.follows .mixedOrders = true) (hΓ : CallOk P Γ) (hc : compRegion P N ops draw = some fl) (t : Tr Γ fl e h e2 h2) (fr : FR μ e a N) (s : Sim P μ h w)
    (hQ : ∀ a' w' μ', FR μ' e2 a' N → Sim P μ' h2 w' → Ext μ h w μ' h2 w' → a'.defers = a.defers → Q .normal a' w') : (Code.region id ops draw).wpIn F n P Q a w := by
  have hmatch : ∀ {chkOf : Nat → Bool} {fl : List FOp}, compL P ops chkOf ops.toList 0 = some fl → fl.length = ops.size ∧ ∀ (j : Nat) (o : Oper), ops[j]? = some o → ∃ f, fl[j]? = some f ∧ FMatch P ops o f := by
    intro chkOf fl hcl
    obtain ⟨h1, h2⟩ := compL_spec hcl
    refine ⟨by simpa using h1, fun j o ho => ?_⟩
    obtain ⟨f, hf, hm, _⟩ := h2 j o (by simpa using ho)
    exact ⟨f, hf, hm⟩
  cases draw with
  | false =>
    unfold compRegion at hc
    simp only [] at hc
    split at hc
    · rename_i fl' hcl
      split at hc
      · rename_i hd
        cases hc
        obtain ⟨hlen, hm⟩ := hmatch hcl
        refine wpIn_region ?_
        have := tr_text (n := n) (Q := Q) hF hΓ hlen hm (dst_of hd) t 0 a w μ (by simp) fr s hQ
        rw [hlen] at this
        rw [List.range_eq_range']
        exact this
      · cases hc
    · cases hc
  | true =>
    unfold compRegion at hc
    simp only [] at hc
    split at hc
    · rename_i fl0 _
      split at hc
      · rename_i fl' hcl
        split at hc
        · rename_i hd
          cases hc
          obtain ⟨hlen, hm⟩ := hmatch hcl
          obtain ⟨rs, S2, hrecs, hw2⟩ := tr_recs t e (Weaker.refl e)
          let w0 : World := { w with drawn := w.drawn + 1 }
          have s0 : Sim P μ h w0 := ⟨s.dom, s.rel, s.inj, s.lt⟩
          have k : Known P Γ ops fl rs e S2 h h2 (befs ops) μ a w0 N := ⟨hrecs, ordOk_of hd.2, hΓ, hlen, hm, dst_of hd.1, fr, s0⟩
          refine wpIn_region_draw fun t => ?_
          simp only [Region.schedule, hmix, Bool.true_or, if_true]
          refine wpAnyIn_sound ops.size t _ a w0 ?_
          have hrep : ∀ j, (Array.replicate ops.size false).getD j false = false := by
            intro j
            rw [Array.getD_eq_getD_getElem?]
            by_cases hj : j < ops.size
            · rw [Array.getElem?_eq_getElem (by simpa using hj)]; simp
            · rw [Array.getElem?_eq_none (by simpa using hj)]; rfl
          -- the first stage
          obtain ⟨q, _, hq2, hq3, hq4⟩ := least_from (fun j => j = fl.length ∨ ¬ Calm rs h2 j) fl.length 0 fl.length (by omega) (.inl rfl)
          have hcalm : ∀ j, 0 ≤ j → j < q → Calm rs h2 j := fun j h5 h6 => Classical.byContradiction fun hn => hq4 j h5 h6 (.inr hn)
          have hp : h <+: Hat rs h2 q := by
            have := chain_prefix (h2 := h2) hcalm (Nat.zero_le _)
            rwa [hat_zero hrecs] at this
          have hlq : h.length ≤ (Hat rs h2 q).length := hp.length_le
          refine any_all (n := n) (Q := Q) hF k (fun a' w' μ' h3 h4 h5 h6 => hQ a' w' μ' (h3.weak hw2) h4 ⟨⟨h5.le, h5.old, h5.size, h5.frame, h5.ro, h5.roStay, h5.new, h5.dead, h5.out⟩, h5.tot⟩ h6) ops.size _ a w0 μ q (by simp) ?_ ?_ (by
            intro i o ho hL
            have hL' : (Array.replicate ops.size false).getD i false = true := hL
            rw [hrep] at hL'
            cases hL')
          · have : ((List.range ops.size).filter fun j => !(Array.replicate ops.size false).getD j false) = List.range ops.size := by
              rw [List.filter_eq_self]
              intro j _
              rw [hrep]
              rfl
            rw [this, List.length_range]
          · refine ⟨hq2, fun i hi hn => absurd (hcalm i (Nat.zero_le _) hi) hn, fun hq => ⟨hq3.resolve_left (by omega), hrep _⟩, fun i f _ _ _ => hrep i, ?_, ?_, fun i _ hL => ?_, fun i hi _ b hb1 hb2 => ?_, fr.size, fun t => ?_, rfl⟩
            · exact ⟨fun b l e => Nat.lt_of_lt_of_le (s0.dom b l e) hlq, fun b l blk e hb hn => s0.rel b l blk e (by rw [← prefix_get hp (s0.dom b l e)]; exact hb) hn, fun b b' l l' e e' el hl hl' => s0.inj b b' l l' e e' el ((live_prefix hp (s0.dom b l e)).1 hl) ((live_prefix hp (s0.dom b' l' e')).1 hl'), s0.lt⟩
            · exact ⟨hlq, fun _ _ => rfl, Nat.le_refl _, fun _ _ _ => rfl, fun _ _ _ _ => rfl, fun b hr => prefix_get hp hr.live.lt, fun b l hb e => absurd (s0.dom b l e) (by omega), fun b hb hn hl => hn ((live_prefix hp hb).1 hl), Out.rfl⟩
            · have hL' : (Array.replicate ops.size false).getD i false = true := hL
              rw [hrep] at hL'; cases hL'
            · cases hμ : μ b with
              | none => rfl
              | some l =>
                have h5 := s0.dom b l hμ
                have h6 := k.grows' (i := 0) (j := i) (Nat.zero_le _) (by omega)
                rw [hat_zero hrecs] at h6
                omega
            · rw [cur_none _ _ _ _ (fun i _ => hrep _)]
              exact fr.rel t
        · cases hc
      · cases hc
    · cases hc

end Go.Am
