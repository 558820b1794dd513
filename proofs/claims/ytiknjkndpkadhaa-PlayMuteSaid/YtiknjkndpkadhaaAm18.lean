/- A region in whatever order its edges allow: loud operations, and the theorem. -/
import Derived.Test.YtiknjkndpkadhaaAm17
set_option linter.unusedSimpArgs false
set_option linter.unusedVariables false
namespace Go.Am
variable {P : Program}
section
variable {F : Fence} {n N : Nat} {Γ : Callee} {ops : Array Oper} {fl : List FOp} {rs : List Rec} {S0 S2 : Env} {h0 h2 : AHeap} {B : List Nat} {Q : Exit → Act → World → Prop} {μ0 : Ren} {a0 : Act} {w0 : World}

/-- An operation that leaves alone what is there. -/
theorem any_calm (hF : WideF F) (k : Known P Γ ops fl rs S0 S2 h0 h2 B μ0 a0 w0 N) {L : Nat → Bool} {μ : Ren} {q : Nat} {a : Act} {w : World} (inv : AnyInv P fl rs S0 h0 h2 μ0 a0 w0 N L μ q a w) (hc : Closed ops L) {i : Nat} {o : Oper}
    (ho : ops[i]? = some o) (hLi : L i = false) (he : ∀ e ∈ o.after.toList, Region.binds .any e = true → L e.on = true) {f : FOp} (hf : fl[i]? = some f) (m : FMatch P ops o f) {r : Rec} (hr : rs[i]? = some r) (hok : RecOk Γ f r) (hwk : Weaker r.e (Cur (fun j => decide (j < i)) 0 fl rs S0))
    (hh : r.h = Hat rs h2 i) (hh' : r.h' = Hat rs h2 (i + 1)) (hran : r.ran = true) (hloud : loud f.op = true) (hiq : i < q) : wpOpIn F n P ops Q i (fun a' w' => ∃ μ' q', AnyInv P fl rs S0 h0 h2 μ0 a0 w0 N (addL L i) μ' q' a' w') a w := by
  have hfr := k.seen hc ho hf hwk hLi he inv.slots inv.size
  have hmem : f ∈ fl := List.mem_of_getElem? hf
  have hlen := recs_length k.recs
  have hil : i < fl.length := (List.getElem?_eq_some_iff.1 hf).1
  -- from here to the stage's end nothing writes
  have hcalm : ∀ j, i ≤ j → j < q → Calm rs h2 j := by
    intro j hij hjq
    apply Classical.byContradiction
    intro hn
    have hLj := inv.done j hjq hn
    by_cases hji : j = i
    · subst hji; rw [hLi] at hLj; cases hLj
    · obtain ⟨fj, hfj, hmw, hch⟩ := k.uncalm (Nat.lt_of_lt_of_le hjq inv.le) hn
      have hb := (k.ord.wr j fj hfj hmw hch i f hf hloud).2 (by omega)
      have hjl : j < ops.size := by rw [← k.len]; exact (List.getElem?_eq_some_iff.1 hfj).1
      have hoj : ops[j]? = some ops[j] := Array.getElem?_eq_getElem hjl
      have := bef_listed k.ord hc j j (Nat.le_refl _) _ hoj (hc j _ hoj hLj) i hb
      rw [hLi] at this
      cases this
  have hp1 : Hat rs h2 i <+: Hat rs h2 (i + 1) := hcalm i (Nat.le_refl _) hiq
  have hp2 : Hat rs h2 (i + 1) <+: Hat rs h2 q := chain_prefix (fun j h1 h2 => hcalm j (by omega) h2) hiq
  have hp : Hat rs h2 i <+: Hat rs h2 q := hp1.trans hp2
  have hl1 : (Hat rs h2 i).length ≤ (Hat rs h2 (i + 1)).length := k.grows hil
  have hl2 : (Hat rs h2 (i + 1)).length ≤ (Hat rs h2 q).length := k.grows' hiq inv.le
  obtain ⟨μt, at_, wt, ft, st, xt⟩ := k.text i (Nat.le_of_lt hil)
  -- the state, cut down to what is there ahead of this operation in the text's order
  have hsim : Sim P (cutR μ (Hat rs h2 i).length) (Hat rs h2 i) w := by
    refine ⟨fun b l e => cutR_dom e, fun b l blk e hb hn => ?_, fun b b' l l' e e' el hl hl' => ?_, fun b l e => inv.sim.lt b l (cutR_le _ _ _ _ e)⟩
    · have hbl := cutR_dom e
      obtain ⟨o', ho', hbr⟩ := inv.sim.rel b l blk (cutR_le _ _ _ _ e) (by rw [prefix_get hp hbl]; exact hb) hn
      refine ⟨o', ho', ?_⟩
      -- what its cells name is there
      obtain ⟨lt_, hlt⟩ : ∃ lt_, μt b = some lt_ := by
        by_cases hb0 : b < h0.length
        · rw [xt.old b hb0, ← inv.ext.old b hb0]; exact ⟨l, cutR_le _ _ _ _ e⟩
        · exact xt.tot b (by omega) ⟨blk, hb, hn⟩
      obtain ⟨ot, hot, hbt⟩ := st.rel b lt_ blk hlt hb hn
      exact hbt.restrict st.dom hbr
    · exact inv.sim.inj b b' l l' (cutR_le _ _ _ _ e) (cutR_le _ _ _ _ e') el ((live_prefix hp (cutR_dom e)).2 hl) ((live_prefix hp (cutR_dom e')).2 hl')
  have hfr2 : FR (cutR μ (Hat rs h2 i).length) (only r.e (looksF f)) a N := by
    refine ⟨hfr.size, fun t => ?_⟩
    have h3 := hfr.rel t
    unfold only at h3 ⊢
    split
    · rename_i ht
      rw [if_pos ht] at h3
      exact VR.restrict st.dom ((ft.weak hwk).rel t) h3
    · exact .junk _
  obtain ⟨hg, hk⟩ := hok.run hran
  rw [opK_congr (e' := only r.e (looksF f)) (fun t ht => (only_mem (by simp [looksF, ht])).symm), hh] at hk
  unfold wpOpIn
  simp only [ho]
  rw [wanted_yes m hfr (by
    rcases hg with hg | ⟨s, b, hg, hs⟩
    · exact .inl hg
    · exact .inr ⟨s, b, hg, by rw [only_mem (by simp [looksF, hg])]; exact hs⟩)]
  simp only [if_true]
  refine op_wp hF m.op k.callee hfr2.op hsim hk (fun v' w1 μ1 hv hs hx => ?_)
  rw [m.dst]
  rw [hh'] at hs hx
  -- what was told, and what this operation has made
  let μ' : Ren := fun b => if (Hat rs h2 i).length ≤ b ∧ b < (Hat rs h2 (i + 1)).length then μ1 b else μ b
  have hμin : ∀ b, (Hat rs h2 i).length ≤ b → b < (Hat rs h2 (i + 1)).length → μ' b = μ1 b := fun b h3 h4 => if_pos ⟨h3, h4⟩
  have hμlo : ∀ b, b < (Hat rs h2 i).length → μ' b = μ b := fun b h3 => if_neg (by omega)
  have hμhi : ∀ b, (Hat rs h2 (i + 1)).length ≤ b → μ' b = μ b := fun b h3 => if_neg (by omega)
  have h1lo : ∀ b, b < (Hat rs h2 i).length → μ1 b = μ b := fun b h3 => (hx.old b h3).trans (cutR_lt h3)
  have hle1 : RenLe μ1 μ' := by
    intro b l e
    have hb := hs.dom b l e
    by_cases hbi : b < (Hat rs h2 i).length
    · rw [hμlo b hbi, ← h1lo b hbi]; exact e
    · rw [hμin b (by omega) hb]; exact e
  have hle : RenLe μ μ' := by
    intro b l e
    by_cases hbi : (Hat rs h2 i).length ≤ b ∧ b < (Hat rs h2 (i + 1)).length
    · rw [inv.free i hiq hLi b hbi.1 hbi.2] at e; cases e
    · have : μ' b = μ b := if_neg hbi
      rw [this]; exact e
  have hfresh : ∀ b l, (Hat rs h2 i).length ≤ b → μ1 b = some l → w.heap.size ≤ l.blk := by
    intro b l hb e
    rcases hx.new b l hb e with h3 | ⟨b0, l0, h3, h4, h5, h6, h7⟩
    · exact h3
    · exact absurd ((live_prefix hp1 h3.lt).2 h3) h7
  obtain ⟨h3, h4⟩ := slots_step (μ1 := μ') (S0 := S0) hlen k.ord.dist hf hr (k.dst f hmem) inv.size hLi inv.slots (fun x y h => h.mono hle) (hv.mono hle1)
  refine ⟨μ', q, inv.le, fun j hj hn => ?_, fun hq => ⟨(inv.next hq).1, ?_⟩, fun j f' hj hf' hl => ?_, ?_, ?_, fun j hj hL b hb1 hb2 hlv => ?_, fun j hj hL b hb1 hb2 => ?_, h3, h4, ?_⟩
  · have := inv.done j hj hn
    unfold addL; split <;> first | rfl | exact this
  · unfold addL; rw [if_neg (by omega)]; exact (inv.next hq).2
  · unfold addL; rw [if_neg (by omega)]; exact inv.later j f' hj hf' hl
  · -- the simulation
    refine ⟨fun b l e => ?_, fun b l blk e hb hn => ?_, fun b b' l l' e e' el hl hl' => ?_, fun b l e => ?_⟩
    · by_cases hbi : (Hat rs h2 i).length ≤ b ∧ b < (Hat rs h2 (i + 1)).length
      · omega
      · have : μ' b = μ b := if_neg hbi
        rw [this] at e
        exact inv.sim.dom b l e
    · by_cases hbhi : (Hat rs h2 (i + 1)).length ≤ b
      · rw [hμhi b hbhi] at e
        obtain ⟨o', ho', hbr⟩ := inv.sim.rel b l blk e hb hn
        refine ⟨o', ?_, hbr.mono hle⟩
        rw [hx.frame l.blk (inv.sim.lt b l e) ?_]
        · exact ho'
        · intro b2 l2 hl2 e2 hcc
          have h5 := inv.sim.inj b b2 l l2 e (cutR_le _ _ _ _ e2) hcc.symm ⟨blk, hb, hn⟩ ((live_prefix hp (cutR_dom e2)).2 hl2)
          have := cutR_dom e2
          omega
      · have hb1 : (Hat rs h2 (i + 1))[b]? = some blk := by rw [← prefix_get hp2 (by omega)]; exact hb
        have e1 : μ1 b = some l := by
          by_cases hbi : b < (Hat rs h2 i).length
          · rw [h1lo b hbi, ← hμlo b hbi]; exact e
          · rw [← hμin b (by omega) (by omega)]; exact e
        obtain ⟨o', ho', hbr⟩ := hs.rel b l blk e1 hb1 hn
        exact ⟨o', ho', hbr.mono hle1⟩
    · -- injective
      have hsplit : ∀ b l, μ' b = some l → ((Hat rs h2 i).length ≤ b ∧ b < (Hat rs h2 (i + 1)).length ∧ μ1 b = some l ∧ w.heap.size ≤ l.blk) ∨ (μ b = some l ∧ l.blk < w.heap.size) := by
        intro b l e
        by_cases hbi : (Hat rs h2 i).length ≤ b ∧ b < (Hat rs h2 (i + 1)).length
        · rw [hμin b hbi.1 hbi.2] at e; exact .inl ⟨hbi.1, hbi.2, e, hfresh b l hbi.1 e⟩
        · have : μ' b = μ b := if_neg hbi
          rw [this] at e
          exact .inr ⟨e, inv.sim.lt b l e⟩
      rcases hsplit b l e with ⟨g1, g2, g3, g4⟩ | ⟨g1, g2⟩ <;> rcases hsplit b' l' e' with ⟨k1, k2, k3, k4⟩ | ⟨k1, k2⟩
      · exact hs.inj b b' l l' g3 k3 el ((live_prefix hp2 g2).1 hl) ((live_prefix hp2 k2).1 hl')
      · omega
      · omega
      · exact inv.sim.inj b b' l l' g1 k1 el hl hl'
    · by_cases hbi : (Hat rs h2 i).length ≤ b ∧ b < (Hat rs h2 (i + 1)).length
      · rw [hμin b hbi.1 hbi.2] at e; exact hs.lt b l e
      · have : μ' b = μ b := if_neg hbi
        rw [this] at e
        exact Nat.lt_of_lt_of_le (inv.sim.lt b l e) hx.size
  · -- what has become of the memory since the region began
    have h0i : h0.length ≤ (Hat rs h2 i).length := xt.le
    have hfr' : ∀ c, c < w0.heap.size → (∀ b l, live h0 b → μ0 b = some l → l.blk ≠ c) → ∀ b l, live (Hat rs h2 i) b → cutR μ (Hat rs h2 i).length b = some l → l.blk ≠ c := by
      intro c hc hn b l hl e hcc
      have e' := cutR_le _ _ _ _ e
      by_cases hb0 : b < h0.length
      · rw [inv.ext.old b hb0] at e'
        by_cases hlb : live h0 b
        · exact hn b l hlb e' hcc
        · exact xt.dead b hb0 hlb hl
      · rcases inv.ext.new b l (by omega) e' with h5 | ⟨b0, l0, h5, _, h6, h7, _⟩
        · omega
        · exact hn b0 l0 h5 h6 (h7.trans hcc)
    refine ⟨inv.ext.le, fun b hb => ?_, Nat.le_trans inv.ext.size hx.size, fun c hc hn => ?_, fun b l e hr => ?_, inv.ext.roStay, fun b l hb e => ?_, inv.ext.dead, inv.ext.out.trans hx.out⟩
    · rw [hμlo b (by omega)]; exact inv.ext.old b hb
    · rw [hx.frame c (Nat.lt_of_lt_of_le hc inv.ext.size) (hfr' c hc hn), inv.ext.frame c hc hn]
    · have hb0 := k.sim.dom b l e
      have e' : cutR μ (Hat rs h2 i).length b = some l := by rw [cutR_lt (by omega), inv.ext.old b hb0]; exact e
      rw [hx.ro b l e' (xt.ro' hr), inv.ext.ro b l e hr]
    · by_cases hbi : (Hat rs h2 i).length ≤ b ∧ b < (Hat rs h2 (i + 1)).length
      · rw [hμin b hbi.1 hbi.2] at e
        exact .inl (Nat.le_trans inv.ext.size (hfresh b l hbi.1 e))
      · have : μ' b = μ b := if_neg hbi
        rw [this] at e
        exact inv.ext.new b l hb e
  · unfold addL at hL
    split at hL
    · rename_i hji
      subst hji
      rw [hμin b hb1 hb2]
      exact hx.tot b hb1 ((live_prefix hp2 hb2).1 hlv)
    · obtain ⟨l, e⟩ := inv.mapped j hj hL b hb1 hb2 hlv
      exact ⟨l, hle b l e⟩
  · have hji : j ≠ i := by rintro rfl; unfold addL at hL; rw [if_pos rfl] at hL; cases hL
    have hLj : L j = false := by unfold addL at hL; rw [if_neg hji] at hL; exact hL
    have hno : ¬ ((Hat rs h2 i).length ≤ b ∧ b < (Hat rs h2 (i + 1)).length) := by
      rintro ⟨h5, h6⟩
      by_cases hlt : j < i
      · have := k.grows' (i := j + 1) (j := i) hlt (Nat.le_of_lt hil)
        omega
      · have := k.grows' (i := i + 1) (j := j) (by omega) (by have := inv.le; omega)
        omega
    have : μ' b = μ b := if_neg hno
    rw [this]
    exact inv.free j hj hLj b hb1 hb2
  · rw [show (a.put f.dst v').defers = a.defers from by cases f.dst <;> rfl]; exact inv.defers
end
end Go.Am
