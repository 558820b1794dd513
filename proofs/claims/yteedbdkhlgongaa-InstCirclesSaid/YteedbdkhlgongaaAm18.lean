/- A region in whatever order its edges allow: loud operations, and the theorem. -/
import Derived.Test.YteedbdkhlgongaaAm17
set_option linter.unusedSimpArgs false
set_option linter.unusedVariables false
namespace Go.Am
variable {P : Program}
section
variable {F : Fence} {n N : Nat} {Γ : Callee} {ops : Array Oper} {fl : List FOp} {rs : List Rec} {S0 S2 : Env} {h0 h2 : AHeap} {B : List Nat} {Q : Exit → Act → World → Prop} {μ0 : Ren} {a0 : Act} {w0 : World}

theorem maker_rec {f : FOp} {r : Rec} (hok : RecOk Γ f r) (hran : r.ran = true) (hnew : isNew f.op = true) : ∃ elem zero, f.op = .new elem zero ∧ zero.all noRef1 = true ∧ r.v = ptrTo r.h.length 0 ∧ r.h' = r.h ++ [.cells zero elem true] := by
  obtain ⟨hg, hk⟩ := hok.run hran
  cases hop : f.op with
  | new elem zero =>
    rw [hop] at hk hnew
    simp only [opK] at hk
    obtain ⟨e1, e2⟩ := Prod.mk.inj (Option.some.inj hk)
    exact ⟨elem, zero, rfl, hnew, e1.symm, e2.symm⟩
  | _ => rw [hop] at hnew; cases hnew
theorem prefix_of_get' {h h' : AHeap} (hl : h.length ≤ h'.length) (hg : ∀ b, b < h.length → h'[b]? = h[b]?) : h <+: h' := by
  refine List.prefix_iff_eq_take.2 (List.ext_getElem? fun i => ?_)
  rw [List.getElem?_take]
  split
  · rename_i hi; exact (hg i hi).symm
  · rename_i hi; exact List.getElem?_eq_none (by omega)
/-- A writer that has come up ahead of what stands ahead of it in the text writes a block that this cannot see. -/
theorem own_writer (k : Known P Γ ops fl rs S0 S2 h0 h2 B μ0 a0 w0 N) {L : Nat → Bool} {μ : Ren} {q : Nat} {a : Act} {w : World} (inv : AnyInv P fl rs S0 h0 h2 μ0 a0 w0 N L μ q a w) (hc : Closed ops L) {i u : Nat} {f : FOp} (hLi : L i = false) (hf : fl[i]? = some f)
    (hloud : loud f.op = true) (hiu : i < u) (huq : u < q) (hcalm : ¬ Calm rs h2 u) : ∃ m blk blk', m < u ∧ m ≠ i ∧ (isNew f.op = true ∨ i < m) ∧ Hat rs h2 (m + 1) = Hat rs h2 m ++ [blk] ∧ Hat rs h2 (u + 1) = (Hat rs h2 u).set (Hat rs h2 m).length blk' := by
  have hlen := recs_length k.recs
  have hLu := inv.done u huq hcalm
  have hul : u < fl.length := Nat.lt_of_lt_of_le huq inv.le
  obtain ⟨fu, hfu, hmw, hch⟩ := k.uncalm hul hcalm
  have huo : u < ops.size := by rw [← k.len]; exact hul
  have hou : ops[u]? = some ops[u] := Array.getElem?_eq_getElem huo
  rcases (k.ord.wr u fu hfu hmw hch i f hf hloud).2 hiu with hb | hex
  · have := bef_listed k.ord hc u u (Nat.le_refl _) _ hou (hc u _ hou hLu) i hb
    rw [hLi] at this
    cases this
  · unfold exempt ownStore at hex
    rw [hfu, hf] at hex
    simp only [Bool.and_eq_true] at hex
    obtain ⟨_, hex⟩ := hex
    cases hop : fu.op with
    | store n x v =>
      rw [hop] at hex
      cases x with
      | tmp t =>
        simp only [List.any_eq_true, Bool.and_eq_true, Bool.or_eq_true] at hex
        obtain ⟨m, hm, ⟨hmi, hside⟩, hg⟩ := hex
        have hmu : m < u := List.mem_range.1 hm
        have hmi : m ≠ i := by
          rintro rfl
          rw [Nat.beq_refl] at hmi
          cases hmi
        have hside : isNew f.op = true ∨ i < m := hside.imp (fun h => h) fun h => by simpa [Nat.blt_eq] using h
        cases hgm : fl[m]? with
        | none => rw [hgm] at hg; cases hg
        | some g =>
          rw [hgm] at hg
          simp only [Bool.and_eq_true, beq_iff_eq] at hg
          obtain ⟨⟨hgn, hgg⟩, hgd⟩ := hg
          obtain ⟨rm, hrm, hokm, _, hhm, hhm'⟩ := recs_at k.recs m g hgm
          have hranm : rm.ran = true := by
            cases hr : rm.ran with
            | true => rfl
            | false =>
              obtain ⟨⟨s, b, hs, _⟩, _⟩ := hokm.skip hr
              rw [hs] at hgg; cases hgg
          obtain ⟨el, ze, _, _, hvm, hbm⟩ := maker_rec hokm hranm hgn
          rw [hhm] at hvm
          rw [hhm, hhm'] at hbm
          obtain ⟨ru, hru, hoku, hwku, hhu, hhu'⟩ := recs_at k.recs u fu hfu
          have hranu : ru.ran = true := by
            cases hr : ru.ran with
            | true => rfl
            | false =>
              exfalso
              apply hcalm
              unfold Calm
              rw [← hhu, ← hhu', (hoku.skip hr).2.2]
              exact List.prefix_refl _
          obtain ⟨_, hku⟩ := hoku.run hranu
          rw [hop] at hku
          simp only [opK, Option.bind_eq_some_iff] at hku
          obtain ⟨h4, hst, hku⟩ := hku
          have hh4 : h4 = ru.h' := (Prod.mk.inj (Option.some.inj hku)).2
          subst hh4
          have hxt : val ru.e (.tmp t) = rm.v := by
            have hcs := (cur_spec (L := fun j => decide (j < u)) (t := t) fl rs 0 S0 hlen (fun i j f f' hij hi hj => k.ord.dist i j f f' t hij hi hj)).1 m g rm hgm hrm (by simpa using hmu) hgd
            rcases hwku t with h5 | h5
            · show ru.e t = rm.v
              rw [h5]; exact hcs
            · exfalso
              have hj : val ru.e (.tmp t) = junk := h5
              rw [hj] at hst
              cases hst
          rw [hxt, hvm, hhu, hhu'] at hst
          simp only [storef, ptrTo] at hst
          split at hst
          · unfold writeN at hst
            split at hst
            · split at hst
              · exact ⟨m, _, _, hmu, hmi, hside, hbm, (Option.some.inj hst).symm⟩
              · cases hst
            · cases hst
          · cases hst
      | _ => cases hex
    | _ => rw [hop] at hex; cases hex
/-- What a maker has made stays as it was made, as long as the maker has not come up. -/
theorem made_stays (k : Known P Γ ops fl rs S0 S2 h0 h2 B μ0 a0 w0 N) {L : Nat → Bool} {μ : Ren} {q : Nat} {a : Act} {w : World} (inv : AnyInv P fl rs S0 h0 h2 μ0 a0 w0 N L μ q a w) (hc : Closed ops L) {i : Nat} {f : FOp} (hLi : L i = false) (hf : fl[i]? = some f)
    (hloud : loud f.op = true) {blk : ABlk} (hmade : Hat rs h2 (i + 1) = Hat rs h2 i ++ [blk]) : ∀ u, i + 1 ≤ u → u ≤ q → (Hat rs h2 u)[(Hat rs h2 i).length]? = some blk := by
  intro u
  induction u with
  | zero => intro h; omega
  | succ u ih =>
    intro h1 h3
    by_cases hu : u = i
    · subst hu; rw [hmade, List.getElem?_concat_length]
    · have ih := ih (by omega) (by omega)
      have hbl := (List.getElem?_eq_some_iff.1 ih).1
      by_cases hcalm : Calm rs h2 u
      · rw [prefix_get hcalm hbl]; exact ih
      · obtain ⟨m, blk1, blk2, hmu, hmi, _, hbm, hset⟩ := own_writer k inv hc hLi hf hloud (by omega) (by omega) hcalm
        have hml : m < fl.length := by have := inv.le; omega
        have hne : (Hat rs h2 m).length ≠ (Hat rs h2 i).length := by
          rcases Nat.lt_or_ge m i with hlt | hge
          · have h6 := k.grows' (i := m + 1) (j := i) hlt (Nat.le_of_lt (List.getElem?_eq_some_iff.1 hf).1)
            rw [hbm] at h6
            simp at h6; omega
          · have h6 := k.grows' (i := i + 1) (j := m) (by omega) (Nat.le_of_lt hml)
            rw [hmade] at h6
            simp at h6; omega
        rw [hset, List.getElem?_set_ne hne]
        exact ih
/-- What stands ahead of a writer, and has not come up, sees its memory as it was. -/
theorem seen_stays (k : Known P Γ ops fl rs S0 S2 h0 h2 B μ0 a0 w0 N) {L : Nat → Bool} {μ : Ren} {q : Nat} {a : Act} {w : World} (inv : AnyInv P fl rs S0 h0 h2 μ0 a0 w0 N L μ q a w) (hc : Closed ops L) {i : Nat} {f : FOp} (hLi : L i = false) (hf : fl[i]? = some f)
    (hloud : loud f.op = true) (hnew : isNew f.op = false) : ∀ u, i + 1 ≤ u → u ≤ q → Hat rs h2 (i + 1) <+: Hat rs h2 u := by
  intro u
  induction u with
  | zero => intro h; omega
  | succ u ih =>
    intro h1 h3
    by_cases hu : u = i
    · subst hu; exact List.prefix_refl _
    · have ih := ih (by omega) (by omega)
      by_cases hcalm : Calm rs h2 u
      · exact ih.trans hcalm
      · obtain ⟨m, blk1, blk2, hmu, hmi, hside, hbm, hset⟩ := own_writer k inv hc hLi hf hloud (by omega) (by omega) hcalm
        have him : i < m := hside.resolve_left (by rw [hnew]; simp)
        have h6 := k.grows' (i := i + 1) (j := m) him (by have := inv.le; omega)
        rw [hset]
        refine prefix_of_get' (by rw [List.length_set]; exact ih.length_le) fun b hb => ?_
        rw [List.getElem?_set_ne (by omega), prefix_get ih hb]

/-- An operation that leaves alone what is there. -/
theorem any_calm (hF : WideF F) (k : Known P Γ ops fl rs S0 S2 h0 h2 B μ0 a0 w0 N) {L : Nat → Bool} {μ : Ren} {q : Nat} {a : Act} {w : World} (inv : AnyInv P fl rs S0 h0 h2 μ0 a0 w0 N L μ q a w) (hc : Closed ops L) {i : Nat} {o : Oper}
    (ho : ops[i]? = some o) (hLi : L i = false) (he : ∀ e ∈ o.after.toList, Region.binds .any e = true → L e.on = true) {f : FOp} (hf : fl[i]? = some f) (m : FMatch P ops o f) {r : Rec} (hr : rs[i]? = some r) (hok : RecOk Γ f r) (hwk : Weaker r.e (Cur (fun j => decide (j < i)) 0 fl rs S0))
    (hh : r.h = Hat rs h2 i) (hh' : r.h' = Hat rs h2 (i + 1)) (hran : r.ran = true) (hloud : loud f.op = true) (hiq : i < q) (hnew : isNew f.op = false) : wpOpIn F n P ops Q i (fun a' w' => ∃ μ' q', AnyInv P fl rs S0 h0 h2 μ0 a0 w0 N (addL L i) μ' q' a' w') a w := by
  have hfr := k.seen hc ho hf hwk hLi he inv.slots inv.size
  have hmem : f ∈ fl := List.mem_of_getElem? hf
  have hlen := recs_length k.recs
  have hil : i < fl.length := (List.getElem?_eq_some_iff.1 hf).1
  -- from here to the stage's end nothing that it sees is written
  have hp1 : Hat rs h2 i <+: Hat rs h2 (i + 1) := by
    apply Classical.byContradiction
    intro hn
    have := inv.done i hiq hn
    rw [hLi] at this
    cases this
  have hp2 : Hat rs h2 (i + 1) <+: Hat rs h2 q := seen_stays k inv hc hLi hf hloud hnew q hiq (Nat.le_refl _)
  have hp : Hat rs h2 i <+: Hat rs h2 q := hp1.trans hp2
  have hl1 : (Hat rs h2 i).length ≤ (Hat rs h2 (i + 1)).length := k.grows hil
  have hl2 : (Hat rs h2 (i + 1)).length ≤ (Hat rs h2 q).length := k.grows' hiq inv.le
  obtain ⟨μt, at_, wt, ft, st, xt⟩ := k.text i (Nat.le_of_lt hil)
  -- the state, cut down to what is there ahead of this operation in the text's order
  have hsim : Sim P (cutR μ (Hat rs h2 i).length) (Hat rs h2 i) w := by
    refine ⟨fun b l e => cutR_dom e, fun b l blk e hb hn => ?_, fun b b' l l' e e' el hl hl' => ?_, fun b l e => inv.sim.lt b l (cutR_le _ _ _ _ e)⟩
    · have hbl := cutR_dom e
      obtain ⟨o', ho', hbr⟩ := inv.sim.rel b l blk (cutR_le _ _ _ _ e) (by rw [prefix_get hp hbl]; exact hb) hn
      refine ⟨o', ho', ?_⟩
      -- what its cells name is there
      obtain ⟨lt_, hlt⟩ : ∃ lt_, μt b = some lt_ := by
        by_cases hb0 : b < h0.length
        · rw [xt.old b hb0, ← inv.ext.old b hb0]; exact ⟨l, cutR_le _ _ _ _ e⟩
        · exact xt.tot b (by omega) ⟨blk, hb, hn⟩
      obtain ⟨ot, hot, hbt⟩ := st.rel b lt_ blk hlt hb hn
      exact hbt.restrict st.dom hbr
    · exact inv.sim.inj b b' l l' (cutR_le _ _ _ _ e) (cutR_le _ _ _ _ e') el ((live_prefix hp (cutR_dom e)).2 hl) ((live_prefix hp (cutR_dom e')).2 hl')
  have hfr2 : FR (cutR μ (Hat rs h2 i).length) (only r.e (looksF f)) a N := by
    refine ⟨hfr.size, fun t => ?_⟩
    have h3 := hfr.rel t
    unfold only at h3 ⊢
    split
    · rename_i ht
      rw [if_pos ht] at h3
      exact VR.restrict st.dom ((ft.weak hwk).rel t) h3
    · exact .junk _
  obtain ⟨hg, hk⟩ := hok.run hran
  rw [opK_congr (e' := only r.e (looksF f)) (fun t ht => (only_mem (by simp [looksF, ht])).symm), hh] at hk
  unfold wpOpIn
  simp only [ho]
  rw [wanted_yes m hfr (by
    rcases hg with hg | ⟨s, b, hg, hs⟩
    · exact .inl hg
    · exact .inr ⟨s, b, hg, by rw [only_mem (by simp [looksF, hg])]; exact hs⟩)]
  simp only [if_true]
  refine op_wp hF m.op k.callee hfr2.op hsim hk (fun v' w1 μ1 hv hs hx => ?_)
  rw [m.dst]
  rw [hh'] at hs hx
  -- what was told, and what this operation has made
  let μ' : Ren := fun b => if (Hat rs h2 i).length ≤ b ∧ b < (Hat rs h2 (i + 1)).length then μ1 b else μ b
  have hμin : ∀ b, (Hat rs h2 i).length ≤ b → b < (Hat rs h2 (i + 1)).length → μ' b = μ1 b := fun b h3 h4 => if_pos ⟨h3, h4⟩
  have hμlo : ∀ b, b < (Hat rs h2 i).length → μ' b = μ b := fun b h3 => if_neg (by omega)
  have hμhi : ∀ b, (Hat rs h2 (i + 1)).length ≤ b → μ' b = μ b := fun b h3 => if_neg (by omega)
  have h1lo : ∀ b, b < (Hat rs h2 i).length → μ1 b = μ b := fun b h3 => (hx.old b h3).trans (cutR_lt h3)
  have hle1 : RenLe μ1 μ' := by
    intro b l e
    have hb := hs.dom b l e
    by_cases hbi : b < (Hat rs h2 i).length
    · rw [hμlo b hbi, ← h1lo b hbi]; exact e
    · rw [hμin b (by omega) hb]; exact e
  have hle : RenLe μ μ' := by
    intro b l e
    by_cases hbi : (Hat rs h2 i).length ≤ b ∧ b < (Hat rs h2 (i + 1)).length
    · rw [inv.free i hiq hLi b hbi.1 hbi.2] at e; cases e
    · have : μ' b = μ b := if_neg hbi
      rw [this]; exact e
  have hfresh : ∀ b l, (Hat rs h2 i).length ≤ b → μ1 b = some l → w.heap.size ≤ l.blk := by
    intro b l hb e
    rcases hx.new b l hb e with h3 | ⟨b0, l0, h3, h4, h5, h6, h7⟩
    · exact h3
    · exact absurd ((live_prefix hp1 h3.lt).2 h3) h7
  obtain ⟨h3, h4⟩ := slots_step (μ1 := μ') (S0 := S0) hlen k.ord.dist hf hr (k.dst f hmem) inv.size hLi inv.slots (fun x y h => h.mono hle) (hv.mono hle1)
  refine ⟨μ', q, inv.le, fun j hj hn => ?_, fun hq => ⟨(inv.next hq).1, ?_⟩, fun j f' hj hf' hl => ?_, ?_, ?_, fun j hj hL b hb1 hb2 hlv => ?_, fun j hj hL b hb1 hb2 => ?_, h3, h4, ?_⟩
  · have := inv.done j hj hn
    unfold addL; split <;> first | rfl | exact this
  · unfold addL; rw [if_neg (by omega)]; exact (inv.next hq).2
  · unfold addL; rw [if_neg (by omega)]; exact inv.later j f' hj hf' hl
  · -- the simulation
    refine ⟨fun b l e => ?_, fun b l blk e hb hn => ?_, fun b b' l l' e e' el hl hl' => ?_, fun b l e => ?_⟩
    · by_cases hbi : (Hat rs h2 i).length ≤ b ∧ b < (Hat rs h2 (i + 1)).length
      · omega
      · have : μ' b = μ b := if_neg hbi
        rw [this] at e
        exact inv.sim.dom b l e
    · by_cases hbhi : (Hat rs h2 (i + 1)).length ≤ b
      · rw [hμhi b hbhi] at e
        obtain ⟨o', ho', hbr⟩ := inv.sim.rel b l blk e hb hn
        refine ⟨o', ?_, hbr.mono hle⟩
        rw [hx.frame l.blk (inv.sim.lt b l e) ?_]
        · exact ho'
        · intro b2 l2 hl2 e2 hcc
          have h5 := inv.sim.inj b b2 l l2 e (cutR_le _ _ _ _ e2) hcc.symm ⟨blk, hb, hn⟩ ((live_prefix hp (cutR_dom e2)).2 hl2)
          have := cutR_dom e2
          omega
      · have hb1 : (Hat rs h2 (i + 1))[b]? = some blk := by rw [← prefix_get hp2 (by omega)]; exact hb
        have e1 : μ1 b = some l := by
          by_cases hbi : b < (Hat rs h2 i).length
          · rw [h1lo b hbi, ← hμlo b hbi]; exact e
          · rw [← hμin b (by omega) (by omega)]; exact e
        obtain ⟨o', ho', hbr⟩ := hs.rel b l blk e1 hb1 hn
        exact ⟨o', ho', hbr.mono hle1⟩
    · -- injective
      have hsplit : ∀ b l, μ' b = some l → ((Hat rs h2 i).length ≤ b ∧ b < (Hat rs h2 (i + 1)).length ∧ μ1 b = some l ∧ w.heap.size ≤ l.blk) ∨ (μ b = some l ∧ l.blk < w.heap.size) := by
        intro b l e
        by_cases hbi : (Hat rs h2 i).length ≤ b ∧ b < (Hat rs h2 (i + 1)).length
        · rw [hμin b hbi.1 hbi.2] at e; exact .inl ⟨hbi.1, hbi.2, e, hfresh b l hbi.1 e⟩
        · have : μ' b = μ b := if_neg hbi
          rw [this] at e
          exact .inr ⟨e, inv.sim.lt b l e⟩
      rcases hsplit b l e with ⟨g1, g2, g3, g4⟩ | ⟨g1, g2⟩ <;> rcases hsplit b' l' e' with ⟨k1, k2, k3, k4⟩ | ⟨k1, k2⟩
      · exact hs.inj b b' l l' g3 k3 el ((live_prefix hp2 g2).1 hl) ((live_prefix hp2 k2).1 hl')
      · omega
      · omega
      · exact inv.sim.inj b b' l l' g1 k1 el hl hl'
    · by_cases hbi : (Hat rs h2 i).length ≤ b ∧ b < (Hat rs h2 (i + 1)).length
      · rw [hμin b hbi.1 hbi.2] at e; exact hs.lt b l e
      · have : μ' b = μ b := if_neg hbi
        rw [this] at e
        exact Nat.lt_of_lt_of_le (inv.sim.lt b l e) hx.size
  · -- what has become of the memory since the region began
    have h0i : h0.length ≤ (Hat rs h2 i).length := xt.le
    have hfr' : ∀ c, c < w0.heap.size → (∀ b l, live h0 b → μ0 b = some l → l.blk ≠ c) → ∀ b l, live (Hat rs h2 i) b → cutR μ (Hat rs h2 i).length b = some l → l.blk ≠ c := by
      intro c hc hn b l hl e hcc
      have e' := cutR_le _ _ _ _ e
      by_cases hb0 : b < h0.length
      · rw [inv.ext.old b hb0] at e'
        by_cases hlb : live h0 b
        · exact hn b l hlb e' hcc
        · exact xt.dead b hb0 hlb hl
      · rcases inv.ext.new b l (by omega) e' with h5 | ⟨b0, l0, h5, _, h6, h7, _⟩
        · omega
        · exact hn b0 l0 h5 h6 (h7.trans hcc)
    refine ⟨inv.ext.le, fun b hb => ?_, Nat.le_trans inv.ext.size hx.size, fun c hc hn => ?_, fun b l e hr => ?_, inv.ext.roStay, fun b l hb e => ?_, inv.ext.dead, inv.ext.out.trans hx.out⟩
    · rw [hμlo b (by omega)]; exact inv.ext.old b hb
    · rw [hx.frame c (Nat.lt_of_lt_of_le hc inv.ext.size) (hfr' c hc hn), inv.ext.frame c hc hn]
    · have hb0 := k.sim.dom b l e
      have e' : cutR μ (Hat rs h2 i).length b = some l := by rw [cutR_lt (by omega), inv.ext.old b hb0]; exact e
      rw [hx.ro b l e' (xt.ro' hr), inv.ext.ro b l e hr]
    · by_cases hbi : (Hat rs h2 i).length ≤ b ∧ b < (Hat rs h2 (i + 1)).length
      · rw [hμin b hbi.1 hbi.2] at e
        exact .inl (Nat.le_trans inv.ext.size (hfresh b l hbi.1 e))
      · have : μ' b = μ b := if_neg hbi
        rw [this] at e
        exact inv.ext.new b l hb e
  · unfold addL at hL
    split at hL
    · rename_i hji
      subst hji
      rw [hμin b hb1 hb2]
      exact hx.tot b hb1 ((live_prefix hp2 hb2).1 hlv)
    · obtain ⟨l, e⟩ := inv.mapped j hj hL b hb1 hb2 hlv
      exact ⟨l, hle b l e⟩
  · have hji : j ≠ i := by rintro rfl; unfold addL at hL; rw [if_pos rfl] at hL; cases hL
    have hLj : L j = false := by unfold addL at hL; rw [if_neg hji] at hL; exact hL
    have hno : ¬ ((Hat rs h2 i).length ≤ b ∧ b < (Hat rs h2 (i + 1)).length) := by
      rintro ⟨h5, h6⟩
      by_cases hlt : j < i
      · have := k.grows' (i := j + 1) (j := i) hlt (Nat.le_of_lt hil)
        omega
      · have := k.grows' (i := i + 1) (j := j) (by omega) (by have := inv.le; omega)
        omega
    have : μ' b = μ b := if_neg hno
    rw [this]
    exact inv.free j hj hLj b hb1 hb2
  · rw [show (a.put f.dst v').defers = a.defers from by cases f.dst <;> rfl]; exact inv.defers

/-- A maker that comes up late. -/
theorem any_maker (hF : WideF F) (k : Known P Γ ops fl rs S0 S2 h0 h2 B μ0 a0 w0 N) {L : Nat → Bool} {μ : Ren} {q : Nat} {a : Act} {w : World} (inv : AnyInv P fl rs S0 h0 h2 μ0 a0 w0 N L μ q a w) (hc : Closed ops L) {i : Nat} {o : Oper}
    (ho : ops[i]? = some o) (hLi : L i = false) (he : ∀ e ∈ o.after.toList, Region.binds .any e = true → L e.on = true) {f : FOp} (hf : fl[i]? = some f) (m : FMatch P ops o f) {r : Rec} (hr : rs[i]? = some r) (hok : RecOk Γ f r) (hwk : Weaker r.e (Cur (fun j => decide (j < i)) 0 fl rs S0))
    (hh : r.h = Hat rs h2 i) (hh' : r.h' = Hat rs h2 (i + 1)) (hran : r.ran = true) (hloud : loud f.op = true) (hiq : i < q) (hnew : isNew f.op = true) : wpOpIn F n P ops Q i (fun a' w' => ∃ μ' q', AnyInv P fl rs S0 h0 h2 μ0 a0 w0 N (addL L i) μ' q' a' w') a w := by
  have hfr := k.seen hc ho hf hwk hLi he inv.slots inv.size
  have hmem : f ∈ fl := List.mem_of_getElem? hf
  have hlen := recs_length k.recs
  have hil : i < fl.length := (List.getElem?_eq_some_iff.1 hf).1
  obtain ⟨elem, zero, hop, hz, hrv, hrh⟩ := maker_rec hok hran hnew
  rw [hh, hh'] at hrh
  rw [hh] at hrv
  have hblk := made_stays k inv hc hLi hf hloud hrh q hiq (Nat.le_refl _)
  have hbl := (List.getElem?_eq_some_iff.1 hblk).1
  have hl1 : (Hat rs h2 (i + 1)).length = (Hat rs h2 i).length + 1 := by rw [hrh]; simp
  obtain ⟨μt, at_, wt, ft, st, xt⟩ := k.text i (Nat.le_of_lt hil)
  have h0i : h0.length ≤ (Hat rs h2 i).length := xt.le
  have hfree : μ (Hat rs h2 i).length = none := inv.free i hiq hLi _ (Nat.le_refl _) (by omega)
  obtain ⟨hg, _⟩ := hok.run hran
  unfold wpOpIn
  simp only [ho]
  rw [wanted_yes m hfr (by
    rcases hg with hg | ⟨s, b, hg, hs⟩
    · exact .inl hg
    · exact .inr ⟨s, b, hg, by rw [only_mem (by simp [looksF, hg])]; exact hs⟩)]
  simp only [if_true]
  have hk : opK Γ f.op (only r.e (looksF f)) (Hat rs h2 q) (fun v h' => some (v, h')) = some (ptrTo (Hat rs h2 q).length 0, Hat rs h2 q ++ [.cells zero elem true]) := by rw [hop]; rfl
  refine op_wp hF m.op k.callee hfr.op inv.sim hk (fun v' w1 μ1 hv hs hx => ?_)
  rw [m.dst]
  cases hv with
  | @ptr _ c K _ e1 =>
    let μ' : Ren := fun b => if b = (Hat rs h2 i).length then some ⟨c, K⟩ else μ b
    have hμi : μ' (Hat rs h2 i).length = some ⟨c, K⟩ := if_pos rfl
    have hμo : ∀ b, b ≠ (Hat rs h2 i).length → μ' b = μ b := fun b hb => if_neg hb
    have hle : RenLe μ μ' := fun b l e => by
      rw [hμo b (by rintro rfl; rw [hfree] at e; cases e)]; exact e
    have hfresh : w.heap.size ≤ c := by
      rcases hx.new _ _ (Nat.le_refl _) e1 with h3 | ⟨b0, l0, h3, h4, h5, h6, h7⟩
      · exact h3
      · exact absurd ((live_append h3.lt).2 h3) h7
    obtain ⟨h3, h4⟩ := slots_step (μ1 := μ') (S0 := S0) hlen k.ord.dist hf hr (k.dst f hmem) inv.size hLi inv.slots (fun x y h => h.mono hle) (show VR μ' r.v (.pointer (some ⟨c, 0, none⟩)) by rw [hrv]; exact .ptr hμi)
    refine ⟨μ', q, inv.le, fun j hj hn => ?_, fun hq => ⟨(inv.next hq).1, ?_⟩, fun j f' hj hf' hl => ?_, ?_, ?_, fun j hj hL b hb1 hb2 hlv => ?_, fun j hj hL b hb1 hb2 => ?_, h3, h4, ?_⟩
    · have := inv.done j hj hn
      unfold addL; split <;> first | rfl | exact this
    · unfold addL; rw [if_neg (by omega)]; exact (inv.next hq).2
    · unfold addL; rw [if_neg (by omega)]; exact inv.later j f' hj hf' hl
    · refine ⟨fun b l e => ?_, fun b l blk e hb hn => ?_, fun b b' l l' e e' el hl hl' => ?_, fun b l e => ?_⟩
      · by_cases hbi : b = (Hat rs h2 i).length
        · subst hbi; exact hbl
        · rw [hμo b hbi] at e; exact inv.sim.dom b l e
      · by_cases hbi : b = (Hat rs h2 i).length
        · subst hbi
          rw [hblk] at hb
          cases hb
          rw [hμi] at e
          cases e
          obtain ⟨o', ho', c', fr', rfl, g1, g2, g3, g4⟩ := hs.rel _ _ _ e1 (List.getElem?_concat_length ..) (by simp)
          have hys := VRL.eq_of_all (p := noRef1) (fun v y h hv => VR.eq_of_noRef1 h hv) hz g2
          exact ⟨_, ho', c', fr', rfl, g1, by rw [hys]; exact VRL.of_noRef1 hz, g3, g4⟩
        · rw [hμo b hbi] at e
          obtain ⟨o0, _, hb0⟩ := inv.sim.rel b l blk e hb hn
          have hblt := inv.sim.dom b l e
          obtain ⟨o1, ho1, hb1⟩ := hs.rel b l blk ((hx.old b hblt).trans e) (by rw [List.getElem?_append_left hblt]; exact hb) hn
          exact ⟨o1, ho1, (hb0.cut (hx.renLe inv.sim.dom) hb1).mono hle⟩
      · by_cases hbi : b = (Hat rs h2 i).length <;> by_cases hbi' : b' = (Hat rs h2 i).length
        · rw [hbi, hbi']
        · subst hbi
          rw [hμi] at e
          rw [hμo b' hbi'] at e'
          cases e
          have := inv.sim.lt b' l' e'
          simp only at el
          omega
        · subst hbi'
          rw [hμi] at e'
          rw [hμo b hbi] at e
          cases e'
          have := inv.sim.lt b l e
          simp only at el
          omega
        · rw [hμo b hbi] at e
          rw [hμo b' hbi'] at e'
          exact inv.sim.inj b b' l l' e e' el hl hl'
      · by_cases hbi : b = (Hat rs h2 i).length
        · subst hbi
          rw [hμi] at e
          cases e
          exact hs.lt _ _ e1
        · rw [hμo b hbi] at e
          exact Nat.lt_of_lt_of_le (inv.sim.lt b l e) hx.size
    · have hfr' : ∀ d, d < w0.heap.size → (∀ b l, live h0 b → μ0 b = some l → l.blk ≠ d) → ∀ b l, live (Hat rs h2 q) b → μ b = some l → l.blk ≠ d := by
        intro d hd hn b l hl e hcc
        by_cases hb0 : b < h0.length
        · rw [inv.ext.old b hb0] at e
          by_cases hlb : live h0 b
          · exact hn b l hlb e hcc
          · exact inv.ext.dead b hb0 hlb hl
        · rcases inv.ext.new b l (by omega) e with h5 | ⟨b0, l0, h5, _, h6, h7, _⟩
          · omega
          · exact hn b0 l0 h5 h6 (h7.trans hcc)
      refine ⟨inv.ext.le, fun b hb => ?_, Nat.le_trans inv.ext.size hx.size, fun d hd hn => ?_, fun b l e hro => ?_, inv.ext.roStay, fun b l hb e => ?_, inv.ext.dead, inv.ext.out.trans hx.out⟩
      · rw [hμo b (by omega)]; exact inv.ext.old b hb
      · rw [hx.frame d (Nat.lt_of_lt_of_le hd inv.ext.size) (hfr' d hd hn), inv.ext.frame d hd hn]
      · have hb0 := k.sim.dom b l e
        have e' : μ b = some l := by rw [inv.ext.old b hb0]; exact e
        rw [hx.ro b l e' (inv.ext.ro' hro), inv.ext.ro b l e hro]
      · by_cases hbi : b = (Hat rs h2 i).length
        · subst hbi
          rw [hμi] at e
          cases e
          exact .inl (Nat.le_trans inv.ext.size hfresh)
        · rw [hμo b hbi] at e
          exact inv.ext.new b l hb e
    · unfold addL at hL
      split at hL
      · rename_i hji
        subst hji
        have : b = (Hat rs h2 j).length := by omega
        subst this
        exact ⟨_, hμi⟩
      · obtain ⟨l, e⟩ := inv.mapped j hj hL b hb1 hb2 hlv
        exact ⟨l, hle b l e⟩
    · have hji : j ≠ i := by rintro rfl; unfold addL at hL; rw [if_pos rfl] at hL; cases hL
      have hLj : L j = false := by unfold addL at hL; rw [if_neg hji] at hL; exact hL
      have hno : b ≠ (Hat rs h2 i).length := by
        rintro rfl
        by_cases hlt : j < i
        · have := k.grows' (i := j + 1) (j := i) hlt (Nat.le_of_lt hil)
          omega
        · have := k.grows' (i := i + 1) (j := j) (by omega) (by have := inv.le; omega)
          omega
      rw [hμo b hno]
      exact inv.free j hj hLj b hb1 hb2
    · rw [show (a.put f.dst (.pointer (some ⟨c, 0, none⟩))).defers = a.defers from by cases f.dst <;> rfl]; exact inv.defers
end
end Go.Am
