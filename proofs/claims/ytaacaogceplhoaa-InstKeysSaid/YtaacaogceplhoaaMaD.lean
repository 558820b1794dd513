/- The machine (MaD): parts of one text. -/
import Derived.Test.YtaacaogceplhoaaMaC
set_option linter.unusedSimpArgs false
set_option linter.unusedVariables false
/- A region in whatever order its edges allow: loud operations, and the theorem. -/
namespace Go.Am
variable {P : Program}
section
variable {F : Fence} {n N : Nat} {Γ : Callee} {ops : Array Oper} {fl : List FOp} {rs : List Rec} {S0 S2 : Env} {h0 h2 : AHeap} {B : List Nat} {Q : Exit → Act → World → Prop} {μ0 : Ren} {a0 : Act} {w0 : World}

theorem maker_rec {f : FOp} {r : Rec} (hok : RecOk Γ f r) (hran : r.ran = true) (hnew : isNew f.op = true) : ∃ elem zero, f.op = .new elem zero ∧ zero.all noRef1 = true ∧ r.v = ptrTo r.h.length 0 ∧ r.h' = r.h ++ [.cells zero elem true] := by
  obtain ⟨hg, hk⟩ := hok.run hran
  cases hop : f.op with
  | new elem zero =>
    rw [hop] at hk hnew
    simp only [opK] at hk
    obtain ⟨e1, e2⟩ := Prod.mk.inj (Option.some.inj hk)
    exact ⟨elem, zero, rfl, hnew, e1.symm, e2.symm⟩
  | _ => rw [hop] at hnew; cases hnew
theorem prefix_of_get' {h h' : AHeap} (hl : h.length ≤ h'.length) (hg : ∀ b, b < h.length → h'[b]? = h[b]?) : h <+: h' := by
  refine List.prefix_iff_eq_take.2 (List.ext_getElem? fun i => ?_)
  rw [List.getElem?_take]
  split
  · rename_i hi; exact (hg i hi).symm
  · rename_i hi; exact List.getElem?_eq_none (by omega)
/-- A writer that has come up ahead of what stands ahead of it in the text writes a block that this cannot see. -/
theorem own_writer (k : Known P Γ ops fl rs S0 S2 h0 h2 B μ0 a0 w0 N) {L : Nat → Bool} {μ : Ren} {q : Nat} {a : Act} {w : World} (inv : AnyInv P fl rs S0 h0 h2 μ0 a0 w0 N L μ q a w) (hc : Closed ops L) {i u : Nat} {f : FOp} (hLi : L i = false) (hf : fl[i]? = some f)
    (hloud : loud f.op = true) (hiu : i < u) (huq : u < q) (hcalm : ¬ Calm rs h2 u) : ∃ m blk blk', m < u ∧ m ≠ i ∧ (isNew f.op = true ∨ i < m) ∧ Hat rs h2 (m + 1) = Hat rs h2 m ++ [blk] ∧ Hat rs h2 (u + 1) = (Hat rs h2 u).set (Hat rs h2 m).length blk' := by
  have hlen := recs_length k.recs
  have hLu := inv.done u huq hcalm
  have hul : u < fl.length := Nat.lt_of_lt_of_le huq inv.le
  obtain ⟨fu, hfu, hmw, hch⟩ := k.uncalm hul hcalm
  have huo : u < ops.size := by rw [← k.len]; exact hul
  have hou : ops[u]? = some ops[u] := Array.getElem?_eq_getElem huo
  rcases (k.ord.wr u fu hfu hmw hch i f hf hloud).2 hiu with hb | hex
  · have := bef_listed k.ord hc u u (Nat.le_refl _) _ hou (hc u _ hou hLu) i hb
    rw [hLi] at this
    cases this
  · unfold exempt ownStore at hex
    rw [hfu, hf] at hex
    simp only [Bool.and_eq_true] at hex
    obtain ⟨_, hex⟩ := hex
    cases hop : fu.op with
    | store n x v =>
      rw [hop] at hex
      cases x with
      | tmp t =>
        simp only [List.any_eq_true, Bool.and_eq_true, Bool.or_eq_true] at hex
        obtain ⟨m, hm, ⟨hmi, hside⟩, hg⟩ := hex
        have hmu : m < u := List.mem_range.1 hm
        have hmi : m ≠ i := by
          rintro rfl
          rw [Nat.beq_refl] at hmi
          cases hmi
        have hside : isNew f.op = true ∨ i < m := hside.imp (fun h => h) fun h => by simpa [Nat.blt_eq] using h
        cases hgm : fl[m]? with
        | none => rw [hgm] at hg; cases hg
        | some g =>
          rw [hgm] at hg
          simp only [Bool.and_eq_true, beq_iff_eq] at hg
          obtain ⟨⟨hgn, hgg⟩, hgd⟩ := hg
          obtain ⟨rm, hrm, hokm, _, hhm, hhm'⟩ := recs_at k.recs m g hgm
          have hranm : rm.ran = true := by
            cases hr : rm.ran with
            | true => rfl
            | false =>
              obtain ⟨⟨s, b, hs, _⟩, _⟩ := hokm.skip hr
              rw [hs] at hgg; cases hgg
          obtain ⟨el, ze, _, _, hvm, hbm⟩ := maker_rec hokm hranm hgn
          rw [hhm] at hvm
          rw [hhm, hhm'] at hbm
          obtain ⟨ru, hru, hoku, hwku, hhu, hhu'⟩ := recs_at k.recs u fu hfu
          have hranu : ru.ran = true := by
            cases hr : ru.ran with
            | true => rfl
            | false =>
              exfalso
              apply hcalm
              unfold Calm
              rw [← hhu, ← hhu', (hoku.skip hr).2.2]
              exact List.prefix_refl _
          obtain ⟨_, hku⟩ := hoku.run hranu
          rw [hop] at hku
          simp only [opK, Option.bind_eq_some_iff] at hku
          obtain ⟨h4, hst, hku⟩ := hku
          have hh4 : h4 = ru.h' := (Prod.mk.inj (Option.some.inj hku)).2
          subst hh4
          have hxt : val ru.e (.tmp t) = rm.v := by
            have hcs := (cur_spec (L := fun j => decide (j < u)) (t := t) fl rs 0 S0 hlen (fun i j f f' hij hi hj => k.ord.dist i j f f' t hij hi hj)).1 m g rm hgm hrm (by simpa using hmu) hgd
            rcases hwku t with h5 | h5
            · show ru.e t = rm.v
              rw [h5]; exact hcs
            · exfalso
              have hj : val ru.e (.tmp t) = junk := h5
              rw [hj] at hst
              cases hst
          rw [hxt, hvm, hhu, hhu'] at hst
          simp only [storef, ptrTo] at hst
          split at hst
          · unfold writeN at hst
            split at hst
            · split at hst
              · exact ⟨m, _, _, hmu, hmi, hside, hbm, (Option.some.inj hst).symm⟩
              · cases hst
            · cases hst
          · cases hst
      | _ => cases hex
    | _ => rw [hop] at hex; cases hex
/-- What a maker has made stays as it was made, as long as the maker has not come up. -/
theorem made_stays (k : Known P Γ ops fl rs S0 S2 h0 h2 B μ0 a0 w0 N) {L : Nat → Bool} {μ : Ren} {q : Nat} {a : Act} {w : World} (inv : AnyInv P fl rs S0 h0 h2 μ0 a0 w0 N L μ q a w) (hc : Closed ops L) {i : Nat} {f : FOp} (hLi : L i = false) (hf : fl[i]? = some f)
    (hloud : loud f.op = true) {blk : ABlk} (hmade : Hat rs h2 (i + 1) = Hat rs h2 i ++ [blk]) : ∀ u, i + 1 ≤ u → u ≤ q → (Hat rs h2 u)[(Hat rs h2 i).length]? = some blk := by
  intro u
  induction u with
  | zero => intro h; omega
  | succ u ih =>
    intro h1 h3
    by_cases hu : u = i
    · subst hu; rw [hmade, List.getElem?_concat_length]
    · have ih := ih (by omega) (by omega)
      have hbl := (List.getElem?_eq_some_iff.1 ih).1
      by_cases hcalm : Calm rs h2 u
      · rw [prefix_get hcalm hbl]; exact ih
      · obtain ⟨m, blk1, blk2, hmu, hmi, _, hbm, hset⟩ := own_writer k inv hc hLi hf hloud (by omega) (by omega) hcalm
        have hml : m < fl.length := by have := inv.le; omega
        have hne : (Hat rs h2 m).length ≠ (Hat rs h2 i).length := by
          rcases Nat.lt_or_ge m i with hlt | hge
          · have h6 := k.grows' (i := m + 1) (j := i) hlt (Nat.le_of_lt (List.getElem?_eq_some_iff.1 hf).1)
            rw [hbm] at h6
            simp at h6; omega
          · have h6 := k.grows' (i := i + 1) (j := m) (by omega) (Nat.le_of_lt hml)
            rw [hmade] at h6
            simp at h6; omega
        rw [hset, List.getElem?_set_ne hne]
        exact ih
/-- What stands ahead of a writer, and has not come up, sees its memory as it was. -/
theorem seen_stays (k : Known P Γ ops fl rs S0 S2 h0 h2 B μ0 a0 w0 N) {L : Nat → Bool} {μ : Ren} {q : Nat} {a : Act} {w : World} (inv : AnyInv P fl rs S0 h0 h2 μ0 a0 w0 N L μ q a w) (hc : Closed ops L) {i : Nat} {f : FOp} (hLi : L i = false) (hf : fl[i]? = some f)
    (hloud : loud f.op = true) (hnew : isNew f.op = false) : ∀ u, i + 1 ≤ u → u ≤ q → Hat rs h2 (i + 1) <+: Hat rs h2 u := by
  intro u
  induction u with
  | zero => intro h; omega
  | succ u ih =>
    intro h1 h3
    by_cases hu : u = i
    · subst hu; exact List.prefix_refl _
    · have ih := ih (by omega) (by omega)
      by_cases hcalm : Calm rs h2 u
      · exact ih.trans hcalm
      · obtain ⟨m, blk1, blk2, hmu, hmi, hside, hbm, hset⟩ := own_writer k inv hc hLi hf hloud (by omega) (by omega) hcalm
        have him : i < m := hside.resolve_left (by rw [hnew]; simp)
        have h6 := k.grows' (i := i + 1) (j := m) him (by have := inv.le; omega)
        rw [hset]
        refine prefix_of_get' (by rw [List.length_set]; exact ih.length_le) fun b hb => ?_
        rw [List.getElem?_set_ne (by omega), prefix_get ih hb]

/-- An operation that leaves alone what is there. -/
theorem any_calm (hF : WideF F) (k : Known P Γ ops fl rs S0 S2 h0 h2 B μ0 a0 w0 N) {L : Nat → Bool} {μ : Ren} {q : Nat} {a : Act} {w : World} (inv : AnyInv P fl rs S0 h0 h2 μ0 a0 w0 N L μ q a w) (hc : Closed ops L) {i : Nat} {o : Oper}
    (ho : ops[i]? = some o) (hLi : L i = false) (he : ∀ e ∈ o.after.toList, Region.binds .any e = true → L e.on = true) {f : FOp} (hf : fl[i]? = some f) (m : FMatch P ops o f) {r : Rec} (hr : rs[i]? = some r) (hok : RecOk Γ f r) (hwk : Weaker r.e (Cur (fun j => decide (j < i)) 0 fl rs S0))
    (hh : r.h = Hat rs h2 i) (hh' : r.h' = Hat rs h2 (i + 1)) (hran : r.ran = true) (hloud : loud f.op = true) (hiq : i < q) (hnew : isNew f.op = false) : wpOpIn F n P ops Q i (fun a' w' => ∃ μ' q', AnyInv P fl rs S0 h0 h2 μ0 a0 w0 N (addL L i) μ' q' a' w') a w := by
  have hfr := k.seen hc ho hf hwk hLi he inv.slots inv.size
  have hmem : f ∈ fl := List.mem_of_getElem? hf
  have hlen := recs_length k.recs
  have hil : i < fl.length := (List.getElem?_eq_some_iff.1 hf).1
  -- from here to the stage's end nothing that it sees is written
  have hp1 : Hat rs h2 i <+: Hat rs h2 (i + 1) := by
    apply Classical.byContradiction
    intro hn
    have := inv.done i hiq hn
    rw [hLi] at this
    cases this
  have hp2 : Hat rs h2 (i + 1) <+: Hat rs h2 q := seen_stays k inv hc hLi hf hloud hnew q hiq (Nat.le_refl _)
  have hp : Hat rs h2 i <+: Hat rs h2 q := hp1.trans hp2
  have hl1 : (Hat rs h2 i).length ≤ (Hat rs h2 (i + 1)).length := k.grows hil
  have hl2 : (Hat rs h2 (i + 1)).length ≤ (Hat rs h2 q).length := k.grows' hiq inv.le
  obtain ⟨μt, at_, wt, ft, st, xt⟩ := k.text i (Nat.le_of_lt hil)
  -- the state, cut down to what is there ahead of this operation in the text's order
  have hsim : Sim P (cutR μ (Hat rs h2 i).length) (Hat rs h2 i) w := by
    refine ⟨fun b l e => cutR_dom e, fun b l blk e hb hn => ?_, fun b b' l l' e e' el hl hl' => ?_, fun b l e => inv.sim.lt b l (cutR_le _ _ _ _ e)⟩
    · have hbl := cutR_dom e
      obtain ⟨o', ho', hbr⟩ := inv.sim.rel b l blk (cutR_le _ _ _ _ e) (by rw [prefix_get hp hbl]; exact hb) hn
      refine ⟨o', ho', ?_⟩
      -- what its cells name is there
      obtain ⟨lt_, hlt⟩ : ∃ lt_, μt b = some lt_ := by
        by_cases hb0 : b < h0.length
        · rw [xt.old b hb0, ← inv.ext.old b hb0]; exact ⟨l, cutR_le _ _ _ _ e⟩
        · exact xt.tot b (by omega) ⟨blk, hb, hn⟩
      obtain ⟨ot, hot, hbt⟩ := st.rel b lt_ blk hlt hb hn
      exact hbt.restrict st.dom hbr
    · exact inv.sim.inj b b' l l' (cutR_le _ _ _ _ e) (cutR_le _ _ _ _ e') el ((live_prefix hp (cutR_dom e)).2 hl) ((live_prefix hp (cutR_dom e')).2 hl')
  have hfr2 : FR (cutR μ (Hat rs h2 i).length) (only r.e (looksF f)) a N := by
    refine ⟨hfr.size, fun t => ?_⟩
    have h3 := hfr.rel t
    unfold only at h3 ⊢
    split
    · rename_i ht
      rw [if_pos ht] at h3
      exact VR.restrict st.dom ((ft.weak hwk).rel t) h3
    · exact .junk _
  obtain ⟨hg, hk⟩ := hok.run hran
  rw [opK_congr (e' := only r.e (looksF f)) (fun t ht => (only_mem (by simp [looksF, ht])).symm), hh] at hk
  unfold wpOpIn
  simp only [ho]
  rw [wanted_yes m hfr (by
    rcases hg with hg | ⟨s, b, hg, hs⟩
    · exact .inl hg
    · exact .inr ⟨s, b, hg, by rw [only_mem (by simp [looksF, hg])]; exact hs⟩)]
  simp only [if_true]
  refine op_wp hF m.op k.callee hfr2.op hsim hk (fun v' w1 μ1 hv hs hx => ?_)
  rw [m.dst]
  rw [hh'] at hs hx
  -- what was told, and what this operation has made
  let μ' : Ren := fun b => if (Hat rs h2 i).length ≤ b ∧ b < (Hat rs h2 (i + 1)).length then μ1 b else μ b
  have hμin : ∀ b, (Hat rs h2 i).length ≤ b → b < (Hat rs h2 (i + 1)).length → μ' b = μ1 b := fun b h3 h4 => if_pos ⟨h3, h4⟩
  have hμlo : ∀ b, b < (Hat rs h2 i).length → μ' b = μ b := fun b h3 => if_neg (by omega)
  have hμhi : ∀ b, (Hat rs h2 (i + 1)).length ≤ b → μ' b = μ b := fun b h3 => if_neg (by omega)
  have h1lo : ∀ b, b < (Hat rs h2 i).length → μ1 b = μ b := fun b h3 => (hx.old b h3).trans (cutR_lt h3)
  have hle1 : RenLe μ1 μ' := by
    intro b l e
    have hb := hs.dom b l e
    by_cases hbi : b < (Hat rs h2 i).length
    · rw [hμlo b hbi, ← h1lo b hbi]; exact e
    · rw [hμin b (by omega) hb]; exact e
  have hle : RenLe μ μ' := by
    intro b l e
    by_cases hbi : (Hat rs h2 i).length ≤ b ∧ b < (Hat rs h2 (i + 1)).length
    · rw [inv.free i hiq hLi b hbi.1 hbi.2] at e; cases e
    · have : μ' b = μ b := if_neg hbi
      rw [this]; exact e
  have hfresh : ∀ b l, (Hat rs h2 i).length ≤ b → μ1 b = some l → w.heap.size ≤ l.blk := by
    intro b l hb e
    rcases hx.new b l hb e with h3 | ⟨b0, l0, h3, h4, h5, h6, h7⟩
    · exact h3
    · exact absurd ((live_prefix hp1 h3.lt).2 h3) h7
  obtain ⟨h3, h4⟩ := slots_step (μ1 := μ') (S0 := S0) hlen k.ord.dist hf hr (k.dst f hmem) inv.size hLi inv.slots (fun x y h => h.mono hle) (hv.mono hle1)
  refine ⟨μ', q, inv.le, fun j hj hn => ?_, fun hq => ⟨(inv.next hq).1, ?_⟩, fun j f' hj hf' hl => ?_, ?_, ?_, fun j hj hL b hb1 hb2 hlv => ?_, fun j hj hL b hb1 hb2 => ?_, h3, h4, ?_⟩
  · have := inv.done j hj hn
    unfold addL; split <;> first | rfl | exact this
  · unfold addL; rw [if_neg (by omega)]; exact (inv.next hq).2
  · unfold addL; rw [if_neg (by omega)]; exact inv.later j f' hj hf' hl
  · -- the simulation
    refine ⟨fun b l e => ?_, fun b l blk e hb hn => ?_, fun b b' l l' e e' el hl hl' => ?_, fun b l e => ?_⟩
    · by_cases hbi : (Hat rs h2 i).length ≤ b ∧ b < (Hat rs h2 (i + 1)).length
      · omega
      · have : μ' b = μ b := if_neg hbi
        rw [this] at e
        exact inv.sim.dom b l e
    · by_cases hbhi : (Hat rs h2 (i + 1)).length ≤ b
      · rw [hμhi b hbhi] at e
        obtain ⟨o', ho', hbr⟩ := inv.sim.rel b l blk e hb hn
        refine ⟨o', ?_, hbr.mono hle⟩
        rw [hx.frame l.blk (inv.sim.lt b l e) ?_]
        · exact ho'
        · intro b2 l2 hl2 e2 hcc
          have h5 := inv.sim.inj b b2 l l2 e (cutR_le _ _ _ _ e2) hcc.symm ⟨blk, hb, hn⟩ ((live_prefix hp (cutR_dom e2)).2 hl2)
          have := cutR_dom e2
          omega
      · have hb1 : (Hat rs h2 (i + 1))[b]? = some blk := by rw [← prefix_get hp2 (by omega)]; exact hb
        have e1 : μ1 b = some l := by
          by_cases hbi : b < (Hat rs h2 i).length
          · rw [h1lo b hbi, ← hμlo b hbi]; exact e
          · rw [← hμin b (by omega) (by omega)]; exact e
        obtain ⟨o', ho', hbr⟩ := hs.rel b l blk e1 hb1 hn
        exact ⟨o', ho', hbr.mono hle1⟩
    · -- injective
      have hsplit : ∀ b l, μ' b = some l → ((Hat rs h2 i).length ≤ b ∧ b < (Hat rs h2 (i + 1)).length ∧ μ1 b = some l ∧ w.heap.size ≤ l.blk) ∨ (μ b = some l ∧ l.blk < w.heap.size) := by
        intro b l e
        by_cases hbi : (Hat rs h2 i).length ≤ b ∧ b < (Hat rs h2 (i + 1)).length
        · rw [hμin b hbi.1 hbi.2] at e; exact .inl ⟨hbi.1, hbi.2, e, hfresh b l hbi.1 e⟩
        · have : μ' b = μ b := if_neg hbi
          rw [this] at e
          exact .inr ⟨e, inv.sim.lt b l e⟩
      rcases hsplit b l e with ⟨g1, g2, g3, g4⟩ | ⟨g1, g2⟩ <;> rcases hsplit b' l' e' with ⟨k1, k2, k3, k4⟩ | ⟨k1, k2⟩
      · exact hs.inj b b' l l' g3 k3 el ((live_prefix hp2 g2).1 hl) ((live_prefix hp2 k2).1 hl')
      · omega
      · omega
      · exact inv.sim.inj b b' l l' g1 k1 el hl hl'
    · by_cases hbi : (Hat rs h2 i).length ≤ b ∧ b < (Hat rs h2 (i + 1)).length
      · rw [hμin b hbi.1 hbi.2] at e; exact hs.lt b l e
      · have : μ' b = μ b := if_neg hbi
        rw [this] at e
        exact Nat.lt_of_lt_of_le (inv.sim.lt b l e) hx.size
  · -- what has become of the memory since the region began
    have h0i : h0.length ≤ (Hat rs h2 i).length := xt.le
    have hfr' : ∀ c, c < w0.heap.size → (∀ b l, live h0 b → μ0 b = some l → l.blk ≠ c) → ∀ b l, live (Hat rs h2 i) b → cutR μ (Hat rs h2 i).length b = some l → l.blk ≠ c := by
      intro c hc hn b l hl e hcc
      have e' := cutR_le _ _ _ _ e
      by_cases hb0 : b < h0.length
      · rw [inv.ext.old b hb0] at e'
        by_cases hlb : live h0 b
        · exact hn b l hlb e' hcc
        · exact xt.dead b hb0 hlb hl
      · rcases inv.ext.new b l (by omega) e' with h5 | ⟨b0, l0, h5, _, h6, h7, _⟩
        · omega
        · exact hn b0 l0 h5 h6 (h7.trans hcc)
    refine ⟨inv.ext.le, fun b hb => ?_, Nat.le_trans inv.ext.size hx.size, fun c hc hn => ?_, fun b l e hr => ?_, inv.ext.roStay, fun b l hb e => ?_, inv.ext.dead, inv.ext.out.trans hx.out⟩
    · rw [hμlo b (by omega)]; exact inv.ext.old b hb
    · rw [hx.frame c (Nat.lt_of_lt_of_le hc inv.ext.size) (hfr' c hc hn), inv.ext.frame c hc hn]
    · have hb0 := k.sim.dom b l e
      have e' : cutR μ (Hat rs h2 i).length b = some l := by rw [cutR_lt (by omega), inv.ext.old b hb0]; exact e
      rw [hx.ro b l e' (xt.ro' hr), inv.ext.ro b l e hr]
    · by_cases hbi : (Hat rs h2 i).length ≤ b ∧ b < (Hat rs h2 (i + 1)).length
      · rw [hμin b hbi.1 hbi.2] at e
        exact .inl (Nat.le_trans inv.ext.size (hfresh b l hbi.1 e))
      · have : μ' b = μ b := if_neg hbi
        rw [this] at e
        exact inv.ext.new b l hb e
  · unfold addL at hL
    split at hL
    · rename_i hji
      subst hji
      rw [hμin b hb1 hb2]
      exact hx.tot b hb1 ((live_prefix hp2 hb2).1 hlv)
    · obtain ⟨l, e⟩ := inv.mapped j hj hL b hb1 hb2 hlv
      exact ⟨l, hle b l e⟩
  · have hji : j ≠ i := by rintro rfl; unfold addL at hL; rw [if_pos rfl] at hL; cases hL
    have hLj : L j = false := by unfold addL at hL; rw [if_neg hji] at hL; exact hL
    have hno : ¬ ((Hat rs h2 i).length ≤ b ∧ b < (Hat rs h2 (i + 1)).length) := by
      rintro ⟨h5, h6⟩
      by_cases hlt : j < i
      · have := k.grows' (i := j + 1) (j := i) hlt (Nat.le_of_lt hil)
        omega
      · have := k.grows' (i := i + 1) (j := j) (by omega) (by have := inv.le; omega)
        omega
    have : μ' b = μ b := if_neg hno
    rw [this]
    exact inv.free j hj hLj b hb1 hb2
  · rw [show (a.put f.dst v').defers = a.defers from by cases f.dst <;> rfl]; exact inv.defers

/-- A maker that comes up late. -/
theorem any_maker (hF : WideF F) (k : Known P Γ ops fl rs S0 S2 h0 h2 B μ0 a0 w0 N) {L : Nat → Bool} {μ : Ren} {q : Nat} {a : Act} {w : World} (inv : AnyInv P fl rs S0 h0 h2 μ0 a0 w0 N L μ q a w) (hc : Closed ops L) {i : Nat} {o : Oper}
    (ho : ops[i]? = some o) (hLi : L i = false) (he : ∀ e ∈ o.after.toList, Region.binds .any e = true → L e.on = true) {f : FOp} (hf : fl[i]? = some f) (m : FMatch P ops o f) {r : Rec} (hr : rs[i]? = some r) (hok : RecOk Γ f r) (hwk : Weaker r.e (Cur (fun j => decide (j < i)) 0 fl rs S0))
    (hh : r.h = Hat rs h2 i) (hh' : r.h' = Hat rs h2 (i + 1)) (hran : r.ran = true) (hloud : loud f.op = true) (hiq : i < q) (hnew : isNew f.op = true) : wpOpIn F n P ops Q i (fun a' w' => ∃ μ' q', AnyInv P fl rs S0 h0 h2 μ0 a0 w0 N (addL L i) μ' q' a' w') a w := by
  have hfr := k.seen hc ho hf hwk hLi he inv.slots inv.size
  have hmem : f ∈ fl := List.mem_of_getElem? hf
  have hlen := recs_length k.recs
  have hil : i < fl.length := (List.getElem?_eq_some_iff.1 hf).1
  obtain ⟨elem, zero, hop, hz, hrv, hrh⟩ := maker_rec hok hran hnew
  rw [hh, hh'] at hrh
  rw [hh] at hrv
  have hblk := made_stays k inv hc hLi hf hloud hrh q hiq (Nat.le_refl _)
  have hbl := (List.getElem?_eq_some_iff.1 hblk).1
  have hl1 : (Hat rs h2 (i + 1)).length = (Hat rs h2 i).length + 1 := by rw [hrh]; simp
  obtain ⟨μt, at_, wt, ft, st, xt⟩ := k.text i (Nat.le_of_lt hil)
  have h0i : h0.length ≤ (Hat rs h2 i).length := xt.le
  have hfree : μ (Hat rs h2 i).length = none := inv.free i hiq hLi _ (Nat.le_refl _) (by omega)
  obtain ⟨hg, _⟩ := hok.run hran
  unfold wpOpIn
  simp only [ho]
  rw [wanted_yes m hfr (by
    rcases hg with hg | ⟨s, b, hg, hs⟩
    · exact .inl hg
    · exact .inr ⟨s, b, hg, by rw [only_mem (by simp [looksF, hg])]; exact hs⟩)]
  simp only [if_true]
  have hk : opK Γ f.op (only r.e (looksF f)) (Hat rs h2 q) (fun v h' => some (v, h')) = some (ptrTo (Hat rs h2 q).length 0, Hat rs h2 q ++ [.cells zero elem true]) := by rw [hop]; rfl
  refine op_wp hF m.op k.callee hfr.op inv.sim hk (fun v' w1 μ1 hv hs hx => ?_)
  rw [m.dst]
  cases hv with
  | @ptr _ c K _ e1 =>
    let μ' : Ren := fun b => if b = (Hat rs h2 i).length then some ⟨c, K⟩ else μ b
    have hμi : μ' (Hat rs h2 i).length = some ⟨c, K⟩ := if_pos rfl
    have hμo : ∀ b, b ≠ (Hat rs h2 i).length → μ' b = μ b := fun b hb => if_neg hb
    have hle : RenLe μ μ' := fun b l e => by
      rw [hμo b (by rintro rfl; rw [hfree] at e; cases e)]; exact e
    have hfresh : w.heap.size ≤ c := by
      rcases hx.new _ _ (Nat.le_refl _) e1 with h3 | ⟨b0, l0, h3, h4, h5, h6, h7⟩
      · exact h3
      · exact absurd ((live_append h3.lt).2 h3) h7
    obtain ⟨h3, h4⟩ := slots_step (μ1 := μ') (S0 := S0) hlen k.ord.dist hf hr (k.dst f hmem) inv.size hLi inv.slots (fun x y h => h.mono hle) (show VR μ' r.v (.pointer (some ⟨c, 0, none⟩)) by rw [hrv]; exact .ptr hμi)
    refine ⟨μ', q, inv.le, fun j hj hn => ?_, fun hq => ⟨(inv.next hq).1, ?_⟩, fun j f' hj hf' hl => ?_, ?_, ?_, fun j hj hL b hb1 hb2 hlv => ?_, fun j hj hL b hb1 hb2 => ?_, h3, h4, ?_⟩
    · have := inv.done j hj hn
      unfold addL; split <;> first | rfl | exact this
    · unfold addL; rw [if_neg (by omega)]; exact (inv.next hq).2
    · unfold addL; rw [if_neg (by omega)]; exact inv.later j f' hj hf' hl
    · refine ⟨fun b l e => ?_, fun b l blk e hb hn => ?_, fun b b' l l' e e' el hl hl' => ?_, fun b l e => ?_⟩
      · by_cases hbi : b = (Hat rs h2 i).length
        · subst hbi; exact hbl
        · rw [hμo b hbi] at e; exact inv.sim.dom b l e
      · by_cases hbi : b = (Hat rs h2 i).length
        · subst hbi
          rw [hblk] at hb
          cases hb
          rw [hμi] at e
          cases e
          obtain ⟨o', ho', c', fr', rfl, g1, g2, g3, g4⟩ := hs.rel _ _ _ e1 (List.getElem?_concat_length ..) (by simp)
          have hys := VRL.eq_of_all (p := noRef1) (fun v y h hv => VR.eq_of_noRef1 h hv) hz g2
          exact ⟨_, ho', c', fr', rfl, g1, by rw [hys]; exact VRL.of_noRef1 hz, g3, g4⟩
        · rw [hμo b hbi] at e
          obtain ⟨o0, _, hb0⟩ := inv.sim.rel b l blk e hb hn
          have hblt := inv.sim.dom b l e
          obtain ⟨o1, ho1, hb1⟩ := hs.rel b l blk ((hx.old b hblt).trans e) (by rw [List.getElem?_append_left hblt]; exact hb) hn
          exact ⟨o1, ho1, (hb0.cut (hx.renLe inv.sim.dom) hb1).mono hle⟩
      · by_cases hbi : b = (Hat rs h2 i).length <;> by_cases hbi' : b' = (Hat rs h2 i).length
        · rw [hbi, hbi']
        · subst hbi
          rw [hμi] at e
          rw [hμo b' hbi'] at e'
          cases e
          have := inv.sim.lt b' l' e'
          simp only at el
          omega
        · subst hbi'
          rw [hμi] at e'
          rw [hμo b hbi] at e
          cases e'
          have := inv.sim.lt b l e
          simp only at el
          omega
        · rw [hμo b hbi] at e
          rw [hμo b' hbi'] at e'
          exact inv.sim.inj b b' l l' e e' el hl hl'
      · by_cases hbi : b = (Hat rs h2 i).length
        · subst hbi
          rw [hμi] at e
          cases e
          exact hs.lt _ _ e1
        · rw [hμo b hbi] at e
          exact Nat.lt_of_lt_of_le (inv.sim.lt b l e) hx.size
    · have hfr' : ∀ d, d < w0.heap.size → (∀ b l, live h0 b → μ0 b = some l → l.blk ≠ d) → ∀ b l, live (Hat rs h2 q) b → μ b = some l → l.blk ≠ d := by
        intro d hd hn b l hl e hcc
        by_cases hb0 : b < h0.length
        · rw [inv.ext.old b hb0] at e
          by_cases hlb : live h0 b
          · exact hn b l hlb e hcc
          · exact inv.ext.dead b hb0 hlb hl
        · rcases inv.ext.new b l (by omega) e with h5 | ⟨b0, l0, h5, _, h6, h7, _⟩
          · omega
          · exact hn b0 l0 h5 h6 (h7.trans hcc)
      refine ⟨inv.ext.le, fun b hb => ?_, Nat.le_trans inv.ext.size hx.size, fun d hd hn => ?_, fun b l e hro => ?_, inv.ext.roStay, fun b l hb e => ?_, inv.ext.dead, inv.ext.out.trans hx.out⟩
      · rw [hμo b (by omega)]; exact inv.ext.old b hb
      · rw [hx.frame d (Nat.lt_of_lt_of_le hd inv.ext.size) (hfr' d hd hn), inv.ext.frame d hd hn]
      · have hb0 := k.sim.dom b l e
        have e' : μ b = some l := by rw [inv.ext.old b hb0]; exact e
        rw [hx.ro b l e' (inv.ext.ro' hro), inv.ext.ro b l e hro]
      · by_cases hbi : b = (Hat rs h2 i).length
        · subst hbi
          rw [hμi] at e
          cases e
          exact .inl (Nat.le_trans inv.ext.size hfresh)
        · rw [hμo b hbi] at e
          exact inv.ext.new b l hb e
    · unfold addL at hL
      split at hL
      · rename_i hji
        subst hji
        have : b = (Hat rs h2 j).length := by omega
        subst this
        exact ⟨_, hμi⟩
      · obtain ⟨l, e⟩ := inv.mapped j hj hL b hb1 hb2 hlv
        exact ⟨l, hle b l e⟩
    · have hji : j ≠ i := by rintro rfl; unfold addL at hL; rw [if_pos rfl] at hL; cases hL
      have hLj : L j = false := by unfold addL at hL; rw [if_neg hji] at hL; exact hL
      have hno : b ≠ (Hat rs h2 i).length := by
        rintro rfl
        by_cases hlt : j < i
        · have := k.grows' (i := j + 1) (j := i) hlt (Nat.le_of_lt hil)
          omega
        · have := k.grows' (i := i + 1) (j := j) (by omega) (by have := inv.le; omega)
          omega
      rw [hμo b hno]
      exact inv.free j hj hLj b hb1 hb2
    · rw [show (a.put f.dst (.pointer (some ⟨c, 0, none⟩))).defers = a.defers from by cases f.dst <;> rfl]; exact inv.defers
end
end Go.Am

/- A region in whatever order its edges allow: an operation that writes, and the theorem. -/
namespace Go.Am
variable {P : Program}
section
variable {F : Fence} {n N : Nat} {Γ : Callee} {ops : Array Oper} {fl : List FOp} {rs : List Rec} {S0 S2 : Env} {h0 h2 : AHeap} {B : List Nat} {Q : Exit → Act → World → Prop} {μ0 : Ren} {a0 : Act} {w0 : World}

theorem least_from (p : Nat → Prop) : ∀ (d q m : Nat), m = q + d → p m → ∃ q', q ≤ q' ∧ q' ≤ m ∧ p q' ∧ ∀ j, q ≤ j → j < q' → ¬ p j
  | 0, q, m, h, hp => ⟨q, Nat.le_refl _, by omega, by rw [show q = m from by omega]; exact hp, fun j h1 h2 => by omega⟩
  | d + 1, q, m, h, hp => by
    by_cases hq : p q
    · exact ⟨q, Nat.le_refl _, by omega, hq, fun j h1 h2 => by omega⟩
    · obtain ⟨q', h1, h2, h3, h4⟩ := least_from p d (q + 1) m (by omega) hp
      refine ⟨q', by omega, h2, h3, fun j h5 h6 => ?_⟩
      by_cases hj : j = q
      · subst hj; exact hq
      · exact h4 j (by omega) h6
theorem Known.soft (k : Known P Γ ops fl rs S0 S2 h0 h2 B μ0 a0 w0 N) {j : Nat} {f : FOp} (hf : fl[j]? = some f) (hs : loud f.op = false) : Hat rs h2 (j + 1) = Hat rs h2 j := by
  obtain ⟨r, hr, hok, _, hh, hh'⟩ := recs_at k.recs j f hf
  rw [← hh, ← hh']
  cases hran : r.ran with
  | false => exact (hok.skip hran).2.2
  | true => exact (soft_op hs (hok.run hran).2).1

/-- The operation that ends a stage. -/
theorem any_writer (hF : WideF F) (k : Known P Γ ops fl rs S0 S2 h0 h2 B μ0 a0 w0 N) {L : Nat → Bool} {μ : Ren} {q : Nat} {a : Act} {w : World} (inv : AnyInv P fl rs S0 h0 h2 μ0 a0 w0 N L μ q a w) (hc : Closed ops L) {o : Oper}
    (ho : ops[q]? = some o) (hLi : L q = false) (he : ∀ e ∈ o.after.toList, Region.binds .any e = true → L e.on = true) {f : FOp} (hf : fl[q]? = some f) (m : FMatch P ops o f) {r : Rec} (hr : rs[q]? = some r) (hok : RecOk Γ f r) (hwk : Weaker r.e (Cur (fun j => decide (j < q)) 0 fl rs S0))
    (hh : r.h = Hat rs h2 q) (hh' : r.h' = Hat rs h2 (q + 1)) (hran : r.ran = true) : wpOpIn F n P ops Q q (fun a' w' => ∃ μ' q', AnyInv P fl rs S0 h0 h2 μ0 a0 w0 N (addL L q) μ' q' a' w') a w := by
  have hfr := k.seen hc ho hf hwk hLi he inv.slots inv.size
  have hmem : f ∈ fl := List.mem_of_getElem? hf
  have hlen := recs_length k.recs
  have hql : q < fl.length := (List.getElem?_eq_some_iff.1 hf).1
  obtain ⟨hg, hk⟩ := hok.run hran
  rw [opK_congr (e' := only r.e (looksF f)) (fun t ht => (only_mem (by simp [looksF, ht])).symm), hh] at hk
  unfold wpOpIn
  simp only [ho]
  rw [wanted_yes m hfr (by
    rcases hg with hg | ⟨s, b, hg, hs⟩
    · exact .inl hg
    · exact .inr ⟨s, b, hg, by rw [only_mem (by simp [looksF, hg])]; exact hs⟩)]
  simp only [if_true]
  refine op_wp hF m.op k.callee hfr.op inv.sim hk (fun v' w1 μ1 hv hs hx => ?_)
  rw [m.dst]
  rw [hh'] at hs hx
  obtain ⟨h3, h4⟩ := slots_step (μ1 := μ1) (S0 := S0) hlen k.ord.dist hf hr (k.dst f hmem) inv.size hLi inv.slots (fun x y h => h.mono (hx.renLe inv.sim.dom)) hv
  -- the next stage's end
  obtain ⟨q', hq1, hq2, hq3, hq4⟩ := least_from (fun j => j = fl.length ∨ ¬ Calm rs h2 j) (fl.length - (q + 1)) (q + 1) fl.length (by omega) (.inl rfl)
  have hcalm : ∀ j, q + 1 ≤ j → j < q' → Calm rs h2 j := fun j h5 h6 => Classical.byContradiction fun hn => hq4 j h5 h6 (.inr hn)
  have hp : Hat rs h2 (q + 1) <+: Hat rs h2 q' := chain_prefix hcalm hq1
  have hx0 := inv.ext.trans hx.toExtP k.sim.dom
  have hlq : (Hat rs h2 (q + 1)).length ≤ (Hat rs h2 q').length := k.grows' hq1 hq2
  have hlate : ∀ j f', q < j → fl[j]? = some f' → L j = true → loud f'.op = false := by
    intro j f' hj hf' hL
    cases hl : loud f'.op with
    | false => rfl
    | true => rw [inv.later j f' hj hf' hl] at hL; cases hL
  refine ⟨μ1, q', hq2, fun j hj hn => ?_, fun hq => ?_, fun j f' hj hf' hl => ?_, ?_, ?_, fun j hj hL b hb1 hb2 hlv => ?_, fun j hj hL b hb1 hb2 => ?_, h3, h4, ?_⟩
  · unfold addL
    split
    · rfl
    · rename_i hjq
      by_cases hlt : j < q
      · exact inv.done j hlt hn
      · exact absurd (hcalm j (by omega) hj) hn
  · have hn : ¬ Calm rs h2 q' := hq3.resolve_left (by omega)
    obtain ⟨fq, hfq, hmw, _⟩ := k.uncalm hq hn
    refine ⟨hn, ?_⟩
    unfold addL
    rw [if_neg (by omega)]
    exact inv.later q' fq (by omega) hfq (loud_of_write hmw)
  · unfold addL
    rw [if_neg (by omega)]
    exact inv.later j f' (by omega) hf' hl
  · refine ⟨fun b l e => Nat.lt_of_lt_of_le (hs.dom b l e) hlq, fun b l blk e hb hn => hs.rel b l blk e (by rw [← prefix_get hp (hs.dom b l e)]; exact hb) hn, fun b b' l l' e e' el hl hl' => hs.inj b b' l l' e e' el ((live_prefix hp (hs.dom b l e)).1 hl) ((live_prefix hp (hs.dom b' l' e')).1 hl'), hs.lt⟩
  · refine ⟨Nat.le_trans hx0.le hlq, hx0.old, hx0.size, hx0.frame, hx0.ro, fun b hr => ?_, fun b l hb e => ?_, fun b hb hn => ?_, hx0.out⟩
    · rw [prefix_get hp (Nat.lt_of_lt_of_le hr.live.lt hx0.le)]; exact hx0.roStay b hr
    · rcases hx0.new b l hb e with h5 | ⟨b0, l0, h5, h6, h7, h8, h9⟩
      · exact .inl h5
      · exact .inr ⟨b0, l0, h5, h6, h7, h8, fun hl => h9 ((live_prefix hp (Nat.lt_of_lt_of_le h5.lt hx0.le)).1 hl)⟩
    · exact fun hl => hx0.dead b hb hn ((live_prefix hp (Nat.lt_of_lt_of_le hb hx0.le)).1 hl)
  · unfold addL at hL
    split at hL
    · rename_i hjq
      subst hjq
      exact hx.tot b hb1 ((live_prefix hp hb2).1 hlv)
    · rename_i hjq
      by_cases hlt : j < q
      · have hbq : b < (Hat rs h2 q).length := Nat.lt_of_lt_of_le hb2 (k.grows' hlt inv.le)
        have hbq1 : b < (Hat rs h2 (q + 1)).length := Nat.lt_of_lt_of_le hbq hx.le
        have hl1 := (live_prefix hp hbq1).1 hlv
        have hl2 : live (Hat rs h2 q) b := Classical.byContradiction fun hn => hx.dead b hbq hn hl1
        obtain ⟨l, e⟩ := inv.mapped j hlt hL b hb1 hb2 hl2
        exact ⟨l, (hx.old b hbq).trans e⟩
      · obtain ⟨f', hf'⟩ : ∃ f', fl[j]? = some f' := ⟨_, List.getElem?_eq_getElem (by omega)⟩
        rw [k.soft hf' (hlate j f' (by omega) hf' hL)] at hb2
        omega
  · have hjq : j ≠ q := by rintro rfl; unfold addL at hL; rw [if_pos rfl] at hL; cases hL
    have hLj : L j = false := by unfold addL at hL; rw [if_neg hjq] at hL; exact hL
    by_cases hlt : j < q
    · have hbq : b < (Hat rs h2 q).length := Nat.lt_of_lt_of_le hb2 (k.grows' hlt inv.le)
      rw [hx.old b hbq]
      exact inv.free j hlt hLj b hb1 hb2
    · cases hμ : μ1 b with
      | none => rfl
      | some l =>
        have h5 := hs.dom b l hμ
        have h6 := k.grows' (i := q + 1) (j := j) (by omega) (by omega)
        omega
  · rw [show (a.put f.dst v').defers = a.defers from by cases f.dst <;> rfl]; exact inv.defers

theorem any_step (hF : WideF F) (k : Known P Γ ops fl rs S0 S2 h0 h2 B μ0 a0 w0 N) {L : Nat → Bool} {μ : Ren} {q : Nat} {a : Act} {w : World} (inv : AnyInv P fl rs S0 h0 h2 μ0 a0 w0 N L μ q a w) (hc : Closed ops L) {i : Nat} {o : Oper}
    (ho : ops[i]? = some o) (hLi : L i = false) (he : ∀ e ∈ o.after.toList, Region.binds .any e = true → L e.on = true) :
    wpOpIn F n P ops Q i (fun a' w' => ∃ μ' q', AnyInv P fl rs S0 h0 h2 μ0 a0 w0 N (addL L i) μ' q' a' w') a w := by
  obtain ⟨f, hf, m⟩ := k.fmatch i o ho
  obtain ⟨r, hr, hok, hwk, hh, hh'⟩ := recs_at k.recs i f hf
  by_cases hiq : q < fl.length ∧ i = q
  · obtain ⟨hq, rfl⟩ := hiq
    have hran : r.ran = true := by
      cases hran : r.ran with
      | true => rfl
      | false =>
        exfalso
        apply (inv.next hq).1
        unfold Calm
        rw [← hh, ← hh', (hok.skip hran).2.2]
        exact List.prefix_refl _
    exact any_writer hF k inv hc ho hLi he hf m hr hok hwk hh hh' hran
  · have hiq' : q < fl.length → i ≠ q := fun h e => hiq ⟨h, e⟩
    cases hran : r.ran with
    | false => exact any_soft hF k inv hc ho hLi he hf m hr hok hwk (.inl hran) hiq'
    | true =>
      cases hl : loud f.op with
      | false => exact any_soft hF k inv hc ho hLi he hf m hr hok hwk (.inr hl) hiq'
      | true =>
        have hlt : i < q := by
          apply Classical.byContradiction
          intro hn
          by_cases hq : q < i
          · rw [k.noLate inv hc ho he hf hq] at hl; cases hl
          · have hil := (List.getElem?_eq_some_iff.1 hf).1
            exact hiq ⟨by omega, by omega⟩
        cases hnw : isNew f.op with
        | false => exact any_calm hF k inv hc ho hLi he hf m hr hok hwk hh hh' hran hl hlt hnw
        | true => exact any_maker hF k inv hc ho hLi he hf m hr hok hwk hh hh' hran hl hlt hnw

theorem filter_addL {L : Nat → Bool} {i : Nat} (hi : L i = false) : ∀ {l : List Nat}, l.Nodup → i ∈ l → (l.filter fun j => !addL L i j).length + 1 = (l.filter fun j => !L j).length
  | [], _, h => by cases h
  | x :: l, hn, h => by
    rw [List.nodup_cons] at hn
    by_cases hxi : x = i
    · subst hxi
      have : (l.filter fun j => !addL L x j) = l.filter fun j => !L j := by
        apply List.filter_congr
        intro j hj
        have : j ≠ x := by rintro rfl; exact hn.1 hj
        simp [addL, this]
      rw [List.filter_cons, List.filter_cons, this]
      simp [addL, hi]
    · have hil : i ∈ l := by simpa [Ne.symm hxi] using h
      have ih := filter_addL hi hn.2 hil
      rw [List.filter_cons, List.filter_cons]
      have hx : addL L i x = L x := by simp [addL, hxi]
      rw [hx]
      split
      · simp only [List.length_cons]; omega
      · exact ih

theorem any_all (hF : WideF F) (k : Known P Γ ops fl rs S0 S2 h0 h2 B μ0 a0 w0 N)
    (hQ : ∀ a w μ, FR μ S2 a N → Sim P μ h2 w → Ext μ0 h0 w0 μ h2 w → a.defers = a0.defers → Q .normal a w) :
    ∀ (fuel : Nat) (listed : Array Bool) (a : Act) (w : World) (μ : Ren) (q : Nat), listed.size = ops.size → ((List.range ops.size).filter fun j => !listed.getD j false).length = fuel →
      AnyInv P fl rs S0 h0 h2 μ0 a0 w0 N (fun j => listed.getD j false) μ q a w → Closed ops (fun j => listed.getD j false) → wpAnyIn F n P .any ops Q fuel listed a w := by
  have hfin : ∀ (listed : Array Bool) (a : Act) (w : World) (μ : Ren) (q : Nat), (∀ j, j < ops.size → listed.getD j false = true) → AnyInv P fl rs S0 h0 h2 μ0 a0 w0 N (fun j => listed.getD j false) μ q a w → Q .normal a w := by
    intro listed a w μ q hall inv
    have hq : q = fl.length := by
      apply Classical.byContradiction
      intro hn
      have hlt : q < fl.length := by have := inv.le; omega
      have := (inv.next hlt).2
      rw [hall q (by rw [← k.len]; exact hlt)] at this
      cases this
    have hhat : Hat rs h2 q = h2 := by
      unfold Hat
      rw [List.getElem?_eq_none (by rw [recs_length k.recs]; omega)]
      rfl
    have hcur : Cur (fun j => listed.getD j false) 0 fl rs S0 = S2 := recs_end k.recs (fun i hi => by rw [Nat.zero_add]; exact hall i (by rw [← k.len]; exact hi))
    have hsl := inv.slots
    rw [hcur] at hsl
    have hs := inv.sim
    have hx := inv.ext
    have hmap := inv.mapped
    rw [hhat] at hs hx hmap
    refine hQ a w μ ⟨inv.size, hsl⟩ hs ⟨hx, fun b hb hl => ?_⟩ inv.defers
    -- which operation has made it
    have hb2 : b < h2.length := hl.lt
    obtain ⟨i, hi1, hi2, hi3, hi4⟩ := least_from (fun j => b < (Hat rs h2 (j + 1)).length) (fl.length) 0 (fl.length) (by omega) (by
      have : Hat rs h2 (fl.length + 1) = h2 := by
        unfold Hat
        rw [List.getElem?_eq_none (by rw [recs_length k.recs]; omega)]
        rfl
      rw [this]; exact hb2)
    have hlow : (Hat rs h2 i).length ≤ b := by
      cases i with
      | zero => rw [hat_zero k.recs]; exact hb
      | succ i =>
        have := hi4 i (Nat.zero_le _) (Nat.lt_succ_self _)
        omega
    have hil : i < fl.length := by
      apply Classical.byContradiction
      intro hn
      have hie : i = fl.length := by omega
      subst hie
      rw [← hq, hhat] at hlow
      omega
    exact hmap i (by omega) (hall i (by rw [← k.len]; exact hil)) b hlow hi3 hl
  intro fuel
  induction fuel with
  | zero =>
    intro listed a w μ q hsz hcount inv hc
    have hall : ∀ j, j < ops.size → listed.getD j false = true := by
      intro j hj
      cases hL : listed.getD j false with
      | true => rfl
      | false =>
        have : j ∈ (List.range ops.size).filter fun j => !listed.getD j false := List.mem_filter.2 ⟨List.mem_range.2 hj, by simp [hL]⟩
        rw [List.eq_nil_of_length_eq_zero hcount] at this
        cases this
    refine ⟨?_, hfin listed a w μ q hall inv⟩
    refine List.eq_nil_iff_forall_not_mem.2 (fun i hi => ?_)
    unfold Region.ready at hi
    rw [List.mem_filter, List.mem_range, Bool.and_eq_true] at hi
    have h1 := hall i hi.1
    have h2 := hi.2.1
    have : listed.getD i true = true := by
      rw [Array.getD_eq_getD_getElem?] at h1 ⊢
      rw [Array.getElem?_eq_getElem (by rw [hsz]; exact hi.1)] at h1 ⊢
      exact h1
    rw [this] at h2
    cases h2
  | succ fuel ih =>
    intro listed a w μ q hsz hcount inv hc
    refine ⟨fun hr => ?_, fun i hi => ?_⟩
    · exfalso
      -- the first one that isn't listed is ready
      obtain ⟨j, hj⟩ : ∃ j, j ∈ (List.range ops.size).filter fun j => !listed.getD j false := by
        cases hl : (List.range ops.size).filter fun j => !listed.getD j false with
        | nil => rw [hl] at hcount; cases hcount
        | cons x r => exact ⟨x, by simp⟩
      rw [List.mem_filter, List.mem_range] at hj
      obtain ⟨i, hi1, hi2, hi3, hi4⟩ := least_from (fun j => listed.getD j false = false) j 0 j (by omega) (by simpa using hj.2)
      have hil : i < ops.size := by omega
      have ho : ops[i]? = some ops[i] := Array.getElem?_eq_getElem hil
      have : i ∈ Region.ready .any ops listed := by
        unfold Region.ready
        rw [List.mem_filter, List.mem_range, Bool.and_eq_true]
        refine ⟨hil, ?_, ?_⟩
        · rw [Array.getD_eq_getD_getElem?] at hi3 ⊢
          rw [Array.getElem?_eq_getElem (by rw [hsz]; exact hil)] at hi3 ⊢
          simpa using hi3
        · rw [ho]
          simp only [Option.map_some, Option.getD_some]
          rw [Array.all_eq_true_iff_forall_mem]
          intro e he
          cases hb : Region.binds .any e with
          | false => rfl
          | true =>
            have hlt := k.ord.edges i _ ho e (by simpa using he) hb
            have := hi4 e.on (Nat.zero_le _) hlt
            simpa using this
      rw [hr] at this
      cases this
    · unfold Region.ready at hi
      rw [List.mem_filter, List.mem_range, Bool.and_eq_true] at hi
      obtain ⟨hil, hi2, hi3⟩ := hi
      have ho : ops[i]? = some ops[i] := Array.getElem?_eq_getElem hil
      have hLi : listed.getD i false = false := by
        rw [Array.getD_eq_getD_getElem?] at hi2 ⊢
        rw [Array.getElem?_eq_getElem (by rw [hsz]; exact hil)] at hi2 ⊢
        simpa using hi2
      rw [ho] at hi3
      simp only [Option.map_some, Option.getD_some] at hi3
      rw [Array.all_eq_true_iff_forall_mem] at hi3
      have he : ∀ e ∈ ops[i].after.toList, Region.binds .any e = true → listed.getD e.on false = true := by
        intro e hem hb
        have := hi3 e (by simpa using hem)
        rw [hb] at this
        simpa using this
      have hL : (fun j => (listed.setIfInBounds i true).getD j false) = addL (fun j => listed.getD j false) i := by
        funext j
        unfold addL
        rw [Array.getD_eq_getD_getElem?]
        by_cases hji : j = i
        · subst hji
          rw [if_pos rfl, Array.getElem?_setIfInBounds_self_of_lt (by rw [hsz]; exact hil)]
          rfl
        · rw [if_neg hji, Array.getElem?_setIfInBounds_ne (Ne.symm hji)]
          exact (Array.getD_eq_getD_getElem? ..).symm
      refine wpOpIn_mono (fun a' w' ⟨μ', q', inv'⟩ => ?_) (any_step (n := n) (Q := Q) hF k inv hc ho hLi he)
      refine ih (listed.setIfInBounds i true) a' w' μ' q' (by simp [hsz]) ?_ (by rw [hL]; exact inv') (by
        rw [hL]
        intro j o' ho' hLj e hem hb
        unfold addL at hLj ⊢
        split at hLj
        · rename_i hji
          subst hji
          rw [ho] at ho'
          cases ho'
          split
          · rfl
          · exact he e hem hb
        · split
          · rfl
          · exact hc j o' ho' hLj e hem hb)
      have hfl := filter_addL (L := fun j => listed.getD j false) hLi (l := List.range ops.size) List.nodup_range (List.mem_range.2 hil)
      have hcg : ((List.range ops.size).filter fun j => !(listed.setIfInBounds i true).getD j false) = (List.range ops.size).filter fun j => !addL (fun j => listed.getD j false) i j := by
        apply List.filter_congr
        intro j _
        rw [show (listed.setIfInBounds i true).getD j false = addL (fun j => listed.getD j false) i j from congrFun hL j]
      rw [hcg]
      omega
end
end Go.Am

/- Regions: the check of the edges, and the two theorems as one. -/
namespace Go.Am
variable {P : Program}

theorem ordOk_of {ops : Array Oper} {fl : List FOp} {B : List Nat} (h : drawOkB ops fl B = true) : OrdOk ops fl B := by
  simp only [drawOkB, Bool.and_eq_true] at h
  obtain ⟨⟨h1, h2⟩, h3⟩ := h
  have hpair : ∀ (i j : Nat) (f f' : FOp), fl[i]? = some f → fl[j]? = some f' → (i = j ∨ sameDst f f' = false) ∧ (i < j → clash f f' = true → (B.getD j 0).testBit i = true) ∧
      (mayWrite f.op = true → f.chk = false → loud f'.op = true → (i < j → (B.getD j 0).testBit i = true) ∧ (j < i → (B.getD i 0).testBit j = true ∨ exempt fl i j = true)) := by
    intro i j f f' hf hf'
    have hi := (List.getElem?_eq_some_iff.1 hf).1
    have hj := (List.getElem?_eq_some_iff.1 hf').1
    have := List.all_eq_true.1 (List.all_eq_true.1 h3 i (List.mem_range.2 hi)) j (List.mem_range.2 hj)
    rw [hf, hf'] at this
    simp only [Bool.and_eq_true, Bool.or_eq_true, Bool.not_eq_true', decide_eq_false_iff_not, beq_iff_eq] at this
    obtain ⟨⟨g1, g2⟩, g3⟩ := this
    refine ⟨g1, fun hij hcl => ?_, fun hm hc hl => ?_⟩
    · rcases g2 with (g | g) | g
      · exact absurd hij g
      · rw [hcl] at g; cases g
      · exact g
    · rcases g3 with ((g | g) | g) | g
      · rw [hm] at g; cases g
      · rw [hc] at g; cases g
      · rw [hl] at g; cases g
      · exact ⟨fun hij => g.1.resolve_left (by simpa using hij), fun hji => by
          rcases g.2 with (g2 | g2) | g2
          · exact absurd hji g2
          · exact .inl g2
          · exact .inr g2⟩
  refine ⟨fun i o ho e he hb => ?_, fun i j o ho hj => ?_, fun i j f f' t hij hf hf' hd hd' => ?_, fun i j f f' t hij hf hf' hc => ?_, fun i f hf hm hc j f' hf' hl => (hpair i j f f' hf hf').2.2 hm hc hl⟩
  · have hi := (Array.getElem?_eq_some_iff.1 ho).1
    have := List.all_eq_true.1 h1 i (List.mem_range.2 hi)
    rw [ho] at this
    have := List.all_eq_true.1 this e he
    rw [hb] at this
    simpa using this
  · have hi := (Array.getElem?_eq_some_iff.1 ho).1
    have h4 := List.all_eq_true.1 h2 i (List.mem_range.2 hi)
    simp only [Bool.and_eq_true, decide_eq_true_eq] at h4
    have hjn : j < ops.size := by
      apply Classical.byContradiction
      intro hn
      have : (B.getD i 0).testBit j = false := Nat.testBit_lt_two_pow (Nat.lt_of_lt_of_le h4.1 (Nat.pow_le_pow_right (by omega) (by omega)))
      rw [this] at hj
      cases hj
    have h5 := List.all_eq_true.1 h4.2 j (List.mem_range.2 hjn)
    rw [hj, ho] at h5
    simp only [Bool.not_true, Bool.false_or, List.any_eq_true, Bool.and_eq_true, Bool.or_eq_true, beq_iff_eq] at h5
    obtain ⟨e, he, hb, hc⟩ := h5
    exact ⟨e, he, hb, hc⟩
  · have := (hpair i j f f' hf hf').1.resolve_left hij
    unfold sameDst at this
    rw [hd, hd'] at this
    simp at this
  · refine (hpair i j f f' hf hf').2.1 hij ?_
    unfold clash
    rcases hc with ⟨hd, ht⟩ | ⟨hd, ht⟩
    · rw [hd]; simp [ht]
    · rw [hd]; simp [ht]

theorem dst_of {fl : List FOp} {N : Nat} (h : (fl.all fun f => f.dst.toList.all fun d => decide (d < N)) = true) : ∀ f ∈ fl, ∀ d, f.dst = some d → d < N := by
  intro f hf d hd
  have := List.all_eq_true.1 h f hf
  rw [hd] at this
  simpa using this

/-- A region goes as its list of operations does in the text's order. -/
theorem region_sound {F : Fence} {n N : Nat} {Γ : Callee} {id : Nat} {ops : Array Oper} {draw : Bool} {fl : List FOp} {e e2 : Env} {h h2 : AHeap} {μ : Ren} {a : Act} {w : World} {Q : Exit → Act → World → Prop}
    (hF : WideF F) (hmix : P.follows .mixedOrders = true) (hΓ : CallOk P Γ) (hc : compRegion P N ops draw = some fl) (t : Tr Γ fl e h e2 h2) (fr : FR μ e a N) (s : Sim P μ h w)
    (hQ : ∀ a' w' μ', FR μ' e2 a' N → Sim P μ' h2 w' → Ext μ h w μ' h2 w' → a'.defers = a.defers → Q .normal a' w') : (Code.region id ops draw).wpIn F n P Q a w := by
  have hmatch : ∀ {chkOf : Nat → Bool} {fl : List FOp}, compL P ops chkOf ops.toList 0 = some fl → fl.length = ops.size ∧ ∀ (j : Nat) (o : Oper), ops[j]? = some o → ∃ f, fl[j]? = some f ∧ FMatch P ops o f := by
    intro chkOf fl hcl
    obtain ⟨h1, h2⟩ := compL_spec hcl
    refine ⟨by simpa using h1, fun j o ho => ?_⟩
    obtain ⟨f, hf, hm, _⟩ := h2 j o (by simpa using ho)
    exact ⟨f, hf, hm⟩
  cases draw with
  | false =>
    unfold compRegion at hc
    simp only [] at hc
    split at hc
    · rename_i fl' hcl
      split at hc
      · rename_i hd
        cases hc
        obtain ⟨hlen, hm⟩ := hmatch hcl
        refine wpIn_region ?_
        have := tr_text (n := n) (Q := Q) hF hΓ hlen hm (dst_of hd) t 0 a w μ (by simp) fr s hQ
        rw [hlen] at this
        rw [List.range_eq_range']
        exact this
      · cases hc
    · cases hc
  | true =>
    unfold compRegion at hc
    simp only [] at hc
    split at hc
    · rename_i fl0 _
      split at hc
      · rename_i fl' hcl
        split at hc
        · rename_i hd
          cases hc
          obtain ⟨hlen, hm⟩ := hmatch hcl
          obtain ⟨rs, S2, hrecs, hw2⟩ := tr_recs t e (Weaker.refl e)
          let w0 : World := { w with drawn := w.drawn + 1 }
          have s0 : Sim P μ h w0 := ⟨s.dom, s.rel, s.inj, s.lt⟩
          have k : Known P Γ ops fl rs e S2 h h2 (befs ops) μ a w0 N := ⟨hrecs, ordOk_of hd.2, hΓ, hlen, hm, dst_of hd.1, fr, s0⟩
          refine wpIn_region_draw fun t => ?_
          simp only [Region.schedule, hmix, Bool.true_or, if_true]
          refine wpAnyIn_sound ops.size t _ a w0 ?_
          have hrep : ∀ j, (Array.replicate ops.size false).getD j false = false := by
            intro j
            rw [Array.getD_eq_getD_getElem?]
            by_cases hj : j < ops.size
            · rw [Array.getElem?_eq_getElem (by simpa using hj)]; simp
            · rw [Array.getElem?_eq_none (by simpa using hj)]; rfl
          -- the first stage
          obtain ⟨q, _, hq2, hq3, hq4⟩ := least_from (fun j => j = fl.length ∨ ¬ Calm rs h2 j) fl.length 0 fl.length (by omega) (.inl rfl)
          have hcalm : ∀ j, 0 ≤ j → j < q → Calm rs h2 j := fun j h5 h6 => Classical.byContradiction fun hn => hq4 j h5 h6 (.inr hn)
          have hp : h <+: Hat rs h2 q := by
            have := chain_prefix (h2 := h2) hcalm (Nat.zero_le _)
            rwa [hat_zero hrecs] at this
          have hlq : h.length ≤ (Hat rs h2 q).length := hp.length_le
          refine any_all (n := n) (Q := Q) hF k (fun a' w' μ' h3 h4 h5 h6 => hQ a' w' μ' (h3.weak hw2) h4 ⟨⟨h5.le, h5.old, h5.size, h5.frame, h5.ro, h5.roStay, h5.new, h5.dead, h5.out⟩, h5.tot⟩ h6) ops.size _ a w0 μ q (by simp) ?_ ?_ (by
            intro i o ho hL
            have hL' : (Array.replicate ops.size false).getD i false = true := hL
            rw [hrep] at hL'
            cases hL')
          · have : ((List.range ops.size).filter fun j => !(Array.replicate ops.size false).getD j false) = List.range ops.size := by
              rw [List.filter_eq_self]
              intro j _
              rw [hrep]
              rfl
            rw [this, List.length_range]
          · refine ⟨hq2, fun i hi hn => absurd (hcalm i (Nat.zero_le _) hi) hn, fun hq => ⟨hq3.resolve_left (by omega), hrep _⟩, fun i f _ _ _ => hrep i, ?_, ?_, fun i _ hL => ?_, fun i hi _ b hb1 hb2 => ?_, fr.size, fun t => ?_, rfl⟩
            · exact ⟨fun b l e => Nat.lt_of_lt_of_le (s0.dom b l e) hlq, fun b l blk e hb hn => s0.rel b l blk e (by rw [← prefix_get hp (s0.dom b l e)]; exact hb) hn, fun b b' l l' e e' el hl hl' => s0.inj b b' l l' e e' el ((live_prefix hp (s0.dom b l e)).1 hl) ((live_prefix hp (s0.dom b' l' e')).1 hl'), s0.lt⟩
            · exact ⟨hlq, fun _ _ => rfl, Nat.le_refl _, fun _ _ _ => rfl, fun _ _ _ _ => rfl, fun b hr => prefix_get hp hr.live.lt, fun b l hb e => absurd (s0.dom b l e) (by omega), fun b hb hn hl => hn ((live_prefix hp hb).1 hl), Out.rfl⟩
            · have hL' : (Array.replicate ops.size false).getD i false = true := hL
              rw [hrep] at hL'; cases hL'
            · cases hμ : μ b with
              | none => rfl
              | some l =>
                have h5 := s0.dom b l hμ
                have h6 := k.grows' (i := 0) (j := i) (Nat.zero_le _) (by omega)
                rw [hat_zero hrecs] at h6
                omega
            · rw [cur_none _ _ _ _ (fun i _ => hrep _)]
              exact fr.rel t
        · cases hc
      · cases hc
    · cases hc

end Go.Am

/- Code. -/
namespace Go.Am
variable {P : Program}

theorem subB_spec {a b : List Nat} (h : subB a b = true) : ∀ i ∈ a, i ∈ b := fun i hi => contains_mem (List.all_eq_true.1 h i hi)

theorem setMany_get {e e1 : Env} : ∀ {l : List Nat} {t : Nat}, setMany e l (getMany e1 l) t = if t ∈ l then e1 t else e t
  | [], t => by simp [getMany, setMany]
  | i :: l, t => by
    simp only [getMany, setMany]
    by_cases h : i = t
    · subst h; rw [upd_self]; simp
    · rw [upd_ne _ _ h]
      show setMany e l (getMany e1 l) t = _
      rw [setMany_get]
      have : t ≠ i := Ne.symm h
      simp [this]
/-- Where ways meet: the slots that are told, the ones that are forgotten, and the rest. -/
theorem join_weaker {e e1 : Env} {mod tmp : List Nat} (h : ∀ t, t ∉ mod ++ tmp → e1 t = e t) : Weaker (setMany (junkAll e tmp) mod (getMany e1 mod)) e1 := by
  intro t
  rw [setMany_get]
  split
  · left; rfl
  · rename_i hm
    by_cases ht : t ∈ tmp
    · right; exact junkAll_mem ht
    · left; rw [junkAll_not ht]; exact (h t (by simp [hm, ht])).symm
theorem join_same {e : Env} {mod tmp : List Nat} {vs : List Value} {t : Nat} (h : t ∉ mod ++ tmp) : setMany (junkAll e tmp) mod vs t = e t := by
  simp only [List.mem_append, not_or] at h
  have : ∀ (l : List Nat) (vs : List Value) (e : Env), t ∉ l → setMany e l vs t = e t := by
    intro l
    induction l with
    | nil => intros; simp [setMany]
    | cons i l ih =>
      intro vs e hn
      simp only [List.mem_cons, not_or] at hn
      simp only [setMany]; rw [upd_ne _ _ (Ne.symm hn.1)]; exact ih _ e hn.2
  rw [this mod vs _ h.1, junkAll_not h.2]

def exitOf : AExit → Exit
  | .normal => .normal
  | .exit i => .exit i
  | .ret => .ret
variable {μ : Ren} {w : World}
/-! Marks -/
/-- The deferred calls are what they were, and marks of ranges over functions, whose blocks nobody else names. -/
def DefersOk (lo : Nat) (μ : Ren) (h : AHeap) (w : World) (d0 d : List Deferred) : Prop :=
  ∃ rs : List Nat, d = rs.map (fun r => { target := .collected r, args := #[] }) ++ d0 ∧ rs.Nodup ∧ ∀ r ∈ rs, lo ≤ r ∧ w.heap[r]? = some (.deferred (some [])) ∧ ∀ b l, live h b → μ b = some l → l.blk ≠ r
theorem DefersOk.rfl {lo : Nat} {h : AHeap} {d : List Deferred} : DefersOk lo μ h w d d := ⟨[], by simp, by simp, fun r hr => by cases hr⟩
theorem mark_ext {μ' : Ren} {h h' : AHeap} {w' : World} (x : Ext μ h w μ' h' w') {r : Nat} (h1 : w.heap[r]? = some (.deferred (some []))) (h2 : ∀ b l, live h b → μ b = some l → l.blk ≠ r) :
    w'.heap[r]? = some (.deferred (some [])) ∧ ∀ b l, live h' b → μ' b = some l → l.blk ≠ r := by
  have hr : r < w.heap.size := (Array.getElem?_eq_some_iff.1 h1).1
  refine ⟨by rw [x.frame r hr h2]; exact h1, fun b l hb e => ?_⟩
  by_cases hlt : b < h.length
  · have hl : live h b := Classical.byContradiction fun hn => x.dead b hlt hn hb
    exact h2 b l hl ((x.old b hlt).symm.trans e)
  · rcases x.new b l (by omega) e with h3 | ⟨b0, l0, hl0, _, e0, e1, _⟩
    · omega
    · rw [← e1]; exact h2 b0 l0 hl0 e0
theorem DefersOk.trans {lo : Nat} {μ' : Ren} {h h' : AHeap} {w' : World} {d0 d1 d2 : List Deferred} (a : DefersOk lo μ h w d0 d1) (x : Ext μ h w μ' h' w') (b : DefersOk w.heap.size μ' h' w' d1 d2) (hlo : lo ≤ w.heap.size) : DefersOk lo μ' h' w' d0 d2 := by
  obtain ⟨rs1, e1, n1, k1⟩ := a
  obtain ⟨rs2, e2, n2, k2⟩ := b
  refine ⟨rs2 ++ rs1, by rw [e2, e1]; simp, ?_, fun r hr => ?_⟩
  · refine List.nodup_append.2 ⟨n2, n1, fun r hr r' hr' hne => ?_⟩
    subst hne
    have := (k2 r hr).1
    have h3 := (Array.getElem?_eq_some_iff.1 (k1 r hr').2.1).1
    omega
  · rcases List.mem_append.1 hr with hr | hr
    · exact ⟨by have := (k2 r hr).1; omega, (k2 r hr).2⟩
    · exact ⟨(k1 r hr).1, mark_ext x (k1 r hr).2.1 (k1 r hr).2.2⟩
/-- How a piece of code ends. -/
def CPost {R : Type} (P : Program) (K : AExit → Env → AHeap → Option R) (r : R) (wr : List Nat) (e : Env) (μ : Ren) (h : AHeap) (w : World) (a : Act) (N : Nat) : Exit → Act → World → Prop :=
  fun x a' w' => ∃ o e' h' μ', exitOf o = x ∧ K o e' h' = some r ∧ (∀ t, t ∉ wr → e' t = e t) ∧ FR μ' e' a' N ∧ Sim P μ' h' w' ∧ Ext μ h w μ' h' w' ∧ DefersOk w.heap.size μ' h' w' a.defers a'.defers

noncomputable def leastN (p : Nat → Prop) : Nat := open Classical in if H : ∃ n, p n then Classical.choose (show ∃ n, p n ∧ ∀ k, k < n → ¬ p k by
  obtain ⟨m, hm⟩ := H
  obtain ⟨q, _, _, h3, h4⟩ := least_from p m 0 m (by omega) hm
  exact ⟨q, h3, fun k hk => h4 k (Nat.zero_le _) hk⟩) else 0
theorem leastN_spec {p : Nat → Prop} {m : Nat} (h : p m) : p (leastN p) ∧ leastN p ≤ m := by
  have H : ∃ n, p n := ⟨m, h⟩
  unfold leastN
  rw [dif_pos H]
  generalize hc : Classical.choose _ = c
  have hs := Classical.choose_spec (show ∃ n, p n ∧ ∀ k, k < n → ¬ p k by
    obtain ⟨m, hm⟩ := H
    obtain ⟨q, _, _, h3, h4⟩ := least_from p m 0 m (by omega) hm
    exact ⟨q, h3, fun k hk => h4 k (Nat.zero_le _) hk⟩)
  rw [hc] at hs
  refine ⟨hs.1, ?_⟩
  apply Classical.byContradiction
  intro hn
  exact hs.2 m (by omega) h

theorem endLoop_some {h : AHeap} {b : Nat} {o : Option AExit} (ho : pendOf b h = some o) : ∃ vals lv2 ps2 ab2 bb2 st, h[b]? = some (.loop vals lv2 ps2 ab2 bb2 st o) ∧ st ≠ .busy := by
  unfold pendOf at ho
  split at ho
  · cases ho; exact ⟨_, _, _, _, _, _, by assumption, by simp⟩
  · cases ho; exact ⟨_, _, _, _, _, _, by assumption, by simp⟩
  · cases ho
theorem callFf_some {Γ : Callee} {f : Value} {args : List Value} {h : AHeap} {r : Value × AHeap} (hp : callFf Γ f args h = some r) : ∃ g xs ys, f = .func (.func g) xs ys ∧ Nat.blt g yieldId = true ∧ Γ g (xs.toList ++ args ++ ys.toList) h = some r := by
  unfold callFf at hp
  split at hp
  · rename_i g xs ys
    cases hblt : Nat.blt g yieldId with
    | false => rw [hblt] at hp; cases hp
    | true => rw [hblt] at hp; exact ⟨g, xs, ys, rfl, hblt, hp⟩
  · cases hp
/-- Behind the call of a range over a function. -/
theorem range_end {R : Type} {F : Fence} {n N : Nat} {lv ps : List Nat} {ab bb : ACode} {g : Operand} {K : AExit → Env → AHeap → Option R} {e : Env} {h h2 : AHeap} {r : R} {a : Act} {w2 w3 : World} {μ3 : Ren} {v : Value} {o : Option AExit} {blk : ABlk}
    (s : Sim P μ h w) (x1 : Ext μ h w μ h (w.alloc (.deferred (some [])))) (x2 : Ext μ h (w.alloc (.deferred (some []))) (grow μ h.length (w.heap.size + 1) 0) (h ++ [blk]) w2) (x3 : Ext (grow μ h.length (w.heap.size + 1) 0) (h ++ [blk]) w2 μ3 h2 w3)
    (hd1 : ∀ b l, μ b = some l → b < h.length) (hd2 : ∀ b l, grow μ h.length (w.heap.size + 1) 0 b = some l → b < (h ++ [blk]).length) (s3 : Sim P μ3 h2 w3)
    (hk : (match o with | none => K .normal e (h2.set h.length .dead) | some x => K x e (h2.set h.length .dead)) = some r) (ho : pendOf h.length h2 = some o) (fr : FR μ e a N) :
    rangePost F n P (w.heap.size + 1) (CPost P K r (writesC (.rangeF g lv ps ab bb)) e μ h w a N) { a with defers := [{ target := .collected w.heap.size, args := #[] }] ++ a.defers } (.returned v) w3 := by
  have hmu : μ3 h.length = some ⟨w.heap.size + 1, 0⟩ := (x3.old h.length (by simp)).trans (grow_new _ _ _)
  obtain ⟨vals, lv2, ps2, ab2, bb2, st, hblk, hst⟩ := endLoop_some ho
  obtain ⟨o3, ho3, r3, rfl, hs3, hp3, _⟩ := s3.rel _ _ _ hmu hblk (by simp)
  have hroB : ¬ isRo h2 h.length := by rintro ⟨vs, t', e2⟩; rw [hblk] at e2; cases e2
  obtain ⟨s4, x4⟩ := s3.killBlk (o' := .loop { r3 with state := .exhausted }) hmu hblk (by simp) hroB
  have hxx : Ext μ h w μ3 (h2.set h.length .dead) (w3.putObj (w.heap.size + 1) (.loop { r3 with state := .exhausted })) := x1.trans (x2.trans (x3.trans x4 hd2) hd1) hd1
  have hmk0 : (w.alloc (.deferred (some []))).heap[w.heap.size]? = some (.deferred (some [])) := getElem?_alloc_new w _
  have hmk1 := mark_ext x2 hmk0 (fun b l _ e2 => by have := s.lt b l e2; omega)
  have hmk2 := mark_ext x3 hmk1.1 hmk1.2
  have hmk3 := mark_ext x4 hmk2.1 hmk2.2
  have hdef : DefersOk w.heap.size μ3 (h2.set h.length .dead) (w3.putObj (w.heap.size + 1) (.loop { r3 with state := .exhausted })) a.defers ([{ target := .collected w.heap.size, args := #[] }] ++ a.defers) :=
    ⟨[w.heap.size], rfl, by simp, fun r hr => by rw [List.mem_singleton] at hr; subst hr; exact ⟨Nat.le_refl _, hmk3⟩⟩
  have hfr : FR μ3 e { a with defers := [{ target := .collected w.heap.size, args := #[] }] ++ a.defers } N := ⟨fr.size, fun i => (fr.rel i).mono (hxx.renLe s.dom)⟩
  have hrun := run_endLoop (P := P) ho3 (by rw [hs3]; cases st <;> first | exact absurd rfl hst | simp [lstOf])
  generalize w3.putObj (w.heap.size + 1) (.loop { r3 with state := .exhausted }) = W4 at hrun s4 hxx hdef
  refine ⟨r3.pending, W4, hrun, ?_⟩
  rw [hp3]
  cases o with
  | none => exact ⟨.normal, e, _, μ3, rfl, hk, fun _ _ => rfl, hfr, s4, hxx, hdef⟩
  | some x =>
    have hq : ∀ x' : AExit, K x' e (h2.set h.length .dead) = some r → CPost P K r (writesC (.rangeF g lv ps ab bb)) e μ h w a N (exitOf x') { a with defers := [{ target := .collected w.heap.size, args := #[] }] ++ a.defers } W4 :=
      fun x' hk' => ⟨x', e, _, μ3, rfl, hk', fun _ _ => rfl, hfr, s4, hxx, hdef⟩
    cases x with
    | normal => exact wpIn_skip (hq .normal hk)
    | exit i => exact wpIn_exit (hq (.exit i) hk)
    | ret => exact wpIn_ret (hq .ret hk)
theorem range_sound {R : Type} {F : Fence} {n N fuel : Nat} {Γ : Callee} (hF : WideF F) (hΓ : CallOk P Γ) {g : Operand} {lv : List Nat} {ps' : Array Tmp} {ab bb : ACode} {as bd : Code} {K : AExit → Env → AHeap → Option R} {e : Env} {h : AHeap} {r : R} {a : Act}
    (c1 : (ps'.toList.all fun p => decide (p < N)) = true) (c2 : ps'.toList.Nodup) (h1 : CodeOk P N ab as) (h2 : CodeOk P N bb bd) (hx : okX g = true) (hro : F.round = none)
    (hk : codeK Γ fuel (.rangeF g lv ps'.toList ab bb) K e h = some r) (fr : FR μ e a N) (s : Sim P μ h w) :
    (Code.rangeFunc g ps' as bd).wpIn F n P (CPost P K r (writesC (.rangeF g lv ps'.toList ab bb)) e μ h w a N) a w := by
  simp only [codeK, Option.bind_eq_some_iff] at hk
  obtain ⟨⟨v, h2'⟩, hp, o, ho, hk⟩ := hk
  simp only at ho hk
  obtain ⟨f, xs, ys, hf, hblt, hp⟩ := callFf_some hp
  have hvx := fr.op g hx
  rw [hf] at hvx
  generalize hy : a.eval g = y at hvx
  cases hvx with
  | @func _ _ _ xs' ys' q1 q2 =>
    obtain ⟨hcf, hcall⟩ := hΓ.fn f hblt _ _ _ _ hp
    refine wpIn_rangeFunc (fun fn hfn => ?_)
    rw [hro]
    obtain ⟨s1, x1⟩ := s.spare (.deferred (some []))
    have hsz1 : (w.alloc (.deferred (some []))).heap.size = w.heap.size + 1 := size_alloc' _ _
    have hrel : ∀ i, VR (grow μ h.length (w.alloc (.deferred (some []))).heap.size 0) (setMany (fun _ => junk) lv (getMany e lv) i) (a.tmps.getD i undef) := fun i => by
      rw [setMany_get]
      split
      · exact (fr.rel i).mono (grow_le s1 _ _)
      · exact .junk _
    obtain ⟨s2, x2⟩ := s1.alloc (w0 := w.alloc (.deferred (some []))) rfl Out.rfl (K := 0) (blk := .loop (getMany e lv) lv ps'.toList ab bb .ready none)
      (o := .loop { state := .ready, pending := none, fn := fn, tmps := a.tmps, params := ps', assign := as, body := bd, defers := w.heap.size })
      ⟨_, rfl, rfl, rfl, rfl, by rw [fr.size]; exact c1, c2, by rw [fr.size]; exact h1, by rw [fr.size]; exact h2, hrel⟩
    rw [hsz1] at s2 x2
    have hle : RenLe μ (grow μ h.length (w.heap.size + 1) 0) := grow_le s1 _ _
    have hargs : VRL (grow μ h.length (w.heap.size + 1) 0) (xs.toList ++ [Value.func (.yield h.length) ⟨[]⟩ ⟨[]⟩] ++ ys.toList) (xs'.toList ++ [Value.func (.yield (w.heap.size + 1)) ⟨[]⟩ ⟨[]⟩] ++ ys'.toList) :=
      ((q1.mono hle).append (.cons (.yield (grow_new _ _ _)) .nil)).append (q2.mono hle)
    refine ⟨w.heap.size + 1, _, _, _, _, f, (xs'.toList ++ [Value.func (.yield (w.heap.size + 1)) ⟨[]⟩ ⟨[]⟩] ++ ys'.toList).toArray, _, run_enterLoop_outer _ _ _ _ _, resolve_value rfl hy, fun f' _ => hF.1 f', ?_, fun hd => (by rw [hF.2] at hd; cases hd),
      (hcall _ _ _ s2 hargs F (n - 1) hF).mono ?_⟩
    · have hm : xs' ++ (rangeCall g (w.heap.size + 1)).args.map a.eval ++ ys' = (xs'.toList ++ [Value.func (.yield (w.heap.size + 1)) ⟨[]⟩ ⟨[]⟩] ++ ys'.toList).toArray := Array.ext' (by simp [rangeCall, Act.eval])
      simp only [invoke, hm]
      exact hcf _ _
    · rintro e' w3 ⟨v', μ3, rfl, hv, s3, x3⟩
      exact range_end s x1 x2 x3 s1.dom s2.dom s3 hk ho fr
theorem code_sound {R : Type} {F : Fence} {n N fuel : Nat} {Γ : Callee} (hF : WideF F) (hmix : P.follows .mixedOrders = true) (hΓ : CallOk P Γ) :
    ∀ (ac : ACode) (c : Code) (K : AExit → Env → AHeap → Option R) (e : Env) (h : AHeap) (r : R) (a : Act) (w : World) (μ : Ren), compCode P N c = some (eraseC ac) → okC ac = true → (F.round = none ∨ noRange (eraseC ac) = true) → codeK Γ fuel ac K e h = some r →
      FR μ e a N → Sim P μ h w → c.wpIn F n P (CPost P K r (writesC ac) e μ h w a N) a w := by
  intro ac
  induction ac with
  | skip =>
    intro c K e h r a w μ hc hok hR hk fr s
    have hpost : CPost P K r (writesC .skip) e μ h w a N .normal a w := ⟨.normal, e, h, μ, rfl, hk, fun _ _ => rfl, fr, s, Ext.refl _ _ _ s.dom, DefersOk.rfl⟩
    cases c with
    | skip => exact wpIn_skip hpost
    | label l => exact wpIn_label hpost
    | region _ _ _ => simp only [compCode, eraseC] at hc; split at hc <;> cases hc
    | seq _ _ => simp only [compCode, eraseC] at hc; split at hc <;> cases hc
    | cond _ _ _ => simp only [compCode, eraseC] at hc; split at hc <;> cases hc
    | block _ _ => simp only [compCode, eraseC] at hc; split at hc <;> cases hc
    | loop _ => simp only [compCode, eraseC] at hc; split at hc <;> cases hc
    | rangeFunc _ _ _ _ => simp only [compCode, eraseC] at hc; split at hc <;> first | cases hc | (split at hc <;> cases hc)
    | _ => cases hc
  | region draw st =>
    intro c K e h r a w μ hc hok hR hk fr s
    cases c with
    | region id ops draw' =>
      simp only [compCode, eraseC] at hc
      split at hc
      · rename_i fl hfl
        cases hc
        obtain ⟨e2, h2, ht, hK, hw⟩ := steps_tr st [] none none _ e h r hok (fun c b hg => by cases hg) hk
        exact region_sound hF hmix hΓ hfl ht fr s (fun a' w' μ' h3 h4 h5 h6 => ⟨.normal, e2, h2, μ', rfl, hK, hw, h3, h4, h5, by rw [h6]; exact DefersOk.rfl⟩)
      · cases hc
    | seq _ _ => simp only [compCode, eraseC] at hc; split at hc <;> cases hc
    | cond _ _ _ => simp only [compCode, eraseC] at hc; split at hc <;> cases hc
    | block _ _ => simp only [compCode, eraseC] at hc; split at hc <;> cases hc
    | loop _ => simp only [compCode, eraseC] at hc; split at hc <;> cases hc
    | rangeFunc _ _ _ _ => simp only [compCode, eraseC] at hc; split at hc <;> first | cases hc | (split at hc <;> cases hc)
    | _ => cases hc
  | seq x y ihx ihy =>
    intro c K e h r a w μ hc hok hR hk fr s
    simp only [okC, Bool.and_eq_true] at hok
    cases c with
    | seq c1 c2 =>
      simp only [compCode, eraseC] at hc
      split at hc
      · rename_i f1 f2 h1 h2
        cases hc
        refine wpIn_seq (wpIn_mono (ihx c1 _ e h r a w μ h1 hok.1 (hR.imp (fun h => h) fun h => by simp only [noRange, eraseC, Bool.and_eq_true] at h; exact h.1) hk fr s) ?_)
        rintro x1 a1 w1 ⟨o, e1, h1', μ1, rfl, hK, hag, fr1, s1, x1, hd⟩
        cases o with
        | normal =>
          refine wpIn_mono (ihy c2 K e1 h1' r a1 w1 μ1 h2 hok.2 (hR.imp (fun h => h) fun h => by simp only [noRange, eraseC, Bool.and_eq_true] at h; exact h.2) hK fr1 s1) ?_
          rintro x2 a2 w2 ⟨o2, e2, h2', μ2, rfl, hK2, hag2, fr2, s2, x2, hd2⟩
          exact ⟨o2, e2, h2', μ2, rfl, hK2, fun t ht => by
            simp only [writesC, List.mem_append, not_or] at ht
            rw [hag2 t ht.2, hag t ht.1], fr2, s2, x1.trans x2 s.dom, hd.trans x2 hd2 x1.size⟩
        | exit i => exact ⟨.exit i, e1, h1', μ1, rfl, hK, fun t ht => hag t (fun h => ht (by simp [writesC, h])), fr1, s1, x1, hd⟩
        | ret => exact ⟨.ret, e1, h1', μ1, rfl, hK, fun t ht => hag t (fun h => ht (by simp [writesC, h])), fr1, s1, x1, hd⟩
      · cases hc
    | region _ _ _ => simp only [compCode, eraseC] at hc; split at hc <;> cases hc
    | cond _ _ _ => simp only [compCode, eraseC] at hc; split at hc <;> cases hc
    | block _ _ => simp only [compCode, eraseC] at hc; split at hc <;> cases hc
    | loop _ => simp only [compCode, eraseC] at hc; split at hc <;> cases hc
    | rangeFunc _ _ _ _ => simp only [compCode, eraseC] at hc; split at hc <;> first | cases hc | (split at hc <;> cases hc)
    | _ => cases hc
  | cond x mod tmp y z ihy ihz =>
    intro c K e h r a w μ hc hok hR hk fr s
    simp only [okC, Bool.and_eq_true] at hok
    obtain ⟨⟨⟨hs1, hs2⟩, ho1⟩, ho2⟩ := hok
    cases c with
    | cond x' c1 c2 =>
      simp only [compCode, eraseC] at hc
      split at hc
      · rename_i f1 f2 hx h1 h2
        cases hc
        simp only [codeK, JL, ifK] at hk
        have hvx := fr.op x hx
        split at hk
        · rename_i t ht
          rw [ht] at hvx
          generalize hy : a.eval x = y' at hvx
          cases hvx
          refine wpIn_cond hy ?_
          cases t with
          | true =>
            rw [if_pos rfl] at hk
            refine wpIn_mono (ihy c1 _ e h r a w μ h1 ho1 (hR.imp (fun h => h) fun h => by simp only [noRange, eraseC, Bool.and_eq_true] at h; exact h.1) hk fr s) ?_
            rintro x1 a1 w1 ⟨o, e1, h1', μ1, rfl, hK, hag, fr1, s1, x1, hd⟩
            have hag' : ∀ t, t ∉ mod ++ tmp → e1 t = e t := fun t ht => hag t (fun h => ht (subB_spec hs1 t h))
            cases o with
            | normal => exact ⟨.normal, _, h1', μ1, rfl, hK, fun t ht => join_same ht, fr1.weak (join_weaker hag'), s1, x1, hd⟩
            | exit i => exact ⟨.exit i, e1, h1', μ1, rfl, hK, hag', fr1, s1, x1, hd⟩
            | ret => exact ⟨.ret, e1, h1', μ1, rfl, hK, hag', fr1, s1, x1, hd⟩
          | false =>
            rw [if_neg (by simp)] at hk
            refine wpIn_mono (ihz c2 _ e h r a w μ h2 ho2 (hR.imp (fun h => h) fun h => by simp only [noRange, eraseC, Bool.and_eq_true] at h; exact h.2) hk fr s) ?_
            rintro x1 a1 w1 ⟨o, e1, h1', μ1, rfl, hK, hag, fr1, s1, x1, hd⟩
            have hag' : ∀ t, t ∉ mod ++ tmp → e1 t = e t := fun t ht => hag t (fun h => ht (subB_spec hs2 t h))
            cases o with
            | normal => exact ⟨.normal, _, h1', μ1, rfl, hK, fun t ht => join_same ht, fr1.weak (join_weaker hag'), s1, x1, hd⟩
            | exit i => exact ⟨.exit i, e1, h1', μ1, rfl, hK, hag', fr1, s1, x1, hd⟩
            | ret => exact ⟨.ret, e1, h1', μ1, rfl, hK, hag', fr1, s1, x1, hd⟩
        · cases hk
      · cases hc
    | region _ _ _ => simp only [compCode, eraseC] at hc; split at hc <;> cases hc
    | seq _ _ => simp only [compCode, eraseC] at hc; split at hc <;> cases hc
    | block _ _ => simp only [compCode, eraseC] at hc; split at hc <;> cases hc
    | loop _ => simp only [compCode, eraseC] at hc; split at hc <;> cases hc
    | rangeFunc _ _ _ _ => simp only [compCode, eraseC] at hc; split at hc <;> first | cases hc | (split at hc <;> cases hc)
    | _ => cases hc
  | block id mod tmp y ihy =>
    intro c K e h r a w μ hc hok hR hk fr s
    simp only [okC, Bool.and_eq_true] at hok
    cases c with
    | block id' c1 =>
      simp only [compCode, eraseC] at hc
      split at hc
      · rename_i f1 h1
        cases hc
        simp only [codeK, JL] at hk
        refine wpIn_block (wpIn_mono (ihy c1 _ e h r a w μ h1 hok.2 (hR.imp (fun h => h) fun h => h) hk fr s) ?_)
        rintro x1 a1 w1 ⟨o, e1, h1', μ1, rfl, hK, hag, fr1, s1, x1, hd⟩
        have hag' : ∀ t, t ∉ mod ++ tmp → e1 t = e t := fun t ht => hag t (fun h => ht (subB_spec hok.1 t h))
        cases o with
        | normal => exact ⟨.normal, _, h1', μ1, rfl, hK, fun t ht => join_same ht, fr1.weak (join_weaker hag'), s1, x1, hd⟩
        | exit i =>
          simp only [exitOf, Exit.inBlock]
          split
          · rename_i hi
            subst hi
            have : Nat.beq i i = true := Nat.beq_refl i
            simp only [this, cond_true] at hK
            exact ⟨.normal, _, h1', μ1, rfl, hK, fun t ht => join_same ht, fr1.weak (join_weaker hag'), s1, x1, hd⟩
          · rename_i hi
            have : Nat.beq i id = false := by
              cases hb : Nat.beq i id with
              | false => rfl
              | true => exact absurd (Nat.eq_of_beq_eq_true hb) hi
            simp only [this, cond_false] at hK
            exact ⟨.exit i, e1, h1', μ1, rfl, hK, hag', fr1, s1, x1, hd⟩
        | ret => exact ⟨.ret, e1, h1', μ1, rfl, hK, hag', fr1, s1, x1, hd⟩
      · cases hc
    | region _ _ _ => simp only [compCode, eraseC] at hc; split at hc <;> cases hc
    | seq _ _ => simp only [compCode, eraseC] at hc; split at hc <;> cases hc
    | cond _ _ _ => simp only [compCode, eraseC] at hc; split at hc <;> cases hc
    | loop _ => simp only [compCode, eraseC] at hc; split at hc <;> cases hc
    | rangeFunc _ _ _ _ => simp only [compCode, eraseC] at hc; split at hc <;> first | cases hc | (split at hc <;> cases hc)
    | _ => cases hc
  | loop mod tmp y ihy =>
    intro c K e h r a w μ hc hok hR hk fr s
    simp only [okC, Bool.and_eq_true] at hok
    cases c with
    | loop c1 =>
      simp only [compCode, eraseC] at hc
      split at hc
      · rename_i f1 h1
        cases hc
        simp only [codeK] at hk
        generalize hB : (fun (cont : List Value → AHeap → Option R) (vs : List Value) (h : AHeap) => codeK Γ fuel y (fun o e h => match o with | .normal => cont (getMany e mod) h | .exit i => K (.exit i) e h | .ret => K .ret e h) (setMany (junkAll e tmp) mod vs) h) = B at hk
        let LI : Nat → Act → World → Prop := fun k a1 w1 => ∃ vs h1 μ1, loopN B k vs h1 = some r ∧ FR μ1 (setMany (junkAll e tmp) mod vs) a1 N ∧ Sim P μ1 h1 w1 ∧ Ext μ h w μ1 h1 w1 ∧ DefersOk w.heap.size μ1 h1 w1 a.defers a1.defers
        refine wpIn_loop (fun a1 w1 => ∃ k, LI k a1 w1) (fun a1 w1 => leastN fun k => LI k a1 w1) ⟨fuel, getMany e mod, h, μ, hk, fr.weak (join_weaker (fun t _ => rfl)), s, Ext.refl _ _ _ s.dom, DefersOk.rfl⟩ ?_
        rintro a1 w1 ⟨k0, hk0⟩
        obtain ⟨hl, _⟩ := leastN_spec (p := fun k => LI k a1 w1) hk0
        generalize leastN (fun k => LI k a1 w1) = k at hl ⊢
        obtain ⟨vs, h1', μ1, hloop, fr1, s1, x1, hd1⟩ := hl
        cases k with
        | zero => cases hloop
        | succ k =>
          simp only [loopN] at hloop
          rw [← hB] at hloop
          simp only at hloop
          rw [hB] at hloop
          refine wpIn_mono (ihy c1 _ _ h1' r a1 w1 μ1 h1 hok.2 (hR.imp (fun h => h) fun h => h) hloop fr1 s1) ?_
          rintro x2 a2 w2 ⟨o, e2, h2', μ2, rfl, hK, hag, fr2, s2, x2, hd2⟩
          have hag' : ∀ t, t ∉ mod ++ tmp → e2 t = e t := fun t ht => (hag t (fun h => ht (subB_spec hok.1 t h))).trans (join_same ht)
          have hxx := x1.trans x2 s.dom
          cases o with
          | normal =>
            have hLI : LI k a2 w2 := ⟨getMany e2 mod, h2', μ2, hK, fr2.weak (join_weaker hag'), s2, hxx, hd1.trans x2 hd2 x1.size⟩
            exact ⟨⟨k, hLI⟩, Nat.lt_succ_of_le (leastN_spec (p := fun k => LI k a2 w2) hLI).2⟩
          | exit i => exact ⟨.exit i, e2, h2', μ2, rfl, hK, hag', fr2, s2, hxx, hd1.trans x2 hd2 x1.size⟩
          | ret => exact ⟨.ret, e2, h2', μ2, rfl, hK, hag', fr2, s2, hxx, hd1.trans x2 hd2 x1.size⟩
      · cases hc
    | region _ _ _ => simp only [compCode, eraseC] at hc; split at hc <;> cases hc
    | seq _ _ => simp only [compCode, eraseC] at hc; split at hc <;> cases hc
    | cond _ _ _ => simp only [compCode, eraseC] at hc; split at hc <;> cases hc
    | block _ _ => simp only [compCode, eraseC] at hc; split at hc <;> cases hc
    | rangeFunc _ _ _ _ => simp only [compCode, eraseC] at hc; split at hc <;> first | cases hc | (split at hc <;> cases hc)
    | _ => cases hc
  | exit i =>
    intro c K e h r a w μ hc hok hR hk fr s
    cases c with
    | exit j => cases hc; exact wpIn_exit ⟨.exit i, e, h, μ, rfl, hk, fun _ _ => rfl, fr, s, Ext.refl _ _ _ s.dom, DefersOk.rfl⟩
    | region _ _ _ => simp only [compCode, eraseC] at hc; split at hc <;> cases hc
    | seq _ _ => simp only [compCode, eraseC] at hc; split at hc <;> cases hc
    | cond _ _ _ => simp only [compCode, eraseC] at hc; split at hc <;> cases hc
    | block _ _ => simp only [compCode, eraseC] at hc; split at hc <;> cases hc
    | loop _ => simp only [compCode, eraseC] at hc; split at hc <;> cases hc
    | rangeFunc _ _ _ _ => simp only [compCode, eraseC] at hc; split at hc <;> first | cases hc | (split at hc <;> cases hc)
    | _ => cases hc
  | ret =>
    intro c K e h r a w μ hc hok hR hk fr s
    cases c with
    | ret => exact wpIn_ret ⟨.ret, e, h, μ, rfl, hk, fun _ _ => rfl, fr, s, Ext.refl _ _ _ s.dom, DefersOk.rfl⟩
    | region _ _ _ => simp only [compCode, eraseC] at hc; split at hc <;> cases hc
    | seq _ _ => simp only [compCode, eraseC] at hc; split at hc <;> cases hc
    | cond _ _ _ => simp only [compCode, eraseC] at hc; split at hc <;> cases hc
    | block _ _ => simp only [compCode, eraseC] at hc; split at hc <;> cases hc
    | loop _ => simp only [compCode, eraseC] at hc; split at hc <;> cases hc
    | rangeFunc _ _ _ _ => simp only [compCode, eraseC] at hc; split at hc <;> first | cases hc | (split at hc <;> cases hc)
    | _ => cases hc
  | rangeF g lv ps ab bb iha ihb =>
    intro c K e h r a w μ hc hok hR hk fr s
    cases c with
    | rangeFunc g' ps' as bd =>
      simp only [okC, Bool.and_eq_true] at hok
      simp only [compCode, eraseC] at hc
      split at hc
      · rename_i fa fb hx h1 h2
        split at hc
        · rename_i hcond
          cases hc
          exact range_sound hF hΓ hcond.1 hcond.2.1 ⟨h1, hok.1, hcond.2.2.1⟩ ⟨h2, hok.2, hcond.2.2.2⟩ hx (hR.resolve_right (by simp [noRange, eraseC])) hk fr s
        · cases hc
      · cases hc
    | region _ _ _ => simp only [compCode, eraseC] at hc; split at hc <;> cases hc
    | seq _ _ => simp only [compCode, eraseC] at hc; split at hc <;> cases hc
    | cond _ _ _ => simp only [compCode, eraseC] at hc; split at hc <;> cases hc
    | block _ _ => simp only [compCode, eraseC] at hc; split at hc <;> cases hc
    | loop _ => simp only [compCode, eraseC] at hc; split at hc <;> cases hc
    | _ => cases hc

end Go.Am

/- Functions. -/
namespace Go.Am
variable {P : Program}

def compRes (P : Program) : ResultVar → Option ARes
  | .tmp t => some (.tmp t)
  | .cell a t => match layOf P t with
    | some (agg, n) => some (.cell a agg n)
    | none => none
/-- The machine's form of a function is that function. -/
structure FunOk (P : Program) (f : FuncId) (fn : Func) (c : Code) (F : AFun) : Prop where
  at_ : P.funcs[f]? = some fn
  body : fn.body = some c
  name : (fn.name == "runtime.NumGoroutine") = false
  code : compCode P fn.ntmps c = some (eraseC F.code)
  ok : okC F.code = true
  nargs : F.nargs ≤ fn.ntmps
  results : fn.results.toList.mapM (compRes P) = some F.results

theorem mapM_cons_some {α β : Type} {f : α → Option β} {x : α} {l : List α} {r : List β} (h : (x :: l).mapM f = some r) : ∃ y ys, f x = some y ∧ l.mapM f = some ys ∧ r = y :: ys := by
  rw [List.mapM_cons] at h
  cases hx : f x with
  | none => rw [hx] at h; cases h
  | some y =>
    rw [hx] at h
    cases hl : l.mapM f with
    | none => rw [hl] at h; cases h
    | some ys => rw [hl] at h; cases h; exact ⟨y, ys, rfl, rfl, rfl⟩

theorem results_sound {R : Type} {μ : Ren} {e : Env} {h : AHeap} {w : World} {tmps : Array Value} (s : Sim P μ h w) (hrel : ∀ i, VR μ (e i) (tmps.getD i undef)) :
    ∀ (rv : List ResultVar) (rs : List ARes) (k : List Value → Option R) (r : R), rv.mapM (compRes P) = some rs → resultsK rs e h k = some r →
      ∃ vs vs', k vs = some r ∧ VRL μ vs vs' ∧ ∀ f : ResultVar → Sem Value, (∀ t, f (.tmp t) = pure (tmps.getD t undef)) → (∀ a t, f (.cell a t) = (do loadVar t (← asAddr (tmps.getD a undef)))) → (rv.mapM f).run P w = .ok vs' w := by
  intro rv
  induction rv with
  | nil =>
    intro rs k r hc hk
    cases hc
    exact ⟨[], [], hk, .nil, fun _ _ _ => rfl⟩
  | cons x rv ih =>
    intro rs k r hc hk
    obtain ⟨y, ys, hx, hl, rfl⟩ := mapM_cons_some hc
    cases x with
    | tmp t =>
      cases hx
      simp only [resultsK] at hk
      obtain ⟨vs, vs', h1, h2, h3⟩ := ih ys _ r hl hk
      refine ⟨_, _, h1, .cons (hrel t) h2, fun f hf1 hf2 => ?_⟩
      rw [List.mapM_cons]
      simp only [hf1, Sem.run_bind, Sem.run_pure, Result.andThen_ok, h3 f hf1 hf2]
    | cell t ty =>
      simp only [compRes] at hx
      split at hx
      · rename_i agg n hlay
        cases hx
        simp only [resultsK, Option.bind_eq_some_iff] at hk
        obtain ⟨v, hv, hk⟩ := hk
        obtain ⟨vs, vs', h1, h2, h3⟩ := ih ys _ r hl hk
        obtain ⟨d, i, hd, hi, ha, hn, h0⟩ := layOf_spec hlay
        obtain ⟨v', hrun, hvr⟩ := loadf_sound s (hrel t) hv hd hi ha hn
        refine ⟨_, _, h1, .cons hvr h2, fun f hf1 hf2 => ?_⟩
        rw [List.mapM_cons]
        have hrun' : (do loadVar ty (← asAddr (tmps.getD t undef)) : Sem Value).run P w = .ok v' w := by
          have hv0 := hrel t
          unfold loadf at hv
          split at hv
          · rename_i heq
            rw [heq] at hv0
            generalize hy : tmps.getD t undef = y0 at hv0 hrun
            cases hv0 with
            | ptr hb =>
              simpa only [Instr.loadAt, Instr.sureAddr, asAddr, Sem.run_bind, Sem.run_pure, Result.andThen_ok] using hrun
          · cases hv
        simp only [hf2, Sem.run_bind, Sem.run_pure, Result.andThen_ok] at hrun' ⊢
        rw [hrun']
        simp only [h3 f hf1 hf2, Result.andThen_ok]
      · cases hx

theorem gc_sound {μ μ' : Ren} {h h' : AHeap} {w w' : World} {r v : Value} (s : Sim P μ h w) (hv : VR μ' r v) (s' : Sim P μ' h' w') (x : Ext μ h w μ' h' w') :
    ∃ μ1, VR μ1 r v ∧ Sim P μ1 (gc r h h') w' ∧ Ext μ h w μ1 (gc r h h') w' := by
  exact ⟨μ', hv, s', x⟩

theorem single_rel {μ : Ren} {vs vs' : List Value} (h : VRL μ vs vs') : VR μ (single vs) (if h : vs'.toArray.size = 1 then vs'.toArray[0] else .tuple vs'.toArray) := by
  cases h with
  | nil => exact .tuple .nil
  | cons h hs =>
    cases hs with
    | nil => exact h
    | cons h' hs' =>
      simp only [single, List.size_toArray, List.length_cons]
      rw [dif_neg (by omega)]
      exact .tuple (.cons h (.cons h' hs'))

theorem enter_run {f : FuncId} {fn : Func} {c : Code} {xs : Array Value} {w : World} (h1 : P.funcs[f]? = some fn) (h2 : fn.body = some c) (h3 : (fn.name == "runtime.NumGoroutine") = false) :
    (callFunc f xs).run P w = .ok (.enter f xs) w := by
  have h3' : ¬ fn.name = "runtime.NumGoroutine" := by simpa using h3
  simp [callFunc, go_sem, h1, h2, h3']

/-- A block that nobody names is written. -/
theorem Sim.spareSet {μ : Ren} {h : AHeap} {w : World} (s : Sim P μ h w) {r : Nat} (o : Obj) (hu : ∀ b l, live h b → μ b = some l → l.blk ≠ r) : Sim P μ h (w.putObj r o) :=
  ⟨s.dom, fun b l blk e hb hn => by
    obtain ⟨o', ho, hbr⟩ := s.rel b l blk e hb hn
    exact ⟨o', by rw [World.putObj_heap_other (hu b l ⟨_, hb, hn⟩ e)]; exact ho, hbr⟩, s.inj, fun b l e => by have := s.lt b l e; simpa [World.putObj] using this⟩
theorem Ext.spareSet {μ μ' : Ren} {h h' : AHeap} {w w' : World} (s : Sim P μ h w) (x : Ext μ h w μ' h' w') {r : Nat} (o : Obj) (hr : w.heap.size ≤ r) : Ext μ h w μ' h' (w'.putObj r o) :=
  ⟨⟨x.le, x.old, by have := x.size; simpa [World.putObj] using this, fun c hc hn => by rw [World.putObj_heap_other (by omega)]; exact x.frame c hc hn, fun b l e hro => by
    have := s.lt b l e
    rw [World.putObj_heap_other (by omega)]; exact x.ro b l e hro, x.roStay, x.new, x.dead, ⟨x.out.1, x.out.2.1, x.out.2.2⟩⟩, x.tot⟩
theorem leaves_marks {F : Fence} {n : Nat} {fn : Func} {tmps : Array Value} {Q : Ending → World → Prop} {μ0 μ : Ren} {h0 h : AHeap} {w0 : World} (s0 : Sim P μ0 h0 w0)
    (hQ : ∀ w', Sim P μ h w' → Ext μ0 h0 w0 μ h w' → ∃ v, (results fn tmps).run P w' = .ok v w' ∧ Q (.returned v) w') :
    ∀ (rs : List Nat) (w : World), Sim P μ h w → Ext μ0 h0 w0 μ h w → rs.Nodup → (∀ r ∈ rs, w0.heap.size ≤ r ∧ w.heap[r]? = some (.deferred (some [])) ∧ ∀ b l, live h b → μ b = some l → l.blk ≠ r) →
      LeavesInM F n P fn tmps Q (rs.map fun r => { target := .collected r, args := #[] }) .returning w := by
  intro rs
  induction rs with
  | nil => intro w s x _ _; exact hQ w s x
  | cons r rs ih =>
    intro w s x hn hr
    obtain ⟨k1, k2, k3⟩ := hr r (by simp)
    refine ⟨by simp, .inl ⟨r, _, rfl, run_takeDeferred k2, ih _ (s.spareSet _ k3) (x.spareSet s0 _ k1) (List.nodup_cons.1 hn).2 fun r' hr' => ?_⟩⟩
    obtain ⟨j1, j2, j3⟩ := hr r' (by simp [hr'])
    have hne : r' ≠ r := fun e => (List.nodup_cons.1 hn).1 (by rw [← e]; exact hr')
    exact ⟨j1, by rw [World.putObj_heap_other hne]; exact j2, j3⟩

theorem fun_sound {f : FuncId} {fn : Func} {c : Code} {AF : AFun} {Γ : Callee} {fuel : Nat} (hmix : P.follows .mixedOrders = true) (ok : FunOk P f fn c AF) (hΓ : CallOk P Γ)
    {args : List Value} {h h1 : AHeap} {r : Value} (hk : funK Γ fuel AF args h = some (r, h1)) :
    (∀ (xs : Array Value) (w : World), (callFunc f xs).run P w = .ok (.enter f xs) w) ∧
    ∀ (μ : Ren) (w : World) (args' : List Value), Sim P μ h w → VRL μ args args' → ∀ (F : Fence) (n : Nat), WideF F →
      CallsIn F n P f args'.toArray w fun e w' => ∃ v μ1, e = .returned v ∧ VR μ1 r v ∧ Sim P μ1 h1 w' ∧ Ext μ h w μ1 h1 w' := by
  refine ⟨fun xs w => enter_run ok.at_ ok.body ok.name, fun μ w args' s hargs F n hF => ?_⟩
  show CallsIn F.plain n P f args'.toArray w _
  unfold funK at hk
  cases hn : Nat.beq args.length AF.nargs with
  | false => rw [hn] at hk; cases hk
  | true =>
    rw [hn] at hk
    simp only [cond_true] at hk
    have hlen := Nat.eq_of_beq_eq_true hn
    have hlen' := hargs.length
    have hna := ok.nargs
    refine callsIn_of_wp_marks ok.at_ ok.body (hF.1 f) ?_ rfl
    refine wpIn_mono (code_sound (F := F.plain) (n := n) (N := fn.ntmps) (fuel := fuel) hF hmix hΓ AF.code c _ (initEnv args) h (r, h1) _ w μ ok.code ok.ok (.inl rfl) hk ⟨?_, ?_⟩ s) ?_
    · simp only [Array.size_append, Array.size_replicate, List.size_toArray]
      omega
    · intro i
      simp only [initEnv]
      by_cases hi : i < args.length
      · have hi' : i < args'.length := by omega
        have hg : (args'.toArray ++ Array.replicate (fn.ntmps - args'.toArray.size) undef).getD i undef = args'[i] := by
          rw [Array.getD_eq_getD_getElem?, Array.getElem?_append_left (by simpa using hi')]
          simp [hi']
        rw [hg]
        obtain ⟨y, hy, hr⟩ := hargs.get (List.getElem?_eq_getElem hi)
        rw [List.getElem?_eq_getElem hi'] at hy
        cases hy
        rw [List.getD_eq_getElem?_getD, List.getElem?_eq_getElem hi]
        exact hr
      · have hg : (args'.toArray ++ Array.replicate (fn.ntmps - args'.toArray.size) undef).getD i undef = undef := by
          rw [Array.getD_eq_getD_getElem?, Array.getElem?_append_right (by simp; omega), Array.getElem?_replicate]
          split <;> rfl
        rw [hg, List.getD_eq_getElem?_getD, List.getElem?_eq_none (by omega)]
        exact .undef
    · have fin : ∀ {e' : Env} {h' : AHeap} {μ' : Ren} {a' : Act} {w' : World}, (resultsK AF.results e' h' fun vs => some (single vs, gc (single vs) h h')) = some (r, h1) → FR μ' e' a' fn.ntmps → Sim P μ' h' w' → Ext μ h w μ' h' w' →
          ∃ v, (results fn a'.tmps).run P w' = .ok v w' ∧ ∃ v' μ1, Ending.returned v = .returned v' ∧ VR μ1 r v' ∧ Sim P μ1 h1 w' ∧ Ext μ h w μ1 h1 w' := by
        intro e' h' μ' a' w' hK fr s1 x1
        obtain ⟨vs, vs', h2, h3, h4⟩ := results_sound s1 fr.rel _ _ _ _ ok.results hK
        cases h2
        obtain ⟨μ1, h5, h6, h7⟩ := gc_sound s (single_rel h3) s1 x1
        refine ⟨_, ?_, _, μ1, rfl, h5, h6, h7⟩
        unfold results
        rw [Array.mapM_eq_mapM_toList]
        rw [Sem.run_bind, Sem.run_map, h4 _ (fun _ => rfl) (fun _ _ => rfl)]
        simp only [Sem.run_pure, Result.andThen_ok]
      rintro x1 a1 w1 ⟨o, e1, h1', μ1, rfl, hK, hag, fr1, s1, x1, rs, hd, hd2, hd3⟩
      rw [List.append_nil] at hd
      cases o with
      | normal =>
        show LeavesInM _ _ _ _ _ _ a1.defers .returning w1
        rw [hd]
        exact leaves_marks s (fun w' s' x' => fin hK ⟨fr1.size, fr1.rel⟩ s' x') rs w1 s1 x1 hd2 hd3
      | ret =>
        show LeavesInM _ _ _ _ _ _ a1.defers .returning w1
        rw [hd]
        exact leaves_marks s (fun w' s' x' => fin hK ⟨fr1.size, fr1.rel⟩ s' x') rs w1 s1 x1 hd2 hd3
      | exit i => cases hK

/-! ### A round of a range over a function -/
theorem setMany_congr {e e' : Env} : ∀ {l : List Nat} {vs : List Value} {i : Nat}, e i = e' i → setMany e l vs i = setMany e' l vs i
  | [], _, _, h => h
  | p :: l, vs, i, h => by
    simp only [setMany, upd]
    rw [setMany_congr h]
theorem setMany_not {e : Env} : ∀ {l : List Nat} {vs : List Value} {i : Nat}, i ∉ l → setMany e l vs i = e i
  | [], _, _, _ => rfl
  | p :: l, vs, i, h => by
    simp only [setMany]
    rw [upd_ne _ _ (fun e => h (by simp [e])), setMany_not (fun hm => h (by simp [hm]))]
theorem round_tmps {μ : Ren} : ∀ (ps : List Nat) (vs vs' : List Value) (e : Env) (tmps : Array Value), VRL μ vs vs' → ps.length = vs.length → ps.Nodup → (∀ p ∈ ps, p < tmps.size) → (∀ i, VR μ (e i) (tmps.getD i undef)) →
    ∀ i, VR μ (setMany e ps vs i) (((ps.zip vs').foldl (fun tmps x => tmps.setIfInBounds x.1 x.2) tmps).getD i undef)
  | [], vs, vs', e, tmps, hv, _, _, _, hr, i => by simpa [setMany] using hr i
  | p :: ps, [], vs', e, tmps, hv, hl, _, _, hr, i => by simp at hl
  | p :: ps, v :: vs, vs', e, tmps, hv, hl, hn, hb, hr, i => by
    cases hv with
    | @cons _ y _ ys h1 h2 =>
      have hnp := List.nodup_cons.1 hn
      have hpb : p < tmps.size := hb p (by simp)
      have ih := round_tmps ps vs ys (upd e p v) (tmps.setIfInBounds p y) h2 (by simpa using hl) hnp.2 (fun q hq => by rw [Array.size_setIfInBounds]; exact hb q (by simp [hq])) (fun j => by
        by_cases hj : j = p
        · subst hj
          rw [upd_self]
          simp only [Array.getD_eq_getD_getElem?, Array.getElem?_setIfInBounds_self_of_lt hpb, Option.getD_some]
          exact h1
        · rw [upd_ne _ _ (fun h => hj h.symm)]
          have := hr j
          simp only [Array.getD_eq_getD_getElem?] at this ⊢
          rw [Array.getElem?_setIfInBounds_ne (fun h => hj h.symm)]
          exact this) i
      simp only [List.zip_cons_cons, List.foldl_cons]
      have e1 : setMany e (p :: ps) (v :: vs) i = setMany (upd e p v) ps vs i := by
        simp only [setMany, List.tail_cons, List.headD_cons]
        by_cases hi : i = p
        · subst hi
          rw [upd_self, setMany_not hnp.1, upd_self]
        · rw [upd_ne _ _ (fun h => hi h.symm)]
          exact setMany_congr (by rw [upd_ne _ _ (fun h => hi h.symm)])
      rw [e1]
      exact ih
theorem round_size : ∀ (l : List (Nat × Value)) (tmps : Array Value), (l.foldl (fun tmps x => tmps.setIfInBounds x.1 x.2) tmps).size = tmps.size
  | [], _ => rfl
  | x :: l, tmps => by rw [List.foldl_cons, round_size l, Array.size_setIfInBounds]
/-- The end of a round. -/
theorem endRound_sound {μ : Ren} {h h1 : AHeap} {w : World} {b c K : Nat} {o : AExit} {r : Value} (s : Sim P μ h w) (e : μ b = some ⟨c, K⟩) (hk : endRound b o h = some (r, h1)) :
    ∃ v w', (Instr.endRound c (match o with | .normal => none | .exit i => some (.exit i) | .ret => some .ret)).run P w = .ok v w' ∧ VR μ r v ∧ Sim P μ h1 w' ∧ Ext μ h w μ h1 w' := by
  unfold endRound at hk
  split at hk
  · rename_i vals lv ps ab bb pend hb
    obtain ⟨o0, ho0, r0, rfl, k1, k2, k3, k4, k5, k6, k7, k8⟩ := s.rel _ _ _ e hb (by simp)
    have hro : ¬ isRo h b := by rintro ⟨vs, t', e2⟩; rw [hb] at e2; cases e2
    cases o with
    | normal =>
      cases hk
      obtain ⟨q1, q2⟩ := s.setBlk (blk' := .loop vals lv ps ab bb .ready none) (o' := .loop { r0 with state := .ready, pending := none }) e hb (by simp) hro (by simp) (by simp) ⟨_, rfl, rfl, rfl, k3, k4, k5, k6, k7, k8⟩
      exact ⟨_, _, run_endRound none ho0, .bool _, q1, q2⟩
    | exit i =>
      cases hk
      obtain ⟨q1, q2⟩ := s.setBlk (blk' := .loop vals lv ps ab bb .done (some (.exit i))) (o' := .loop { r0 with state := .done, pending := some (.exit i) }) e hb (by simp) hro (by simp) (by simp) ⟨_, rfl, rfl, rfl, k3, k4, k5, k6, k7, k8⟩
      exact ⟨_, _, run_endRound (some (.exit i)) ho0, .bool _, q1, q2⟩
    | ret =>
      cases hk
      obtain ⟨q1, q2⟩ := s.setBlk (blk' := .loop vals lv ps ab bb .done (some .ret)) (o' := .loop { r0 with state := .done, pending := some .ret }) e hb (by simp) hro (by simp) (by simp) ⟨_, rfl, rfl, rfl, k3, k4, k5, k6, k7, k8⟩
      exact ⟨_, _, run_endRound (some .ret) ho0, .bool _, q1, q2⟩
  · cases hk
theorem round_sound {Γ : Callee} {fuel : Nat} (hmix : P.follows .mixedOrders = true) (hΓ : CallOk P Γ) {b : Nat} {args : List Value} {h h1 : AHeap} {r : Value} (hk : roundK Γ fuel (ptrTo b 0 :: args) h = some (r, h1)) :
    ∀ (μ : Ren) (w : World) (args' : List Value) (c K : Nat), Sim P μ h w → VRL μ args args' → μ b = some ⟨c, K⟩ →
      ∃ fn tmps as bd, (Instr.yield c args'.toArray).run P w = .ok (.round c fn tmps as bd) w ∧ ∀ (F : Fence) (n : Nat), WideF F →
        RoundIn F n P c fn tmps as bd w fun e w' => ∃ v μ1, e = .returned v ∧ VR μ1 r v ∧ Sim P μ1 h1 w' ∧ Ext μ h w μ1 h1 w' := by
  intro μ w args' c K s hargs e
  unfold roundK ptrTo at hk
  simp only at hk
  split at hk
  · rename_i vals lv ps ab bb pend hb
    cases hn : Nat.beq args.length ps.length with
    | false => rw [hn] at hk; cases hk
    | true =>
      rw [hn] at hk
      simp only [cond_true] at hk
      have hlen := Nat.eq_of_beq_eq_true hn
      obtain ⟨o0, ho0, r0, rfl, k1, k2, k3, k4, k5, k6, k7, k8⟩ := s.rel _ _ _ e hb (by simp)
      have hps : r0.params = ps.toArray := Array.ext' (by simpa using k3)
      have hal := hargs.length
      have hsz : args'.toArray.size = r0.params.size := by rw [hps]; simp; omega
      refine ⟨_, _, _, _, run_yield ho0 hsz, fun F n hF => roundIn_of_wpIn (hF.1 _) ?_⟩
      have hz : ((r0.params.zip args'.toArray).foldl (fun tmps (t, a) => tmps.setIfInBounds t a) r0.tmps) = ((ps.zip args').foldl (fun tmps x => tmps.setIfInBounds x.1 x.2) r0.tmps) := by
        rw [hps]
        simp [← Array.foldl_toList]
      rw [hz]
      have hFin : WideF (F.inRound c) := hF
      have hfr : FR μ (setMany (setMany (fun _ => junk) lv vals) ps args) { tmps := (ps.zip args').foldl (fun tmps x => tmps.setIfInBounds x.1 x.2) r0.tmps, defers := [] } r0.tmps.size :=
        ⟨round_size _ _, round_tmps ps args args' _ _ hargs hlen.symm k5 (fun p hp => by simpa using List.all_eq_true.1 k4 p hp) k8⟩
      refine wpIn_mono (code_sound (F := F.inRound c) (n := n) (N := r0.tmps.size) (fuel := fuel) hFin hmix hΓ ab r0.assign _ _ h (r, h1) _ w μ k6.1 k6.2.1 (.inr k6.2.2) hk hfr s) ?_
      rintro x1 a1 w1 ⟨o, e1, h1', μ1, rfl, hK, hag, fr1, s1, x1, hd⟩
      cases o with
      | exit i => cases hK
      | ret => cases hK
      | normal =>
        simp only [Option.bind_eq_some_iff] at hK
        obtain ⟨h2, hbg, hK⟩ := hK
        unfold beginRound at hbg
        split at hbg
        · rename_i vals2 lv2 ps2 ab2 bb2 pend2 hb2
          cases hbg
          have e1' : μ1 b = some ⟨c, K⟩ := (x1.old b (s.dom b _ e)).trans e
          obtain ⟨o1, ho1, r1, rfl, j1, j2, j3, j4, j5, j6, j7, j8⟩ := s1.rel _ _ _ e1' hb2 (by simp)
          have hro : ¬ isRo h1' b := by rintro ⟨vs, t', e2⟩; rw [hb2] at e2; cases e2
          obtain ⟨q1, q2⟩ := s1.setBlk (blk' := .loop vals2 lv2 ps2 ab2 bb2 .busy pend2) (o' := .loop { r1 with state := .busy }) e1' hb2 (by simp) hro (by simp) (by simp) ⟨_, rfl, rfl, j2, j3, j4, j5, j6, j7, j8⟩
          refine ⟨_, run_beginRound ho1 j1, ?_⟩
          refine wpIn_mono (code_sound (F := F.inRound c) (n := n) (N := r0.tmps.size) (fuel := fuel) hFin hmix hΓ bb r0.body _ _ _ (r, h1) _ _ μ1 k7.1 k7.2.1 (.inr k7.2.2) hK fr1 q1) ?_
          rintro x3 a3 w3 ⟨o3, e3, h3, μ3, rfl, hK3, hag3, fr3, s3, x3, hd3⟩
          have e3' : μ3 b = some ⟨c, K⟩ := (x3.old b (by have := s1.dom b _ e1'; simpa using this)).trans e1'
          obtain ⟨v, w4, g1, g2, g3, g4⟩ := endRound_sound s3 e3' hK3
          have hxx := x1.trans (q2.trans (x3.trans g4 q1.dom) s1.dom) s.dom
          cases o3 with
          | normal => exact ⟨v, w4, g1, v, μ3, rfl, g2, g3, hxx⟩
          | exit i => exact ⟨v, w4, g1, v, μ3, rfl, g2, g3, hxx⟩
          | ret => exact ⟨v, w4, g1, v, μ3, rfl, g2, g3, hxx⟩
        · cases hbg
  · cases hk

/-- Every function of the table is one of the program's. -/
def TableOk (P : Program) (T : ATable) : Prop := ∀ f AF, T.get f = some AF → ∃ fn c, FunOk P f fn c AF
theorem tableOk_nil : TableOk P [] := fun f AF h => by cases h
theorem tableOk_cons {g : FuncId} {F : AFun} {T : ATable} {fn : Func} {c : Code} (h : FunOk P g fn c F) (ht : TableOk P T) : TableOk P ((g, F) :: T) := by
  intro f AF hf
  unfold ATable.get at hf
  cases hb : Nat.beq g f with
  | true =>
    rw [hb] at hf
    cases hf
    have := Nat.eq_of_beq_eq_true hb
    subst this
    exact ⟨fn, c, h⟩
  | false => rw [hb] at hf; exact ht f AF hf
theorem blt_beq {f : FuncId} (h : Nat.blt f yieldId = true) : Nat.beq f yieldId = false := by
  cases hb : Nat.beq f yieldId with
  | false => rfl
  | true =>
    have := Nat.eq_of_beq_eq_true hb
    subst this
    exact absurd h (by decide)
theorem acall_ok {Γ0 : Callee} {T : ATable} (hmix : P.follows .mixedOrders = true) (hT : TableOk P T) (h0 : CallOk P Γ0) : ∀ n, CallOk P (acall Γ0 T n)
  | 0 => ⟨fun f hf args h r h1 hk => by
      unfold acall at hk
      rw [blt_beq hf] at hk
      simp only [cond_false] at hk
      split at hk
      · cases hk
      · exact h0.fn f hf args h r h1 hk,
    fun b args h r h1 hk => by
      unfold acall at hk
      rw [Nat.beq_refl] at hk
      cases hk⟩
  | n + 1 => ⟨fun f hf args h r h1 hk => by
      unfold acall at hk
      rw [blt_beq hf] at hk
      simp only [cond_false] at hk
      split at hk
      · rename_i F hF
        obtain ⟨fn, c, ok⟩ := hT f F hF
        exact fun_sound hmix ok (acall_ok hmix hT h0 n) hk
      · exact h0.fn f hf args h r h1 hk,
    fun b args h r h1 hk => by
      unfold acall at hk
      rw [Nat.beq_refl] at hk
      exact round_sound hmix (acall_ok hmix hT h0 n) hk⟩
theorem run_some {Γ0 : Callee} {T : ATable} {f : FuncId} {args : List Value} {h : AHeap} {r : Value × AHeap} (hk : run Γ0 T f args h = some r) : ∃ n, acall Γ0 T n f args h = some r := by
  unfold run at hk
  split at hk
  · exact ⟨_, hk⟩
  · cases hk
theorem run_ok {Γ0 : Callee} {T : ATable} (hmix : P.follows .mixedOrders = true) (hT : TableOk P T) (h0 : CallOk P Γ0) : CallOk P (run Γ0 T) := by
  refine ⟨fun f hf args h r h1 hk => ?_, fun b args h r h1 hk => ?_⟩
  · obtain ⟨n, hn⟩ := run_some hk
    exact (acall_ok hmix hT h0 n).fn f hf args h r h1 hn
  · obtain ⟨n, hn⟩ := run_some hk
    exact (acall_ok hmix hT h0 n).yield b args h r h1 hn
theorem noCallee_ok : CallOk P noCallee := ⟨fun f hf args h r h1 hk => (by cases hk), fun b args h r h1 hk => (by cases hk)⟩

end Go.Am
