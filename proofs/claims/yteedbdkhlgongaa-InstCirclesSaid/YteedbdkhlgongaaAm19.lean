/- A region in whatever order its edges allow: an operation that writes, and the theorem. -/
import Derived.Test.YteedbdkhlgongaaAm18
set_option linter.unusedSimpArgs false
set_option linter.unusedVariables false
namespace Go.Am
variable {P : Program}
section
variable {F : Fence} {n N : Nat} {Γ : Callee} {ops : Array Oper} {fl : List FOp} {rs : List Rec} {S0 S2 : Env} {h0 h2 : AHeap} {B : List Nat} {Q : Exit → Act → World → Prop} {μ0 : Ren} {a0 : Act} {w0 : World}

theorem least_from (p : Nat → Prop) : ∀ (d q m : Nat), m = q + d → p m → ∃ q', q ≤ q' ∧ q' ≤ m ∧ p q' ∧ ∀ j, q ≤ j → j < q' → ¬ p j
  | 0, q, m, h, hp => ⟨q, Nat.le_refl _, by omega, by rw [show q = m from by omega]; exact hp, fun j h1 h2 => by omega⟩
  | d + 1, q, m, h, hp => by
    by_cases hq : p q
    · exact ⟨q, Nat.le_refl _, by omega, hq, fun j h1 h2 => by omega⟩
    · obtain ⟨q', h1, h2, h3, h4⟩ := least_from p d (q + 1) m (by omega) hp
      refine ⟨q', by omega, h2, h3, fun j h5 h6 => ?_⟩
      by_cases hj : j = q
      · subst hj; exact hq
      · exact h4 j (by omega) h6
theorem Known.soft (k : Known P Γ ops fl rs S0 S2 h0 h2 B μ0 a0 w0 N) {j : Nat} {f : FOp} (hf : fl[j]? = some f) (hs : loud f.op = false) : Hat rs h2 (j + 1) = Hat rs h2 j := by
  obtain ⟨r, hr, hok, _, hh, hh'⟩ := recs_at k.recs j f hf
  rw [← hh, ← hh']
  cases hran : r.ran with
  | false => exact (hok.skip hran).2.2
  | true => exact (soft_op hs (hok.run hran).2).1

/-- The operation that ends a stage. -/
theorem any_writer (hF : WideF F) (k : Known P Γ ops fl rs S0 S2 h0 h2 B μ0 a0 w0 N) {L : Nat → Bool} {μ : Ren} {q : Nat} {a : Act} {w : World} (inv : AnyInv P fl rs S0 h0 h2 μ0 a0 w0 N L μ q a w) (hc : Closed ops L) {o : Oper}
    (ho : ops[q]? = some o) (hLi : L q = false) (he : ∀ e ∈ o.after.toList, Region.binds .any e = true → L e.on = true) {f : FOp} (hf : fl[q]? = some f) (m : FMatch P ops o f) {r : Rec} (hr : rs[q]? = some r) (hok : RecOk Γ f r) (hwk : Weaker r.e (Cur (fun j => decide (j < q)) 0 fl rs S0))
    (hh : r.h = Hat rs h2 q) (hh' : r.h' = Hat rs h2 (q + 1)) (hran : r.ran = true) : wpOpIn F n P ops Q q (fun a' w' => ∃ μ' q', AnyInv P fl rs S0 h0 h2 μ0 a0 w0 N (addL L q) μ' q' a' w') a w := by
  have hfr := k.seen hc ho hf hwk hLi he inv.slots inv.size
  have hmem : f ∈ fl := List.mem_of_getElem? hf
  have hlen := recs_length k.recs
  have hql : q < fl.length := (List.getElem?_eq_some_iff.1 hf).1
  obtain ⟨hg, hk⟩ := hok.run hran
  rw [opK_congr (e' := only r.e (looksF f)) (fun t ht => (only_mem (by simp [looksF, ht])).symm), hh] at hk
  unfold wpOpIn
  simp only [ho]
  rw [wanted_yes m hfr (by
    rcases hg with hg | ⟨s, b, hg, hs⟩
    · exact .inl hg
    · exact .inr ⟨s, b, hg, by rw [only_mem (by simp [looksF, hg])]; exact hs⟩)]
  simp only [if_true]
  refine op_wp hF m.op k.callee hfr.op inv.sim hk (fun v' w1 μ1 hv hs hx => ?_)
  rw [m.dst]
  rw [hh'] at hs hx
  obtain ⟨h3, h4⟩ := slots_step (μ1 := μ1) (S0 := S0) hlen k.ord.dist hf hr (k.dst f hmem) inv.size hLi inv.slots (fun x y h => h.mono (hx.renLe inv.sim.dom)) hv
  -- the next stage's end
  obtain ⟨q', hq1, hq2, hq3, hq4⟩ := least_from (fun j => j = fl.length ∨ ¬ Calm rs h2 j) (fl.length - (q + 1)) (q + 1) fl.length (by omega) (.inl rfl)
  have hcalm : ∀ j, q + 1 ≤ j → j < q' → Calm rs h2 j := fun j h5 h6 => Classical.byContradiction fun hn => hq4 j h5 h6 (.inr hn)
  have hp : Hat rs h2 (q + 1) <+: Hat rs h2 q' := chain_prefix hcalm hq1
  have hx0 := inv.ext.trans hx.toExtP k.sim.dom
  have hlq : (Hat rs h2 (q + 1)).length ≤ (Hat rs h2 q').length := k.grows' hq1 hq2
  have hlate : ∀ j f', q < j → fl[j]? = some f' → L j = true → loud f'.op = false := by
    intro j f' hj hf' hL
    cases hl : loud f'.op with
    | false => rfl
    | true => rw [inv.later j f' hj hf' hl] at hL; cases hL
  refine ⟨μ1, q', hq2, fun j hj hn => ?_, fun hq => ?_, fun j f' hj hf' hl => ?_, ?_, ?_, fun j hj hL b hb1 hb2 hlv => ?_, fun j hj hL b hb1 hb2 => ?_, h3, h4, ?_⟩
  · unfold addL
    split
    · rfl
    · rename_i hjq
      by_cases hlt : j < q
      · exact inv.done j hlt hn
      · exact absurd (hcalm j (by omega) hj) hn
  · have hn : ¬ Calm rs h2 q' := hq3.resolve_left (by omega)
    obtain ⟨fq, hfq, hmw, _⟩ := k.uncalm hq hn
    refine ⟨hn, ?_⟩
    unfold addL
    rw [if_neg (by omega)]
    exact inv.later q' fq (by omega) hfq (loud_of_write hmw)
  · unfold addL
    rw [if_neg (by omega)]
    exact inv.later j f' (by omega) hf' hl
  · refine ⟨fun b l e => Nat.lt_of_lt_of_le (hs.dom b l e) hlq, fun b l blk e hb hn => hs.rel b l blk e (by rw [← prefix_get hp (hs.dom b l e)]; exact hb) hn, fun b b' l l' e e' el hl hl' => hs.inj b b' l l' e e' el ((live_prefix hp (hs.dom b l e)).1 hl) ((live_prefix hp (hs.dom b' l' e')).1 hl'), hs.lt⟩
  · refine ⟨Nat.le_trans hx0.le hlq, hx0.old, hx0.size, hx0.frame, hx0.ro, fun b hr => ?_, fun b l hb e => ?_, fun b hb hn => ?_, hx0.out⟩
    · rw [prefix_get hp (Nat.lt_of_lt_of_le hr.live.lt hx0.le)]; exact hx0.roStay b hr
    · rcases hx0.new b l hb e with h5 | ⟨b0, l0, h5, h6, h7, h8, h9⟩
      · exact .inl h5
      · exact .inr ⟨b0, l0, h5, h6, h7, h8, fun hl => h9 ((live_prefix hp (Nat.lt_of_lt_of_le h5.lt hx0.le)).1 hl)⟩
    · exact fun hl => hx0.dead b hb hn ((live_prefix hp (Nat.lt_of_lt_of_le hb hx0.le)).1 hl)
  · unfold addL at hL
    split at hL
    · rename_i hjq
      subst hjq
      exact hx.tot b hb1 ((live_prefix hp hb2).1 hlv)
    · rename_i hjq
      by_cases hlt : j < q
      · have hbq : b < (Hat rs h2 q).length := Nat.lt_of_lt_of_le hb2 (k.grows' hlt inv.le)
        have hbq1 : b < (Hat rs h2 (q + 1)).length := Nat.lt_of_lt_of_le hbq hx.le
        have hl1 := (live_prefix hp hbq1).1 hlv
        have hl2 : live (Hat rs h2 q) b := Classical.byContradiction fun hn => hx.dead b hbq hn hl1
        obtain ⟨l, e⟩ := inv.mapped j hlt hL b hb1 hb2 hl2
        exact ⟨l, (hx.old b hbq).trans e⟩
      · obtain ⟨f', hf'⟩ : ∃ f', fl[j]? = some f' := ⟨_, List.getElem?_eq_getElem (by omega)⟩
        rw [k.soft hf' (hlate j f' (by omega) hf' hL)] at hb2
        omega
  · have hjq : j ≠ q := by rintro rfl; unfold addL at hL; rw [if_pos rfl] at hL; cases hL
    have hLj : L j = false := by unfold addL at hL; rw [if_neg hjq] at hL; exact hL
    by_cases hlt : j < q
    · have hbq : b < (Hat rs h2 q).length := Nat.lt_of_lt_of_le hb2 (k.grows' hlt inv.le)
      rw [hx.old b hbq]
      exact inv.free j hlt hLj b hb1 hb2
    · cases hμ : μ1 b with
      | none => rfl
      | some l =>
        have h5 := hs.dom b l hμ
        have h6 := k.grows' (i := q + 1) (j := j) (by omega) (by omega)
        omega
  · rw [show (a.put f.dst v').defers = a.defers from by cases f.dst <;> rfl]; exact inv.defers

theorem any_step (hF : WideF F) (k : Known P Γ ops fl rs S0 S2 h0 h2 B μ0 a0 w0 N) {L : Nat → Bool} {μ : Ren} {q : Nat} {a : Act} {w : World} (inv : AnyInv P fl rs S0 h0 h2 μ0 a0 w0 N L μ q a w) (hc : Closed ops L) {i : Nat} {o : Oper}
    (ho : ops[i]? = some o) (hLi : L i = false) (he : ∀ e ∈ o.after.toList, Region.binds .any e = true → L e.on = true) :
    wpOpIn F n P ops Q i (fun a' w' => ∃ μ' q', AnyInv P fl rs S0 h0 h2 μ0 a0 w0 N (addL L i) μ' q' a' w') a w := by
  obtain ⟨f, hf, m⟩ := k.fmatch i o ho
  obtain ⟨r, hr, hok, hwk, hh, hh'⟩ := recs_at k.recs i f hf
  by_cases hiq : q < fl.length ∧ i = q
  · obtain ⟨hq, rfl⟩ := hiq
    have hran : r.ran = true := by
      cases hran : r.ran with
      | true => rfl
      | false =>
        exfalso
        apply (inv.next hq).1
        unfold Calm
        rw [← hh, ← hh', (hok.skip hran).2.2]
        exact List.prefix_refl _
    exact any_writer hF k inv hc ho hLi he hf m hr hok hwk hh hh' hran
  · have hiq' : q < fl.length → i ≠ q := fun h e => hiq ⟨h, e⟩
    cases hran : r.ran with
    | false => exact any_soft hF k inv hc ho hLi he hf m hr hok hwk (.inl hran) hiq'
    | true =>
      cases hl : loud f.op with
      | false => exact any_soft hF k inv hc ho hLi he hf m hr hok hwk (.inr hl) hiq'
      | true =>
        have hlt : i < q := by
          apply Classical.byContradiction
          intro hn
          by_cases hq : q < i
          · rw [k.noLate inv hc ho he hf hq] at hl; cases hl
          · have hil := (List.getElem?_eq_some_iff.1 hf).1
            exact hiq ⟨by omega, by omega⟩
        cases hnw : isNew f.op with
        | false => exact any_calm hF k inv hc ho hLi he hf m hr hok hwk hh hh' hran hl hlt hnw
        | true => exact any_maker hF k inv hc ho hLi he hf m hr hok hwk hh hh' hran hl hlt hnw

theorem filter_addL {L : Nat → Bool} {i : Nat} (hi : L i = false) : ∀ {l : List Nat}, l.Nodup → i ∈ l → (l.filter fun j => !addL L i j).length + 1 = (l.filter fun j => !L j).length
  | [], _, h => by cases h
  | x :: l, hn, h => by
    rw [List.nodup_cons] at hn
    by_cases hxi : x = i
    · subst hxi
      have : (l.filter fun j => !addL L x j) = l.filter fun j => !L j := by
        apply List.filter_congr
        intro j hj
        have : j ≠ x := by rintro rfl; exact hn.1 hj
        simp [addL, this]
      rw [List.filter_cons, List.filter_cons, this]
      simp [addL, hi]
    · have hil : i ∈ l := by simpa [Ne.symm hxi] using h
      have ih := filter_addL hi hn.2 hil
      rw [List.filter_cons, List.filter_cons]
      have hx : addL L i x = L x := by simp [addL, hxi]
      rw [hx]
      split
      · simp only [List.length_cons]; omega
      · exact ih

theorem any_all (hF : WideF F) (k : Known P Γ ops fl rs S0 S2 h0 h2 B μ0 a0 w0 N)
    (hQ : ∀ a w μ, FR μ S2 a N → Sim P μ h2 w → Ext μ0 h0 w0 μ h2 w → a.defers = a0.defers → Q .normal a w) :
    ∀ (fuel : Nat) (listed : Array Bool) (a : Act) (w : World) (μ : Ren) (q : Nat), listed.size = ops.size → ((List.range ops.size).filter fun j => !listed.getD j false).length = fuel →
      AnyInv P fl rs S0 h0 h2 μ0 a0 w0 N (fun j => listed.getD j false) μ q a w → Closed ops (fun j => listed.getD j false) → wpAnyIn F n P .any ops Q fuel listed a w := by
  have hfin : ∀ (listed : Array Bool) (a : Act) (w : World) (μ : Ren) (q : Nat), (∀ j, j < ops.size → listed.getD j false = true) → AnyInv P fl rs S0 h0 h2 μ0 a0 w0 N (fun j => listed.getD j false) μ q a w → Q .normal a w := by
    intro listed a w μ q hall inv
    have hq : q = fl.length := by
      apply Classical.byContradiction
      intro hn
      have hlt : q < fl.length := by have := inv.le; omega
      have := (inv.next hlt).2
      rw [hall q (by rw [← k.len]; exact hlt)] at this
      cases this
    have hhat : Hat rs h2 q = h2 := by
      unfold Hat
      rw [List.getElem?_eq_none (by rw [recs_length k.recs]; omega)]
      rfl
    have hcur : Cur (fun j => listed.getD j false) 0 fl rs S0 = S2 := recs_end k.recs (fun i hi => by rw [Nat.zero_add]; exact hall i (by rw [← k.len]; exact hi))
    have hsl := inv.slots
    rw [hcur] at hsl
    have hs := inv.sim
    have hx := inv.ext
    have hmap := inv.mapped
    rw [hhat] at hs hx hmap
    refine hQ a w μ ⟨inv.size, hsl⟩ hs ⟨hx, fun b hb hl => ?_⟩ inv.defers
    -- which operation has made it
    have hb2 : b < h2.length := hl.lt
    obtain ⟨i, hi1, hi2, hi3, hi4⟩ := least_from (fun j => b < (Hat rs h2 (j + 1)).length) (fl.length) 0 (fl.length) (by omega) (by
      have : Hat rs h2 (fl.length + 1) = h2 := by
        unfold Hat
        rw [List.getElem?_eq_none (by rw [recs_length k.recs]; omega)]
        rfl
      rw [this]; exact hb2)
    have hlow : (Hat rs h2 i).length ≤ b := by
      cases i with
      | zero => rw [hat_zero k.recs]; exact hb
      | succ i =>
        have := hi4 i (Nat.zero_le _) (Nat.lt_succ_self _)
        omega
    have hil : i < fl.length := by
      apply Classical.byContradiction
      intro hn
      have hie : i = fl.length := by omega
      subst hie
      rw [← hq, hhat] at hlow
      omega
    exact hmap i (by omega) (hall i (by rw [← k.len]; exact hil)) b hlow hi3 hl
  intro fuel
  induction fuel with
  | zero =>
    intro listed a w μ q hsz hcount inv hc
    have hall : ∀ j, j < ops.size → listed.getD j false = true := by
      intro j hj
      cases hL : listed.getD j false with
      | true => rfl
      | false =>
        have : j ∈ (List.range ops.size).filter fun j => !listed.getD j false := List.mem_filter.2 ⟨List.mem_range.2 hj, by simp [hL]⟩
        rw [List.eq_nil_of_length_eq_zero hcount] at this
        cases this
    refine ⟨?_, hfin listed a w μ q hall inv⟩
    refine List.eq_nil_iff_forall_not_mem.2 (fun i hi => ?_)
    unfold Region.ready at hi
    rw [List.mem_filter, List.mem_range, Bool.and_eq_true] at hi
    have h1 := hall i hi.1
    have h2 := hi.2.1
    have : listed.getD i true = true := by
      rw [Array.getD_eq_getD_getElem?] at h1 ⊢
      rw [Array.getElem?_eq_getElem (by rw [hsz]; exact hi.1)] at h1 ⊢
      exact h1
    rw [this] at h2
    cases h2
  | succ fuel ih =>
    intro listed a w μ q hsz hcount inv hc
    refine ⟨fun hr => ?_, fun i hi => ?_⟩
    · exfalso
      -- the first one that isn't listed is ready
      obtain ⟨j, hj⟩ : ∃ j, j ∈ (List.range ops.size).filter fun j => !listed.getD j false := by
        cases hl : (List.range ops.size).filter fun j => !listed.getD j false with
        | nil => rw [hl] at hcount; cases hcount
        | cons x r => exact ⟨x, by simp⟩
      rw [List.mem_filter, List.mem_range] at hj
      obtain ⟨i, hi1, hi2, hi3, hi4⟩ := least_from (fun j => listed.getD j false = false) j 0 j (by omega) (by simpa using hj.2)
      have hil : i < ops.size := by omega
      have ho : ops[i]? = some ops[i] := Array.getElem?_eq_getElem hil
      have : i ∈ Region.ready .any ops listed := by
        unfold Region.ready
        rw [List.mem_filter, List.mem_range, Bool.and_eq_true]
        refine ⟨hil, ?_, ?_⟩
        · rw [Array.getD_eq_getD_getElem?] at hi3 ⊢
          rw [Array.getElem?_eq_getElem (by rw [hsz]; exact hil)] at hi3 ⊢
          simpa using hi3
        · rw [ho]
          simp only [Option.map_some, Option.getD_some]
          rw [Array.all_eq_true_iff_forall_mem]
          intro e he
          cases hb : Region.binds .any e with
          | false => rfl
          | true =>
            have hlt := k.ord.edges i _ ho e (by simpa using he) hb
            have := hi4 e.on (Nat.zero_le _) hlt
            simpa using this
      rw [hr] at this
      cases this
    · unfold Region.ready at hi
      rw [List.mem_filter, List.mem_range, Bool.and_eq_true] at hi
      obtain ⟨hil, hi2, hi3⟩ := hi
      have ho : ops[i]? = some ops[i] := Array.getElem?_eq_getElem hil
      have hLi : listed.getD i false = false := by
        rw [Array.getD_eq_getD_getElem?] at hi2 ⊢
        rw [Array.getElem?_eq_getElem (by rw [hsz]; exact hil)] at hi2 ⊢
        simpa using hi2
      rw [ho] at hi3
      simp only [Option.map_some, Option.getD_some] at hi3
      rw [Array.all_eq_true_iff_forall_mem] at hi3
      have he : ∀ e ∈ ops[i].after.toList, Region.binds .any e = true → listed.getD e.on false = true := by
        intro e hem hb
        have := hi3 e (by simpa using hem)
        rw [hb] at this
        simpa using this
      have hL : (fun j => (listed.setIfInBounds i true).getD j false) = addL (fun j => listed.getD j false) i := by
        funext j
        unfold addL
        rw [Array.getD_eq_getD_getElem?]
        by_cases hji : j = i
        · subst hji
          rw [if_pos rfl, Array.getElem?_setIfInBounds_self_of_lt (by rw [hsz]; exact hil)]
          rfl
        · rw [if_neg hji, Array.getElem?_setIfInBounds_ne (Ne.symm hji)]
          exact (Array.getD_eq_getD_getElem? ..).symm
      refine wpOpIn_mono (fun a' w' ⟨μ', q', inv'⟩ => ?_) (any_step (n := n) (Q := Q) hF k inv hc ho hLi he)
      refine ih (listed.setIfInBounds i true) a' w' μ' q' (by simp [hsz]) ?_ (by rw [hL]; exact inv') (by
        rw [hL]
        intro j o' ho' hLj e hem hb
        unfold addL at hLj ⊢
        split at hLj
        · rename_i hji
          subst hji
          rw [ho] at ho'
          cases ho'
          split
          · rfl
          · exact he e hem hb
        · split
          · rfl
          · exact hc j o' ho' hLj e hem hb)
      have hfl := filter_addL (L := fun j => listed.getD j false) hLi (l := List.range ops.size) List.nodup_range (List.mem_range.2 hil)
      have hcg : ((List.range ops.size).filter fun j => !(listed.setIfInBounds i true).getD j false) = (List.range ops.size).filter fun j => !addL (fun j => listed.getD j false) i j := by
        apply List.filter_congr
        intro j _
        rw [show (listed.setIfInBounds i true).getD j false = addL (fun j => listed.getD j false) i j from congrFun hL j]
      rw [hcg]
      omega
end
end Go.Am
