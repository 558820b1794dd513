/- A region in whatever order its edges allow: one more operation. -/
import Derived.Test.YteedbdkhlgongaaAm16
set_option linter.unusedSimpArgs false
set_option linter.unusedVariables false
namespace Go.Am
variable {P : Program}
section
variable {F : Fence} {n N : Nat} {Γ : Callee} {ops : Array Oper} {fl : List FOp} {rs : List Rec} {S0 S2 : Env} {h0 h2 : AHeap} {B : List Nat} {Q : Exit → Act → World → Prop} {μ0 : Ren} {a0 : Act} {w0 : World}

/-- What is known of a region that was run in the text's order. -/
structure Known (P : Program) (Γ : Callee) (ops : Array Oper) (fl : List FOp) (rs : List Rec) (S0 S2 : Env) (h0 h2 : AHeap) (B : List Nat) (μ0 : Ren) (a0 : Act) (w0 : World) (N : Nat) : Prop where
  recs : Recs Γ fl rs S0 h0 S2 h2
  ord : OrdOk ops fl B
  callee : CallOk P Γ
  len : fl.length = ops.size
  fmatch : ∀ (j : Nat) (o : Oper), ops[j]? = some o → ∃ f, fl[j]? = some f ∧ FMatch P ops o f
  dst : ∀ f ∈ fl, ∀ d, f.dst = some d → d < N
  fr : FR μ0 S0 a0 N
  sim : Sim P μ0 h0 w0

theorem Known.text (k : Known P Γ ops fl rs S0 S2 h0 h2 B μ0 a0 w0 N) (i : Nat) (hi : i ≤ fl.length) :
    ∃ μt at_ wt, FR μt (Cur (fun j => decide (j < i)) 0 fl rs S0) at_ N ∧ Sim P μt (Hat rs h2 i) wt ∧ Ext μ0 h0 w0 μt (Hat rs h2 i) wt := by
  refine recs_text k.callee k.recs (fun f hf => ⟨?_, k.dst f hf⟩) k.fr k.sim i hi
  obtain ⟨j, hj⟩ := List.getElem?_of_mem hf
  have hjl : j < ops.size := by rw [← k.len]; exact (List.getElem?_eq_some_iff.1 hj).1
  obtain ⟨f', hf', m⟩ := k.fmatch j _ (Array.getElem?_eq_getElem hjl)
  rw [hj] at hf'
  cases hf'
  exact ⟨_, m.op⟩
/-- An operation that isn't calm may write, and is ordered. -/
theorem Known.uncalm (k : Known P Γ ops fl rs S0 S2 h0 h2 B μ0 a0 w0 N) {i : Nat} (hi : i < fl.length) (hn : ¬ Calm rs h2 i) : ∃ f, fl[i]? = some f ∧ mayWrite f.op = true ∧ f.chk = false := by
  obtain ⟨f, hf⟩ : ∃ f, fl[i]? = some f := ⟨_, List.getElem?_eq_getElem hi⟩
  obtain ⟨r, hr, hok, hw, hh, hh'⟩ := recs_at k.recs i f hf
  refine ⟨f, hf, ?_, ?_⟩
  · cases hm : mayWrite f.op with
    | true => rfl
    | false =>
      exfalso
      apply hn
      unfold Calm
      rw [← hh, ← hh']
      cases hran : r.ran with
      | true => exact calm_op hm (hok.run hran).2
      | false => rw [(hok.skip hran).2.2]; exact List.prefix_refl _
  · cases hc : f.chk with
    | false => rfl
    | true =>
      exfalso
      apply hn
      unfold Calm
      rw [← hh, ← hh']
      exact hok.chk hc

/-- The environment ahead of an operation that may come up: what it looks at is as in the text's order. -/
theorem Known.looks (k : Known P Γ ops fl rs S0 S2 h0 h2 B μ0 a0 w0 N) {L : Nat → Bool} (hc : Closed ops L) {i : Nat} {o : Oper} {f : FOp} (ho : ops[i]? = some o) (hf : fl[i]? = some f) (hLi : L i = false)
    (he : ∀ e ∈ o.after.toList, Region.binds .any e = true → L e.on = true) {t : Nat} (ht : t ∈ looksF f) :
    Cur (fun j => decide (j < i)) 0 fl rs S0 t = Cur L 0 fl rs S0 t := by
  have hlen := recs_length k.recs
  have hspec := fun (L : Nat → Bool) => cur_spec (L := L) (t := t) fl rs 0 S0 hlen (fun i j f f' hij hi hj => k.ord.dist i j f f' t hij hi hj)
  -- an operation that is listed and comes behind this one in the text isn't ordered behind it
  have hback : ∀ j f', fl[j]? = some f' → f'.dst = some t → i < j → L j = false := by
    intro j f' hf' hdj hij
    have hb := k.ord.look i j f f' t hij hf hf' (.inr ⟨hdj, ht⟩)
    have hjl : j < ops.size := by rw [← k.len]; exact (List.getElem?_eq_some_iff.1 hf').1
    cases hLj : L j with
    | false => rfl
    | true =>
      have ho' : ops[j]? = some ops[j] := Array.getElem?_eq_getElem hjl
      have := bef_listed k.ord hc j j (Nat.le_refl _) _ ho' (hc j _ ho' hLj) i hb
      rw [hLi] at this
      cases this
  have hfore : ∀ j f', fl[j]? = some f' → f'.dst = some t → j < i → L j = true := by
    intro j f' hf' hdj hji
    exact bef_listed k.ord hc i i (Nat.le_refl _) o ho he j (k.ord.look j i f' f t hji hf' hf (.inl ⟨hdj, ht⟩))
  by_cases hex : ∃ j f', fl[j]? = some f' ∧ j < i ∧ f'.dst = some t
  · obtain ⟨j, f', hf', hji, hdj⟩ := hex
    have hjl : j < rs.length := by rw [hlen]; exact (List.getElem?_eq_some_iff.1 hf').1
    have hrj : rs[j]? = some rs[j] := List.getElem?_eq_getElem hjl
    rw [(hspec _).1 j f' _ hf' hrj (by simpa using hji) hdj, (hspec L).1 j f' _ hf' hrj (by rw [Nat.zero_add]; exact hfore j f' hf' hdj hji) hdj]
  · rw [(hspec _).2 (fun j f' hf' hLj hdj => hex ⟨j, f', hf', by simpa using hLj, hdj⟩), (hspec L).2 (fun j f' hf' hLj hdj => ?_)]
    rw [Nat.zero_add] at hLj
    by_cases hji : j < i
    · exact hex ⟨j, f', hf', hji, hdj⟩
    · by_cases hij : i = j
      · subst hij; rw [hLi] at hLj; cases hLj
      · rw [hback j f' hf' hdj (by omega)] at hLj
        cases hLj

def addL (L : Nat → Bool) (i : Nat) : Nat → Bool := fun j => if j = i then true else L j

/-- The frame, as an operation that may come up sees it: what it looks at, and nothing else. -/
def only (e : Env) (l : List Nat) : Env := fun t => if t ∈ l then e t else junk
theorem only_mem {e : Env} {l : List Nat} {t : Nat} (h : t ∈ l) : only e l t = e t := if_pos h
theorem Known.seen (k : Known P Γ ops fl rs S0 S2 h0 h2 B μ0 a0 w0 N) {L : Nat → Bool} (hc : Closed ops L) {i : Nat} {o : Oper} {f : FOp} {r : Rec} (ho : ops[i]? = some o) (hf : fl[i]? = some f) (hr : Weaker r.e (Cur (fun j => decide (j < i)) 0 fl rs S0)) (hLi : L i = false)
    (he : ∀ e ∈ o.after.toList, Region.binds .any e = true → L e.on = true) {μ : Ren} {a : Act} (hs : ∀ t, VR μ (Cur L 0 fl rs S0 t) (a.tmps.getD t undef)) (hsz : a.tmps.size = N) :
    FR μ (only r.e (looksF f)) a N := by
  refine ⟨hsz, fun t => ?_⟩
  unfold only
  split
  · rename_i ht
    rcases hr t with h | h
    · rw [h, k.looks hc ho hf hLi he ht]; exact hs t
    · rw [h]; exact .junk _
  · exact .junk _

theorem Known.grows (k : Known P Γ ops fl rs S0 S2 h0 h2 B μ0 a0 w0 N) {i : Nat} (hi : i < fl.length) : (Hat rs h2 i).length ≤ (Hat rs h2 (i + 1)).length := by
  obtain ⟨f, hf⟩ : ∃ f, fl[i]? = some f := ⟨_, List.getElem?_eq_getElem hi⟩
  obtain ⟨r, hr, hok, hw, hh, hh'⟩ := recs_at k.recs i f hf
  obtain ⟨μt, at_, wt, h3, h4, h5⟩ := k.text i (Nat.le_of_lt hi)
  rw [← hh, ← hh']
  rw [← hh] at h4
  cases hran : r.ran with
  | true =>
    have hil : i < ops.size := by rw [← k.len]; exact hi
    obtain ⟨f', hf', m⟩ := k.fmatch i _ (Array.getElem?_eq_getElem hil)
    rw [hf] at hf'
    cases hf'
    obtain ⟨v', w1, μ1, _, _, h6⟩ := op_exists m.op k.callee (h3.weak hw).op h4 (hok.run hran).2
    exact h6.le
  | false => rw [(hok.skip hran).2.2]; exact Nat.le_refl _
theorem Known.grows' (k : Known P Γ ops fl rs S0 S2 h0 h2 B μ0 a0 w0 N) {i : Nat} : ∀ {j : Nat}, i ≤ j → j ≤ fl.length → (Hat rs h2 i).length ≤ (Hat rs h2 j).length
  | 0, hij, _ => by have : i = 0 := by omega
                    subst this
                    exact Nat.le_refl _
  | j + 1, hij, hj => by
    by_cases h : i = j + 1
    · subst h; exact Nat.le_refl _
    · exact Nat.le_trans (k.grows' (j := j) (by omega) (by omega)) (k.grows (by omega))
/-- Nothing loud comes up behind a stage's end. -/
theorem Known.noLate (k : Known P Γ ops fl rs S0 S2 h0 h2 B μ0 a0 w0 N) {L : Nat → Bool} {μ : Ren} {q : Nat} {a : Act} {w : World} (inv : AnyInv P fl rs S0 h0 h2 μ0 a0 w0 N L μ q a w) (hc : Closed ops L) {i : Nat} {o : Oper}
    (ho : ops[i]? = some o) (he : ∀ e ∈ o.after.toList, Region.binds .any e = true → L e.on = true) {f : FOp} (hf : fl[i]? = some f) (hqi : q < i) : loud f.op = false := by
  cases hl : loud f.op with
  | false => rfl
  | true =>
    exfalso
    have hq : q < fl.length := by have := (List.getElem?_eq_some_iff.1 hf).1; omega
    obtain ⟨hn, hLq⟩ := inv.next hq
    obtain ⟨fq, hfq, hmw, hch⟩ := k.uncalm hq hn
    have := bef_listed k.ord hc i i (Nat.le_refl _) o ho he q ((k.ord.wr q fq hfq hmw hch i f hf hl).1 hqi)
    rw [hLq] at this
    cases this

/-- An operation for which memory doesn't matter, or that is skipped. -/
theorem any_soft (hF : WideF F) (k : Known P Γ ops fl rs S0 S2 h0 h2 B μ0 a0 w0 N) {L : Nat → Bool} {μ : Ren} {q : Nat} {a : Act} {w : World} (inv : AnyInv P fl rs S0 h0 h2 μ0 a0 w0 N L μ q a w) (hc : Closed ops L) {i : Nat} {o : Oper}
    (ho : ops[i]? = some o) (hLi : L i = false) (he : ∀ e ∈ o.after.toList, Region.binds .any e = true → L e.on = true) {f : FOp} (hf : fl[i]? = some f) (m : FMatch P ops o f) {r : Rec} (hr : rs[i]? = some r) (hok : RecOk Γ f r) (hwk : Weaker r.e (Cur (fun j => decide (j < i)) 0 fl rs S0))
    (hsoft : r.ran = false ∨ loud f.op = false) (hiq : q < fl.length → i ≠ q) : wpOpIn F n P ops Q i (fun a' w' => ∃ μ' q', AnyInv P fl rs S0 h0 h2 μ0 a0 w0 N (addL L i) μ' q' a' w') a w := by
  have hfr := k.seen hc ho hf hwk hLi he inv.slots inv.size
  have hmem : f ∈ fl := List.mem_of_getElem? hf
  have hlen := recs_length k.recs
  have common : ∀ μ1 v' w1, VR μ1 r.v v' → Sim P μ1 (Hat rs h2 q) w1 → Ext μ (Hat rs h2 q) w μ1 (Hat rs h2 q) w1 → AnyInv P fl rs S0 h0 h2 μ0 a0 w0 N (addL L i) μ1 q (a.put f.dst v') w1 := by
    intro μ1 v' w1 hv hs hx
    obtain ⟨h3, h4⟩ := slots_step (μ1 := μ1) (S0 := S0) hlen k.ord.dist hf hr (k.dst f hmem) inv.size hLi inv.slots (fun x y h => h.mono (hx.renLe inv.sim.dom)) hv
    refine ⟨inv.le, fun j hj hn => ?_, fun hq => ⟨(inv.next hq).1, ?_⟩, fun j f' hj hf' hl => ?_, hs, inv.ext.trans hx.toExtP k.sim.dom, fun j hj hL b hb1 hb2 hlv => ?_, fun j hj hL b hb1 hb2 => ?_, h3, h4, ?_⟩
    · have := inv.done j hj hn
      unfold addL; split <;> first | rfl | exact this
    · unfold addL; rw [if_neg (Ne.symm (hiq hq))]; exact (inv.next hq).2
    · unfold addL
      split
      · rename_i hji
        subst hji
        rw [hf] at hf'
        cases hf'
        rw [k.noLate inv hc ho he hf hj] at hl
        cases hl
      · exact inv.later j f' hj hf' hl
    · rw [hx.old b (Nat.lt_of_lt_of_le hb2 (k.grows' hj inv.le))]
      unfold addL at hL
      split at hL
      · rename_i hji
        subst hji
        -- nothing is made by it
        have heq : Hat rs h2 (j + 1) = Hat rs h2 j := by
          obtain ⟨r', hr', hok', _, hh, hh'⟩ := recs_at k.recs j f hf
          rw [hr] at hr'
          cases hr'
          rw [← hh, ← hh']
          rcases hsoft with hs' | hs'
          · exact (hok.skip hs').2.2
          · cases hran : r.ran with
            | false => exact (hok.skip hran).2.2
            | true => exact (soft_op hs' (hok.run hran).2).1
        rw [heq] at hb2
        omega
      · exact inv.mapped j hj hL b hb1 hb2 hlv
    · have hLj : L j = false := by
        unfold addL at hL
        split at hL
        · cases hL
        · exact hL
      rw [hx.old b ?_]
      · exact inv.free j hj hLj b hb1 hb2
      · exact Nat.lt_of_lt_of_le hb2 (k.grows' hj inv.le)
    · rw [show (a.put f.dst v').defers = a.defers from by cases f.dst <;> rfl]; exact inv.defers
  unfold wpOpIn
  simp only [ho]
  cases hran : r.ran with
  | false =>
    obtain ⟨⟨s, b, hg, hs⟩, hv, hh⟩ := hok.skip hran
    have hmem' : s ∈ looksF f := by simp [looksF, hg]
    rw [wanted_no m hfr hg (by rw [only_mem hmem']; exact hs)]
    simp only [Bool.false_eq_true, if_false]
    refine ⟨fun f _ => hF.1 f, μ, q, ?_⟩
    rw [m.dst]
    exact common μ undef w (by rw [hv]; exact VR.undef) inv.sim (Ext.refl _ _ _ inv.sim.dom)
  | true =>
    obtain ⟨hg, hk⟩ := hok.run hran
    have hl : loud f.op = false := hsoft.resolve_left (by rw [hran]; simp)
    obtain ⟨hh, hk'⟩ := soft_op hl hk
    rw [wanted_yes m hfr (by
      rcases hg with hg | ⟨s, b, hg, hs⟩
      · exact .inl hg
      · exact .inr ⟨s, b, hg, by rw [only_mem (by simp [looksF, hg])]; exact hs⟩)]
    simp only [if_true]
    have hk2 := hk' (Hat rs h2 q)
    rw [opK_congr (e' := only r.e (looksF f)) (fun t ht => (only_mem (by simp [looksF, ht])).symm)] at hk2
    refine op_wp hF m.op k.callee hfr.op inv.sim hk2 (fun v' w1 μ1 hv hs hx => ⟨μ1, q, ?_⟩)
    rw [m.dst]
    exact common μ1 v' w1 hv hs hx
end
end Go.Am
