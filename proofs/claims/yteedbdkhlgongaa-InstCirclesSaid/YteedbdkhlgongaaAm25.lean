/- A whole call: the heap that a world has at the start, as the machine sees it. -/
import Derived.Test.YteedbdkhlgongaaAm24
import Derived.Below
set_option linter.unusedSimpArgs false
set_option linter.unusedVariables false
namespace Go.Am
variable {P : Program}

def mu0 (W : World) : Ren := fun b => if b < W.heap.size then some ⟨b, 0⟩ else none
open Classical in
noncomputable def absV (W : World) (v : Value) : Value := if VR (mu0 W) v v then v else junk
noncomputable def absB (W : World) : Obj → ABlk
  | .cells c elem _ => .cells (c.toList.map (absV W)) elem false
  | _ => .dead
noncomputable def heap0 (W : World) : AHeap := W.heap.toList.map (absB W)
theorem absV_rel (W : World) (v : Value) : VR (mu0 W) (absV W v) v := by
  unfold absV
  split
  · assumption
  · exact .junk v
theorem absV_of {W : World} {v : Value} (h : VR (mu0 W) v v) : absV W v = v := if_pos h
theorem mu0_some {W : World} {b : Nat} {l : Loc} (h : mu0 W b = some l) : b < W.heap.size ∧ l = ⟨b, 0⟩ := by
  unfold mu0 at h
  split at h
  · cases h; exact ⟨by assumption, rfl⟩
  · cases h
theorem heap0_get (W : World) (b : Nat) : (heap0 W)[b]? = (W.heap[b]?).map (absB W) := by
  unfold heap0
  rw [List.getElem?_map, Array.getElem?_toList]
theorem heap0_len (W : World) : (heap0 W).length = W.heap.size := by unfold heap0; simp
theorem sim0 (W : World) : Sim P (mu0 W) (heap0 W) W where
  dom b l h := by rw [heap0_len]; exact (mu0_some h).1
  rel b l blk h hb hd := by
    obtain ⟨h1, rfl⟩ := mu0_some h
    rw [heap0_get, Option.map_eq_some_iff] at hb
    obtain ⟨o, ho, rfl⟩ := hb
    refine ⟨o, ho, ?_⟩
    cases o with
    | cells c elem fr =>
      refine ⟨c, fr, rfl, by simp, ?_, (fun h => by cases h), by simp⟩
      rw [List.length_map, List.take_length]
      refine VRL.of_get (by simp) fun i x y hx hy => ?_
      rw [List.getElem?_map, hy] at hx
      cases hx
      exact absV_rel W y
    | _ => exact absurd rfl hd
  inj b b' l l' h h' e _ _ := by
    obtain ⟨_, rfl⟩ := mu0_some h
    obtain ⟨_, rfl⟩ := mu0_some h'
    exact e
  lt b l h := by
    obtain ⟨h1, rfl⟩ := mu0_some h
    exact h1
theorem live0_ro {W : World} {b : Nat} (h : live (heap0 W) b) : isRo (heap0 W) b := by
  obtain ⟨blk, hb, hd⟩ := h
  have hb' := hb
  rw [heap0_get, Option.map_eq_some_iff] at hb'
  obtain ⟨o, ho, rfl⟩ := hb'
  cases o with
  | cells c elem fr => exact ⟨_, _, hb⟩
  | _ => exact absurd rfl hd
theorem below_of_ext {W W' : World} {μ' : Ren} {h' : AHeap} (x : Ext (mu0 W) (heap0 W) W μ' h' W') : RowKit.Below W.heap.size W W' := by
  refine ⟨x.out.1, x.out.2.1, x.out.2.2, x.size, fun k hk => ?_⟩
  by_cases hl : live (heap0 W) k
  · exact x.ro k ⟨k, 0⟩ (by unfold mu0; rw [if_pos hk]) (live0_ro hl)
  · refine x.frame k hk fun b l hlb e hc => ?_
    obtain ⟨_, rfl⟩ := mu0_some e
    simp only at hc
    subst hc
    exact hl hlb
theorem calls_of_run {Γ : Callee} (hΓ : CallOk P Γ) {f : FuncId} {args : List Value} {W : World} {r : Value} {h1 : AHeap} (hk : Γ f args (heap0 W) = some (r, h1)) (hargs : VRL (mu0 W) args args) (hn : noRef r = true) (hf : Nat.blt f yieldId = true := by rfl) :
    Calls P f args.toArray W fun e W' => e = .returned r ∧ RowKit.Below W.heap.size W W' := by
  refine callsIn_wide (n := 0).1 (((hΓ.fn f hf args _ r h1 hk).2 (mu0 W) W args (sim0 W) hargs Fence.wide 0 ⟨fun _ => trivial, rfl⟩).mono ?_)
  rintro e w' ⟨v, μ1, rfl, hv, _, hx⟩
  rw [VR.eq_of_noRef hn hv]
  exact ⟨rfl, below_of_ext hx⟩

/-! ### What is read at the start -/
theorem readC0 {W : World} {b o : Nat} {v : Value} (h : W.cell? ⟨b, o, none⟩ = some v) (hv : VR (mu0 W) v v) : readC (heap0 W) b o = some v := by
  unfold World.cell? at h
  unfold readC
  rw [heap0_get]
  simp only at h
  split at h
  · rename_i c _ _ hb
    rw [hb]
    simp only [Option.isSome_none, Bool.false_eq_true, if_false] at h
    simp [absB, h, absV_of hv]
  · cases h
theorem cell_block {W : World} {a : Addr} {v : Value} (h : W.cell? a = some v) : a.block < W.heap.size ∧ a.spot = none := by
  unfold World.cell? at h
  split at h
  · rename_i c _ _ hb
    refine ⟨(Array.getElem?_eq_some_iff.1 hb).1, ?_⟩
    split at h
    · cases h
    · rename_i hs
      cases hsp : a.spot with
      | none => rfl
      | some x => rw [hsp] at hs; exact absurd rfl hs
  · cases h
theorem readN_of {h : AHeap} {b o : Nat} {vs : List Value} (hv : ∀ i v, vs[i]? = some v → readC h b (o + i) = some v) (hne : vs ≠ []) : readN h b o vs.length = some vs := by
  unfold readC at hv
  unfold readN
  cases hb : h[b]? with
  | none => cases vs with
    | nil => exact absurd rfl hne
    | cons v r => have := hv 0 v rfl; rw [hb] at this; cases this
  | some blk =>
    cases blk with
    | cells cs t rw_ =>
      rw [hb] at hv
      simp only at hv ⊢
      have hl : o + vs.length ≤ cs.length := by
        have hlt : vs.length - 1 < vs.length := by cases vs with | nil => exact absurd rfl hne | cons => simp
        have := hv (vs.length - 1) _ (List.getElem?_eq_getElem hlt)
        have := (List.getElem?_eq_some_iff.1 this).1
        omega
      rw [if_pos hl]
      congr 1
      refine List.ext_getElem? fun i => ?_
      rw [List.getElem?_take]
      split
      · rename_i hi
        rw [List.getElem?_drop, hv i _ (List.getElem?_eq_getElem hi), List.getElem?_eq_getElem hi]
      · rename_i hi
        rw [List.getElem?_eq_none (by omega)]
    | _ => cases vs with
      | nil => exact absurd rfl hne
      | cons v r => have := hv 0 v rfl; rw [hb] at this; cases this
theorem mu0_of {W : World} {b : Nat} (h : b < W.heap.size) : mu0 W b = some ⟨b, 0⟩ := by unfold mu0; rw [if_pos h]
theorem maxLen_lt : maxLen < capU := by decide

end Go.Am
