/- A region in whatever order: what the proof needs of a run in the text's order. -/
import Derived.Test.YteedbdkhlgongaaAm12
set_option linter.unusedSimpArgs false
set_option linter.unusedVariables false
namespace Go.Am
variable {P : Program} {μ : Ren} {w : World}

/-! ### Cut down to what is named -/
def cutR (μ : Ren) (k : Nat) : Ren := fun b => if b < k then μ b else none
theorem cutR_le (μ : Ren) (k : Nat) : RenLe (cutR μ k) μ := fun b l h => by
  unfold cutR at h
  split at h
  · exact h
  · cases h
theorem cutR_lt {k b : Nat} (h : b < k) : cutR μ k b = μ b := if_pos h
theorem cutR_dom {k b : Nat} {l : Loc} (h : cutR μ k b = some l) : b < k := by
  unfold cutR at h
  split at h
  · assumption
  · cases h
mutual
theorem VR.restrict {μt μ : Ren} {k : Nat} (hd : ∀ b l, μt b = some l → b < k) {x y0 y : Value} : VR μt x y0 → VR μ x y → VR (cutR μ k) x y
  | .junk _, _ => .junk _
  | .bool _, h => by cases h; exact .bool _
  | .int _ _, h => by cases h; exact .int _ _
  | .string _, h => by cases h; exact .string _
  | .ptrNil, h => by cases h; exact .ptrNil
  | .ptr h0, h => by
    cases h with
    | ptr h1 => exact .ptr ((cutR_lt (hd _ _ h0)).trans h1)
  | .slNil, h => by cases h; exact .slNil
  | .sl h0 _, h => by
    cases h with
    | sl h1 h2 => exact .sl ((cutR_lt (hd _ _ h0)).trans h1) h2
    | sl0 _ _ _ => exact .sl0 _ _ _
    | sl00 _ _ => exact .sl00 _ _
  | .sl0 a _ _, h => by
    cases h with
    | sl h1 h2 => exact .sl0 _ _ _
    | sl0 _ _ _ => exact .sl0 _ _ _
  | .sl00 a _, h => by
    cases h with
    | sl h1 h2 =>
      rcases h2 with ⟨_, rfl⟩ | ⟨e, _⟩
      · exact .sl00 _ _
      · exact absurd e (by decide)
    | sl00 _ _ => exact .sl00 _ _
  | .mapNil, h => by cases h; exact .mapNil
  | .map h0, h => by
    cases h with
    | map h1 => exact .map ((cutR_lt (hd _ _ h0)).trans h1)
  | .func _ h0 h0', h => by
    cases h with
    | func _ h1 h1' => exact .func _ (VRL.restrict hd h0 h1) (VRL.restrict hd h0' h1')
  | .yield h0, h => by
    cases h with
    | yield h1 => exact .yield ((cutR_lt (hd _ _ h0)).trans h1)
  | .nilFunc, h => by cases h; exact .nilFunc
  | .nilIface, h => by cases h; exact .nilIface
  | .iface _ h0, h => by
    cases h with
    | iface _ h1 => exact .iface _ (VR.restrict hd h0 h1)
  | .agg h0, h => by
    cases h with
    | agg h1 => exact .agg (VRL.restrict hd h0 h1)
  | .tuple h0, h => by
    cases h with
    | tuple h1 => exact .tuple (VRL.restrict hd h0 h1)
theorem VRL.restrict {μt μ : Ren} {k : Nat} (hd : ∀ b l, μt b = some l → b < k) {xs ys0 ys : List Value} : VRL μt xs ys0 → VRL μ xs ys → VRL (cutR μ k) xs ys
  | .nil, h => by cases h; exact .nil
  | .cons h0 hs0, h => by
    cases h with
    | cons h1 hs1 => exact .cons (VR.restrict hd h0 h1) (VRL.restrict hd hs0 hs1)
end
theorem BR.restrict {μt : Ren} {k : Nat} (hd : ∀ b l, μt b = some l → b < k) {K0 K : Nat} {blk : ABlk} {o0 o : Obj} (h0 : BR P μt K0 blk o0) (h : BR P μ K blk o) : BR P (cutR μ k) K blk o := by
  cases blk with
  | cells vs elem rw =>
    obtain ⟨_, _, _, _, h3, _⟩ := h0
    obtain ⟨c, fr, h1, h2, h3', h4⟩ := h
    exact ⟨c, fr, h1, h2, h3.restrict hd h3', h4⟩
  | map es =>
    obtain ⟨_, _, _, h2, h3⟩ := h0
    obtain ⟨l, k', h1, h2', h3'⟩ := h
    exact ⟨l, k', h1, h2.restrict hd h2', h3.restrict hd h3'⟩
  | loop =>
    obtain ⟨_, _, _, _, _, _, _, _, _, h9⟩ := h0
    obtain ⟨r, h1, h2, h3, h4, h5, h6, h7, h8, h9'⟩ := h
    exact ⟨r, h1, h2, h3, h4, h5, h6, h7, h8, fun i => (h9 i).restrict hd (h9' i)⟩
  | dead => trivial

/-! ### An operation that is known to come to an end -/
theorem call_ok {op : Op} {ao : AOp} (hc : compOp P op = some ao) : (∀ f args, ao = .call f args → okL args = true ∧ Nat.blt f yieldId = true) ∧ (∀ f args, ao = .callV f args → okX f = true ∧ okL args = true) := by
  by_cases hn : isCall ao = false
  · exact ⟨fun f args e => (by subst e; cases hn), fun f args e => (by subst e; cases hn)⟩
  · unfold compOp at hc
    split at hc
    case isFalse => cases hc
    rename_i hok
    cases op with
    | call c =>
      obtain ⟨callee, args, argTypes⟩ := c
      cases callee with
      | value f =>
        simp only [okL, Op.operands, Call.operands, Array.toList_append, List.all_append, Bool.and_eq_true] at hok
        have hf : okX f = true := by simpa using hok.1
        cases f with
        | func g =>
          simp only [compOp1] at hc
          split at hc
          · rename_i hblt
            cases hc; refine ⟨fun f args e => ?_, fun f args e => ?_⟩ <;> first | (cases e; done) | (cases e; exact ⟨hok.2, hblt⟩) | (cases e; exact ⟨hf, hok.2⟩)
          · cases hc
        | _ => cases hc; refine ⟨fun f args e => ?_, fun f args e => ?_⟩ <;> first | (cases e; done) | (cases e; exact hok.2) | (cases e; exact ⟨hf, hok.2⟩)
      | invoke _ _ => cases hc
      | builtin b => exact absurd (builtin_noCall hc) hn
    | binOp _ _ _ _ _ => exact absurd (bin_noCall hc) hn
    | convert _ _ _ => exact absurd (conv_noCall hc) hn
    | makeMap t r => cases r <;> first | (cases hc; done) | (cases hc; exact absurd rfl hn)
    | makeFunc fn _ _ => cases fn <;> first | (cases hc; done) | (cases hc; exact absurd rfl hn)
    | _ =>
      exfalso
      apply hn
      first
        | (cases hc; done)
        | (cases hc; rfl)
        | (simp only [compOp1] at hc
           (repeat' split at hc) <;> first
             | (cases hc; rfl)
             | (rw [Option.map_eq_some_iff] at hc; obtain ⟨_, _, hc⟩ := hc; cases hc; rfl)
             | cases hc)
theorem op_exists {o : Oper} {ao : AOp} {e : Env} {a : Act} {h h1 : AHeap} {v : Value} {Γ : Callee} (hc : compOp P o.op = some ao) (hΓ : CallOk P Γ) (he : OpR μ e a.eval) (s : Sim P μ h w)
    (hk : opK Γ ao e h (fun v h' => some (v, h')) = some (v, h1)) : ∃ v' w1 μ1, VR μ1 v v' ∧ Sim P μ1 h1 w1 ∧ Ext μ h w μ1 h1 w1 := by
  by_cases hn : isCall ao = false
  · obtain ⟨v', w1, μ1, _, h2, h3, h4⟩ := op_sound hc hn he s hk
    exact ⟨v', w1, μ1, h2, h3, h4⟩
  · have key : ∀ (f : FuncId) (args args' : List Value), Nat.blt f yieldId = true → VRL μ args args' → Γ f args h = some (v, h1) → ∃ v' w1 μ1, VR μ1 v v' ∧ Sim P μ1 h1 w1 ∧ Ext μ h w μ1 h1 w1 := by
      intro f args args' hblt hl hg
      obtain ⟨_, h3⟩ := hΓ.fn f hblt args h v h1 hg
      obtain ⟨_, h4⟩ := h3 μ w args' s hl Fence.wide 0 ⟨fun _ => trivial, rfl⟩
      obtain ⟨_, w1, _, ⟨v', μ1, _, h5, h6, h7⟩, _⟩ := h4 [] (room_wide _)
      exact ⟨v', w1, μ1, h5, h6, h7⟩
    have hok : okL o.op.operands.toList = true := by
      unfold compOp at hc
      split at hc
      · assumption
      · cases hc
    cases ao <;> first | (exact absurd rfl hn) | skip
    case call f args =>
      simp only [opK, Option.bind_eq_some_iff] at hk
      obtain ⟨⟨u1, u2⟩, hu, hk⟩ := hk
      cases hk
      exact key f _ _ ((call_ok hc).1 f args rfl).2 (vals_rel he ((call_ok hc).1 f args rfl).1) hu
    case callV f args =>
      simp only [opK, Option.bind_eq_some_iff] at hk
      obtain ⟨⟨u1, u2⟩, hu, hk⟩ := hk
      cases hk
      rcases opK_callV hu with ⟨g, xs, ys, hf, hblt, hg⟩ | ⟨b, hf, hg⟩
      case inr =>
        have hvf := he f ((call_ok hc).2 f args rfl).1
        rw [hf] at hvf
        generalize a.eval f = y at hvf
        cases hvf with
        | @yield _ c0 K h5 =>
          obtain ⟨fn, tmps, as, bd, g1, g2⟩ := hΓ.yield b _ h _ _ hg μ w _ c0 K s (vals_rel he ((call_ok hc).2 f args rfl).2) h5
          obtain ⟨_, h4⟩ := g2 Fence.wide 0 ⟨fun _ => trivial, rfl⟩
          obtain ⟨_, w1, ⟨v', μ1, _, h5, h6, h7⟩, _⟩ := h4 default [] (room_wide _)
          exact ⟨v', w1, μ1, h5, h6, h7⟩
      have hvf := he f ((call_ok hc).2 f args rfl).1
      rw [hf] at hvf
      generalize a.eval f = y at hvf
      cases hvf with
      | @func _ _ _ xs' ys' h5 h6 =>
        exact key g _ _ hblt ((h5.append (vals_rel he ((call_ok hc).2 f args rfl).2)).append h6) hg

/-! ### What a run in the text's order tells of each operation -/
structure Rec where
  e : Env
  h : AHeap
  v : Value
  h' : AHeap
  ran : Bool
structure RecOk (Γ : Callee) (f : FOp) (r : Rec) : Prop where
  chk : f.chk = true → r.h <+: r.h'
  run : r.ran = true → (f.guard = none ∨ ∃ s b, f.guard = some (s, b) ∧ r.e s = .bool b) ∧ opK Γ f.op r.e r.h (fun v h' => some (v, h')) = some (r.v, r.h')
  skip : r.ran = false → (∃ s b, f.guard = some (s, b) ∧ (r.e s = .bool (!b) ∨ r.e s = undef)) ∧ r.v = undef ∧ r.h' = r.h
def Recs (Γ : Callee) : List FOp → List Rec → Env → AHeap → Env → AHeap → Prop
  | [], [], S, h, S2, h2 => S2 = S ∧ h2 = h
  | f :: l, r :: rs, S, h, S2, h2 => r.h = h ∧ Weaker r.e S ∧ RecOk Γ f r ∧ Recs Γ l rs (updO S f.dst r.v) r.h' S2 h2
  | _, _, _, _, _, _ => False
theorem Weaker.trans {a b c : Env} (h : Weaker a b) (h' : Weaker b c) : Weaker a c := fun i => by
  rcases h i with h1 | h1
  · rcases h' i with h2 | h2
    · left; rw [h1, h2]
    · right; rw [h1, h2]
  · right; exact h1
theorem tr_recs {Γ : Callee} {l : List FOp} {e e2 : Env} {h h2 : AHeap} (t : Tr Γ l e h e2 h2) : ∀ S, Weaker e S → ∃ rs S2, Recs Γ l rs S h S2 h2 ∧ Weaker e2 S2 := by
  induction t with
  | nil e h => exact fun S hS => ⟨[], S, ⟨rfl, rfl⟩, hS⟩
  | weak hw _ ih => exact fun S hS => ih S (hw.trans hS)
  | @skip f l e e2 h h2 s b hg hs _ ih =>
    intro S hS
    obtain ⟨rs, S2, h3, h4⟩ := ih (updO S f.dst undef) (hS.updO _ _)
    exact ⟨⟨e, h, undef, h, false⟩ :: rs, S2, ⟨rfl, hS, ⟨fun _ => List.prefix_refl _, fun h => (by cases h), fun _ => ⟨⟨s, b, hg, hs⟩, rfl, rfl⟩⟩, h3⟩, h4⟩
  | @exec f l e e2 h h1 h2 v hg hk hc _ ih =>
    intro S hS
    obtain ⟨rs, S2, h3, h4⟩ := ih (updO S f.dst v) (hS.updO _ _)
    exact ⟨⟨e, h, v, h1, true⟩ :: rs, S2, ⟨rfl, hS, ⟨hc, fun _ => ⟨hg, hk⟩, fun h => (by cases h)⟩, h3⟩, h4⟩

end Go.Am
