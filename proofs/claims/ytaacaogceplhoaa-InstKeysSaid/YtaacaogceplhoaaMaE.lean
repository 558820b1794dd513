/- The machine (MaE): parts of one text. -/
import Derived.Test.YtaacaogceplhoaaMaD
import Derived.Below
import Derived.Deep.SlicePairs
import Derived.ChangeShapes
import Derived.OpenShut
set_option linter.unusedSimpArgs false
set_option linter.unusedVariables false
/- Calls without a bound. -/
namespace Go.Am

/-- What x comes to, the row comes to and stays at. -/
def Evl {α : Type} (xs : Nat → Option α) (x : Option α) : Prop := ∀ r, x = some r → ∃ m, ∀ k, m ≤ k → xs k = some r
theorem Evl.const {α : Type} (x : Option α) : Evl (fun _ => x) x := fun r h => ⟨0, fun _ _ => h⟩
theorem Evl.bind {α β : Type} {xs : Nat → Option α} {x : Option α} {fs : Nat → α → Option β} {f : α → Option β} (h : Evl xs x) (hf : ∀ a, Evl (fun k => fs k a) (f a)) :
    Evl (fun k => (xs k).bind (fs k)) (x.bind f) := by
  intro r hr
  rw [Option.bind_eq_some_iff] at hr
  obtain ⟨a, ha, hr⟩ := hr
  obtain ⟨m1, h1⟩ := h a ha
  obtain ⟨m2, h2⟩ := hf a r hr
  refine ⟨max m1 m2, fun k hk => ?_⟩
  show (xs k).bind (fs k) = some r
  rw [h1 k (by omega)]
  exact h2 k (by omega)

variable {R : Type}
theorem callVf_evl {Γs : Nat → Callee} {Γ : Callee} (hΓ : ∀ f args h, Evl (fun k => Γs k f args h) (Γ f args h)) (f : Value) (args : List Value) (h : AHeap) : Evl (fun k => callVf (Γs k) f args h) (callVf Γ f args h) := by
  unfold callVf
  split
  · rename_i g xs ys
    cases Nat.blt g yieldId
    · exact Evl.const _
    · exact hΓ _ _ _
  · exact hΓ _ _ _
  · exact Evl.const _
theorem callFf_evl {Γs : Nat → Callee} {Γ : Callee} (hΓ : ∀ f args h, Evl (fun k => Γs k f args h) (Γ f args h)) (f : Value) (args : List Value) (h : AHeap) : Evl (fun k => callFf (Γs k) f args h) (callFf Γ f args h) := by
  unfold callFf
  split
  · rename_i g xs ys
    cases Nat.blt g yieldId
    · exact Evl.const _
    · exact hΓ _ _ _
  · exact Evl.const _
theorem opK_evl {Γs : Nat → Callee} {Γ : Callee} (hΓ : ∀ f args h, Evl (fun k => Γs k f args h) (Γ f args h)) (o : AOp) (e : Env) (h : AHeap)
    {ks : Nat → Value → AHeap → Option R} {k : Value → AHeap → Option R} (hk : ∀ v h, Evl (fun i => ks i v h) (k v h)) : Evl (fun i => opK (Γs i) o e h (ks i)) (opK Γ o e h k) := by
  cases o with
  | call f args => exact (hΓ f _ h).bind fun p => hk _ _
  | callV f args =>
    simp only [opK]
    exact (callVf_evl hΓ _ _ _).bind fun p => hk _ _
  | _ =>
    simp only [opK]
    first
      | exact hk _ _
      | exact (Evl.const _).bind fun v => hk _ _
      | exact Evl.const _

theorem chkK_evl (chk : Bool) (h h' : AHeap) {ms : Nat → Option R} {m : Option R} (hm : Evl ms m) : Evl (fun k => chkK chk h h' (ms k)) (chkK chk h h' m) := by
  cases chk with
  | false => exact hm
  | true =>
    simp only [chkK, sameQ]
    split
    · exact hm
    · exact Evl.const _

theorem stepsK_evl {Γs : Nat → Callee} {Γ : Callee} (hΓ : ∀ f args h, Evl (fun k => Γs k f args h) (Γ f args h)) :
    ∀ (s : ASteps) {Ks : Nat → Env → AHeap → Option R} {K : Env → AHeap → Option R}, (∀ e h, Evl (fun k => Ks k e h) (K e h)) → ∀ (e : Env) (h : AHeap), Evl (fun k => stepsK (Γs k) s (Ks k) e h) (stepsK Γ s K e h) := by
  intro s
  induction s with
  | nil => intro Ks K hK e h; exact hK e h
  | op dst o chk rest ih =>
    intro Ks K hK e h
    exact opK_evl hΓ o e h fun v h' => chkK_evl chk h h' (ih hK _ _)
  | sc dst c isAnd tmp body y rest ihb ihr =>
    intro Ks K hK e h
    simp only [stepsK, J1, scK]
    split
    · split
      · exact ihb (fun e' h' => ihr hK _ _) _ _
      · exact ihr hK _ _
    · exact Evl.const _

theorem loopN_evl {Bs : Nat → (List Value → AHeap → Option R) → List Value → AHeap → Option R} {B : (List Value → AHeap → Option R) → List Value → AHeap → Option R}
    (hB : ∀ (cs : Nat → List Value → AHeap → Option R) (c : List Value → AHeap → Option R), (∀ vs h, Evl (fun k => cs k vs h) (c vs h)) → ∀ vs h, Evl (fun k => Bs k (cs k) vs h) (B c vs h)) :
    ∀ (n : Nat) (js : Nat → Nat), (∃ m, ∀ k, m ≤ k → n ≤ js k) → ∀ vs h, Evl (fun k => loopN (Bs k) (js k) vs h) (loopN B n vs h)
  | 0, js, hj, vs, h => by intro r hr; cases hr
  | n + 1, js, ⟨m, hm⟩, vs, h => by
    intro r hr
    obtain ⟨m2, h2⟩ := hB (fun k => loopN (Bs k) (js k - 1)) (loopN B n) (fun vs h => loopN_evl hB n (fun k => js k - 1) ⟨m, fun k hk => by have := hm k hk; omega⟩ vs h) vs h r hr
    refine ⟨max m m2, fun k hk => ?_⟩
    have h3 := hm k (by omega)
    obtain ⟨j, hj⟩ : ∃ j, js k = j + 1 := ⟨js k - 1, by omega⟩
    show loopN (Bs k) (js k) vs h = some r
    rw [hj]
    have h4 : Bs k (loopN (Bs k) (js k - 1)) vs h = some r := h2 k (by omega)
    rw [hj] at h4
    exact h4

theorem codeK_evl {Γs : Nat → Callee} {Γ : Callee} (hΓ : ∀ f args h, Evl (fun k => Γs k f args h) (Γ f args h)) (n : Nat) :
    ∀ (c : ACode) {Ks : Nat → AExit → Env → AHeap → Option R} {K : AExit → Env → AHeap → Option R}, (∀ o e h, Evl (fun k => Ks k o e h) (K o e h)) → ∀ (e : Env) (h : AHeap), Evl (fun k => codeK (Γs k) k c (Ks k) e h) (codeK Γ n c K e h) := by
  intro c
  induction c with
  | skip => intro Ks K hK e h; exact hK _ _ _
  | region d s => intro Ks K hK e h; exact stepsK_evl hΓ s (fun e h => hK _ _ _) e h
  | seq a b iha ihb =>
    intro Ks K hK e h
    refine iha (fun o e h => ?_) e h
    cases o with
    | normal => exact ihb hK e h
    | exit i => exact hK _ _ _
    | ret => exact hK _ _ _
  | cond c mod tmp a b iha ihb =>
    intro Ks K hK e h
    simp only [codeK, JL, ifK]
    split
    · split
      · refine iha (fun o e h => ?_) e h
        cases o with
        | normal => exact hK _ _ _
        | exit i => exact hK _ _ _
        | ret => exact hK _ _ _
      · refine ihb (fun o e h => ?_) e h
        cases o with
        | normal => exact hK _ _ _
        | exit i => exact hK _ _ _
        | ret => exact hK _ _ _
    · exact Evl.const _
  | block id mod tmp c ih =>
    intro Ks K hK e h
    simp only [codeK, JL]
    refine ih (fun o e h => ?_) e h
    cases o with
    | normal => exact hK _ _ _
    | exit i => simp only []; cases Nat.beq i id <;> exact hK _ _ _
    | ret => exact hK _ _ _
  | loop mod tmp c ih =>
    intro Ks K hK e h
    simp only [codeK]
    refine loopN_evl (fun cs c hc vs h => ?_) n (fun k => k) ⟨n, fun k hk => hk⟩ _ _
    refine ih (fun o e h => ?_) _ _
    cases o with
    | normal => exact hc _ _
    | exit i => exact hK _ _ _
    | ret => exact hK _ _ _
  | exit i => intro Ks K hK e h; exact hK _ _ _
  | ret => intro Ks K hK e h; exact hK _ _ _
  | rangeF g lv ps ab bb iha ihb =>
    intro Ks K hK e h
    simp only [codeK]
    refine (callFf_evl hΓ _ _ _).bind fun p => (Evl.const _).bind fun o => ?_
    cases o with
    | none => exact hK _ _ _
    | some x => exact hK _ _ _

theorem roundK_evl {Γs : Nat → Callee} {Γ : Callee} (hΓ : ∀ f args h, Evl (fun k => Γs k f args h) (Γ f args h)) (n : Nat) (args : List Value) (h : AHeap) : Evl (fun k => roundK (Γs k) k args h) (roundK Γ n args h) := by
  unfold roundK
  split
  · split
    · rename_i b0 vs x vals lv ps ab bb pend hb
      cases Nat.beq vs.length ps.length with
      | false => exact Evl.const _
      | true =>
        simp only [cond_true]
        refine codeK_evl hΓ n ab (fun o e h1 => ?_) _ _
        cases o with
        | normal => exact (Evl.const _).bind fun h2 => codeK_evl (Ks := fun _ o _ h3 => endRound b0 o h3) (K := fun o _ h3 => endRound b0 o h3) hΓ n bb (fun o _ h3 => Evl.const _) e h2
        | exit i => exact Evl.const _
        | ret => exact Evl.const _
    · exact Evl.const _
  · exact Evl.const _
theorem resultsK_evl : ∀ (rs : List ARes) (e : Env) (h : AHeap) {ks : Nat → List Value → Option R} {k : List Value → Option R}, (∀ vs, Evl (fun i => ks i vs) (k vs)) → Evl (fun i => resultsK rs e h (ks i)) (resultsK rs e h k)
  | [], e, h, ks, k, hk => hk []
  | .tmp t :: rs, e, h, ks, k, hk => resultsK_evl rs e h fun vs => hk _
  | .cell t agg n :: rs, e, h, ks, k, hk => (Evl.const _).bind fun v => resultsK_evl rs e h fun vs => hk _

theorem funK_evl {Γs : Nat → Callee} {Γ : Callee} (hΓ : ∀ f args h, Evl (fun k => Γs k f args h) (Γ f args h)) (n : Nat) (F : AFun) (args : List Value) (h : AHeap) : Evl (fun k => funK (Γs k) k F args h) (funK Γ n F args h) := by
  simp only [funK]
  cases Nat.beq args.length F.nargs with
  | false => exact Evl.const _
  | true =>
    simp only [cond_true]
    refine codeK_evl hΓ n F.code (fun o e h' => ?_) _ _
    exact Evl.const _

theorem acall_evl {Γ0 : Callee} {T : ATable} : ∀ (n : Nat) (f : FuncId) (args : List Value) (h : AHeap), Evl (fun k => acall Γ0 T k f args h) (acall Γ0 T n f args h)
  | 0, f, args, h => by
    intro r hr
    unfold acall at hr
    cases hf : Nat.beq f yieldId with
    | true => rw [hf] at hr; cases hr
    | false =>
      rw [hf] at hr
      simp only [cond_false] at hr
      split at hr
      · cases hr
      · rename_i hT
        refine ⟨0, fun k _ => ?_⟩
        cases k <;> (simp only [acall, hf, cond_false, hT]; exact hr)
  | n + 1, f, args, h => by
    intro r hr
    unfold acall at hr
    cases hf : Nat.beq f yieldId with
    | true =>
      rw [hf] at hr
      simp only [cond_true] at hr
      obtain ⟨m, hm⟩ := roundK_evl (acall_evl n) n args h r hr
      refine ⟨m + 1, fun k hk => ?_⟩
      obtain ⟨j, rfl⟩ : ∃ j, k = j + 1 := ⟨k - 1, by omega⟩
      simp only [acall, hf, cond_true]
      exact hm j (by omega)
    | false =>
      rw [hf] at hr
      simp only [cond_false] at hr
      split at hr
      · rename_i F hT
        obtain ⟨m, hm⟩ := funK_evl (acall_evl n) n F args h r hr
        refine ⟨m + 1, fun k hk => ?_⟩
        obtain ⟨j, rfl⟩ : ∃ j, k = j + 1 := ⟨k - 1, by omega⟩
        simp only [acall, hf, cond_false, hT]
        exact hm j (by omega)
      · rename_i hT
        refine ⟨0, fun k _ => ?_⟩
        cases k <;> (simp only [acall, hf, cond_false, hT]; exact hr)
theorem run_of_acall {Γ0 : Callee} {T : ATable} {n : Nat} {f : FuncId} {args : List Value} {h : AHeap} {r : Value × AHeap} (hk : acall Γ0 T n f args h = some r) : run Γ0 T f args h = some r := by
  have H : ∃ n, (acall Γ0 T n f args h).isSome = true := ⟨n, by rw [hk]; rfl⟩
  unfold run
  rw [dif_pos H]
  cases hc : acall Γ0 T (Classical.choose H) f args h with
  | none => have := Classical.choose_spec H; rw [hc] at this; cases this
  | some r' =>
    obtain ⟨m1, h1⟩ := acall_evl n f args h r hk
    obtain ⟨m2, h2⟩ := acall_evl _ f args h r' hc
    have e1 := h1 (max m1 m2) (by omega)
    have e2 := h2 (max m1 m2) (by omega)
    rw [← e1, ← e2]
theorem run_evl {Γ0 : Callee} {T : ATable} (f : FuncId) (args : List Value) (h : AHeap) : Evl (fun k => acall Γ0 T k f args h) (run Γ0 T f args h) := by
  intro r hr
  obtain ⟨n, hn⟩ := run_some hr
  exact acall_evl n f args h r hn
/-- What a function's body comes to, calls and all, is what a call of it comes to. -/
theorem run_of_body {Γ0 : Callee} {T : ATable} {f : FuncId} {F : AFun} (hT : T.get f = some F) (n : Nat) {args : List Value} {h : AHeap} {r : Value × AHeap} (hk : funK (run Γ0 T) n F args h = some r) (hf : Nat.beq f yieldId = false := by rfl) : run Γ0 T f args h = some r := by
  obtain ⟨m, hm⟩ := funK_evl run_evl n F args h r hk
  refine run_of_acall (n := m + 1) ?_
  simp only [acall, hf, cond_false, hT]
  exact hm m (Nat.le_refl _)
/-- What a round comes to. -/
theorem run_of_round {Γ0 : Callee} {T : ATable} (n : Nat) {args : List Value} {h : AHeap} {r : Value × AHeap} (hk : roundK (run Γ0 T) n args h = some r) : run Γ0 T yieldId args h = some r := by
  obtain ⟨m, hm⟩ := roundK_evl run_evl n args h r hk
  refine run_of_acall (n := m + 1) ?_
  simp only [acall, Nat.beq_refl, cond_true]
  exact hm m (Nat.le_refl _)
theorem run_of_base {Γ0 : Callee} {T : ATable} {f : FuncId} (hT : T.get f = none) {args : List Value} {h : AHeap} {r : Value × AHeap} (hk : Γ0 f args h = some r) (hf : Nat.beq f yieldId = false := by rfl) : run Γ0 T f args h = some r :=
  run_of_acall (n := 0) (by simp only [acall, hf, cond_false, hT]; exact hk)

end Go.Am

/- Words for the printed forms. -/
namespace Go.Am
abbrev Rt := Option (Value × AHeap)
/-- A value and a heap, and what follows. -/
def fork {R : Type} (v : Value) (h : AHeap) (k : Value → AHeap → Option R) : Option R := k v h
/-- How a function ends. -/
noncomputable def fin (h0 h : AHeap) (vs : List Value) : Rt := some (single vs, gc (single vs) h0 h)
/-- Behind a range over a function. -/
def endF {R : Type} (o : Option AExit) (a : Option R) (x : Nat → Option R) (r : Option R) : Option R :=
  match o with
  | none => a
  | some .normal => a
  | some (.exit i) => x i
  | some .ret => r
theorem roundK_eq {Γ : Callee} {n b : Nat} {vals vs : List Value} {lv ps : List Nat} {ab bb : ACode} {pend : Option AExit} {h : AHeap} (hb : h[b]? = some (.loop vals lv ps ab bb .ready pend)) (hl : Nat.beq vs.length ps.length = true) :
    roundK Γ n (ptrTo b 0 :: vs) h = codeK Γ n ab (fun o e h1 => match o with
      | .normal => (beginRound b h1).bind fun h2 => codeK Γ n bb (fun o _ h3 => endRound b o h3) e h2
      | _ => none) (setMany (setMany (fun _ => junk) lv vals) ps vs) h := by
  unfold roundK ptrTo
  simp only [hb, hl, cond_true]
  congr 1


end Go.Am

/- A whole call: the heap that a world has at the start, as the machine sees it. -/
namespace Go.Am
variable {P : Program}

def mu0 (W : World) : Ren := fun b => if b < W.heap.size then some ⟨b, 0⟩ else none
open Classical in
noncomputable def absV (W : World) (v : Value) : Value := if VR (mu0 W) v v then v else junk
noncomputable def absB (W : World) : Obj → ABlk
  | .cells c elem _ => .cells (c.toList.map (absV W)) elem false
  | _ => .dead
noncomputable def heap0 (W : World) : AHeap := W.heap.toList.map (absB W)
theorem absV_rel (W : World) (v : Value) : VR (mu0 W) (absV W v) v := by
  unfold absV
  split
  · assumption
  · exact .junk v
theorem absV_of {W : World} {v : Value} (h : VR (mu0 W) v v) : absV W v = v := if_pos h
theorem mu0_some {W : World} {b : Nat} {l : Loc} (h : mu0 W b = some l) : b < W.heap.size ∧ l = ⟨b, 0⟩ := by
  unfold mu0 at h
  split at h
  · cases h; exact ⟨by assumption, rfl⟩
  · cases h
theorem heap0_get (W : World) (b : Nat) : (heap0 W)[b]? = (W.heap[b]?).map (absB W) := by
  unfold heap0
  rw [List.getElem?_map, Array.getElem?_toList]
theorem heap0_len (W : World) : (heap0 W).length = W.heap.size := by unfold heap0; simp
theorem sim0 (W : World) : Sim P (mu0 W) (heap0 W) W where
  dom b l h := by rw [heap0_len]; exact (mu0_some h).1
  rel b l blk h hb hd := by
    obtain ⟨h1, rfl⟩ := mu0_some h
    rw [heap0_get, Option.map_eq_some_iff] at hb
    obtain ⟨o, ho, rfl⟩ := hb
    refine ⟨o, ho, ?_⟩
    cases o with
    | cells c elem fr =>
      refine ⟨c, fr, rfl, by simp, ?_, (fun h => by cases h), by simp⟩
      rw [List.length_map, List.take_length]
      refine VRL.of_get (by simp) fun i x y hx hy => ?_
      rw [List.getElem?_map, hy] at hx
      cases hx
      exact absV_rel W y
    | _ => exact absurd rfl hd
  inj b b' l l' h h' e _ _ := by
    obtain ⟨_, rfl⟩ := mu0_some h
    obtain ⟨_, rfl⟩ := mu0_some h'
    exact e
  lt b l h := by
    obtain ⟨h1, rfl⟩ := mu0_some h
    exact h1
theorem live0_ro {W : World} {b : Nat} (h : live (heap0 W) b) : isRo (heap0 W) b := by
  obtain ⟨blk, hb, hd⟩ := h
  have hb' := hb
  rw [heap0_get, Option.map_eq_some_iff] at hb'
  obtain ⟨o, ho, rfl⟩ := hb'
  cases o with
  | cells c elem fr => exact ⟨_, _, hb⟩
  | _ => exact absurd rfl hd
theorem below_of_ext {W W' : World} {μ' : Ren} {h' : AHeap} (x : Ext (mu0 W) (heap0 W) W μ' h' W') : RowKit.Below W.heap.size W W' := by
  refine ⟨x.out.1, x.out.2.1, x.out.2.2, x.size, fun k hk => ?_⟩
  by_cases hl : live (heap0 W) k
  · exact x.ro k ⟨k, 0⟩ (by unfold mu0; rw [if_pos hk]) (live0_ro hl)
  · refine x.frame k hk fun b l hlb e hc => ?_
    obtain ⟨_, rfl⟩ := mu0_some e
    simp only at hc
    subst hc
    exact hl hlb
theorem calls_of_run {Γ : Callee} (hΓ : CallOk P Γ) {f : FuncId} {args : List Value} {W : World} {r : Value} {h1 : AHeap} (hk : Γ f args (heap0 W) = some (r, h1)) (hargs : VRL (mu0 W) args args) (hn : noRef r = true) (hf : Nat.blt f yieldId = true := by rfl) :
    Calls P f args.toArray W fun e W' => e = .returned r ∧ RowKit.Below W.heap.size W W' := by
  refine callsIn_wide (n := 0).1 (((hΓ.fn f hf args _ r h1 hk).2 (mu0 W) W args (sim0 W) hargs Fence.wide 0 ⟨fun _ => trivial, rfl⟩).mono ?_)
  rintro e w' ⟨v, μ1, rfl, hv, _, hx⟩
  rw [VR.eq_of_noRef hn hv]
  exact ⟨rfl, below_of_ext hx⟩

/-! ### What is read at the start -/
theorem readC0 {W : World} {b o : Nat} {v : Value} (h : W.cell? ⟨b, o, none⟩ = some v) (hv : VR (mu0 W) v v) : readC (heap0 W) b o = some v := by
  unfold World.cell? at h
  unfold readC
  rw [heap0_get]
  simp only at h
  split at h
  · rename_i c _ _ hb
    rw [hb]
    simp only [Option.isSome_none, Bool.false_eq_true, if_false] at h
    simp [absB, h, absV_of hv]
  · cases h
theorem cell_block {W : World} {a : Addr} {v : Value} (h : W.cell? a = some v) : a.block < W.heap.size ∧ a.spot = none := by
  unfold World.cell? at h
  split at h
  · rename_i c _ _ hb
    refine ⟨(Array.getElem?_eq_some_iff.1 hb).1, ?_⟩
    split at h
    · cases h
    · rename_i hs
      cases hsp : a.spot with
      | none => rfl
      | some x => rw [hsp] at hs; exact absurd rfl hs
  · cases h
theorem readN_of {h : AHeap} {b o : Nat} {vs : List Value} (hv : ∀ i v, vs[i]? = some v → readC h b (o + i) = some v) (hne : vs ≠ []) : readN h b o vs.length = some vs := by
  unfold readC at hv
  unfold readN
  cases hb : h[b]? with
  | none => cases vs with
    | nil => exact absurd rfl hne
    | cons v r => have := hv 0 v rfl; rw [hb] at this; cases this
  | some blk =>
    cases blk with
    | cells cs t rw_ =>
      rw [hb] at hv
      simp only at hv ⊢
      have hl : o + vs.length ≤ cs.length := by
        have hlt : vs.length - 1 < vs.length := by cases vs with | nil => exact absurd rfl hne | cons => simp
        have := hv (vs.length - 1) _ (List.getElem?_eq_getElem hlt)
        have := (List.getElem?_eq_some_iff.1 this).1
        omega
      rw [if_pos hl]
      congr 1
      refine List.ext_getElem? fun i => ?_
      rw [List.getElem?_take]
      split
      · rename_i hi
        rw [List.getElem?_drop, hv i _ (List.getElem?_eq_getElem hi), List.getElem?_eq_getElem hi]
      · rename_i hi
        rw [List.getElem?_eq_none (by omega)]
    | _ => cases vs with
      | nil => exact absurd rfl hne
      | cons v r => have := hv 0 v rfl; rw [hb] at this; cases this
theorem mu0_of {W : World} {b : Nat} (h : b < W.heap.size) : mu0 W b = some ⟨b, 0⟩ := by unfold mu0; rw [if_pos h]
theorem maxLen_lt : maxLen < capU := by decide

end Go.Am

/- Arguments: slices of pairs of numbers. -/
namespace Go.Am
open Go.ChangeShapes Go.WideShapes
variable {P : Program} {H : Type} {enc : TypeId × Value → H}

/-- x is a slice that holds these pairs. -/
def PairsAt (h : AHeap) (x : Value) (xs : List (Int × Int)) : Prop :=
  ∃ a cap, x = .slice a xs.length cap ∧ cap < capU ∧ ∀ i p, xs[i]? = some p → ∃ b o, a = some ⟨b, o, none⟩ ∧ readN h b (o + i * 2) 2 = some [.int .i64 p.1, .int .i64 p.2]
def isI64 (n : Int) : Prop := -9223372036854775808 ≤ n ∧ n ≤ 9223372036854775807
theorem wf_i64 {n : Int} (h : (Lit.int .i64 n).wf = true) : isI64 n := by
  simp [Lit.wf, IntKind.min, IntKind.max, IntKind.bits, IntKind.signed] at h
  unfold isI64
  omega
theorem open_pairs {W : World} {t e : TypeId} {f0 f1 : Field} {v : Value} {d : DataW H} {ps : List MemPlace} (ht : P.underlying t = some (.slice e)) (he : P.underlying e = some (.struct #[f0, f1]))
    (ce : P.cellsOf e = 2) (o0 : f0.offset = 0) (o1 : f1.offset = 1) (c0 : P.cellsOf f0.type = 1) (c1 : P.cellsOf f1.type = 1) (k0 : P.underlying f0.type = some (.int .i64)) (k1 : P.underlying f1.type = some (.int .i64))
    {r : Reach} {b0 : Nat} (hval : Value.okWide P W r b0 t v) (h : DataW.Trod enc P W 0 (fun _ => true) true t v d ps) :
    ∃ xs : List (Int × Int), PairsAt (heap0 W) v xs ∧ VR (mu0 W) v v ∧ ∀ p ∈ xs, isI64 p.1 ∧ isI64 p.2 := by
  obtain ⟨a, len, cap, rfl⟩ := okWide_slice ht hval
  obtain ⟨fuel, hf⟩ := h
  have hcs : (Value.slice a len cap).cells.toList = [.slice a len cap] := rfl
  rw [hcs] at hf
  rcases Deep.open_slice_pairs ht he ce o0 o1 c0 c1 hf with ⟨h0, _⟩ | ⟨a', len', cap', m, n, V0, V1, D0, D1, P0, P1, h0, _, hl, hcap, hm, _, hall⟩
  · cases h0
    exact ⟨[], ⟨none, 0, rfl, by decide, fun i p hp => by cases hp⟩, .slNil, fun p hp => by cases hp⟩
  · cases h0
    simp only [if_true] at hm
    subst hm
    have hi0 : ∀ i, ∃ z : Int, i < m → V0 i = .int .i64 z ∧ isI64 z := by
      intro i
      by_cases hi : i < m
      · obtain ⟨z, hz, _, hw⟩ := DataW.trod_int k0 (hall i hi).2.2.1
        exact ⟨z, fun _ => ⟨by simpa using hz, wf_i64 hw⟩⟩
      · exact ⟨0, fun h => absurd h hi⟩
    have hi1 : ∀ i, ∃ z : Int, i < m → V1 i = .int .i64 z ∧ isI64 z := by
      intro i
      by_cases hi : i < m
      · obtain ⟨z, hz, _, hw⟩ := DataW.trod_int k1 (hall i hi).2.2.2
        exact ⟨z, fun _ => ⟨by simpa using hz, wf_i64 hw⟩⟩
      · exact ⟨0, fun h => absurd h hi⟩
    obtain ⟨L, hL⟩ := Classical.axiomOfChoice hi0
    obtain ⟨R, hR⟩ := Classical.axiomOfChoice hi1
    have hlt := maxLen_lt
    have hat : 0 < m → ∃ b o, a' = ⟨b, o, none⟩ ∧ b < W.heap.size := by
      intro h0
      obtain ⟨g1, _⟩ := hall 0 h0
      obtain ⟨b, o, sp⟩ := a'
      have e0 : (⟨b, o, sp⟩ : Addr).add (0 * 2) = ⟨b, o, sp⟩ := by simp [Addr.add]
      rw [e0] at g1
      obtain ⟨hb, hsp⟩ := cell_block g1
      simp only at hsp hb
      exact ⟨b, o, by rw [hsp], hb⟩
    refine ⟨(List.range len).map fun i => (L i, R i), ⟨some a', m, by simp, by omega, fun i p hp => ?_⟩, ?_, fun p hp => ?_⟩
    · rw [List.getElem?_map, Option.map_eq_some_iff] at hp
      obtain ⟨j, hj, rfl⟩ := hp
      obtain ⟨hj1, hj2⟩ := List.getElem?_eq_some_iff.1 hj
      have hji : j = i := by rw [← hj2]; simp
      subst hji
      have hlen : j < len := by simpa using hj1
      obtain ⟨g1, g2, _⟩ := hall j (by omega)
      obtain ⟨b, o, rfl, _⟩ := hat (by omega)
      rw [addr_add] at g1 g2
      refine ⟨b, o, rfl, ?_⟩
      rw [(hL j (by omega)).1] at g1
      rw [(hR j (by omega)).1] at g2
      refine readN_of (vs := [_, _]) (fun i v hv => ?_) (by simp)
      match i, hv with
      | 0, hv => cases hv; exact readC0 g1 (.int _ _)
      | 1, hv => cases hv; exact readC0 (by rw [← Nat.add_assoc] at g2; exact g2) (.int _ _)
    · by_cases hm0 : m = 0
      · subst hm0
        have : len = 0 := by omega
        subst this
        exact .sl00 _ _
      · obtain ⟨b, o, rfl, hb⟩ := hat (by omega)
        exact .sl (mu0_of hb) (.inl ⟨by omega, rfl⟩)
    · rw [List.mem_map] at hp
      obtain ⟨i, hi, rfl⟩ := hp
      have hi' : i < len := by simpa using hi
      exact ⟨(hL i (by omega)).2, (hR i (by omega)).2⟩

end Go.Am

/- Words for the laws: what the machine's functions come to. -/
namespace Go.Am

theorem sameQ_pos {R : Type} {h h' : AHeap} (hp : h <+: h') (m : Option R) : sameQ h h' m = m := if_pos hp
theorem sameQ_self {R : Type} (h : AHeap) (m : Option R) : sameQ h h m = m := if_pos (List.prefix_refl _)
theorem wrap64 {n : Int} (h : isI64 n) : IntKind.i64.wrap n = n := by
  unfold isI64 at h
  simp [IntKind.wrap, IntKind.bits, IntKind.signed]
  split <;> omega
theorem lenf_slice (a : Option Addr) (n c : Nat) : lenf false (.slice a n c) = some (.int .i64 n) := rfl
theorem binf_lss (k : IntKind) (a b : Int) : binf .lss (.int k a) (.int k b) = some (.bool (decide (a < b))) := by simp [binf]
theorem binf_leq (k : IntKind) (a b : Int) : binf .leq (.int k a) (.int k b) = some (.bool (decide (a ≤ b))) := by simp [binf]
theorem binf_gtr (k : IntKind) (a b : Int) : binf .gtr (.int k a) (.int k b) = some (.bool (decide (a > b))) := by simp [binf]
theorem binf_geq (k : IntKind) (a b : Int) : binf .geq (.int k a) (.int k b) = some (.bool (decide (a ≥ b))) := by simp [binf]
theorem binf_eql (k : IntKind) (a b : Int) : binf .eql (.int k a) (.int k b) = some (.bool (a == b)) := by simp [binf]
theorem binf_neq (k : IntKind) (a b : Int) : binf .neq (.int k a) (.int k b) = some (.bool (a != b)) := by simp [binf]
theorem binf_add (k : IntKind) (a b : Int) : binf .add (.int k a) (.int k b) = some (.int k (k.wrap (a + b))) := by simp [binf]
theorem binf_sub (k : IntKind) (a b : Int) : binf .sub (.int k a) (.int k b) = some (.int k (k.wrap (a - b))) := by simp [binf]
theorem binf_mul (k : IntKind) (a b : Int) : binf .mul (.int k a) (.int k b) = some (.int k (k.wrap (a * b))) := by simp [binf]
theorem binf_quo (k : IntKind) (a b : Int) (h : b ≠ 0) : binf .quo (.int k a) (.int k b) = some (.int k (k.wrap (a.tdiv b))) := by simp [binf, h]
theorem binf_rem (k : IntKind) (a b : Int) (h : b ≠ 0) : binf .rem (.int k a) (.int k b) = some (.int k (a.tmod b)) := by simp [binf, h]
theorem binf_shl (k k' : IntKind) (a b : Int) (h : 0 ≤ b) : binf .shl (.int k a) (.int k' b) = some (.int k (k.wrap (a * 2 ^ (min b.toNat k.bits)))) := by simp [binf]; omega
theorem binf_shr (k k' : IntKind) (a b : Int) (h : 0 ≤ b) : binf .shr (.int k a) (.int k' b) = some (.int k (a.fdiv (2 ^ (min b.toNat k.bits)))) := by simp [binf]; omega
theorem binf_and (k : IntKind) (a b : Int) : binf .and (.int k a) (.int k b) = some (.int k (k.wrap (BitVec.ofInt k.bits a &&& BitVec.ofInt k.bits b).toNat)) := by simp [binf]
theorem unf_neg (k : IntKind) (a : Int) : unf .neg (.int k a) = some (.int k (k.wrap (0 - a))) := rfl
theorem max2_i (k : IntKind) (a b : Int) : max2f (.int k a) (.int k b) = some (.int k (max a b)) := by
  simp only [max2f, if_true]
  congr 2
  split <;> omega
theorem min2_i (k : IntKind) (a b : Int) : min2f (.int k a) (.int k b) = some (.int k (min a b)) := by
  simp only [min2f, if_true]
  congr 2
  split <;> omega
theorem fold1_two (f : Value → Value → Option Value) (a b : Value) : fold1f f [a, b] = f a b := by simp [fold1f, foldf]
theorem fold1_three (f : Value → Value → Option Value) (a b c : Value) : fold1f f [a, b, c] = (f a b).bind fun z => f z c := by simp [fold1f, foldf]
theorem nth_zero (v : Value) (vs : List Value) : nth (v :: vs) 0 = v := rfl
theorem nth_succ (v : Value) (vs : List Value) (k : Nat) : nth (v :: vs) (k + 1) = nth vs k := rfl
theorem nth_one (v w : Value) (vs : List Value) : nth (v :: w :: vs) 1 = w := rfl
theorem nth_two (v w x : Value) (vs : List Value) : nth (v :: w :: x :: vs) 2 = x := rfl
theorem nth_three (v w x y : Value) (vs : List Value) : nth (v :: w :: x :: y :: vs) 3 = y := rfl
theorem scK_and (t : Bool) {R : Type} (a b : Option R) : scK (.bool t) true a b = if t = true then a else b := rfl
theorem scK_or (t : Bool) {R : Type} (a b : Option R) : scK (.bool t) false a b = if t = false then a else b := rfl
theorem ifK_bool (t : Bool) {R : Type} (a b : Option R) : ifK (.bool t) a b = if t = true then a else b := rfl
theorem fieldAddr_ptr (b o f : Nat) : fieldAddrf f (ptrTo b o) = some (ptrTo b (o + f)) := rfl
theorem indexAddr_slice (size b o n c : Nat) (i : Nat) (h : i < n) : indexAddrf size (.slice (some ⟨b, o, none⟩) n c) (.int .i64 i) = some (ptrTo b (o + i * size)) := by
  simp only [indexAddrf]
  rw [if_pos (by omega)]
  simp
theorem load_agg (n b o : Nat) (h : AHeap) : loadf true n (ptrTo b o) h = (readN h b o n).map fun l => .agg l.toArray := rfl
theorem load_cell (n b o : Nat) (h : AHeap) : loadf false n (ptrTo b o) h = readC h b o := rfl
theorem readC_new (h : AHeap) (vs : List Value) (t : TypeId) (rw_ : Bool) (o : Nat) : readC (h ++ [.cells vs t rw_]) h.length o = vs[o]? := by
  unfold readC
  rw [List.getElem?_concat_length]
theorem readN_new (h : AHeap) (vs : List Value) (t : TypeId) (rw_ : Bool) (o n : Nat) (hn : o + n ≤ vs.length) : readN (h ++ [.cells vs t rw_]) h.length o n = some ((vs.drop o).take n) := by
  unfold readN
  rw [List.getElem?_concat_length]
  simp only [if_pos hn]
theorem readN_prefix {h h' : AHeap} (hp : h <+: h') {b o n : Nat} {l : List Value} (hr : readN h b o n = some l) : readN h' b o n = some l := by
  unfold readN at hr ⊢
  split at hr
  · rename_i vs t r hb
    rw [prefix_get hp (List.getElem?_eq_some_iff.1 hb).1, hb]
    exact hr
  · cases hr
theorem readC_prefix {h h' : AHeap} (hp : h <+: h') {b o : Nat} {v : Value} (hr : readC h b o = some v) : readC h' b o = some v := by
  unfold readC at hr ⊢
  split at hr
  · rename_i vs t r hb
    rw [prefix_get hp (List.getElem?_eq_some_iff.1 hb).1, hb]
    exact hr
  · cases hr
theorem readC_of_readN {h : AHeap} {b o n : Nat} {l : List Value} (hr : readN h b o n = some l) {i : Nat} {v : Value} (hv : l[i]? = some v) : readC h b (o + i) = some v := by
  unfold readN at hr
  unfold readC
  split at hr
  · rename_i vs t r hb
    split at hr
    · cases hr
      try rw [hb]
      rw [List.getElem?_take] at hv
      split at hv
      · rw [List.getElem?_drop] at hv; exact hv
      · cases hv
    · cases hr
  · cases hr
/-- A store over the whole of a block that lies at the end. -/
theorem store_new (h : AHeap) (vs : List Value) (t : TypeId) (v : Value) (n : Nat) (h1 : (cellsL v).length = n) (h2 : vs.length = n) (h3 : (cellsL v).all oneC = true) :
    storef n (ptrTo h.length 0) v (h ++ [.cells vs t true]) = some (h ++ [.cells (cellsL v) t true]) := by
  simp only [storef, ptrTo, if_pos h1, writeN, List.getElem?_concat_length]
  rw [if_pos ⟨by omega, h3⟩]
  simp only [List.take_zero, List.nil_append, Nat.zero_add]
  rw [List.drop_eq_nil_of_le (by omega), List.append_nil]
  congr 1
  rw [List.set_append_right _ _ (Nat.le_refl _)]
  simp
theorem pre_app (h : AHeap) (l : List ABlk) : h <+: h ++ l := List.prefix_append h l
theorem PairsAt.mono {h h' : AHeap} {x : Value} {xs : List (Int × Int)} (hp : h <+: h') (p : PairsAt h x xs) : PairsAt h' x xs := by
  obtain ⟨a, cap, e, hc, hall⟩ := p
  exact ⟨a, cap, e, hc, fun i q hq => by obtain ⟨b, o, ha, hr⟩ := hall i q hq; exact ⟨b, o, ha, readN_prefix hp hr⟩⟩
theorem loopN_succ {R : Type} (B : (List Value → AHeap → Option R) → List Value → AHeap → Option R) (n : Nat) (vs : List Value) (h : AHeap) : loopN B (n + 1) vs h = B (loopN B n) vs h := rfl
theorem callVf_func (Γ : Callee) (g : FuncId) (xs ys : Array Value) (args : List Value) (h : AHeap) (hg : Nat.blt g yieldId = true := by rfl) : callVf Γ (.func (.func g) xs ys) args h = Γ g (xs.toList ++ args ++ ys.toList) h := by
  show (bif Nat.blt g yieldId then _ else _) = _
  rw [hg]; rfl

end Go.Am

/- Data that is read: what an abstract value stands for, with all that it points to, and the opening of any argument that is made of numbers, bools, strings, structs, arrays and slices. -/
namespace Go.Am
open Go.ChangeShapes Go.WideShapes

/-- One cell's data: a value without memory, or a slice as the rows of its elements' cells. -/
inductive Dat where
  | v (x : Value)
  | sl (rows : List (List Dat))

mutual
/-- x reads as d in h; all that is read lies in blocks of S. -/
inductive R (S : Nat → Prop) (h : AHeap) : Value → Dat → Prop
  | v {x : Value} (hx : noRef1 x = true) : R S h x (.v x)
  | nil : R S h (.slice none 0 0) (.sl [])
  | sl0 (a : Addr) (c : Nat) : R S h (.slice (some a) 0 c) (.sl [])
  | sl {b o c n : Nat} {vs : List Value} {rows : List (List Dat)} (hn : n = rows.length) (hb : S b) (hc : n ≤ c) (hr : readN h b o vs.length = some vs) (hs : RL S h vs rows.flatten) : R S h (.slice (some ⟨b, o, none⟩) n c) (.sl rows)
inductive RL (S : Nat → Prop) (h : AHeap) : List Value → List Dat → Prop
  | nil : RL S h [] []
  | cons {x : Value} {d : Dat} {xs : List Value} {ds : List Dat} (hx : R S h x d) (hs : RL S h xs ds) : RL S h (x :: xs) (d :: ds)
end

mutual
theorem R.mono {S S' : Nat → Prop} {h h' : AHeap} (hm : ∀ b, S b → S' b ∧ h'[b]? = h[b]?) {x : Value} {d : Dat} : R S h x d → R S' h' x d
  | .v hx => .v hx
  | .nil => .nil
  | .sl0 a c => .sl0 a c
  | .sl hn hb hc hr hs => .sl hn (hm _ hb).1 hc (by unfold readN at hr ⊢; rw [(hm _ hb).2]; exact hr) (RL.mono hm hs)
theorem RL.mono {S S' : Nat → Prop} {h h' : AHeap} (hm : ∀ b, S b → S' b ∧ h'[b]? = h[b]?) {xs : List Value} {ds : List Dat} : RL S h xs ds → RL S' h' xs ds
  | .nil => .nil
  | .cons hx hs => .cons (R.mono hm hx) (RL.mono hm hs)
end

theorem RL.length {S : Nat → Prop} {h : AHeap} {xs : List Value} {ds : List Dat} (r : RL S h xs ds) : xs.length = ds.length := by
  induction xs generalizing ds with
  | nil => cases r; rfl
  | cons x xs ih => cases r with | cons _ hs => simp [ih hs]
theorem RL.append {S : Nat → Prop} {h : AHeap} {xs ys : List Value} {ds es : List Dat} (r : RL S h xs ds) (q : RL S h ys es) : RL S h (xs ++ ys) (ds ++ es) := by
  induction xs generalizing ds with
  | nil => cases r; exact q
  | cons x xs ih => cases r with | cons hx hs => exact .cons hx (ih hs)
theorem RL.drop {S : Nat → Prop} {h : AHeap} {xs : List Value} {ds : List Dat} (r : RL S h xs ds) (n : Nat) : RL S h (xs.drop n) (ds.drop n) := by
  induction n generalizing xs ds with
  | zero => exact r
  | succ n ih => cases r with
    | nil => exact .nil
    | cons hx hs => exact ih hs
theorem RL.take {S : Nat → Prop} {h : AHeap} {xs : List Value} {ds : List Dat} (r : RL S h xs ds) (n : Nat) : RL S h (xs.take n) (ds.take n) := by
  induction n generalizing xs ds with
  | zero => exact .nil
  | succ n ih => cases r with
    | nil => exact .nil
    | cons hx hs => exact .cons hx (ih hs)
theorem RL.get {S : Nat → Prop} {h : AHeap} {xs : List Value} {ds : List Dat} (r : RL S h xs ds) {i : Nat} {d : Dat} (hd : ds[i]? = some d) : ∃ x, xs[i]? = some x ∧ R S h x d := by
  induction i generalizing xs ds with
  | zero => cases r with
    | nil => cases hd
    | cons hx hs => cases hd; exact ⟨_, rfl, hx⟩
  | succ i ih => cases r with
    | nil => cases hd
    | cons hx hs => exact ih hs hd
theorem RL.of_get {S : Nat → Prop} {h : AHeap} {xs : List Value} {ds : List Dat} (hl : xs.length = ds.length) (hr : ∀ (i : Nat) x d, xs[i]? = some x → ds[i]? = some d → R S h x d) : RL S h xs ds := by
  induction xs generalizing ds with
  | nil => cases ds with | nil => exact .nil | cons => simp at hl
  | cons x xs ih => cases ds with
    | nil => simp at hl
    | cons d ds => exact .cons (hr 0 x d rfl rfl) (ih (by simpa using hl) fun i x d hx hd => hr (i + 1) x d hx hd)
theorem R.pre {S : Nat → Prop} {h h' : AHeap} (hp : h <+: h') {x : Value} {d : Dat} (r : R S h x d) (hS : ∀ b, S b → b < h.length) : R S h' x d :=
  R.mono (fun b hb => ⟨hb, prefix_get hp (hS b hb)⟩) r

theorem R.inv_v {S : Nat → Prop} {h : AHeap} {x y : Value} (r : R S h x (.v y)) : x = y := by cases r; rfl
theorem R.len {S : Nat → Prop} {h : AHeap} {x : Value} {rows : List (List Dat)} (r : R S h x (.sl rows)) : lenf false x = some (.int .i64 rows.length) := by
  cases r with
  | nil => rfl
  | sl0 => rfl
  | sl hn => subst hn; rfl
theorem R.isNil {S : Nat → Prop} {h : AHeap} {x : Value} {rows : List (List Dat)} (r : R S h x (.sl rows)) (neg : Bool) : ∃ nl, isNilKf .slice neg x = some (.bool (neg != nl)) ∧ (nl = true → x = .slice none 0 0 ∧ rows = []) := by
  cases r with
  | nil => exact ⟨true, rfl, fun _ => ⟨rfl, rfl⟩⟩
  | sl0 => exact ⟨false, rfl, fun h => by cases h⟩
  | sl => exact ⟨false, rfl, fun h => by cases h⟩
theorem flatten_len {α : Type} {rows : List (List α)} {size : Nat} (hs : ∀ r ∈ rows, r.length = size) : rows.flatten.length = rows.length * size := by
  induction rows with
  | nil => simp
  | cons r rows ih => simp [hs r (by simp), ih fun q hq => hs q (by simp [hq]), Nat.add_mul, Nat.add_comm]
theorem flatten_row {α : Type} {rows : List (List α)} {size : Nat} (hs : ∀ r ∈ rows, r.length = size) {i : Nat} {r : List α} (hi : rows[i]? = some r) : (rows.flatten.drop (i * size)).take size = r := by
  induction rows generalizing i with
  | nil => cases hi
  | cons q rows ih =>
    cases i with
    | zero =>
      have e : q = r := by simpa using hi
      subst e
      have := hs q (by simp)
      rw [Nat.zero_mul, List.drop_zero, List.flatten_cons, ← this, List.take_left]
    | succ i =>
      have hq := hs q (by simp)
      rw [List.flatten_cons, show (i + 1) * size = q.length + i * size by rw [Nat.add_mul]; omega, List.drop_length_add_append]
      exact ih (fun q hq => hs q (by simp [hq])) hi
/-- An element of a slice. -/
theorem R.elem {S : Nat → Prop} {h : AHeap} {x : Value} {rows : List (List Dat)} (r : R S h x (.sl rows)) {size : Nat} (hs : ∀ q ∈ rows, q.length = size) (h1 : 0 < size) {i : Nat} {q : List Dat} (hi : rows[i]? = some q) :
    ∃ b o ws, indexAddrf size x (.int .i64 i) = some (ptrTo b o) ∧ readN h b o size = some ws ∧ RL S h ws q ∧ S b := by
  have hlt := (List.getElem?_eq_some_iff.1 hi).1
  have hlen : q.length = size := hs q (List.mem_of_getElem? hi)
  cases r with
  | nil => cases hi
  | sl0 => cases hi
  | @sl b o c n vs rows hn hb hc hr hss =>
    subst hn
    have hl : vs.length = rows.length * size := by rw [hss.length, flatten_len hs]
    have hw := (hss.drop (i * size)).take size
    rw [flatten_row hs hi] at hw
    refine ⟨b, o + i * size, _, indexAddr_slice _ _ _ _ _ _ hlt, ?_, hw, hb⟩
    unfold readN at hr ⊢
    split at hr
    · rename_i cs t rw_ hblk
      split at hr
      · rename_i hle
        have hm : i * size + size ≤ rows.length * size := by
          have := Nat.mul_le_mul_right size (show i + 1 ≤ rows.length by omega)
          rw [Nat.add_mul] at this; omega
        rw [if_pos (by omega)]
        have hr' := Option.some.inj hr
        have e : vs.drop (i * size) = (cs.drop (o + i * size)).take (vs.length - i * size) := by
          have e0 : (cs.drop o).take vs.length = vs := hr'
          calc vs.drop (i * size) = ((cs.drop o).take vs.length).drop (i * size) := by rw [e0]
            _ = _ := by rw [List.drop_take, List.drop_drop]
        rw [e, List.take_take, Nat.min_eq_left (by omega)]
      · cases hr
    · cases hr
/-- All of a slice's cells. -/
theorem R.first {S : Nat → Prop} {h : AHeap} {x : Value} {rows : List (List Dat)} (r : R S h x (.sl rows)) {size : Nat} (hs : ∀ q ∈ rows, q.length = size) :
    ∃ ws, firstf size rows.length x h = some ws ∧ RL S h ws rows.flatten := by
  cases r with
  | nil => exact ⟨[], rfl, .nil⟩
  | sl0 a c => exact ⟨[], rfl, .nil⟩
  | @sl b o c n vs rows hn hb hc hr hss =>
    subst hn
    by_cases h0 : rows.length = 0
    · have : rows = [] := List.eq_nil_of_length_eq_zero h0
      subst this
      exact ⟨[], rfl, .nil⟩
    · refine ⟨vs, ?_, hss⟩
      simp only [firstf, Nat.le_refl, if_true, if_neg h0]
      rw [← flatten_len hs, ← hss.length]
      exact hr
theorem R.lenOf {S : Nat → Prop} {h : AHeap} {x : Value} {rows : List (List Dat)} (r : R S h x (.sl rows)) : lenOf x = some rows.length := by
  cases r with
  | nil => rfl
  | sl0 => rfl
  | sl hn => subst hn; rfl

/-! ### The shapes of types -/
inductive Shp where
  | int (k : IntKind)
  | bool
  | str
  | sl (cells : List Shp)
mutual
inductive HS : Shp → Dat → Prop
  | int {k : IntKind} {n : Int} (hw : (Lit.int k n).wf = true) : HS (.int k) (.v (.int k n))
  | bool (b : Bool) : HS .bool (.v (.bool b))
  | str {s : ByteArray} (hs : s.size ≤ maxLen) : HS .str (.v (.string s))
  | sl {s : List Shp} {rows : List (List Dat)} (hl : rows.length ≤ maxLen) (hr : ∀ r ∈ rows, HSL s r) : HS (.sl s) (.sl rows)
inductive HSL : List Shp → List Dat → Prop
  | nil : HSL [] []
  | cons {s : Shp} {d : Dat} {ss : List Shp} {ds : List Dat} (hd : HS s d) (hs : HSL ss ds) : HSL (s :: ss) (d :: ds)
end
theorem HSL.length {ss : List Shp} {ds : List Dat} (r : HSL ss ds) : ds.length = ss.length := by
  induction ss generalizing ds with
  | nil => cases r; rfl
  | cons x xs ih => cases r with | cons _ hs => simp [ih hs]
theorem HSL.append {s1 s2 : List Shp} {ds es : List Dat} (r : HSL s1 ds) (q : HSL s2 es) : HSL (s1 ++ s2) (ds ++ es) := by
  induction s1 generalizing ds with
  | nil => cases r; exact q
  | cons x xs ih => cases r with | cons hx hs => exact .cons hx (ih hs)

section
variable (P : Program)
def shpFs (rec : TypeId → Option (List Shp)) : Nat → List Field → Option (List Shp)
  | _, [] => some []
  | off, f :: r => match rec f.type with
    | some s => bif Nat.beq f.offset off && Nat.beq s.length (P.cellsOf f.type) then (match shpFs rec (off + s.length) r with | some q => some (s ++ q) | none => none) else none
    | none => none
def shpOf : Nat → TypeId → Option (List Shp)
  | 0, _ => none
  | n + 1, t => match P.underlying t with
    | some .bool => some [.bool]
    | some (.int k) => some [.int k]
    | some .string => some [.str]
    | some (.slice e) => match shpOf n e with
      | some s => bif Nat.beq s.length (P.cellsOf e) && Nat.ble 1 s.length then some [.sl s] else none
      | none => none
    | some (.struct fs) => match shpFs P (shpOf n) 0 fs.toList with
      | some s => bif Nat.beq s.length (P.cellsOf t) then some s else none
      | none => none
    | _ => none
end

section
variable {P : Program} {H : Type} {enc : TypeId × Value → H} {W : World}
/-- All that the start knows. -/
def S0 (W : World) : Nat → Prop := fun b => b < W.heap.size

theorem open_struct {n : Nat} {xs : List (DataW H × List MemPlace)} {cs : List Value} {rec : TypeId → Option (List Shp)}
    (ih : ∀ (t : TypeId) (cs : List Value) (x : DataW H × List MemPlace) (s : List Shp), DataW.trod enc P W 0 (fun _ => true) true n t cs = some x → rec t = some s → ∃ ds, RL (S0 W) (heap0 W) cs ds ∧ HSL s ds ∧ VRL (mu0 W) cs cs) :
    ∀ (fs : List Field) (off k : Nat) (s : List Shp), shpFs P rec off fs = some s → (∀ (i : Nat) (f : Field), fs[i]? = some f → ∃ x, DataW.trod enc P W 0 (fun _ => true) true n f.type ((cs.drop f.offset).take (P.cellsOf f.type)) = some x) →
      off + s.length = cs.length → ∃ ds, RL (S0 W) (heap0 W) (cs.drop off) ds ∧ HSL s ds ∧ VRL (mu0 W) (cs.drop off) (cs.drop off) := by
  intro fs
  induction fs with
  | nil =>
    intro off k s hs _ hl
    cases hs
    refine ⟨[], ?_, .nil, ?_⟩ <;> rw [List.drop_eq_nil_of_le (by simp at hl; omega)]
    · exact .nil
    · exact .nil
  | cons f fs ih2 =>
    intro off k s hs hf hl
    unfold shpFs at hs
    split at hs
    · rename_i s1 h1
      cases hc : (Nat.beq f.offset off && Nat.beq s1.length (P.cellsOf f.type)) with
      | false => rw [hc] at hs; cases hs
      | true =>
        rw [hc] at hs
        simp only [cond_true, Bool.and_eq_true] at hs hc
        obtain ⟨c1, c2⟩ := hc
        have c1 := Nat.eq_of_beq_eq_true c1
        have c2 := Nat.eq_of_beq_eq_true c2
        split at hs
        · rename_i q hq
          cases hs
          obtain ⟨x, hx⟩ := hf 0 f rfl
          rw [c1] at hx
          obtain ⟨d1, r1, k1, v1⟩ := ih _ _ _ _ hx h1
          rw [List.length_append] at hl
          obtain ⟨d2, r2, k2, v2⟩ := ih2 (off + s1.length) (k + 1) q hq (fun i g hg => hf (i + 1) g hg) (by omega)
          have e : cs.drop off = (cs.drop off).take (P.cellsOf f.type) ++ cs.drop (off + s1.length) := by
            rw [c2, ← List.drop_drop, List.take_append_drop]
          refine ⟨d1 ++ d2, ?_, k1.append k2, ?_⟩
          · rw [e]; exact r1.append r2
          · rw [e]; exact v1.append v2
        · cases hs
    · cases hs

theorem open_trod : ∀ (m n : Nat) (t : TypeId) (cs : List Value) (x : DataW H × List MemPlace) (s : List Shp), DataW.trod enc P W 0 (fun _ => true) true n t cs = some x → shpOf P m t = some s →
    ∃ ds, RL (S0 W) (heap0 W) cs ds ∧ HSL s ds ∧ VRL (mu0 W) cs cs := by
  intro m
  induction m with
  | zero => intro n t cs x s _ h; cases h
  | succ m ih =>
    intro n t cs x s hx hs
    unfold shpOf at hs
    split at hs
    · rename_i ht
      cases hs
      obtain ⟨b, rfl, _⟩ := DataW.trod_bool ht hx
      exact ⟨[.v (.bool b)], .cons (.v rfl) .nil, .cons (.bool b) .nil, .cons (.bool b) .nil⟩
    · rename_i k ht
      cases hs
      obtain ⟨z, rfl, _, hw⟩ := DataW.trod_int ht hx
      exact ⟨[.v (.int k z)], .cons (.v rfl) .nil, .cons (.int hw) .nil, .cons (.int k z) .nil⟩
    · rename_i ht
      cases hs
      obtain ⟨b, rfl, _, hl⟩ := DataW.trod_string ht hx
      exact ⟨[.v (.string b)], .cons (.v rfl) .nil, .cons (.str hl) .nil, .cons (.string b) .nil⟩
    · rename_i e ht
      split at hs
      · rename_i s1 hs1
        cases hc : (Nat.beq s1.length (P.cellsOf e) && Nat.ble 1 s1.length) with
        | false => rw [hc] at hs; cases hs
        | true =>
          rw [hc] at hs
          cases hs
          simp only [Bool.and_eq_true] at hc
          have c1 := Nat.eq_of_beq_eq_true hc.1
          have c2 := Nat.le_of_ble_eq_true hc.2
          rcases Deep.open_slice ht hx with ⟨rfl, _⟩ | ⟨a, len, cap, m1, n1, D, Pl, rfl, _, hl, hcap, hm, _, hall⟩
          · exact ⟨[.sl []], .cons .nil .nil, .cons (.sl (Nat.zero_le _) fun r hr => by cases hr) .nil, .cons .slNil .nil⟩
          · simp only [if_true] at hm
            subst hm
            have hrow : ∀ i, ∃ p : List Value × List Dat, i < m1 → RL (S0 W) (heap0 W) p.1 p.2 ∧ HSL s1 p.2 ∧ VRL (mu0 W) p.1 p.1 ∧ p.1.length = s1.length ∧ ∀ j, j < s1.length → W.cell? ((a.add (i * s1.length)).add j) = p.1[j]? := by
              intro i
              by_cases hi : i < m1
              · obtain ⟨cs', h1, h2⟩ := hall i hi
                obtain ⟨ds, r1, r2, r3⟩ := ih _ _ _ _ _ h2 hs1
                obtain ⟨_, h4, h5⟩ := World.cells?_some h1
                exact ⟨(cs', ds), fun _ => ⟨r1, r2, r3, by show cs'.length = _; omega, fun j hj => by rw [← c1] at h5; exact h5 j hj⟩⟩
              · exact ⟨([], []), fun h => absurd h hi⟩
            obtain ⟨F, hF⟩ := Classical.axiomOfChoice hrow
            have hlt := maxLen_lt
            have hat : 0 < m1 → ∃ b o, a = ⟨b, o, none⟩ ∧ b < W.heap.size := by
              intro h0
              obtain ⟨_, _, _, q3, q4⟩ := hF 0 h0
              have q5 := q4 0 (by omega)
              rw [List.getElem?_eq_getElem (by omega)] at q5
              obtain ⟨b, o, sp⟩ := a
              have e0 : ((⟨b, o, sp⟩ : Addr).add (0 * s1.length)).add 0 = ⟨b, o, sp⟩ := by simp [Addr.add]
              rw [e0] at q5
              obtain ⟨hb, hsp⟩ := cell_block q5
              simp only at hsp hb
              exact ⟨b, o, by rw [hsp], hb⟩
            refine ⟨[.sl ((List.range len).map fun i => (F i).2)], .cons ?_ .nil, .cons (.sl (by simp; omega) fun r hr => ?_) .nil, .cons ?_ .nil⟩
            · by_cases h0 : len = 0
              · subst h0
                exact .sl0 _ _
              · obtain ⟨b, o, rfl, hb⟩ := hat (by omega)
                have hvs : ∀ k, k ≤ len → RL (S0 W) (heap0 W) ((List.range k).map fun i => (F i).1).flatten ((List.range k).map fun i => (F i).2).flatten := by
                  intro k
                  induction k with
                  | zero => intro _; exact .nil
                  | succ k ihk =>
                    intro hk
                    rw [List.range_succ, List.map_append, List.map_append, List.flatten_append, List.flatten_append]
                    refine (ihk (by omega)).append ?_
                    simpa using (hF k (by omega)).1
                have hsz : ∀ r ∈ ((List.range len).map fun i => (F i).1), r.length = s1.length := by
                  intro r hr
                  rw [List.mem_map] at hr
                  obtain ⟨i, hi, rfl⟩ := hr
                  exact (hF i (by have := List.mem_range.1 hi; omega)).2.2.2.1
                have hfl := flatten_len hsz
                rw [List.length_map, List.length_range] at hfl
                refine .sl (vs := ((List.range len).map fun i => (F i).1).flatten) (by simp) hb (by omega) ?_ (hvs len (Nat.le_refl _))
                refine readN_of (fun i v hv => ?_) ?_
                · have hi := (List.getElem?_eq_some_iff.1 hv).1
                  rw [hfl] at hi
                  have hq : i / s1.length < len := (Nat.div_lt_iff_lt_mul (by omega)).2 hi
                  have hr : i % s1.length < s1.length := Nat.mod_lt _ (by omega)
                  have hi' : ((List.range len).map fun i => (F i).1)[i / s1.length]? = some (F (i / s1.length)).1 := by
                    rw [List.getElem?_map, List.getElem?_range hq]; rfl
                  have hrow := flatten_row hsz hi'
                  have e1 : (F (i / s1.length)).1[i % s1.length]? = some v := by
                    rw [← hrow, List.getElem?_take, if_pos hr, List.getElem?_drop, Nat.mul_comm (i / s1.length), Nat.div_add_mod]
                    exact hv
                  obtain ⟨_, _, q2, q3, q4⟩ := hF (i / s1.length) (by omega)
                  have q5 := q4 _ hr
                  rw [e1] at q5
                  obtain ⟨y, hy, hvr⟩ := q2.get e1
                  have hyv : y = v := by rw [e1] at hy; exact (Option.some.inj hy).symm
                  subst hyv
                  refine readC0 ?_ hvr
                  rw [← q5]
                  have e5 : i / s1.length * s1.length + i % s1.length = i := Nat.div_add_mod' i _
                  rw [Deep.add_add, addr_add, e5]
                · intro hnil
                  have := congrArg List.length hnil
                  rw [hfl] at this
                  rcases Nat.mul_eq_zero.1 this with h | h <;> omega
            · rw [List.mem_map] at hr
              obtain ⟨i, hi, rfl⟩ := hr
              exact (hF i (by have := List.mem_range.1 hi; omega)).2.1
            · by_cases hm0 : m1 = 0
              · subst hm0
                have : len = 0 := by omega
                subst this
                exact .sl00 _ _
              · obtain ⟨b, o, rfl, hb⟩ := hat (by omega)
                exact .sl (mu0_of hb) (.inl ⟨by omega, rfl⟩)
      · cases hs
    · rename_i fs ht
      split at hs
      · rename_i s1 hs1
        cases hc : Nat.beq s1.length (P.cellsOf t) with
        | false => rw [hc] at hs; cases hs
        | true =>
          rw [hc] at hs
          cases hs
          have c1 := Nat.eq_of_beq_eq_true hc
          obtain ⟨xs, k, _, _, hl, hxl, hf⟩ := DataW.trod_struct ht hx
          have := open_struct (xs := xs) (cs := cs) (fun t cs x s h1 h2 => ih k t cs x s h1 h2) fs.toList 0 0 s hs1 (fun i f hi => by
            have hi' : fs[i]? = some f := by simpa using hi
            have hlt : i < fs.size := (Array.getElem?_eq_some_iff.1 hi').1
            exact ⟨_, (hf i f hi').trans (List.getElem?_eq_getElem (by omega))⟩) (by omega)
          simpa using this
      · cases hs
    · cases hs

theorem open_arg1 {t : TypeId} {v : Value} {d : DataW H} {ps : List MemPlace} {m : Nat} {s : Shp} (hs : shpOf P m t = some [s]) (hv : v.cells.toList = [v]) (h : DataW.Trod enc P W 0 (fun _ => true) true t v d ps) :
    ∃ x, R (S0 W) (heap0 W) v x ∧ HS s x ∧ VR (mu0 W) v v := by
  obtain ⟨n, hn⟩ := h
  rw [hv] at hn
  obtain ⟨ds, r1, r2, r3⟩ := open_trod m n t _ _ _ hn hs
  cases r1 with
  | cons hx hxs =>
    cases hxs
    cases r2 with
    | cons hd _ =>
      cases r3 with
      | cons hq _ => exact ⟨_, hx, hd, hq⟩
theorem open_slice_arg {t e : TypeId} {v : Value} {d : DataW H} {ps : List MemPlace} {m : Nat} {s : Shp} {r : Reach} {b0 : Nat} (ht : P.underlying t = some (.slice e)) (hs : shpOf P m t = some [s]) (hval : Value.okWide P W r b0 t v) (h : DataW.Trod enc P W 0 (fun _ => true) true t v d ps) :
    ∃ x, R (S0 W) (heap0 W) v x ∧ HS s x ∧ VR (mu0 W) v v := by
  obtain ⟨a, len, cap, rfl⟩ := okWide_slice ht hval
  exact open_arg1 hs rfl h
theorem open_int_arg {t : TypeId} {k : IntKind} {v : Value} {d : DataW H} {ps : List MemPlace} {r : Reach} {b0 : Nat} (ht : P.underlying t = some (.int k)) (hval : Value.okWide P W r b0 t v) (h : DataW.Trod enc P W 0 (fun _ => true) true t v d ps) :
    ∃ n, v = .int k n ∧ (Lit.int k n).wf = true ∧ VR (mu0 W) v v := by
  obtain ⟨n, rfl⟩ := okWide_int ht hval
  obtain ⟨f, hf⟩ := h
  obtain ⟨z, hz, _, hw⟩ := DataW.trod_int ht hf
  cases hz
  exact ⟨n, rfl, hw, .int _ _⟩
theorem open_bool_arg {t : TypeId} {v : Value} {r : Reach} {b0 : Nat} (ht : P.underlying t = some .bool) (hval : Value.okWide P W r b0 t v) : ∃ b, v = .bool b ∧ VR (mu0 W) v v := by
  obtain ⟨b, rfl⟩ := okWide_bool ht hval
  exact ⟨b, rfl, .bool _⟩
theorem open_str_arg {t : TypeId} {v : Value} {d : DataW H} {ps : List MemPlace} {r : Reach} {b0 : Nat} (ht : P.underlying t = some .string) (hval : Value.okWide P W r b0 t v) (h : DataW.Trod enc P W 0 (fun _ => true) true t v d ps) :
    ∃ s, v = .string s ∧ s.size ≤ maxLen ∧ VR (mu0 W) v v := by
  obtain ⟨n, rfl⟩ := okWide_string ht hval
  obtain ⟨f, hf⟩ := h
  obtain ⟨z, hz, _, hw⟩ := DataW.trod_string ht hf
  cases hz
  exact ⟨n, rfl, hw, .string _⟩
theorem open_struct_arg {t : TypeId} {fs : Array Field} {v : Value} {d : DataW H} {ps : List MemPlace} {m : Nat} {s : List Shp} {r : Reach} {b0 : Nat} (ht : P.underlying t = some (.struct fs)) (hs : shpOf P m t = some s) (hval : Value.okWide P W r b0 t v) (h : DataW.Trod enc P W 0 (fun _ => true) true t v d ps) :
    ∃ (cs : List Value) (ds : List Dat), v = .agg cs.toArray ∧ RL (S0 W) (heap0 W) cs ds ∧ HSL s ds ∧ VR (mu0 W) v v := by
  obtain ⟨cs, rfl, _⟩ := okWide_struct ht hval
  obtain ⟨n, hn⟩ := h
  obtain ⟨ds, r1, r2, r3⟩ := open_trod m n t _ _ _ hn hs
  exact ⟨cs.toList, ds, by simp, r1, r2, .agg r3⟩
end

/-! ### From shapes to typed data -/
theorem rows_typed {α : Type} {f : α → List Dat} {ok : α → Prop} {rows : List (List Dat)} (h : ∀ r ∈ rows, ∃ a, r = f a ∧ ok a) : ∃ l : List α, rows = l.map f ∧ ∀ a ∈ l, ok a := by
  induction rows with
  | nil => exact ⟨[], rfl, fun a ha => by cases ha⟩
  | cons r rows ih =>
    obtain ⟨a, rfl, ha⟩ := h r (by simp)
    obtain ⟨l, rfl, hl⟩ := ih fun q hq => h q (by simp [hq])
    exact ⟨a :: l, rfl, fun b hb => by
      rcases List.mem_cons.1 hb with rfl | hb
      · exact ha
      · exact hl b hb⟩
theorem sl_typed {α : Type} {s : List Shp} {d : Dat} {f : α → List Dat} {ok : α → Prop} (h : HS (.sl s) d) (hq : ∀ r, HSL s r → ∃ a, r = f a ∧ ok a) :
    ∃ (l : List α), d = .sl (l.map f) ∧ (l.length ≤ maxLen ∧ ∀ a ∈ l, ok a) := by
  cases h with
  | sl hl hr =>
    obtain ⟨l, rfl, h1⟩ := rows_typed fun r h => hq r (hr r h)
    exact ⟨l, rfl, by simpa using hl, h1⟩

end Go.Am

/- Words for typed data: what the printed types (types.py) stand on. -/
namespace Go.Am

def iD (n : Int) : List Dat := [.v (.int .i64 n)]
def kD (k : IntKind) (n : Int) : List Dat := [.v (.int k n)]
def bD (b : Bool) : List Dat := [.v (.bool b)]
def sD (s : ByteArray) : List Dat := [.v (.string s)]
def lD {α : Type} (f : α → List Dat) (l : List α) : List Dat := [.sl (l.map f)]
def dokL {α : Type} (ok : α → Prop) (l : List α) : Prop := l.length ≤ maxLen ∧ ∀ a ∈ l, ok a
theorem HSL.cons_inv {s : Shp} {ss : List Shp} {ds : List Dat} (h : HSL (s :: ss) ds) : ∃ d r, ds = d :: r ∧ HS s d ∧ HSL ss r := by
  cases h with | cons h1 h2 => exact ⟨_, _, rfl, h1, h2⟩
theorem HSL.nil_inv {ds : List Dat} (h : HSL [] ds) : ds = [] := by cases h; rfl
theorem HS.int_inv {k : IntKind} {d : Dat} (h : HS (.int k) d) : ∃ n, d = .v (.int k n) ∧ (Lit.int k n).wf = true := by cases h with | int hw => exact ⟨_, rfl, hw⟩
theorem HS.i64_inv {d : Dat} (h : HS (.int .i64) d) : ∃ n, d = .v (.int .i64 n) ∧ isI64 n := by cases h with | int hw => exact ⟨_, rfl, wf_i64 hw⟩
theorem HS.bool_inv {d : Dat} (h : HS .bool d) : ∃ b, d = .v (.bool b) := by cases h with | bool b => exact ⟨b, rfl⟩
theorem HS.str_inv {d : Dat} (h : HS .str d) : ∃ s : ByteArray, d = .v (.string s) ∧ s.size ≤ maxLen := by cases h with | str hs => exact ⟨_, rfl, hs⟩
theorem RL.cons_inv {S : Nat → Prop} {h : AHeap} {ws : List Value} {d : Dat} {ds : List Dat} (r : RL S h ws (d :: ds)) : ∃ x ws', ws = x :: ws' ∧ R S h x d ∧ RL S h ws' ds := by
  cases r with | cons h1 h2 => exact ⟨_, _, rfl, h1, h2⟩
theorem RL.nil_inv {S : Nat → Prop} {h : AHeap} {ws : List Value} (r : RL S h ws []) : ws = [] := by cases r; rfl
theorem of_int {r : List Dat} (h : HSL [.int .i64] r) : ∃ n, r = iD n ∧ isI64 n := by
  obtain ⟨d, q, rfl, h1, h2⟩ := HSL.cons_inv h
  obtain rfl := HSL.nil_inv h2
  obtain ⟨n, rfl, hn⟩ := HS.i64_inv h1
  exact ⟨n, rfl, hn⟩
theorem of_kind {k : IntKind} {r : List Dat} (h : HSL [.int k] r) : ∃ n, r = kD k n ∧ (Lit.int k n).wf = true := by
  obtain ⟨d, q, rfl, h1, h2⟩ := HSL.cons_inv h
  obtain rfl := HSL.nil_inv h2
  obtain ⟨n, rfl, hn⟩ := HS.int_inv h1
  exact ⟨n, rfl, hn⟩
theorem of_bool {r : List Dat} (h : HSL [.bool] r) : ∃ b, r = bD b ∧ True := by
  obtain ⟨d, q, rfl, h1, h2⟩ := HSL.cons_inv h
  obtain rfl := HSL.nil_inv h2
  obtain ⟨n, rfl⟩ := HS.bool_inv h1
  exact ⟨n, rfl, trivial⟩
theorem of_str {r : List Dat} (h : HSL [.str] r) : ∃ s : ByteArray, r = sD s ∧ s.size ≤ maxLen := by
  obtain ⟨d, q, rfl, h1, h2⟩ := HSL.cons_inv h
  obtain rfl := HSL.nil_inv h2
  obtain ⟨n, rfl, hn⟩ := HS.str_inv h1
  exact ⟨n, rfl, hn⟩
theorem of_list {α : Type} {s : List Shp} {f : α → List Dat} {ok : α → Prop} (hq : ∀ r, HSL s r → ∃ a, r = f a ∧ ok a) {r : List Dat} (h : HSL [.sl s] r) : ∃ l, r = lD f l ∧ dokL ok l := by
  obtain ⟨d, q, rfl, h1, h2⟩ := HSL.cons_inv h
  obtain rfl := HSL.nil_inv h2
  obtain ⟨l, rfl, hl⟩ := sl_typed h1 hq
  exact ⟨l, rfl, hl⟩
theorem iD_lens (l : List Int) : ∀ q ∈ l.map iD, q.length = 1 := fun q hq => by obtain ⟨t, _, rfl⟩ := List.mem_map.1 hq; rfl
theorem lD_lens {α : Type} (f : α → List Dat) (l : List (List α)) : ∀ q ∈ l.map (lD f), q.length = 1 := fun q hq => by obtain ⟨t, _, rfl⟩ := List.mem_map.1 hq; rfl
theorem get_map {α β : Type} {f : α → β} {l : List α} {i : Nat} {a : α} (h : l[i]? = some a) : (l.map f)[i]? = some (f a) := by rw [List.getElem?_map, h]; rfl
/-- A number of a slice of numbers. -/
theorem R.int_at {S : Nat → Prop} {h : AHeap} {x : Value} {l : List Int} (r : R S h x (.sl (l.map iD))) {i : Nat} {n : Int} (hi : l[i]? = some n) :
    ∃ b o, indexAddrf 1 x (.int .i64 i) = some (ptrTo b o) ∧ readC h b o = some (.int .i64 n) ∧ S b := by
  obtain ⟨b, o, ws, h1, h2, h3, h4⟩ := r.elem (iD_lens l) (by decide) (get_map hi)
  obtain ⟨y, ws, rfl, h5, h6⟩ := RL.cons_inv h3
  obtain rfl := RL.nil_inv h6
  obtain rfl := R.inv_v h5
  exact ⟨b, o, h1, by have := readC_of_readN h2 (i := 0) rfl; simpa using this, h4⟩
theorem R.lenm {α : Type} {S : Nat → Prop} {h : AHeap} {x : Value} {f : α → List Dat} {l : List α} (r : R S h x (.sl (l.map f))) : lenf false x = some (.int .i64 l.length) := by have := r.len; rwa [List.length_map] at this
/-- Nothing is lost when the heap grows. -/
theorem R.grow {S : Nat → Prop} {h h' : AHeap} (hp : h <+: h') (hS : ∀ b, S b → b < h.length) {x : Value} {d : Dat} (r : R S h x d) : R S h' x d := r.pre hp hS
theorem drop_cons' {α : Type} {l : List α} {i : Nat} {a : α} {rest : List α} (h : l.drop i = a :: rest) : l[i]? = some a ∧ l.drop (i + 1) = rest ∧ i < l.length := by
  have h1 : (l.drop i)[0]? = some a := by rw [h]; rfl
  rw [List.getElem?_drop, Nat.add_zero] at h1
  refine ⟨h1, ?_, (List.getElem?_eq_some_iff.1 h1).1⟩
  rw [← List.drop_drop, h]; rfl

theorem readC_app {h : AHeap} {b o : Nat} {v : Value} (hr : readC h b o = some v) (l : List ABlk) : readC (h ++ l) b o = some v := readC_prefix (pre_app h l) hr
theorem readN_app {h : AHeap} {b o n : Nat} {v : List Value} (hr : readN h b o n = some v) (l : List ABlk) : readN (h ++ l) b o n = some v := readN_prefix (pre_app h l) hr
end Go.Am
