/- AnalyseFrames: the row. -/
import Derived.Test.YthoclgplhpnlgaaAfMean
import Derived.Test.YthoclgplhpnlgaaRows
import Derived.WalkKit
import Derived.ProofKit
import Derived.OpenShut
import Derived.ChangeOld
import Derived.Below
import Derived.Carry
import Derived.SizedLaws
set_option linter.unusedVariables false
namespace Go.Proofs.Ythoclgplhpnlgaa.analyseFrames
open Go.ChangeShapes Go.WideShapes Go.ChangeAt Go.RowKit Go.Am Go.Am.X

theorem own : ownKnob Try.prog.godebug = none := by kernel_rfl
theorem laidOut : laidOutB Try.prog = true := by kernel_rfl
theorem mixed : Try.prog.follows .mixedOrders = true := by kernel_rfl
theorem table : TableOk Try.prog T := by
  obtain ⟨_, _, k3⟩ := ok3
  obtain ⟨_, _, k4⟩ := ok4
  obtain ⟨_, _, k5⟩ := ok5
  obtain ⟨_, _, k6⟩ := ok6
  obtain ⟨_, _, k7⟩ := ok7
  obtain ⟨_, _, k8⟩ := ok8
  obtain ⟨_, _, k9⟩ := ok9
  obtain ⟨_, _, k10⟩ := ok10
  obtain ⟨_, _, k11⟩ := ok11
  obtain ⟨_, _, k12⟩ := ok12
  exact tableOk_cons k3 (tableOk_cons k4 (tableOk_cons k5 (tableOk_cons k6 (tableOk_cons k7 (tableOk_cons k8 (tableOk_cons k9 (tableOk_cons k10 (tableOk_cons k11 (tableOk_cons k12 tableOk_nil)))))))))
set_option maxRecDepth 100000 in
theorem lifted (os : Os) (started : os.Started) (H : Type) (enc : TypeId × Value → H) :
    ReturnsInHanded {} Try.checked os 3 .any (Rows.analyseFramesSpec.pre6 enc Try.prog Try.f3 Rows.analyseFramesRow.domain false) (Rows.analyseFramesSpec.post enc Try.prog Try.f3 false true false false) := by
  refine returnsInHanded_of_change_sized (C := Try.checked) own started (by kernel_rfl) Try.func3
    (ChangeSpec.witness6 (enc := enc) (C := Try.checked) false ⟨#[], #[.slice none 0 0], []⟩ 8 (by kernel_rfl) (by kernel_rfl) (by kernel_rfl) (by kernel_rfl)) ?_
  intro W base args ds gs before hval0 hW hcnd hsz0 _
  have hval : ∀ (j : Nat) t v, Try.f3.params[j]? = some t → args[j]? = some v → Value.okWide Try.prog W .any base t v := hval0
  have hW' := hW
  obtain ⟨p, q, hA0, hV, rfl, hfz, hnd⟩ := hW
  have hA : DataW.TrodAll enc Try.prog W 0 (fun _ => true) true Try.f3.params.toList args.toList ds p := hA0
  rw [Try.params3] at hA hval
  obtain ⟨v0, vs0, d0, ds0, p0, q0, hargs, rfl, rfl, h0, r0⟩ := trodAll_cons hA
  obtain ⟨rfl, rfl, rfl⟩ := trodAll_nil r0
  obtain rfl : args = #[v0] := by cases args; simp_all
  obtain ⟨rfl, rfl⟩ := trodVars_none hV
  have hv0 := hval 0 22 v0 rfl rfl
  obtain ⟨xs, hp, hvr, hok⟩ := open_pairs Try.underlying22 Try.underlying27 (by kernel_rfl) rfl rfl (by kernel_rfl) (by kernel_rfl) (by kernel_rfl) (by kernel_rfl) hv0 h0
  have lt0 : ∀ x ∈ p0, x.block < W.heap.size := by obtain ⟨m, hm⟩ := h0; exact DataW.trod_lt m _ _ _ hm
  refine (calls_of_run (run_ok mixed table noCallee_ok) (c3 hp hok) (.cons hvr .nil) rfl).mono fun e W' ⟨he, bel⟩ => ?_
  subst he
  exact ⟨_, rfl, _, _, _, [], _, [], hW', trodAll_mk1 (shut_bool Try.underlying4 _), (trodAll_cons_mk (Below.trod laidOut (by kernel_rfl) (of_decide_eq_true (by kernel_rfl)) h0 bel lt0) trodAll_mk0), rfl, bel.frame _, fun h => by cases h⟩
theorem over : Rows.analyseFramesRow.holds Try.pinned (OpenSpec.ofChange Rows.analyseFramesSpec) :=
  OpenClaim.holds_of_wide 3 Try.f3 rfl rfl rfl rfl rfl rfl rfl ⟨rfl, rfl, rfl, rfl, rfl⟩ rfl rfl rfl rfl rfl (by kernel_rfl) Try.func3 (by kernel_rfl)
    (of_decide_eq_true (by kernel_rfl)) (by unfold Func.isWrapper; first | (rw [if_pos (by decide +kernel)]; kernel_rfl) | (rw [if_neg (by decide +kernel)]; exact ⟨rfl, rfl⟩))
    (fun os started H enc _ => lifted os started H enc)
theorem proved : Rows.AnalyseFramesSaid := over
end Go.Proofs.Ythoclgplhpnlgaa.analyseFrames
namespace Go.Proofs.Ythoclgplhpnlgaa
/-- The row, under a short name, for the claim. -/
theorem analyseFrames_holds : Rows.AnalyseFramesSaid := analyseFrames.proved
end Go.Proofs.Ythoclgplhpnlgaa
