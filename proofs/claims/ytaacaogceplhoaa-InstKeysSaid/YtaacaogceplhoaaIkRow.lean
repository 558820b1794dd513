/- InstKeys: THE LAW ANSWERS TRUE FOR EVERY INPUT, AND EACH ARGUMENT READS BEHIND THE CALL AS BEFORE. No condition. -/
import Derived.Test.YtaacaogceplhoaaIkConv
import Derived.Test.YtaacaogceplhoaaRows
import Derived.WalkKit
import Derived.ProofKit
import Derived.OpenShut
import Derived.ChangeOld
import Derived.Below
import Derived.Carry
import Derived.SizedLaws
set_option linter.unusedVariables false
namespace Go.Proofs.Ytaacaogceplhoaa.instKeys
open Go.ChangeShapes Go.WideShapes Go.ChangeAt Go.RowKit Go.Am Go.Vm Go.Vm.X

theorem own : ownKnob Try.prog.godebug = none := by kernel_rfl
theorem laidOut : laidOutB Try.prog = true := by kernel_rfl
theorem mixed : Try.prog.follows .mixedOrders = true := by kernel_rfl
theorem table : TableOk Try.prog (PTable.erase T) := by
  obtain ⟨_, _, k3⟩ := ok3
  obtain ⟨_, _, k4⟩ := ok4
  obtain ⟨_, _, k5⟩ := ok5
  obtain ⟨_, _, k6⟩ := ok6
  obtain ⟨_, _, k7⟩ := ok7
  obtain ⟨_, _, k8⟩ := ok8
  obtain ⟨_, _, k9⟩ := ok9
  obtain ⟨_, _, k10⟩ := ok10
  obtain ⟨_, _, k11⟩ := ok11
  obtain ⟨_, _, k12⟩ := ok12
  obtain ⟨_, _, k13⟩ := ok13
  obtain ⟨_, _, k14⟩ := ok14
  obtain ⟨_, _, k15⟩ := ok15
  obtain ⟨_, _, k16⟩ := ok16
  obtain ⟨_, _, k17⟩ := ok17
  obtain ⟨_, _, k18⟩ := ok18
  obtain ⟨_, _, k19⟩ := ok19
  obtain ⟨_, _, k20⟩ := ok20
  obtain ⟨_, _, k21⟩ := ok21
  obtain ⟨_, _, k22⟩ := ok22
  obtain ⟨_, _, k23⟩ := ok23
  obtain ⟨_, _, k24⟩ := ok24
  obtain ⟨_, _, k25⟩ := ok25
  obtain ⟨_, _, k26⟩ := ok26
  obtain ⟨_, _, k28⟩ := ok28
  obtain ⟨_, _, k29⟩ := ok29
  obtain ⟨_, _, k30⟩ := ok30
  obtain ⟨_, _, k31⟩ := ok31
  obtain ⟨_, _, k32⟩ := ok32
  obtain ⟨_, _, k33⟩ := ok33
  obtain ⟨_, _, k34⟩ := ok34
  obtain ⟨_, _, k35⟩ := ok35
  obtain ⟨_, _, k36⟩ := ok36
  obtain ⟨_, _, k37⟩ := ok37
  obtain ⟨_, _, k38⟩ := ok38
  obtain ⟨_, _, k39⟩ := ok39
  obtain ⟨_, _, k40⟩ := ok40
  obtain ⟨_, _, k43⟩ := ok43
  obtain ⟨_, _, k44⟩ := ok44
  obtain ⟨_, _, k45⟩ := ok45
  exact tableOk_cons k3 (tableOk_cons k4 (tableOk_cons k5 (tableOk_cons k6 (tableOk_cons k7 (tableOk_cons k8 (tableOk_cons k9 (tableOk_cons k10 (tableOk_cons k11 (tableOk_cons k12 (tableOk_cons k13 (tableOk_cons k14 (tableOk_cons k15 (tableOk_cons k16 (tableOk_cons k17 (tableOk_cons k18 (tableOk_cons k19 (tableOk_cons k20 (tableOk_cons k21 (tableOk_cons k22 (tableOk_cons k23 (tableOk_cons k24 (tableOk_cons k25 (tableOk_cons k26 (tableOk_cons k28 (tableOk_cons k29 (tableOk_cons k30 (tableOk_cons k31 (tableOk_cons k32 (tableOk_cons k33 (tableOk_cons k34 (tableOk_cons k35 (tableOk_cons k36 (tableOk_cons k37 (tableOk_cons k38 (tableOk_cons k39 (tableOk_cons k40 (tableOk_cons k43 (tableOk_cons k44 (tableOk_cons k45 (tableOk_nil))))))))))))))))))))))))))))))))))))))))
set_option maxRecDepth 100000 in
theorem lifted (os : Os) (started : os.Started) (H : Type) (enc : TypeId × Value → H) :
    ReturnsInHanded {} Try.checked os 3 .any (Rows.instKeysSpec.pre6 enc Try.prog Try.f3 Rows.instKeysRow.domain false) (Rows.instKeysSpec.post enc Try.prog Try.f3 false true false false) := by
  refine returnsInHanded_of_change_sized (C := Try.checked) own started (by kernel_rfl) Try.func3
    (ChangeSpec.witness6 (enc := enc) (C := Try.checked) false ⟨#[], #[.agg #[.string .empty, .slice none 0 0, .bool false, .slice none 0 0, .bool false, .int .i64 0, .int .i64 0, .bool false, .int .i64 0, .int .i64 0, .bool false, .slice none 0 0, .bool false, .int .i64 0, .int .i64 0, .bool false, .int .i64 0, .int .i64 0, .bool false, .slice none 0 0, .bool false, .int .i64 0, .int .i64 0, .bool false, .int .i64 0, .int .i64 0, .int .i64 0, .int .i64 0, .int .i64 0, .int .i64 0, .int .i64 0, .int .i64 0, .int .i64 0, .int .i64 0, .int .i64 0, .int .i64 0, .int .i64 0, .int .i64 0, .int .i64 0]], []⟩ 8 (by kernel_rfl) (by kernel_rfl) (by kernel_rfl) (by kernel_rfl)) ?_
  intro W base args ds gs before hval0 hW hcnd hsz0 _
  have hval : ∀ (j : Nat) t v, Try.f3.params[j]? = some t → args[j]? = some v → Value.okWide Try.prog W .any base t v := hval0
  have hW' := hW
  obtain ⟨p, q, hA0, hV, rfl, hfz, hnd⟩ := hW
  have hA : DataW.TrodAll enc Try.prog W 0 (fun _ => true) true Try.f3.params.toList args.toList ds p := hA0
  rw [Try.params3] at hA hval
  obtain ⟨v0, vs0, d0, ds0, p0, q0, ha0, rfl, rfl, h0, r0⟩ := trodAll_cons hA
  obtain ⟨hb1, rfl, rfl⟩ := trodAll_nil r0
  obtain rfl : args = #[v0] := by
    subst hb1
    cases args; simp_all
  obtain ⟨rfl, rfl⟩ := trodVars_none hV
  have hv0 := hval 0 29 v0 rfl rfl
  have lt0 : ∀ x ∈ p0, x.block < W.heap.size := by obtain ⟨m, hm⟩ := h0; exact DataW.trod_lt m _ _ _ hm
  obtain ⟨c0, e0, rfl, r0, s0, vr0⟩ := open_struct_arg (m := 12) (s := DKeyed.shp) Try.underlying29 (by kernel_rfl) hv0 h0
  have pq0 := prl_of (μ := mu00) _ s0 r0
  obtain ⟨l0, rfl, ok0⟩ := DKeyed.of s0
  rw [DKeyed.pv_eq l0] at pq0
  have pr0 := PR.agg pq0
  refine (calls_of_prunB mixed table (sort_sim (by kernel_rfl)) sort_ok (c3d ok0 []) (.cons pr0 (.nil)) (.cons vr0 (.nil)) rfl).mono fun e W' ⟨he, bel⟩ => ?_
  subst he
  exact ⟨_, rfl, _, _, _, [], _, [], hW', trodAll_mk1 (shut_bool Try.underlying4 _), (trodAll_cons_mk (Below.trod laidOut (by kernel_rfl) (of_decide_eq_true (by kernel_rfl)) h0 bel lt0) trodAll_mk0), rfl, bel.frame _, fun h => by cases h⟩
theorem over : Rows.instKeysRow.holds Try.pinned (OpenSpec.ofChange Rows.instKeysSpec) :=
  OpenClaim.holds_of_wide 3 Try.f3 rfl rfl rfl rfl rfl rfl rfl ⟨rfl, rfl, rfl, rfl, rfl⟩ rfl rfl rfl rfl rfl (by kernel_rfl) Try.func3 (by kernel_rfl)
    (of_decide_eq_true (by kernel_rfl)) (by unfold Func.isWrapper; first | (rw [if_pos (by decide +kernel)]; kernel_rfl) | (rw [if_neg (by decide +kernel)]; exact ⟨rfl, rfl⟩))
    (fun os started H enc _ => lifted os started H enc)
theorem proved : Rows.InstKeysSaid := over
end Go.Proofs.Ytaacaogceplhoaa.instKeys
namespace Go.Proofs.Ytaacaogceplhoaa
/-- The row, under a short name, for the claim. -/
theorem instKeys_holds : Rows.InstKeysSaid := instKeys.proved
end Go.Proofs.Ytaacaogceplhoaa
