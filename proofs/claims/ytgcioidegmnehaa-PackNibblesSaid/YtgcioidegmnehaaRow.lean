/- PackNibbles: THE LAW ANSWERS TRUE FOR EVERY INPUT, AND EACH ARGUMENT READS BEHIND THE CALL AS BEFORE. No condition. -/
import Derived.Test.YtgcioidegmnehaaP5
import Derived.Test.YtgcioidegmnehaaRows
import Derived.WalkKit
import Derived.ProofKit
import Derived.OpenShut
import Derived.ChangeOld
import Derived.Below
import Derived.Carry
import Derived.SizedLaws
set_option linter.unusedSimpArgs false
set_option linter.unusedVariables false
set_option linter.unusedVariables false
namespace Go.Proofs.Ytgcioidegmnehaa.packNibbles
open Go.ChangeShapes Go.WideShapes Go.ChangeAt Go.RowKit Go.Am Go.Vm Go.Vm.X
theorem own : ownKnob Try.prog.godebug = none := by kernel_rfl
theorem laidOut : laidOutB Try.prog = true := by kernel_rfl
theorem mixed : Try.prog.follows .mixedOrders = true := by kernel_rfl
theorem table : TableOk Try.prog (PTable.erase T) := by
  obtain ⟨_, _, k7⟩ := ok7
  obtain ⟨_, _, k8⟩ := ok8
  obtain ⟨_, _, k11⟩ := ok11
  obtain ⟨_, _, k13⟩ := ok13
  obtain ⟨_, _, k14⟩ := ok14
  obtain ⟨_, _, k15⟩ := ok15
  obtain ⟨_, _, k20⟩ := ok20
  obtain ⟨_, _, k21⟩ := ok21
  obtain ⟨_, _, k22⟩ := ok22
  obtain ⟨_, _, k23⟩ := ok23
  obtain ⟨_, _, k24⟩ := ok24
  obtain ⟨_, _, k25⟩ := ok25
  obtain ⟨_, _, k26⟩ := ok26
  obtain ⟨_, _, k27⟩ := ok27
  obtain ⟨_, _, k28⟩ := ok28
  obtain ⟨_, _, k29⟩ := ok29
  obtain ⟨_, _, k30⟩ := ok30
  obtain ⟨_, _, k31⟩ := ok31
  obtain ⟨_, _, k32⟩ := ok32
  obtain ⟨_, _, k35⟩ := ok35
  obtain ⟨_, _, k36⟩ := ok36
  obtain ⟨_, _, k37⟩ := ok37
  obtain ⟨_, _, k38⟩ := ok38
  obtain ⟨_, _, k39⟩ := ok39
  obtain ⟨_, _, k40⟩ := ok40
  obtain ⟨_, _, k41⟩ := ok41
  obtain ⟨_, _, k42⟩ := ok42
  obtain ⟨_, _, k43⟩ := ok43
  obtain ⟨_, _, k44⟩ := ok44
  obtain ⟨_, _, k47⟩ := ok47
  obtain ⟨_, _, k48⟩ := ok48
  obtain ⟨_, _, k49⟩ := ok49
  obtain ⟨_, _, k51⟩ := ok51
  obtain ⟨_, _, k52⟩ := ok52
  obtain ⟨_, _, k53⟩ := ok53
  obtain ⟨_, _, k54⟩ := ok54
  obtain ⟨_, _, k55⟩ := ok55
  obtain ⟨_, _, k56⟩ := ok56
  obtain ⟨_, _, k57⟩ := ok57
  obtain ⟨_, _, k58⟩ := ok58
  obtain ⟨_, _, k59⟩ := ok59
  obtain ⟨_, _, k60⟩ := ok60
  obtain ⟨_, _, k61⟩ := ok61
  obtain ⟨_, _, k64⟩ := ok64
  obtain ⟨_, _, k65⟩ := ok65
  obtain ⟨_, _, k66⟩ := ok66
  obtain ⟨_, _, k78⟩ := ok78
  obtain ⟨_, _, k85⟩ := ok85
  exact tableOk_cons k7 (tableOk_cons k8 (tableOk_cons k11 (tableOk_cons k13 (tableOk_cons k14 (tableOk_cons k15 (tableOk_cons k20 (tableOk_cons k21 (tableOk_cons k22 (tableOk_cons k23 (tableOk_cons k24 (tableOk_cons k25 (tableOk_cons k26 (tableOk_cons k27 (tableOk_cons k28 (tableOk_cons k29 (tableOk_cons k30 (tableOk_cons k31 (tableOk_cons k32 (tableOk_cons k35 (tableOk_cons k36 (tableOk_cons k37 (tableOk_cons k38 (tableOk_cons k39 (tableOk_cons k40 (tableOk_cons k41 (tableOk_cons k42 (tableOk_cons k43 (tableOk_cons k44 (tableOk_cons k47 (tableOk_cons k48 (tableOk_cons k49 (tableOk_cons k51 (tableOk_cons k52 (tableOk_cons k53 (tableOk_cons k54 (tableOk_cons k55 (tableOk_cons k56 (tableOk_cons k57 (tableOk_cons k58 (tableOk_cons k59 (tableOk_cons k60 (tableOk_cons k61 (tableOk_cons k64 (tableOk_cons k65 (tableOk_cons k66 (tableOk_cons k78 (tableOk_cons k85 (tableOk_nil))))))))))))))))))))))))))))))))))))))))))))))))
set_option maxRecDepth 100000 in
theorem lifted (os : Os) (started : os.Started) (H : Type) (enc : TypeId × Value → H) :
    ReturnsInHanded {} Try.checked os 7 .any (Rows.packNibblesSpec.pre6 enc Try.prog Try.f7 Rows.packNibblesRow.domain false) (Rows.packNibblesSpec.post enc Try.prog Try.f7 false true false false) := by
  refine returnsInHanded_of_change_sized (C := Try.checked) own started (by kernel_rfl) Try.func7
    (ChangeSpec.witness6 (enc := enc) (C := Try.checked) false ⟨#[], #[.slice none 0 0, .slice none 0 0, .slice none 0 0, .int .i64 0], []⟩ 8 (by kernel_rfl) (by kernel_rfl) (by kernel_rfl) (by kernel_rfl)) ?_
  intro W base args ds gs before hval0 hW hcnd hsz0 _
  have hval : ∀ (j : Nat) t v, Try.f7.params[j]? = some t → args[j]? = some v → Value.okWide Try.prog W .any base t v := hval0
  have hW' := hW
  obtain ⟨p, q, hA0, hV, rfl, hfz, hnd⟩ := hW
  have hA : DataW.TrodAll enc Try.prog W 0 (fun _ => true) true Try.f7.params.toList args.toList ds p := hA0
  rw [Try.params7] at hA hval
  obtain ⟨v0, vs0, d0, ds0, p0, q0, ha0, rfl, rfl, h0, r0⟩ := trodAll_cons hA
  obtain ⟨v1, vs1, d1, ds1, p1, q1, ha1, rfl, rfl, h1, r1⟩ := trodAll_cons r0
  obtain ⟨v2, vs2, d2, ds2, p2, q2, ha2, rfl, rfl, h2, r2⟩ := trodAll_cons r1
  obtain ⟨v3, vs3, d3, ds3, p3, q3, ha3, rfl, rfl, h3, r3⟩ := trodAll_cons r2
  obtain ⟨hb4, rfl, rfl⟩ := trodAll_nil r3
  obtain rfl : args = #[v0, v1, v2, v3] := by
    subst hb4
    cases args; simp_all
  obtain ⟨rfl, rfl⟩ := trodVars_none hV
  have hv0 := hval 0 22 v0 rfl rfl
  have lt0 : ∀ x ∈ p0, x.block < W.heap.size := by obtain ⟨m, hm⟩ := h0; exact DataW.trod_lt m _ _ _ hm
  obtain ⟨x0, r0, s0, vr0⟩ := open_slice_arg (m := 12) (s := (.sl [.int .i64])) Try.underlying22 (by kernel_rfl) hv0 h0
  have pr0 := pr_of (μ := mu00) _ s0 r0
  obtain ⟨l0, rfl, ok0⟩ := sl_typed s0 (fun _ h => of_int h)
  rw [pv_map row_i64 l0] at pr0
  have hv1 := hval 1 22 v1 rfl rfl
  have lt1 : ∀ x ∈ p1, x.block < W.heap.size := by obtain ⟨m, hm⟩ := h1; exact DataW.trod_lt m _ _ _ hm
  obtain ⟨x1, r1, s1, vr1⟩ := open_slice_arg (m := 12) (s := (.sl [.int .i64])) Try.underlying22 (by kernel_rfl) hv1 h1
  have pr1 := pr_of (μ := mu00) _ s1 r1
  obtain ⟨l1, rfl, ok1⟩ := sl_typed s1 (fun _ h => of_int h)
  rw [pv_map row_i64 l1] at pr1
  have hv2 := hval 2 24 v2 rfl rfl
  have lt2 : ∀ x ∈ p2, x.block < W.heap.size := by obtain ⟨m, hm⟩ := h2; exact DataW.trod_lt m _ _ _ hm
  obtain ⟨x2, r2, s2, vr2⟩ := open_slice_arg (m := 12) (s := (.sl [.int .u8])) Try.underlying24 (by kernel_rfl) hv2 h2
  have pr2 := pr_of (μ := mu00) _ s2 r2
  obtain ⟨l2, rfl, ok2⟩ := sl_typed s2 (fun _ h => of_kind h)
  rw [pv_map (row_int .u8) l2] at pr2
  have hv3 := hval 3 3 v3 rfl rfl
  have lt3 : ∀ x ∈ p3, x.block < W.heap.size := by obtain ⟨m, hm⟩ := h3; exact DataW.trod_lt m _ _ _ hm
  obtain ⟨n3, rfl, ok3, vr3⟩ := open_int_arg Try.underlying3 hv3 h3
  have pr3 : PR mu00 (phi0 (heap0 W)) (.int .i64 n3) _ := .int _ _
  refine (calls_of_prunB mixed table (sort_sim (by kernel_rfl)) sort_ok (c7i ok0.1 ok1.1 ok2.2 n3 []) (.cons pr0 (.cons pr1 (.cons pr2 (.cons pr3 (.nil))))) (.cons vr0 (.cons vr1 (.cons vr2 (.cons vr3 (.nil))))) rfl).mono fun e W' ⟨he, bel⟩ => ?_
  subst he
  exact ⟨_, rfl, _, _, _, [], _, [], hW', trodAll_mk1 (shut_bool Try.underlying4 _), (trodAll_cons_mk (Below.trod laidOut (by kernel_rfl) (of_decide_eq_true (by kernel_rfl)) h0 bel lt0) (trodAll_cons_mk (Below.trod laidOut (by kernel_rfl) (of_decide_eq_true (by kernel_rfl)) h1 bel lt1) (trodAll_cons_mk (Below.trod laidOut (by kernel_rfl) (of_decide_eq_true (by kernel_rfl)) h2 bel lt2) (trodAll_cons_mk (Below.trod laidOut (by kernel_rfl) (of_decide_eq_true (by kernel_rfl)) h3 bel lt3) trodAll_mk0)))), rfl, bel.frame _, fun h => by cases h⟩
theorem over : Rows.packNibblesRow.holds Try.pinned (OpenSpec.ofChange Rows.packNibblesSpec) :=
  OpenClaim.holds_of_wide 7 Try.f7 rfl rfl rfl rfl rfl rfl rfl ⟨rfl, rfl, rfl, rfl, rfl⟩ rfl rfl rfl rfl rfl (by kernel_rfl) Try.func7 (by kernel_rfl)
    (of_decide_eq_true (by kernel_rfl)) (by unfold Func.isWrapper; first | (rw [if_pos (by decide +kernel)]; kernel_rfl) | (rw [if_neg (by decide +kernel)]; exact ⟨rfl, rfl⟩))
    (fun os started H enc _ => lifted os started H enc)
theorem proved : Rows.PackNibblesSaid := over
end Go.Proofs.Ytgcioidegmnehaa.packNibbles
namespace Go.Proofs.Ytgcioidegmnehaa
theorem packNibbles_holds : Rows.PackNibblesSaid := packNibbles.proved
end Go.Proofs.Ytgcioidegmnehaa

