/- PlayStart: THE LAW ANSWERS TRUE FOR EVERY INPUT, AND EACH ARGUMENT READS BEHIND THE CALL AS BEFORE. No condition. -/
import Derived.Test.YtjfppnnoeebcbaaPsEnd
import Derived.Test.YtjfppnnoeebcbaaRows
import Derived.WalkKit
import Derived.ProofKit
import Derived.OpenShut
import Derived.ChangeOld
import Derived.Below
import Derived.Carry
import Derived.SizedLaws
set_option linter.unusedVariables false
namespace Go.Proofs.Ytjfppnnoeebcbaa.playStart
open Go.ChangeShapes Go.WideShapes Go.ChangeAt Go.RowKit Go.Am Go.Vm Go.Vm.X

theorem own : ownKnob Try.prog.godebug = none := by kernel_rfl
theorem laidOut : laidOutB Try.prog = true := by kernel_rfl
theorem mixed : Try.prog.follows .mixedOrders = true := by kernel_rfl
theorem table : TableOk Try.prog (PTable.erase T) := by
  obtain ⟨_, _, k3⟩ := ok3
  obtain ⟨_, _, k4⟩ := ok4
  obtain ⟨_, _, k5⟩ := ok5
  obtain ⟨_, _, k6⟩ := ok6
  obtain ⟨_, _, k7⟩ := ok7
  obtain ⟨_, _, k8⟩ := ok8
  obtain ⟨_, _, k9⟩ := ok9
  obtain ⟨_, _, k10⟩ := ok10
  obtain ⟨_, _, k11⟩ := ok11
  obtain ⟨_, _, k12⟩ := ok12
  obtain ⟨_, _, k13⟩ := ok13
  obtain ⟨_, _, k14⟩ := ok14
  obtain ⟨_, _, k15⟩ := ok15
  obtain ⟨_, _, k16⟩ := ok16
  obtain ⟨_, _, k17⟩ := ok17
  obtain ⟨_, _, k18⟩ := ok18
  obtain ⟨_, _, k19⟩ := ok19
  obtain ⟨_, _, k20⟩ := ok20
  obtain ⟨_, _, k21⟩ := ok21
  obtain ⟨_, _, k22⟩ := ok22
  obtain ⟨_, _, k23⟩ := ok23
  obtain ⟨_, _, k24⟩ := ok24
  obtain ⟨_, _, k25⟩ := ok25
  obtain ⟨_, _, k26⟩ := ok26
  obtain ⟨_, _, k27⟩ := ok27
  obtain ⟨_, _, k28⟩ := ok28
  obtain ⟨_, _, k29⟩ := ok29
  obtain ⟨_, _, k30⟩ := ok30
  obtain ⟨_, _, k31⟩ := ok31
  obtain ⟨_, _, k32⟩ := ok32
  obtain ⟨_, _, k33⟩ := ok33
  obtain ⟨_, _, k34⟩ := ok34
  obtain ⟨_, _, k35⟩ := ok35
  obtain ⟨_, _, k36⟩ := ok36
  obtain ⟨_, _, k37⟩ := ok37
  obtain ⟨_, _, k38⟩ := ok38
  obtain ⟨_, _, k39⟩ := ok39
  obtain ⟨_, _, k40⟩ := ok40
  obtain ⟨_, _, k41⟩ := ok41
  obtain ⟨_, _, k42⟩ := ok42
  obtain ⟨_, _, k43⟩ := ok43
  obtain ⟨_, _, k44⟩ := ok44
  obtain ⟨_, _, k45⟩ := ok45
  obtain ⟨_, _, k46⟩ := ok46
  obtain ⟨_, _, k47⟩ := ok47
  obtain ⟨_, _, k48⟩ := ok48
  obtain ⟨_, _, k49⟩ := ok49
  obtain ⟨_, _, k50⟩ := ok50
  obtain ⟨_, _, k51⟩ := ok51
  obtain ⟨_, _, k52⟩ := ok52
  obtain ⟨_, _, k53⟩ := ok53
  obtain ⟨_, _, k54⟩ := ok54
  obtain ⟨_, _, k55⟩ := ok55
  obtain ⟨_, _, k56⟩ := ok56
  obtain ⟨_, _, k57⟩ := ok57
  obtain ⟨_, _, k58⟩ := ok58
  obtain ⟨_, _, k59⟩ := ok59
  obtain ⟨_, _, k60⟩ := ok60
  obtain ⟨_, _, k61⟩ := ok61
  obtain ⟨_, _, k62⟩ := ok62
  obtain ⟨_, _, k63⟩ := ok63
  obtain ⟨_, _, k64⟩ := ok64
  obtain ⟨_, _, k65⟩ := ok65
  obtain ⟨_, _, k66⟩ := ok66
  obtain ⟨_, _, k67⟩ := ok67
  obtain ⟨_, _, k68⟩ := ok68
  obtain ⟨_, _, k69⟩ := ok69
  obtain ⟨_, _, k70⟩ := ok70
  obtain ⟨_, _, k71⟩ := ok71
  obtain ⟨_, _, k72⟩ := ok72
  obtain ⟨_, _, k73⟩ := ok73
  obtain ⟨_, _, k74⟩ := ok74
  obtain ⟨_, _, k75⟩ := ok75
  obtain ⟨_, _, k76⟩ := ok76
  obtain ⟨_, _, k77⟩ := ok77
  obtain ⟨_, _, k78⟩ := ok78
  obtain ⟨_, _, k79⟩ := ok79
  obtain ⟨_, _, k80⟩ := ok80
  obtain ⟨_, _, k81⟩ := ok81
  obtain ⟨_, _, k82⟩ := ok82
  obtain ⟨_, _, k83⟩ := ok83
  obtain ⟨_, _, k84⟩ := ok84
  obtain ⟨_, _, k85⟩ := ok85
  obtain ⟨_, _, k87⟩ := ok87
  obtain ⟨_, _, k88⟩ := ok88
  obtain ⟨_, _, k89⟩ := ok89
  obtain ⟨_, _, k90⟩ := ok90
  obtain ⟨_, _, k91⟩ := ok91
  obtain ⟨_, _, k92⟩ := ok92
  obtain ⟨_, _, k93⟩ := ok93
  obtain ⟨_, _, k94⟩ := ok94
  obtain ⟨_, _, k95⟩ := ok95
  obtain ⟨_, _, k96⟩ := ok96
  obtain ⟨_, _, k98⟩ := ok98
  exact tableOk_cons k3 (tableOk_cons k4 (tableOk_cons k5 (tableOk_cons k6 (tableOk_cons k7 (tableOk_cons k8 (tableOk_cons k9 (tableOk_cons k10 (tableOk_cons k11 (tableOk_cons k12 (tableOk_cons k13 (tableOk_cons k14 (tableOk_cons k15 (tableOk_cons k16 (tableOk_cons k17 (tableOk_cons k18 (tableOk_cons k19 (tableOk_cons k20 (tableOk_cons k21 (tableOk_cons k22 (tableOk_cons k23 (tableOk_cons k24 (tableOk_cons k25 (tableOk_cons k26 (tableOk_cons k27 (tableOk_cons k28 (tableOk_cons k29 (tableOk_cons k30 (tableOk_cons k31 (tableOk_cons k32 (tableOk_cons k33 (tableOk_cons k34 (tableOk_cons k35 (tableOk_cons k36 (tableOk_cons k37 (tableOk_cons k38 (tableOk_cons k39 (tableOk_cons k40 (tableOk_cons k41 (tableOk_cons k42 (tableOk_cons k43 (tableOk_cons k44 (tableOk_cons k45 (tableOk_cons k46 (tableOk_cons k47 (tableOk_cons k48 (tableOk_cons k49 (tableOk_cons k50 (tableOk_cons k51 (tableOk_cons k52 (tableOk_cons k53 (tableOk_cons k54 (tableOk_cons k55 (tableOk_cons k56 (tableOk_cons k57 (tableOk_cons k58 (tableOk_cons k59 (tableOk_cons k60 (tableOk_cons k61 (tableOk_cons k62 (tableOk_cons k63 (tableOk_cons k64 (tableOk_cons k65 (tableOk_cons k66 (tableOk_cons k67 (tableOk_cons k68 (tableOk_cons k69 (tableOk_cons k70 (tableOk_cons k71 (tableOk_cons k72 (tableOk_cons k73 (tableOk_cons k74 (tableOk_cons k75 (tableOk_cons k76 (tableOk_cons k77 (tableOk_cons k78 (tableOk_cons k79 (tableOk_cons k80 (tableOk_cons k81 (tableOk_cons k82 (tableOk_cons k83 (tableOk_cons k84 (tableOk_cons k85 (tableOk_cons k87 (tableOk_cons k88 (tableOk_cons k89 (tableOk_cons k90 (tableOk_cons k91 (tableOk_cons k92 (tableOk_cons k93 (tableOk_cons k94 (tableOk_cons k95 (tableOk_cons k96 (tableOk_cons k98 (tableOk_nil))))))))))))))))))))))))))))))))))))))))))))))))))))))))))))))))))))))))))))))))))))))))))))))
set_option maxRecDepth 100000 in
theorem lifted (os : Os) (started : os.Started) (H : Type) (enc : TypeId × Value → H) :
    ReturnsInHanded {} Try.checked os 3 .any (Rows.playStartSpec.pre6 enc Try.prog Try.f3 Rows.playStartRow.domain false) (Rows.playStartSpec.post enc Try.prog Try.f3 false true false false) := by
  refine returnsInHanded_of_change_sized (C := Try.checked) own started (by kernel_rfl) Try.func3
    (ChangeSpec.witness6 (enc := enc) (C := Try.checked) false ⟨#[], #[.agg #[.string .empty, .int .i64 0, .int .i64 0, .slice none 0 0, .int .i64 0, .int .i64 0, .int .i64 0, .int .i64 0, .bool false, .slice none 0 0, .slice none 0 0, .slice none 0 0, .slice none 0 0], .int .i64 0], []⟩ 8 (by kernel_rfl) (by kernel_rfl) (by kernel_rfl) (by kernel_rfl)) ?_
  intro W base args ds gs before hval0 hW hcnd hsz0 _
  have hval : ∀ (j : Nat) t v, Try.f3.params[j]? = some t → args[j]? = some v → Value.okWide Try.prog W .any base t v := hval0
  have hW' := hW
  obtain ⟨p, q, hA0, hV, rfl, hfz, hnd⟩ := hW
  have hA : DataW.TrodAll enc Try.prog W 0 (fun _ => true) true Try.f3.params.toList args.toList ds p := hA0
  rw [Try.params3] at hA hval
  obtain ⟨v0, vs0, d0, ds0, p0, q0, ha0, rfl, rfl, h0, r0⟩ := trodAll_cons hA
  obtain ⟨v1, vs1, d1, ds1, p1, q1, ha1, rfl, rfl, h1, r1⟩ := trodAll_cons r0
  obtain ⟨hb2, rfl, rfl⟩ := trodAll_nil r1
  obtain rfl : args = #[v0, v1] := by
    subst hb2
    cases args; simp_all
  obtain ⟨rfl, rfl⟩ := trodVars_none hV
  have hv0 := hval 0 27 v0 rfl rfl
  have lt0 : ∀ x ∈ p0, x.block < W.heap.size := by obtain ⟨m, hm⟩ := h0; exact DataW.trod_lt m _ _ _ hm
  obtain ⟨c0, e0, rfl, r0, s0, vr0⟩ := open_struct_arg (m := 12) (s := DSong.shp) Try.underlying27 (by kernel_rfl) hv0 h0
  have pq0 := prl_of (μ := mu00) _ s0 r0
  obtain ⟨l0, rfl, ok0⟩ := DSong.of s0
  rw [DSong.pv_eq l0] at pq0
  have pr0 := PR.agg pq0
  have hv1 := hval 1 3 v1 rfl rfl
  have lt1 : ∀ x ∈ p1, x.block < W.heap.size := by obtain ⟨m, hm⟩ := h1; exact DataW.trod_lt m _ _ _ hm
  obtain ⟨n1, rfl, ok1, vr1⟩ := open_int_arg Try.underlying3 hv1 h1
  have pr1 : PR mu00 (phi0 (heap0 W)) (.int .i64 n1) _ := .int _ _
  refine (calls_of_prunB mixed table (idxP_sim rfl rfl) idx_ok (c3d ok0 n1 []) (.cons pr0 (.cons pr1 (.nil))) (.cons vr0 (.cons vr1 (.nil))) rfl).mono fun e W' ⟨he, bel⟩ => ?_
  subst he
  exact ⟨_, rfl, _, _, _, [], _, [], hW', trodAll_mk1 (shut_bool Try.underlying4 _), (trodAll_cons_mk (Below.trod laidOut (by kernel_rfl) (of_decide_eq_true (by kernel_rfl)) h0 bel lt0) (trodAll_cons_mk (Below.trod laidOut (by kernel_rfl) (of_decide_eq_true (by kernel_rfl)) h1 bel lt1) trodAll_mk0)), rfl, bel.frame _, fun h => by cases h⟩
theorem over : Rows.playStartRow.holds Try.pinned (OpenSpec.ofChange Rows.playStartSpec) :=
  OpenClaim.holds_of_wide 3 Try.f3 rfl rfl rfl rfl rfl rfl rfl ⟨rfl, rfl, rfl, rfl, rfl⟩ rfl rfl rfl rfl rfl (by kernel_rfl) Try.func3 (by kernel_rfl)
    (of_decide_eq_true (by kernel_rfl)) (by unfold Func.isWrapper; first | (rw [if_pos (by decide +kernel)]; kernel_rfl) | (rw [if_neg (by decide +kernel)]; exact ⟨rfl, rfl⟩))
    (fun os started H enc _ => lifted os started H enc)
theorem proved : Rows.PlayStartSaid := over
end Go.Proofs.Ytjfppnnoeebcbaa.playStart
namespace Go.Proofs.Ytjfppnnoeebcbaa
/-- The row, under a short name, for the claim. -/
theorem playStart_holds : Rows.PlayStartSaid := playStart.proved
end Go.Proofs.Ytjfppnnoeebcbaa
