/- SongBlanks: THE LAW ANSWERS TRUE FOR EVERY INPUT, AND EACH ARGUMENT READS BEHIND THE CALL AS BEFORE. No condition. -/
import Derived.Test.YtffennknofmjoaaGreatP7
import Derived.Test.YtffennknofmjoaaGreatRows
import Derived.WalkKit
import Derived.ProofKit
import Derived.OpenShut
import Derived.ChangeOld
import Derived.Below
import Derived.Carry
import Derived.SizedLaws
set_option linter.unusedSimpArgs false
set_option linter.unusedVariables false
set_option linter.unusedVariables false
namespace Go.Proofs.YtffennknofmjoaaGreat.songBlanks
open Go.ChangeShapes Go.WideShapes Go.ChangeAt Go.RowKit Go.Am Go.Vm Go.Vm.X
theorem own : ownKnob Tryz.prog.godebug = none := by kernel_rfl
theorem laidOut : laidOutB Tryz.prog = true := by kernel_rfl
theorem mixed : Tryz.prog.follows .mixedOrders = true := by kernel_rfl
theorem table : TableOk Tryz.prog (PTable.erase T) := by
  obtain ⟨_, _, k5⟩ := ok5
  obtain ⟨_, _, k8⟩ := ok8
  obtain ⟨_, _, k12⟩ := ok12
  obtain ⟨_, _, k16⟩ := ok16
  obtain ⟨_, _, k17⟩ := ok17
  obtain ⟨_, _, k18⟩ := ok18
  obtain ⟨_, _, k19⟩ := ok19
  obtain ⟨_, _, k24⟩ := ok24
  obtain ⟨_, _, k33⟩ := ok33
  obtain ⟨_, _, k34⟩ := ok34
  obtain ⟨_, _, k41⟩ := ok41
  obtain ⟨_, _, k43⟩ := ok43
  obtain ⟨_, _, k45⟩ := ok45
  obtain ⟨_, _, k53⟩ := ok53
  obtain ⟨_, _, k54⟩ := ok54
  obtain ⟨_, _, k55⟩ := ok55
  obtain ⟨_, _, k56⟩ := ok56
  obtain ⟨_, _, k57⟩ := ok57
  obtain ⟨_, _, k58⟩ := ok58
  obtain ⟨_, _, k59⟩ := ok59
  obtain ⟨_, _, k60⟩ := ok60
  obtain ⟨_, _, k61⟩ := ok61
  obtain ⟨_, _, k62⟩ := ok62
  obtain ⟨_, _, k68⟩ := ok68
  obtain ⟨_, _, k69⟩ := ok69
  obtain ⟨_, _, k70⟩ := ok70
  obtain ⟨_, _, k71⟩ := ok71
  obtain ⟨_, _, k72⟩ := ok72
  obtain ⟨_, _, k76⟩ := ok76
  obtain ⟨_, _, k77⟩ := ok77
  obtain ⟨_, _, k78⟩ := ok78
  obtain ⟨_, _, k87⟩ := ok87
  obtain ⟨_, _, k94⟩ := ok94
  obtain ⟨_, _, k96⟩ := ok96
  obtain ⟨_, _, k101⟩ := ok101
  obtain ⟨_, _, k102⟩ := ok102
  obtain ⟨_, _, k103⟩ := ok103
  obtain ⟨_, _, k104⟩ := ok104
  obtain ⟨_, _, k105⟩ := ok105
  obtain ⟨_, _, k106⟩ := ok106
  obtain ⟨_, _, k107⟩ := ok107
  obtain ⟨_, _, k108⟩ := ok108
  obtain ⟨_, _, k109⟩ := ok109
  obtain ⟨_, _, k111⟩ := ok111
  obtain ⟨_, _, k114⟩ := ok114
  obtain ⟨_, _, k115⟩ := ok115
  obtain ⟨_, _, k116⟩ := ok116
  obtain ⟨_, _, k117⟩ := ok117
  obtain ⟨_, _, k118⟩ := ok118
  obtain ⟨_, _, k119⟩ := ok119
  obtain ⟨_, _, k120⟩ := ok120
  obtain ⟨_, _, k121⟩ := ok121
  obtain ⟨_, _, k122⟩ := ok122
  obtain ⟨_, _, k123⟩ := ok123
  obtain ⟨_, _, k124⟩ := ok124
  obtain ⟨_, _, k125⟩ := ok125
  obtain ⟨_, _, k126⟩ := ok126
  obtain ⟨_, _, k127⟩ := ok127
  obtain ⟨_, _, k128⟩ := ok128
  obtain ⟨_, _, k129⟩ := ok129
  obtain ⟨_, _, k131⟩ := ok131
  obtain ⟨_, _, k132⟩ := ok132
  obtain ⟨_, _, k133⟩ := ok133
  obtain ⟨_, _, k143⟩ := ok143
  obtain ⟨_, _, k146⟩ := ok146
  obtain ⟨_, _, k147⟩ := ok147
  obtain ⟨_, _, k148⟩ := ok148
  obtain ⟨_, _, k149⟩ := ok149
  obtain ⟨_, _, k150⟩ := ok150
  obtain ⟨_, _, k151⟩ := ok151
  obtain ⟨_, _, k152⟩ := ok152
  obtain ⟨_, _, k153⟩ := ok153
  obtain ⟨_, _, k154⟩ := ok154
  obtain ⟨_, _, k155⟩ := ok155
  obtain ⟨_, _, k156⟩ := ok156
  obtain ⟨_, _, k157⟩ := ok157
  obtain ⟨_, _, k158⟩ := ok158
  obtain ⟨_, _, k159⟩ := ok159
  obtain ⟨_, _, k160⟩ := ok160
  obtain ⟨_, _, k161⟩ := ok161
  obtain ⟨_, _, k167⟩ := ok167
  obtain ⟨_, _, k172⟩ := ok172
  exact tableOk_cons k5 (tableOk_cons k8 (tableOk_cons k12 (tableOk_cons k16 (tableOk_cons k17 (tableOk_cons k18 (tableOk_cons k19 (tableOk_cons k24 (tableOk_cons k33 (tableOk_cons k34 (tableOk_cons k41 (tableOk_cons k43 (tableOk_cons k45 (tableOk_cons k53 (tableOk_cons k54 (tableOk_cons k55 (tableOk_cons k56 (tableOk_cons k57 (tableOk_cons k58 (tableOk_cons k59 (tableOk_cons k60 (tableOk_cons k61 (tableOk_cons k62 (tableOk_cons k68 (tableOk_cons k69 (tableOk_cons k70 (tableOk_cons k71 (tableOk_cons k72 (tableOk_cons k76 (tableOk_cons k77 (tableOk_cons k78 (tableOk_cons k87 (tableOk_cons k94 (tableOk_cons k96 (tableOk_cons k101 (tableOk_cons k102 (tableOk_cons k103 (tableOk_cons k104 (tableOk_cons k105 (tableOk_cons k106 (tableOk_cons k107 (tableOk_cons k108 (tableOk_cons k109 (tableOk_cons k111 (tableOk_cons k114 (tableOk_cons k115 (tableOk_cons k116 (tableOk_cons k117 (tableOk_cons k118 (tableOk_cons k119 (tableOk_cons k120 (tableOk_cons k121 (tableOk_cons k122 (tableOk_cons k123 (tableOk_cons k124 (tableOk_cons k125 (tableOk_cons k126 (tableOk_cons k127 (tableOk_cons k128 (tableOk_cons k129 (tableOk_cons k131 (tableOk_cons k132 (tableOk_cons k133 (tableOk_cons k143 (tableOk_cons k146 (tableOk_cons k147 (tableOk_cons k148 (tableOk_cons k149 (tableOk_cons k150 (tableOk_cons k151 (tableOk_cons k152 (tableOk_cons k153 (tableOk_cons k154 (tableOk_cons k155 (tableOk_cons k156 (tableOk_cons k157 (tableOk_cons k158 (tableOk_cons k159 (tableOk_cons k160 (tableOk_cons k161 (tableOk_cons k167 (tableOk_cons k172 (tableOk_nil))))))))))))))))))))))))))))))))))))))))))))))))))))))))))))))))))))))))))))))))))
set_option maxRecDepth 100000 in
theorem lifted (os : Os) (started : os.Started) (H : Type) (enc : TypeId × Value → H) :
    ReturnsInHanded {} Tryz.checked os 5 .any (Rows.songBlanksSpec.pre6 enc Tryz.prog Tryz.f5 Rows.songBlanksRow.domain false) (Rows.songBlanksSpec.post enc Tryz.prog Tryz.f5 false true false false) := by
  refine returnsInHanded_of_change_sized (C := Tryz.checked) own started (by kernel_rfl) Tryz.func5
    (ChangeSpec.witness6 (enc := enc) (C := Tryz.checked) false ⟨#[], #[.int .i64 0, .int .i64 0, .int .i64 0], []⟩ 8 (by kernel_rfl) (by kernel_rfl) (by kernel_rfl) (by kernel_rfl)) ?_
  intro W base args ds gs before hval0 hW hcnd hsz0 _
  have hval : ∀ (j : Nat) t v, Tryz.f5.params[j]? = some t → args[j]? = some v → Value.okWide Tryz.prog W .any base t v := hval0
  have hW' := hW
  obtain ⟨p, q, hA0, hV, rfl, hfz, hnd⟩ := hW
  have hA : DataW.TrodAll enc Tryz.prog W 0 (fun _ => true) true Tryz.f5.params.toList args.toList ds p := hA0
  rw [Tryz.params5] at hA hval
  obtain ⟨v0, vs0, d0, ds0, p0, q0, ha0, rfl, rfl, h0, r0⟩ := trodAll_cons hA
  obtain ⟨v1, vs1, d1, ds1, p1, q1, ha1, rfl, rfl, h1, r1⟩ := trodAll_cons r0
  obtain ⟨v2, vs2, d2, ds2, p2, q2, ha2, rfl, rfl, h2, r2⟩ := trodAll_cons r1
  obtain ⟨hb3, rfl, rfl⟩ := trodAll_nil r2
  obtain rfl : args = #[v0, v1, v2] := by
    subst hb3
    cases args; simp_all
  obtain ⟨rfl, rfl⟩ := trodVars_none hV
  have hv0 := hval 0 3 v0 rfl rfl
  have lt0 : ∀ x ∈ p0, x.block < W.heap.size := by obtain ⟨m, hm⟩ := h0; exact DataW.trod_lt m _ _ _ hm
  obtain ⟨n0, rfl, ok0, vr0⟩ := open_int_arg Tryz.underlying3 hv0 h0
  have pr0 : PR mu00 (phi0 (heap0 W)) (.int .i64 n0) _ := .int _ _
  have hv1 := hval 1 3 v1 rfl rfl
  have lt1 : ∀ x ∈ p1, x.block < W.heap.size := by obtain ⟨m, hm⟩ := h1; exact DataW.trod_lt m _ _ _ hm
  obtain ⟨n1, rfl, ok1, vr1⟩ := open_int_arg Tryz.underlying3 hv1 h1
  have pr1 : PR mu00 (phi0 (heap0 W)) (.int .i64 n1) _ := .int _ _
  have hv2 := hval 2 3 v2 rfl rfl
  have lt2 : ∀ x ∈ p2, x.block < W.heap.size := by obtain ⟨m, hm⟩ := h2; exact DataW.trod_lt m _ _ _ hm
  obtain ⟨n2, rfl, ok2, vr2⟩ := open_int_arg Tryz.underlying3 hv2 h2
  have pr2 : PR mu00 (phi0 (heap0 W)) (.int .i64 n2) _ := .int _ _
  refine (calls_of_prunB mixed table (bases_sim rfl rfl rfl (by kernel_rfl) (by kernel_rfl)) both_ok (c5d n0 n1 n2 []) (.cons pr0 (.cons pr1 (.cons pr2 (.nil)))) (.cons vr0 (.cons vr1 (.cons vr2 (.nil)))) rfl).mono fun e W' ⟨he, bel⟩ => ?_
  subst he
  exact ⟨_, rfl, _, _, _, [], _, [], hW', trodAll_mk1 (shut_bool Tryz.underlying4 _), (trodAll_cons_mk (Below.trod laidOut (by kernel_rfl) (of_decide_eq_true (by kernel_rfl)) h0 bel lt0) (trodAll_cons_mk (Below.trod laidOut (by kernel_rfl) (of_decide_eq_true (by kernel_rfl)) h1 bel lt1) (trodAll_cons_mk (Below.trod laidOut (by kernel_rfl) (of_decide_eq_true (by kernel_rfl)) h2 bel lt2) trodAll_mk0))), rfl, bel.frame _, fun h => by cases h⟩
theorem over : Rows.songBlanksRow.holds Tryz.pinned (OpenSpec.ofChange Rows.songBlanksSpec) :=
  OpenClaim.holds_of_wide 5 Tryz.f5 rfl rfl rfl rfl rfl rfl rfl ⟨rfl, rfl, rfl, rfl, rfl⟩ rfl rfl rfl rfl rfl (by kernel_rfl) Tryz.func5 (by kernel_rfl)
    (of_decide_eq_true (by kernel_rfl)) (by unfold Func.isWrapper; first | (rw [if_pos (by decide +kernel)]; kernel_rfl) | (rw [if_neg (by decide +kernel)]; exact ⟨rfl, rfl⟩))
    (fun os started H enc _ => lifted os started H enc)
theorem proved : Rows.SongBlanksSaid := over
end Go.Proofs.YtffennknofmjoaaGreat.songBlanks
namespace Go.Proofs.YtffennknofmjoaaGreat
theorem songBlanks_holds : Rows.SongBlanksSaid := songBlanks.proved
end Go.Proofs.YtffennknofmjoaaGreat

