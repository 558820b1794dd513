/- SongUses: THE LAW ANSWERS TRUE FOR EVERY INPUT, AND EACH ARGUMENT READS BEHIND THE CALL AS BEFORE. No condition. -/
import Derived.Test.YtffennknofmjoaaGreatP7
import Derived.Test.YtffennknofmjoaaGreatRows
import Derived.WalkKit
import Derived.ProofKit
import Derived.OpenShut
import Derived.ChangeOld
import Derived.Below
import Derived.Carry
import Derived.SizedLaws
set_option linter.unusedSimpArgs false
set_option linter.unusedVariables false
set_option linter.unusedVariables false
namespace Go.Proofs.YtffennknofmjoaaGreat.songUses
open Go.ChangeShapes Go.WideShapes Go.ChangeAt Go.RowKit Go.Am Go.Vm Go.Vm.X
theorem own : ownKnob Tryz.prog.godebug = none := by kernel_rfl
theorem laidOut : laidOutB Tryz.prog = true := by kernel_rfl
theorem mixed : Tryz.prog.follows .mixedOrders = true := by kernel_rfl
theorem table : TableOk Tryz.prog (PTable.erase T) := by
  obtain ⟨_, _, k6⟩ := ok6
  obtain ⟨_, _, k7⟩ := ok7
  obtain ⟨_, _, k8⟩ := ok8
  obtain ⟨_, _, k16⟩ := ok16
  obtain ⟨_, _, k17⟩ := ok17
  obtain ⟨_, _, k19⟩ := ok19
  obtain ⟨_, _, k20⟩ := ok20
  obtain ⟨_, _, k21⟩ := ok21
  obtain ⟨_, _, k22⟩ := ok22
  obtain ⟨_, _, k23⟩ := ok23
  obtain ⟨_, _, k24⟩ := ok24
  obtain ⟨_, _, k41⟩ := ok41
  obtain ⟨_, _, k43⟩ := ok43
  obtain ⟨_, _, k45⟩ := ok45
  obtain ⟨_, _, k47⟩ := ok47
  obtain ⟨_, _, k49⟩ := ok49
  obtain ⟨_, _, k52⟩ := ok52
  obtain ⟨_, _, k53⟩ := ok53
  obtain ⟨_, _, k54⟩ := ok54
  obtain ⟨_, _, k55⟩ := ok55
  obtain ⟨_, _, k56⟩ := ok56
  obtain ⟨_, _, k57⟩ := ok57
  obtain ⟨_, _, k60⟩ := ok60
  obtain ⟨_, _, k61⟩ := ok61
  obtain ⟨_, _, k62⟩ := ok62
  obtain ⟨_, _, k63⟩ := ok63
  obtain ⟨_, _, k64⟩ := ok64
  obtain ⟨_, _, k65⟩ := ok65
  obtain ⟨_, _, k66⟩ := ok66
  obtain ⟨_, _, k67⟩ := ok67
  obtain ⟨_, _, k68⟩ := ok68
  obtain ⟨_, _, k69⟩ := ok69
  obtain ⟨_, _, k70⟩ := ok70
  obtain ⟨_, _, k71⟩ := ok71
  obtain ⟨_, _, k72⟩ := ok72
  obtain ⟨_, _, k87⟩ := ok87
  obtain ⟨_, _, k94⟩ := ok94
  obtain ⟨_, _, k96⟩ := ok96
  obtain ⟨_, _, k99⟩ := ok99
  obtain ⟨_, _, k101⟩ := ok101
  obtain ⟨_, _, k102⟩ := ok102
  obtain ⟨_, _, k103⟩ := ok103
  obtain ⟨_, _, k104⟩ := ok104
  obtain ⟨_, _, k105⟩ := ok105
  obtain ⟨_, _, k106⟩ := ok106
  obtain ⟨_, _, k107⟩ := ok107
  obtain ⟨_, _, k108⟩ := ok108
  obtain ⟨_, _, k109⟩ := ok109
  obtain ⟨_, _, k110⟩ := ok110
  obtain ⟨_, _, k111⟩ := ok111
  obtain ⟨_, _, k112⟩ := ok112
  obtain ⟨_, _, k113⟩ := ok113
  obtain ⟨_, _, k114⟩ := ok114
  obtain ⟨_, _, k115⟩ := ok115
  obtain ⟨_, _, k116⟩ := ok116
  obtain ⟨_, _, k117⟩ := ok117
  obtain ⟨_, _, k118⟩ := ok118
  obtain ⟨_, _, k119⟩ := ok119
  obtain ⟨_, _, k120⟩ := ok120
  obtain ⟨_, _, k121⟩ := ok121
  obtain ⟨_, _, k122⟩ := ok122
  obtain ⟨_, _, k123⟩ := ok123
  obtain ⟨_, _, k124⟩ := ok124
  obtain ⟨_, _, k125⟩ := ok125
  obtain ⟨_, _, k126⟩ := ok126
  obtain ⟨_, _, k127⟩ := ok127
  obtain ⟨_, _, k128⟩ := ok128
  obtain ⟨_, _, k129⟩ := ok129
  obtain ⟨_, _, k135⟩ := ok135
  obtain ⟨_, _, k136⟩ := ok136
  obtain ⟨_, _, k137⟩ := ok137
  obtain ⟨_, _, k138⟩ := ok138
  obtain ⟨_, _, k139⟩ := ok139
  obtain ⟨_, _, k140⟩ := ok140
  obtain ⟨_, _, k141⟩ := ok141
  obtain ⟨_, _, k142⟩ := ok142
  obtain ⟨_, _, k143⟩ := ok143
  obtain ⟨_, _, k145⟩ := ok145
  obtain ⟨_, _, k146⟩ := ok146
  obtain ⟨_, _, k147⟩ := ok147
  obtain ⟨_, _, k148⟩ := ok148
  obtain ⟨_, _, k149⟩ := ok149
  obtain ⟨_, _, k150⟩ := ok150
  obtain ⟨_, _, k151⟩ := ok151
  obtain ⟨_, _, k152⟩ := ok152
  obtain ⟨_, _, k153⟩ := ok153
  obtain ⟨_, _, k154⟩ := ok154
  obtain ⟨_, _, k155⟩ := ok155
  obtain ⟨_, _, k156⟩ := ok156
  obtain ⟨_, _, k157⟩ := ok157
  obtain ⟨_, _, k158⟩ := ok158
  obtain ⟨_, _, k159⟩ := ok159
  obtain ⟨_, _, k160⟩ := ok160
  obtain ⟨_, _, k164⟩ := ok164
  obtain ⟨_, _, k165⟩ := ok165
  obtain ⟨_, _, k166⟩ := ok166
  obtain ⟨_, _, k167⟩ := ok167
  obtain ⟨_, _, k170⟩ := ok170
  obtain ⟨_, _, k172⟩ := ok172
  obtain ⟨_, _, k173⟩ := ok173
  obtain ⟨_, _, k174⟩ := ok174
  obtain ⟨_, _, k175⟩ := ok175
  obtain ⟨_, _, k176⟩ := ok176
  obtain ⟨_, _, k189⟩ := ok189
  obtain ⟨_, _, k190⟩ := ok190
  obtain ⟨_, _, k191⟩ := ok191
  obtain ⟨_, _, k192⟩ := ok192
  obtain ⟨_, _, k193⟩ := ok193
  obtain ⟨_, _, k194⟩ := ok194
  obtain ⟨_, _, k195⟩ := ok195
  exact tableOk_cons k6 (tableOk_cons k7 (tableOk_cons k8 (tableOk_cons k16 (tableOk_cons k17 (tableOk_cons k19 (tableOk_cons k20 (tableOk_cons k21 (tableOk_cons k22 (tableOk_cons k23 (tableOk_cons k24 (tableOk_cons k41 (tableOk_cons k43 (tableOk_cons k45 (tableOk_cons k47 (tableOk_cons k49 (tableOk_cons k52 (tableOk_cons k53 (tableOk_cons k54 (tableOk_cons k55 (tableOk_cons k56 (tableOk_cons k57 (tableOk_cons k60 (tableOk_cons k61 (tableOk_cons k62 (tableOk_cons k63 (tableOk_cons k64 (tableOk_cons k65 (tableOk_cons k66 (tableOk_cons k67 (tableOk_cons k68 (tableOk_cons k69 (tableOk_cons k70 (tableOk_cons k71 (tableOk_cons k72 (tableOk_cons k87 (tableOk_cons k94 (tableOk_cons k96 (tableOk_cons k99 (tableOk_cons k101 (tableOk_cons k102 (tableOk_cons k103 (tableOk_cons k104 (tableOk_cons k105 (tableOk_cons k106 (tableOk_cons k107 (tableOk_cons k108 (tableOk_cons k109 (tableOk_cons k110 (tableOk_cons k111 (tableOk_cons k112 (tableOk_cons k113 (tableOk_cons k114 (tableOk_cons k115 (tableOk_cons k116 (tableOk_cons k117 (tableOk_cons k118 (tableOk_cons k119 (tableOk_cons k120 (tableOk_cons k121 (tableOk_cons k122 (tableOk_cons k123 (tableOk_cons k124 (tableOk_cons k125 (tableOk_cons k126 (tableOk_cons k127 (tableOk_cons k128 (tableOk_cons k129 (tableOk_cons k135 (tableOk_cons k136 (tableOk_cons k137 (tableOk_cons k138 (tableOk_cons k139 (tableOk_cons k140 (tableOk_cons k141 (tableOk_cons k142 (tableOk_cons k143 (tableOk_cons k145 (tableOk_cons k146 (tableOk_cons k147 (tableOk_cons k148 (tableOk_cons k149 (tableOk_cons k150 (tableOk_cons k151 (tableOk_cons k152 (tableOk_cons k153 (tableOk_cons k154 (tableOk_cons k155 (tableOk_cons k156 (tableOk_cons k157 (tableOk_cons k158 (tableOk_cons k159 (tableOk_cons k160 (tableOk_cons k164 (tableOk_cons k165 (tableOk_cons k166 (tableOk_cons k167 (tableOk_cons k170 (tableOk_cons k172 (tableOk_cons k173 (tableOk_cons k174 (tableOk_cons k175 (tableOk_cons k176 (tableOk_cons k189 (tableOk_cons k190 (tableOk_cons k191 (tableOk_cons k192 (tableOk_cons k193 (tableOk_cons k194 (tableOk_cons k195 (tableOk_nil))))))))))))))))))))))))))))))))))))))))))))))))))))))))))))))))))))))))))))))))))))))))))))))))))))))))))))))
set_option maxRecDepth 100000 in
theorem lifted (os : Os) (started : os.Started) (H : Type) (enc : TypeId × Value → H) :
    ReturnsInHanded {} Tryz.checked os 6 .any (Rows.songUsesSpec.pre6 enc Tryz.prog Tryz.f6 Rows.songUsesRow.domain false) (Rows.songUsesSpec.post enc Tryz.prog Tryz.f6 false true false false) := by
  refine returnsInHanded_of_change_sized (C := Tryz.checked) own started (by kernel_rfl) Tryz.func6
    (ChangeSpec.witness6 (enc := enc) (C := Tryz.checked) false ⟨#[], #[.agg #[.string .empty, .int .i64 0, .int .i64 0, .slice none 0 0, .int .i64 0, .int .i64 0, .int .i64 0, .int .i64 0, .bool false, .slice none 0 0, .slice none 0 0, .slice none 0 0, .slice none 0 0], .int .i64 0, .int .i64 0], []⟩ 8 (by kernel_rfl) (by kernel_rfl) (by kernel_rfl) (by kernel_rfl)) ?_
  intro W base args ds gs before hval0 hW hcnd hsz0 _
  have hval : ∀ (j : Nat) t v, Tryz.f6.params[j]? = some t → args[j]? = some v → Value.okWide Tryz.prog W .any base t v := hval0
  have hW' := hW
  obtain ⟨p, q, hA0, hV, rfl, hfz, hnd⟩ := hW
  have hA : DataW.TrodAll enc Tryz.prog W 0 (fun _ => true) true Tryz.f6.params.toList args.toList ds p := hA0
  rw [Tryz.params6] at hA hval
  obtain ⟨v0, vs0, d0, ds0, p0, q0, ha0, rfl, rfl, h0, r0⟩ := trodAll_cons hA
  obtain ⟨v1, vs1, d1, ds1, p1, q1, ha1, rfl, rfl, h1, r1⟩ := trodAll_cons r0
  obtain ⟨v2, vs2, d2, ds2, p2, q2, ha2, rfl, rfl, h2, r2⟩ := trodAll_cons r1
  obtain ⟨hb3, rfl, rfl⟩ := trodAll_nil r2
  obtain rfl : args = #[v0, v1, v2] := by
    subst hb3
    cases args; simp_all
  obtain ⟨rfl, rfl⟩ := trodVars_none hV
  have hv0 := hval 0 27 v0 rfl rfl
  have lt0 : ∀ x ∈ p0, x.block < W.heap.size := by obtain ⟨m, hm⟩ := h0; exact DataW.trod_lt m _ _ _ hm
  obtain ⟨c0, e0, rfl, r0, s0, vr0⟩ := open_struct_arg (m := 12) (s := DSong.shp) Tryz.underlying27 (by kernel_rfl) hv0 h0
  have pq0 := prl_of (μ := mu00) _ s0 r0
  obtain ⟨l0, rfl, ok0⟩ := DSong.of s0
  rw [DSong.pv_eq l0] at pq0
  have pr0 := PR.agg pq0
  have hv1 := hval 1 3 v1 rfl rfl
  have lt1 : ∀ x ∈ p1, x.block < W.heap.size := by obtain ⟨m, hm⟩ := h1; exact DataW.trod_lt m _ _ _ hm
  obtain ⟨n1, rfl, ok1, vr1⟩ := open_int_arg Tryz.underlying3 hv1 h1
  have pr1 : PR mu00 (phi0 (heap0 W)) (.int .i64 n1) _ := .int _ _
  have hv2 := hval 2 3 v2 rfl rfl
  have lt2 : ∀ x ∈ p2, x.block < W.heap.size := by obtain ⟨m, hm⟩ := h2; exact DataW.trod_lt m _ _ _ hm
  obtain ⟨n2, rfl, ok2, vr2⟩ := open_int_arg Tryz.underlying3 hv2 h2
  have pr2 : PR mu00 (phi0 (heap0 W)) (.int .i64 n2) _ := .int _ _
  refine (calls_of_prunB mixed table (bases_sim rfl rfl rfl (by kernel_rfl) (by kernel_rfl)) both_ok (c6d ok0 n1 n2 []) (.cons pr0 (.cons pr1 (.cons pr2 (.nil)))) (.cons vr0 (.cons vr1 (.cons vr2 (.nil)))) rfl).mono fun e W' ⟨he, bel⟩ => ?_
  subst he
  exact ⟨_, rfl, _, _, _, [], _, [], hW', trodAll_mk1 (shut_bool Tryz.underlying4 _), (trodAll_cons_mk (Below.trod laidOut (by kernel_rfl) (of_decide_eq_true (by kernel_rfl)) h0 bel lt0) (trodAll_cons_mk (Below.trod laidOut (by kernel_rfl) (of_decide_eq_true (by kernel_rfl)) h1 bel lt1) (trodAll_cons_mk (Below.trod laidOut (by kernel_rfl) (of_decide_eq_true (by kernel_rfl)) h2 bel lt2) trodAll_mk0))), rfl, bel.frame _, fun h => by cases h⟩
theorem over : Rows.songUsesRow.holds Tryz.pinned (OpenSpec.ofChange Rows.songUsesSpec) :=
  OpenClaim.holds_of_wide 6 Tryz.f6 rfl rfl rfl rfl rfl rfl rfl ⟨rfl, rfl, rfl, rfl, rfl⟩ rfl rfl rfl rfl rfl (by kernel_rfl) Tryz.func6 (by kernel_rfl)
    (of_decide_eq_true (by kernel_rfl)) (by unfold Func.isWrapper; first | (rw [if_pos (by decide +kernel)]; kernel_rfl) | (rw [if_neg (by decide +kernel)]; exact ⟨rfl, rfl⟩))
    (fun os started H enc _ => lifted os started H enc)
theorem proved : Rows.SongUsesSaid := over
end Go.Proofs.YtffennknofmjoaaGreat.songUses
namespace Go.Proofs.YtffennknofmjoaaGreat
theorem songUses_holds : Rows.SongUsesSaid := songUses.proved
end Go.Proofs.YtffennknofmjoaaGreat

