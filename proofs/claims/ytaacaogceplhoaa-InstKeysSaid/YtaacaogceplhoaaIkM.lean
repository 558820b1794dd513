/- Two instruments that are the same. -/
import Derived.Test.YtaacaogceplhoaaIkL
set_option linter.unusedSimpArgs false
set_option linter.unusedVariables false
namespace Go.Vm.X
open Go.Am Go.Vm
attribute [local congr] bind_c ifP_c loop_c K1_c ite_c fork_c guard_c unl_c
def envP (e : Env) : List PV := e.cs ++ e.cs
def envs (i : Ins) : List Env := [i.vol, i.pan, i.pit]
theorem pr2 (e : Env) : fillP [.bool false, .nilS, .bool false, .int .i64 0, .int .i64 0, .bool false, .int .i64 0, .int .i64 0, .bool false, .nilS, .bool false, .int .i64 0, .int .i64 0, .bool false, .int .i64 0, .int .i64 0] [(0, 8, .agg e.cs), (8, 8, .agg e.cs)] = some (envP e) := nr rfl
theorem pr3 (i : Ins) : fillP (repP [.bool false, .nilS, .bool false, .int .i64 0, .int .i64 0, .bool false, .int .i64 0, .int .i64 0, .bool false, .nilS, .bool false, .int .i64 0, .int .i64 0, .bool false, .int .i64 0, .int .i64 0] 3) [(0, 16, .agg (envP i.vol)), (16, 16, .agg (envP i.pan)), (32, 16, .agg (envP i.pit))] = some (envP i.vol ++ (envP i.pan ++ envP i.pit)) := nr rfl
theorem pr_pure (i : Ins) : (envP i.vol ++ (envP i.pan ++ envP i.pit)).all pure1 = true := nr rfl
theorem pr_chunk (i : Ins) : chunk 16 3 (envP i.vol ++ (envP i.pan ++ envP i.pit)) = (envs i).map envP := nr rfl
theorem sub8 (i : Ins) : partP true 2 8 i.cs = some (.agg i.vol.cs) := nr rfl
theorem sub8b (i : Ins) : partP true 10 8 i.cs = some (.agg i.pan.cs) := nr rfl
theorem sub8c (i : Ins) : partP true 18 8 i.cs = some (.agg i.pit.cs) := nr rfl
theorem st16 (e : Env) (o : Nat) (vs : List PV) (t : TypeId) (l : PHeap) : storeP 16 (.ptr 0 o) (.agg (envP e)) (.box vs t .rw :: l) = (putAt vs o (envP e)).map fun vs' => .box vs' t .rw :: l := storeC0 rfl (by decide)
theorem st8 (e : Env) (o : Nat) (vs : List PV) (t : TypeId) (l : PHeap) : storeP 8 (.ptr 0 o) (.agg e.cs) (.box vs t .rw :: l) = (putAt vs o e.cs).map fun vs' => .box vs' t .rw :: l := storeC0 rfl (by decide)
theorem p16 (e : Env) : putAt [.bool false, .nilS, .bool false, .int .i64 0, .int .i64 0, .bool false, .int .i64 0, .int .i64 0, .bool false, .nilS, .bool false, .int .i64 0, .int .i64 0, .bool false, .int .i64 0, .int .i64 0] 0 (envP e) = some (envP e) := put_whole rfl rfl
theorem p8 (e : Env) : putAt [.bool false, .nilS, .bool false, .int .i64 0, .int .i64 0, .bool false, .int .i64 0, .int .i64 0] 0 e.cs = some e.cs := put_whole rfl rfl
theorem ai0 (b : Nat) : indexAddrArrP 2 8 (.ptr b 0) (.int .i64 0) = some (.ptr b 0) := nr rfl
theorem ai1 (b : Nat) : indexAddrArrP 2 8 (.ptr b 0) (.int .i64 1) = some (.ptr b 8) := nr rfl
theorem h8a (e : Env) : partP true 0 8 (envP e) = some (.agg e.cs) := nr rfl
theorem h8b (e : Env) : partP true 8 8 (envP e) = some (.agg e.cs) := nr rfl
theorem ec0 (e : Env) : e.cs[0]? = some (.bool e.on) := nr rfl
theorem ec1 (e : Env) : e.cs[1]? = some (ptsPV e.pts) := nr rfl
theorem ec2 (e : Env) : e.cs[2]? = some (.bool e.sus) := nr rfl
theorem ec3 (e : Env) : e.cs[3]? = some (.int .i64 e.ss) := nr rfl
theorem ec4 (e : Env) : e.cs[4]? = some (.int .i64 e.se) := nr rfl
theorem ec5 (e : Env) : e.cs[5]? = some (.bool e.lp) := nr rfl
theorem ec6 (e : Env) : e.cs[6]? = some (.int .i64 e.ls) := nr rfl
theorem ec7 (e : Env) : e.cs[7]? = some (.int .i64 e.le) := nr rfl
theorem ic26 (i : Ins) : i.cs[26]? = some (.int .i64 i.fade) := nr rfl
theorem ic27 (i : Ins) : i.cs[27]? = some (.int .i64 i.nn) := nr rfl
theorem ic28 (i : Ins) : i.cs[28]? = some (.int .i64 i.dup) := nr rfl
theorem ic29 (i : Ins) : i.cs[29]? = some (.int .i64 i.dd) := nr rfl
theorem ic30 (i : Ins) : i.cs[30]? = some (.int .i64 i.gl) := nr rfl
theorem ic31 (i : Ins) : i.cs[31]? = some (.int .i64 i.cut) := nr rfl
theorem ic32 (i : Ins) : i.cs[32]? = some (.int .i64 i.res) := nr rfl
theorem eqbb (b : Bool) : eqBoolP true (.bool b) (.bool b) = some (.bool false) := by cases b <;> rfl
theorem c31r (l : List (Int × Int)) (hm : l.length < 9223372036854775808) (h : PHeap) : Γ0 31 [ptsPV l, ptsPV l] h = some (.bool true, h) := by rw [c31 l l hm h, decide_eq_true rfl]
theorem c15r (l : List (Int × Int)) (hm : l.length < 9223372036854775808) (h : PHeap) : Γ0 15 [keysPV l, keysPV l] h = some (.bool true, h) := by rw [c15 l l hm h, decide_eq_true rfl]
theorem strE (s : ByteArray) : binP .eql (.str s) (.str s) = some (.bool true) := by simp [binP]
theorem c14 (i : Ins) (hl : InsLen i) (h : PHeap) : Γ0 14 [.agg i.cs, .agg i.cs] h = some (.bool true, h) := by
  obtain ⟨N, hN⟩ : ∃ N : Nat, 121 < N := ⟨122, by omega⟩
  refine gbody (F := A14) (by kernel_rfl) N ?_
  rw [s14_eq]; unfold s14
  have hlen : lenP false (.frz 16 ((envs i).map envP)) = some (.int .i64 ((envs i).length : Int)) := len_map
  simp only [words, ↓KLn, Nat.reduceAdd, sub8, sub8b, sub8c, pr2, pr3, pr_pure, if_true, pr_chunk, hlen]
  refine loop_pure (fun j => [.int .i64 (j : Int)]) (envs i).length (by simp [envs]; omega) rfl (fun j hj K => ?_) fun K => ?_
  · obtain ⟨e, he⟩ := lt_l hj
    have hel : e.pts.length < 9223372036854775808 := by
      have := List.mem_of_getElem? he
      simp only [envs, List.mem_cons, List.not_mem_nil, or_false] at this
      rcases this with rfl | rfl | rfl
      · exact hl.vol
      · exact hl.pan
      · exact hl.pit
    have hj3 : j < 3 := by simpa [envs] using hj
    have hix : indexAddrP 16 (.frz 16 ((envs i).map envP)) (.int .i64 (j : Int)) = some (.fptr (envP e) 0) := idx_map _ he
    have hw : partP true 0 16 (envP e) = some (.agg (envP e)) := part_all rfl
    unfold s14_L0
    simp only [words, ↓KLn, Nat.reduceAdd, ltT hj, decide_true, if_true, hix, hw, st16, p16, ai0, ai1, h8a, h8b, st8, p8, ec0, ec1, ec2, ec3, ec4, ec5, ec6, ec7, c31r _ hel, eqbb, bne_self_eq_false, Bool.not_true, Bool.false_eq_true, if_false, succ63 (show j < 9223372036854775807 by omega), trim_i2', ↓K1n, sc_or, len5]
  · unfold s14_L0
    simp only [words, ↓KLn, Nat.reduceAdd, ltF, decide_false, Bool.false_eq_true, if_false, ic0, ic1, ic26, ic27, ic28, ic29, ic30, ic31, ic32, c15r _ hl.keys, strE, beq_self_eq_true, Bool.and_self, if_true, fin_bool, ↓K1n, sc_and]
end Go.Vm.X
