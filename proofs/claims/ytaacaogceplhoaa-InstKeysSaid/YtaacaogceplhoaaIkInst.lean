
/- Songs: instruments are valid. -/
import Derived.Test.YtaacaogceplhoaaIkVenv
set_option linter.unusedSimpArgs false
set_option linter.unusedVariables false
namespace Go.Vm.X
open Go.Am Go.Vm
attribute [local congr] bind_c ifP_c loop_c K1_c ite_c

structure Ins where
  name : ByteArray
  keys : List (Int × Int)
  (vol pan pit : Env)
  (fade nn dup dd gl cut res : Int)
def Ins.cs (i : Ins) : List PV := [.str i.name, keysPV i.keys] ++ (i.vol.cs ++ (i.pan.cs ++ (i.pit.cs ++ [.int .i64 i.fade, .int .i64 i.nn, .int .i64 i.dup, .int .i64 i.dd, .int .i64 i.gl, .int .i64 i.cut, .int .i64 i.res])))
def keyBad (k : Int × Int) : Bool := !inW k.1 0 119 || !inW k.2 0 31
def insR (i : Ins) : Bool := inW i.fade 0 1024 && (inW i.nn 0 3 && (inW i.dup 0 3 && (inW i.dd 0 2 && (inW i.gl 0 64 && (inW i.cut (-1) 127 && inW i.res (-1) 127)))))
def insOK (i : Ins) : Bool := !i.keys.any keyBad && (nameOK i.name && (((i.keys.length : Int) == 0 || (i.keys.length : Int) == 120) && (envOK i.vol 0 64 && (envOK i.pan (-32) 32 && (envOK i.pit (-32) 32 && insR i)))))
section
variable {h : PHeap} {i : Ins} {t : TypeId}
theorem il0 : loadP false 1 (.ptr h.length 0) (h ++ [.box i.cs t .rw]) = some (.str i.name) := load_new rfl
theorem il1 : loadP false 1 (.ptr h.length 1) (h ++ [.box i.cs t .rw]) = some (keysPV i.keys) := load_new rfl
theorem il2 : loadP true 8 (.ptr h.length 2) (h ++ [.box i.cs t .rw]) = some (.agg i.vol.cs) := load_newA (Nat.le_of_ble_eq_true rfl) rfl
theorem il10 : loadP true 8 (.ptr h.length 10) (h ++ [.box i.cs t .rw]) = some (.agg i.pan.cs) := load_newA (Nat.le_of_ble_eq_true rfl) rfl
theorem il18 : loadP true 8 (.ptr h.length 18) (h ++ [.box i.cs t .rw]) = some (.agg i.pit.cs) := load_newA (Nat.le_of_ble_eq_true rfl) rfl
theorem il26 : loadP false 1 (.ptr h.length 26) (h ++ [.box i.cs t .rw]) = some (.int .i64 i.fade) := load_new rfl
theorem il27 : loadP false 1 (.ptr h.length 27) (h ++ [.box i.cs t .rw]) = some (.int .i64 i.nn) := load_new rfl
theorem il28 : loadP false 1 (.ptr h.length 28) (h ++ [.box i.cs t .rw]) = some (.int .i64 i.dup) := load_new rfl
theorem il29 : loadP false 1 (.ptr h.length 29) (h ++ [.box i.cs t .rw]) = some (.int .i64 i.dd) := load_new rfl
theorem il30 : loadP false 1 (.ptr h.length 30) (h ++ [.box i.cs t .rw]) = some (.int .i64 i.gl) := load_new rfl
theorem il31 : loadP false 1 (.ptr h.length 31) (h ++ [.box i.cs t .rw]) = some (.int .i64 i.cut) := load_new rfl
theorem il32 : loadP false 1 (.ptr h.length 32) (h ++ [.box i.cs t .rw]) = some (.int .i64 i.res) := load_new rfl
theorem il1' {l : PHeap} : loadP false 1 (.ptr h.length 1) ((h ++ [.box i.cs t .rw]) ++ l) = some (keysPV i.keys) := load_new2 rfl
end
/-- Lengths that a list in memory cannot have are not met. -/
structure InsLen (i : Ins) : Prop where
  name : i.name.size < 9223372036854775808
  keys : i.keys.length < 9223372036854775808
  vol : i.vol.pts.length < 9223372036854775808
  pan : i.pan.pts.length < 9223372036854775808
  pit : i.pit.pts.length < 9223372036854775808
theorem c7 (i : Ins) (hl : InsLen i) (h : PHeap) : Γ0 7 [.agg i.cs] h = some (.bool (insOK i), h) := by
  refine gbody (F := A7) (by kernel_rfl) 1 ?_
  rw [s7_eq]
  unfold s7 insOK insR
  have k45 : ∀ hh, Γ0 22 [keysPV i.keys, .func 23 [] []] hh = some (.bool (i.keys.any keyBad), hh) := fun hh => c22 (by have := hl.keys; omega) fun c => by rw [callV_func Γ0 23]; exact c23 c _
  simp only [forkN, cellsN, field_new, il0, il1, il2, il10, il18, il26, il27, il28, il29, il30, il31, il32, len_keys, c21 hl.name, k45, c24 _ hl.vol, c24 _ hl.pan, c24 _ hl.pit, c19, unN, bS, bin_neq, K1_and, K1_or, K1oneN, ↓KLn, ifbN, fin_bool, Bool.and_assoc]
  have e1 : ((i.keys.length : Int) != 0) = !((i.keys.length : Int) == 0) := rfl
  have e2 : ((i.keys.length : Int) != 120) = !((i.keys.length : Int) == 120) := rfl
  rw [e1, e2]
  generalize nameOK i.name = N, ((i.keys.length : Int) == 0) = a, ((i.keys.length : Int) == 120) = b, i.keys.any keyBad = K, envOK i.vol 0 64 = v, envOK i.pan (-32) 32 = p, envOK i.pit (-32) 32 = q
  cases N <;> cases a <;> cases b <;> cases K <;> cases v <;> cases p <;> cases q <;> rfl
theorem box_key (h : PHeap) (c : Int × Int) : storeP 2 (.ptr h.length 0) (.agg (keyC c)) (h ++ [.box [.int .i64 0, .int .i64 0] 42 .rw]) = some (h ++ [.box (keyC c) 42 .rw]) := box_set rfl rfl (by decide) rfl
theorem kl0 {h : PHeap} {c : Int × Int} {t : TypeId} : loadP false 1 (.ptr h.length 0) (h ++ [.box (keyC c) t .rw]) = some (.int .i64 c.1) := load_new rfl
theorem kl1 {h : PHeap} {c : Int × Int} {t : TypeId} : loadP false 1 (.ptr h.length 1) (h ++ [.box (keyC c) t .rw]) = some (.int .i64 c.2) := load_new rfl
theorem keyBad_is (k : Int × Int) : (((decide (k.1 < 0) || decide (k.1 > 119)) || decide (k.2 < 0)) || decide (k.2 > 31)) = keyBad k := by
  unfold keyBad inW
  rw [Bool.eq_iff_iff]
  simp only [Bool.or_eq_true, Bool.not_eq_true', Bool.and_eq_false_iff, decide_eq_true_eq, decide_eq_false_iff_not]
  omega
theorem c8 (i : Ins) (hl : InsLen i) (h : PHeap) : Γ0 8 [.agg i.cs] h = some (.bool (insOK i), h) := by
  obtain ⟨N, hN⟩ : ∃ N : Nat, i.keys.length < N := ⟨_, Nat.lt_succ_self _⟩
  refine gbody (F := A8) (by kernel_rfl) N ?_
  rw [s8_eq]
  unfold s8 insOK insR
  simp only [forkN, cellsN, ↓KLn]
  have hkm := hl.keys
  refine loop_find i.keys keyBad (fun i => [.int .i64 (i : Int)]) hN rfl (fun j c hj hc hp K => ?_) (fun j c hj hc hp h1 h2 K => ?_) (fun h1 h2 K => ?_)
  · unfold s8_L0
    simp only [nth_zero, field_new, il1, len_keys, bin_lss, ltT hj, decide_true, bS, ↓KLn, ifbN, if_true, idx_keys _ hc, load_key, forkN, box_key, kl0, kl1, bin_gtr, K1_or, keyBad_is, hp, Bool.false_eq_true, if_false, bin_add, succ63 (show j < 9223372036854775807 by omega), trim_i1]
  · unfold s8_L0
    simp only [nth_zero, field_new, il1, len_keys, bin_lss, ltT hj, decide_true, bS, ↓KLn, ifbN, if_true, idx_keys _ hc, load_key, forkN, box_key, kl0, kl1, bin_gtr, K1_or, keyBad_is, hp, fin_bool2, h2, Bool.not_true, Bool.false_and]
  · unfold s8_L0
    simp only [nth_zero, field_new, il0, il1, il2, il10, il18, il26, il27, il28, il29, il30, il31, il32, len_keys, bin_lss, ltF, decide_false, bS, ↓KLn, ifbN, Bool.false_eq_true, if_false, c25 hl.name, c26 _ hl.vol, c26 _ hl.pan, c26 _ hl.pit, bin_eql, bin_leq, K1_and, K1_or, fin_bool, h2, inW, Bool.not_false, Bool.true_and, Bool.and_assoc]
end Go.Vm.X
