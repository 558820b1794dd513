/- Instruments with other keys: the reference. -/
import Derived.Test.YtaacaogceplhoaaIkF
set_option linter.unusedSimpArgs false
set_option linter.unusedVariables false
namespace Go.Vm.X
open Go.Am Go.Vm
attribute [local congr] bind_c ifP_c loop_c K1_c ite_c fork_c guard_c unl_c

theorem c9 (a : List Int) (hm : a.length < 9223372036854775808) (h : PHeap) : Γ0 9 [ints a, ints a] h = some (.bool true, h) := by
  obtain ⟨N, hN⟩ : ∃ N : Nat, a.length < N := ⟨_, Nat.lt_succ_self _⟩
  refine gbody (F := A9) (by kernel_rfl) N ?_
  rw [s9_eq]; unfold s9
  have e0 : ((a.length : Int) != (a.length : Int)) = false := by simp
  simp only [words, ↓KLn, Nat.reduceAdd, len_ints, bin_neq, e0, Bool.false_eq_true, if_false]
  refine loop_pure (fun i => [.int .i64 (i : Int)]) a.length hN rfl (fun i hi K => ?_) fun K => ?_
  · obtain ⟨x, hx⟩ := lt_l hi
    unfold s9_L0
    have e1 : (x != x) = false := by simp
    have ld : loadP false 1 (.fptr (iV x) 0) h = some (.int .i64 x) := rfl
    simp only [words, ↓KLn, Nat.reduceAdd, ltT hi, decide_true, if_true, idx_ints _ hx, ld, e1, Bool.false_eq_true, if_false, succ63 (show i < 9223372036854775807 by omega), trim_self]
  · unfold s9_L0
    simp only [words, ↓KLn, Nat.reduceAdd, ltF, decide_false, Bool.false_eq_true, if_false, fin_bool0]
/-- An instrument's cells, with its keys as they stand. -/
def Ins.ck (i : Ins) (v : PV) : List PV := [.str i.name, v] ++ (i.vol.cs ++ (i.pan.cs ++ (i.pit.cs ++ [.int .i64 i.fade, .int .i64 i.nn, .int .i64 i.dup, .int .i64 i.dd, .int .i64 i.gl, .int .i64 i.cut, .int .i64 i.res])))
theorem ck_cs (i : Ins) : i.cs = i.ck (keysPV i.keys) := rfl
theorem ck1 (i : Ins) (v : PV) : (i.ck v)[1]? = some v := nr rfl
theorem ck_put (i : Ins) (v w : PV) (hw : oneP w = true) : putAt (i.ck v) 1 [w] = some (i.ck w) := by
  unfold putAt
  rw [if_pos ⟨by simp [Ins.ck], by simp [hw]⟩]
  rfl
theorem ck_len (i : Ins) (v : PV) : (i.ck v).length = 33 := nr rfl
theorem ck_whole (i : Ins) (v : PV) : partP true 0 33 (i.ck v) = some (.agg (i.ck v)) := part_all rfl
theorem ck_over (i : Ins) (v : PV) (vs : List PV) (hl : vs.length = 33) (hv : oneP v = true) : putAt vs 0 (i.ck v) = some (i.ck v) := put_whole hl (by unfold Ins.ck; simp only [List.cons_append, List.nil_append, List.all_cons, hv, Bool.true_and]; rfl)
def envZ : Env := ⟨false, [], false, 0, 0, false, 0, 0⟩
def insZ : Ins := ⟨⟨#[]⟩, [], envZ, envZ, envZ, 0, 0, 0, 0, 0, 0, 0⟩
theorem fz_ck {i : Ins} {v w : PV} {H H' : PHeap} (hv : fz (.flat 2) v H = some (w, H')) : fz (.agg SA33) (.agg (i.ck v)) H = some (.agg (i.ck w), H') := by
  have hp : ∀ (l : List (Int × Int)) (hh : PHeap), fz (.flat 2) (ptsPV l) hh = some (ptsPV l, hh) := fun l hh => fz_frz _ _ _ _
  rw [fz]
  simp only [Ins.ck, Env.cs, SA33, List.cons_append, List.nil_append, fzL, hv, hp, fz_keep, Option.bind_some, Option.map_some]
theorem fz_Z33 (H : PHeap) : fz (.agg SA33) (.agg Z33) H = some (.agg insZ.cs, H) := by
  have hn : ∀ (hh : PHeap), fz (.flat 2) .nilS hh = some (.frz 2 [], hh) := fun hh => by unfold fz; rfl
  rw [fz]
  simp only [Z33, SA33, fzL, hn, fz_keep, Option.bind_some, Option.map_some]
  rfl
theorem Z33_whole : partP true 0 33 Z33 = some (.agg Z33) := part_all rfl
theorem Z33_over : putAt Z33 0 Z33 = some Z33 := put_whole rfl (by decide)
theorem fill_Z33 : fillP Z33 [] = some Z33 := nr rfl
theorem fill_kv (a b : Int) : fillP [.int .i64 0, .int .i64 0] [(0, 1, .int .i64 a), (1, 1, .int .i64 b)] = some (keyC (a, b)) := nr rfl
theorem store_key {h l : PHeap} {k i n : Nat} {ks : List (Int × Int)} (e : l[k]? = some (.log (ks.map keyC) 2 42 .rw)) (hn : n = ks.length) (hi : i < n) (v : Int × Int) : storeP 2 (.lptr (h.length + k) i 0 n 2) (.agg (keyC v)) (h ++ l) = some (h ++ l.set k (.log ((ks.set i v).map keyC) 2 42 .rw)) := by
  subst hn
  have e1 : (ks.map keyC)[i]? = some (keyC ks[i]) := by rw [List.getElem?_map, List.getElem?_eq_getElem hi]; rfl
  rw [store_log (n := 2) (v := .agg (keyC v)) (rows := ks.map keyC) (row := keyC ks[i]) (row' := keyC v) (by rw [get_new]; exact e) (by simp) e1 rfl (by decide) (put_whole rfl rfl), List.map_set, set_new]
theorem rf_idx2 {b n v i : Nat} (hi : i < n) : indexAddrP 2 (.ref b 0 n v 2) (.int .i64 (i : Int)) = some (.lptr b i 0 v 2) := by
  simp only [indexAddrP]
  rw [if_pos ⟨by omega, by omega, trivial⟩, Int.toNat_natCast, Nat.zero_add]
def clampV (x : Int) : Int := if x < 0 then 0 else if x > 119 then 119 else x
def newKey (i : Ins) (a b s m : Int) (n : Nat) : Int × Int := if a ≤ (n : Int) ∧ (n : Int) ≤ b then (clampV ((n : Int) + s), m) else keyAt i n 0
def newKeys (i : Ins) (a b s m : Int) : List (Int × Int) := (List.range 120).map (newKey i a b s m)
def askOK (a b s m : Int) : Prop := 0 ≤ a ∧ a ≤ 119 ∧ b ≤ 119 ∧ a ≤ b ∧ -119 ≤ s ∧ s ≤ 119 ∧ 0 ≤ m ∧ m ≤ 31
instance (a b s m : Int) : Decidable (askOK a b s m) := by unfold askOK; infer_instance
def setV (i : Ins) (a b s m : Int) : Ins × Int := if insOK i = true then (if askOK a b s m then ({ i with keys := newKeys i a b s m }, 0) else (insZ, 5)) else (insZ, 1)
def setR (p : Ins × Int) : PV := .tuple [.agg p.1.cs, .int .i64 p.2]
theorem ins_lt (i : Ins) (n : Nat) : ltV n (.agg i.cs) := plainP_lt rfl
theorem fin_set {h h' l : PHeap} {v : PV} {i : Ins} {c : Int} (hz : fz (.agg SA33) v h' = some (.agg i.cs, h ++ l)) : finP [.agg SA33, .keep] h h' [v, .int .i64 c] = some (setR (i, c), h) :=
  fin_new (show fzL [.agg SA33, .keep] [v, .int .i64 c] h' = some ([.agg i.cs, .int .i64 c], h ++ l) from by simp only [fzL, hz, fz_keep, Option.bind_some, Option.map_some]) (fun v hv => by
    simp only [List.mem_cons, List.not_mem_nil, or_false] at hv
    rcases hv with rfl | rfl
    · exact ins_lt _ _
    · exact plainP_lt rfl)
end Go.Vm.X
