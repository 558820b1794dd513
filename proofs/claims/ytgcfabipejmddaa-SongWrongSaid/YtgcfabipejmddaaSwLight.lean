/- Songs: whether a song is not too large. -/
import Derived.Test.YtgcfabipejmddaaSwSame
import Derived.Test.YtgcfabipejmddaaMvE
set_option linter.unusedSimpArgs false
set_option linter.unusedVariables false
namespace Go.Vm.X
open Go.Am Go.Vm
attribute [local congr] bind_c ifP_c loop_c K1_c ite_c fork_c guard_c unl_c

def w64 (n : Int) : Int := IntKind.i64.wrap n
def lightN (s : Sng) : Int :=
  s.inss.foldl (fun n x => w64 (n + w64 (w64 (w64 (w64 (w64 (1 + x.keys.length) + x.vol.pts.length) + x.pan.pts.length) + x.pit.pts.length) + x.name.size)))
    (s.smps.foldl (fun n x => w64 (n + w64 (w64 (1 + x.data.length) + x.name.size)))
      (s.pats.foldl (fun n p => w64 (n + w64 (1 + p.2.length))) (w64 (w64 (s.ords.length + s.pans.length) + s.name.size))))
theorem smp_st (p : Smp) (vs : List PV) (t : TypeId) (l : PHeap) : storeP 13 (.ptr 0 0) (.agg p.cs) (.box vs t .rw :: l) = (putAt vs 0 p.cs).map fun vs' => .box vs' t .rw :: l := storeC0 rfl (by decide)
theorem smp_put (p : Smp) {vs : List PV} (h : vs.length = 13) : putAt vs 0 p.cs = some p.cs := put_whole (by rw [h]; rfl) rfl
def smp0 : List PV := [.str ⟨#[]⟩, .nilS, .int .i64 0, .int .i64 0, .int .i64 0, .int .i64 0, .int .i64 0, .int .i64 0, .int .i64 0, .int .i64 0, .int .i64 0, .int .i64 0, .int .i64 0]
theorem mc0 (p : Smp) : p.cs[0]? = some (.str p.name) := nr rfl
theorem mc1 (p : Smp) : p.cs[1]? = some (ints p.data) := nr rfl
theorem ic0 (p : Ins) : p.cs[0]? = some (.str p.name) := nr rfl
theorem ic3 (p : Ins) : p.cs[3]? = some (ptsPV p.vol.pts) := nr rfl
theorem ic11 (p : Ins) : p.cs[11]? = some (ptsPV p.pan.pts) := nr rfl
theorem ic19 (p : Ins) : p.cs[19]? = some (ptsPV p.pit.pts) := nr rfl
theorem nthOne (v w : PV) (vs : List PV) : nthP (v :: w :: vs) 1 = w := nr rfl
theorem c4 (s : Sng) (hl : SngLen s) (h : PHeap) : Γ0 4 [.agg s.cs] h = some (.bool (decide (lightN s ≤ 60000)), h) := by
  obtain ⟨N, h1, h2, h3⟩ : ∃ N : Nat, s.pats.length < N ∧ s.smps.length < N ∧ s.inss.length < N := ⟨s.pats.length + s.smps.length + s.inss.length + 1, by omega, by omega, by omega⟩
  refine gbody (F := A4) (by kernel_rfl) N ?_
  rw [s4_eq]; unfold s4 lightN w64
  have m1 := hl.pats
  have m2 := hl.smps
  have m3 := hl.inss
  simp only [cellsW, forkW, fieldW, fieldF, Nat.reduceAdd, Nat.zero_add, List.append_assoc, List.cons_append, List.nil_append, lenadd, len1, len2, len3, len4, len5, loadN0, loadNk, loadCk, loadC0, loadF, partC, storeN0, storeNk, storeCk, mapS, bS, ↓KLn, K1_or, K1_and, K1one, notW, ifW, nth_zero, bin_lss, bin_gtr, bin_leq, bin_geq, bin_eql, bin_neq, bin_add, bin_sub, unl_self, y20, y21, sc0, sc3, sc9, sc10, len_ints, len_str, len_pats]
  refine loop_fold s.pats (fun n p => IntKind.i64.wrap (n + IntKind.i64.wrap (1 + p.2.length))) _ (fun n i => [.int .i64 n, .int .i64 (i : Int)]) h1 rfl (fun i p n hi hp K => ?_) fun K => ?_
  · unfold s4_L2
    simp only [cellsW, forkW, fieldW, fieldF, Nat.reduceAdd, Nat.zero_add, List.append_assoc, List.cons_append, List.nil_append, lenadd, len1, len2, len3, len4, len5, loadN0, loadNk, loadCk, loadC0, loadF, partC, storeN0, storeNk, storeCk, mapS, bS, ↓KLn, K1_or, K1_and, K1one, notW, ifW, nth_zero, bin_lss, bin_gtr, bin_leq, bin_geq, bin_eql, bin_neq, bin_add, bin_sub, unl_self, y20, y21, nthOne, ltT hi, decide_true, if_true, idx_pats _ hp, pat_fptr, pat_st, pat_put, pc1, len_cells, succ63 (show i < 9223372036854775807 by omega), trim_ii1]
  · unfold s4_L2
    simp only [cellsW, forkW, fieldW, fieldF, Nat.reduceAdd, Nat.zero_add, List.append_assoc, List.cons_append, List.nil_append, lenadd, len1, len2, len3, len4, len5, loadN0, loadNk, loadCk, loadC0, loadF, partC, storeN0, storeNk, storeCk, mapS, bS, ↓KLn, K1_or, K1_and, K1one, notW, ifW, nth_zero, bin_lss, bin_gtr, bin_leq, bin_geq, bin_eql, bin_neq, bin_add, bin_sub, unl_self, y20, y21, nthOne, ltF, decide_false, Bool.false_eq_true, if_false, sc11, len_smps]
    refine loop_fold s.smps (fun n x => IntKind.i64.wrap (n + IntKind.i64.wrap (IntKind.i64.wrap (1 + x.data.length) + x.name.size))) _ (fun n i => [.int .i64 n, .int .i64 (i : Int)]) h2 rfl (fun i p n hi hp K => ?_) fun K => ?_
    · have hz := smp_put (vs := smp0) p rfl
      unfold smp0 at hz
      unfold s4_L1
      simp only [cellsW, forkW, fieldW, fieldF, Nat.reduceAdd, Nat.zero_add, List.append_assoc, List.cons_append, List.nil_append, lenadd, len1, len2, len3, len4, len5, loadN0, loadNk, loadCk, loadC0, loadF, partC, storeN0, storeNk, storeCk, mapS, bS, ↓KLn, K1_or, K1_and, K1one, notW, ifW, nth_zero, bin_lss, bin_gtr, bin_leq, bin_geq, bin_eql, bin_neq, bin_add, bin_sub, unl_self, y20, y21, nthOne, ltT hi, decide_true, if_true, idx_smps _ hp, smp_fptr, smp_st, hz, mc0, mc1, len_ints, len_str, succ63 (show i < 9223372036854775807 by omega), trim_ii1]
    · unfold s4_L1
      simp only [cellsW, forkW, fieldW, fieldF, Nat.reduceAdd, Nat.zero_add, List.append_assoc, List.cons_append, List.nil_append, lenadd, len1, len2, len3, len4, len5, loadN0, loadNk, loadCk, loadC0, loadF, partC, storeN0, storeNk, storeCk, mapS, bS, ↓KLn, K1_or, K1_and, K1one, notW, ifW, nth_zero, bin_lss, bin_gtr, bin_leq, bin_geq, bin_eql, bin_neq, bin_add, bin_sub, unl_self, y20, y21, nthOne, ltF, decide_false, Bool.false_eq_true, if_false, sc12, len_inss]
      refine loop_fold s.inss (fun n x => IntKind.i64.wrap (n + IntKind.i64.wrap (IntKind.i64.wrap (IntKind.i64.wrap (IntKind.i64.wrap (IntKind.i64.wrap (1 + x.keys.length) + x.vol.pts.length) + x.pan.pts.length) + x.pit.pts.length) + x.name.size))) _ (fun n i => [.int .i64 n, .int .i64 (i : Int)]) h3 rfl (fun i p n hi hp K => ?_) fun K => ?_
      · have hz := ins_put (vs := ins0) p rfl
        unfold ins0 at hz
        unfold s4_L0
        simp only [cellsW, forkW, fieldW, fieldF, Nat.reduceAdd, Nat.zero_add, List.append_assoc, List.cons_append, List.nil_append, lenadd, len1, len2, len3, len4, len5, loadN0, loadNk, loadCk, loadC0, loadF, partC, storeN0, storeNk, storeCk, mapS, bS, ↓KLn, K1_or, K1_and, K1one, notW, ifW, nth_zero, bin_lss, bin_gtr, bin_leq, bin_geq, bin_eql, bin_neq, bin_add, bin_sub, unl_self, y20, y21, nthOne, ltT hi, decide_true, if_true, idx_inss _ hp, ins_fptr, ins_st, hz, ic0, ic1, ic3, ic11, ic19, len_keys, len_pts, len_str, succ63 (show i < 9223372036854775807 by omega), trim_ii1]
      · unfold s4_L0
        simp only [cellsW, forkW, fieldW, fieldF, Nat.reduceAdd, Nat.zero_add, List.append_assoc, List.cons_append, List.nil_append, lenadd, len1, len2, len3, len4, len5, loadN0, loadNk, loadCk, loadC0, loadF, partC, storeN0, storeNk, storeCk, mapS, bS, ↓KLn, K1_or, K1_and, K1one, notW, ifW, nth_zero, bin_lss, bin_gtr, bin_leq, bin_geq, bin_eql, bin_neq, bin_add, bin_sub, unl_self, y20, y21, nthOne, ltF, decide_false, Bool.false_eq_true, if_false, fin_bool]
end Go.Vm.X
