/- Songs: the law. -/
import Derived.Test.YtgcfabipejmddaaSwBlank
set_option linter.unusedSimpArgs false
set_option linter.unusedVariables false
set_option maxRecDepth 20000
namespace Go.Vm.X
open Go.Am Go.Vm
attribute [local congr] bind_c ifP_c loop_c K1_c ite_c fork_c guard_c unl_c

theorem sng_st (s : Sng) (vs : List PV) (t : TypeId) (l : PHeap) : storeP 13 (.ptr 0 0) (.agg s.cs) (.box vs t .rw :: l) = (putAt vs 0 s.cs).map fun vs' => .box vs' t .rw :: l := storeC0 rfl (by decide)
theorem sng_put (s : Sng) (a b c d e f g i j k l m n : PV) : putAt [a, b, c, d, e, f, g, i, j, k, l, m, n] 0 s.cs = some s.cs := put_whole rfl rfl
theorem st1b (b : Bool) (o : Nat) (vs : List PV) (t : TypeId) (l : PHeap) : storeP 1 (.ptr 0 o) (.bool b) (.box vs t .rw :: l) = (putAt vs o [.bool b]).map fun vs' => .box vs' t .rw :: l := st1 rfl o vs t l
theorem put_lin : putAt blank.cs 8 [.bool true] = some blankL.cs := nr rfl
theorem ix_pan : indexAddrP 1 (ints blank.pans) (.int .i64 1) = some (.fptr (iV 256) 0) := nr rfl
theorem blank_len : SngLen blank where
  name := by decide
  ords := by decide
  pans := by decide
  pats := by decide
  cells := fun p hp => by
    have : p = pat64 := by simpa [blank, pat64] using hp
    subst this
    show (List.replicate 256 cell0).length < _
    rw [List.length_replicate]; decide
  smps := by decide
  smp := fun p hp => by cases hp
  inss := by decide
  ins := fun p hp => by cases hp
theorem blankL_len : SngLen blankL where
  name := by decide
  ords := by decide
  pans := by decide
  pats := by decide
  cells := blank_len.cells
  smps := by decide
  smp := fun p hp => by cases hp
  inss := by decide
  ins := fun p hp => by cases hp
theorem wrong_blank : wrongP blank = okF := by kernel_rfl
theorem wrong_blankL : wrongP blankL = (⟨#[108, 105, 110, 101, 97, 114]⟩, 0, 6) := by kernel_rfl
theorem c5 (h : PHeap) : Γ0 5 [] h = some (.bool true, h) := by
  refine gbody (F := A5) (by kernel_rfl) 1 ?_
  rw [s5_eq]; unfold s5
  simp only [cellsW, forkW, fieldW, fieldF, Nat.reduceAdd, Nat.zero_add, List.append_assoc, List.cons_append, List.nil_append, lenadd, len1, len2, len3, len4, len5, loadN0, loadNk, loadCk, loadC0, loadF, partC, storeN0, storeNk, storeCk, mapS, bS, ↓KLn, K1_or, K1_and, K1one, notW, ifW, nth_zero, bin_lss, bin_gtr, bin_leq, bin_geq, bin_eql, bin_neq, bin_add, bin_sub, unl_self, y20, y21, c9, sng_st, sng_put, s_whole, st1b, put_lin, c6 blankL blankL_len, wrong_blankL, wrongV, y30, y31, y32, c8 blank blank_len, wrong_blank, sc9, len_ints, ix_pan, iv0, bin_seq, fin_bool]
  have e1 : (okF.2.2 == 0) = true := rfl
  have e2 : ((blank.pans.length : Int) == 4) = true := rfl
  simp only [e1, e2, beq_self_eq_true, Bool.and_self]
theorem c3 (s : Sng) (hl : SngLen s) (h : PHeap) : Γ0 3 [.agg s.cs] h = some (.bool true, h) := by
  refine gbody (F := A3) (by kernel_rfl) 1 ?_
  rw [s3_eq]; unfold s3
  simp only [cellsW, forkW, fieldW, fieldF, Nat.reduceAdd, Nat.zero_add, List.append_assoc, List.cons_append, List.nil_append, lenadd, len1, len2, len3, len4, len5, loadN0, loadNk, loadCk, loadC0, loadF, partC, storeN0, storeNk, storeCk, mapS, bS, ↓KLn, K1_or, K1_and, K1one, notW, ifW, nth_zero, bin_lss, bin_gtr, bin_leq, bin_geq, bin_eql, bin_neq, bin_add, bin_sub, unl_self, y20, y21, s_whole, c4 s hl, c5, c6 s hl, c7 s hl, ← wrong_same, wrongV, y30, y31, y32, c8 s hl, bin_seq, eqBool_bool, beq_self_eq_true, Bool.and_self, Bool.and_true, Bool.true_and, fin_bool]
  cases decide (lightN s ≤ 60000) with
  | false => rfl
  | true => simp
end Go.Vm.X
