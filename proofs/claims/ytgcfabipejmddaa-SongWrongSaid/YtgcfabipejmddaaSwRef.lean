/- Songs: faults (the reference). -/
import Derived.Test.YtgcfabipejmddaaSwWrong
set_option linter.unusedSimpArgs false
set_option linter.unusedVariables false
namespace Go.Vm.X
open Go.Am Go.Vm
attribute [local congr] bind_c ifP_c loop_c K1_c ite_c fork_c guard_c

theorem iv0 (a : Int) : (iV a)[0]? = some (.int .i64 a) := nr rfl
def unF (ok : Bool) (part : ByteArray) (e : Int) : Flt := if ok = true then noF else (part, 0, e)
def fltsPV (l : List Flt) : PV := .frz 3 (l.map fltC)
theorem len_flts (l : List Flt) : lenP false (fltsPV l) = some (.int .i64 l.length) := len_map
theorem idx_flts {l : List Flt} {i : Nat} {c : Flt} (k : IntKind) (h : l[i]? = some c) : indexAddrP 3 (fltsPV l) (.int k i) = some (.fptr (fltC c) 0) := idx_map k h
theorem flt_whole (f : Flt) : partP true 0 3 (fltC f) = some (.agg (fltC f)) := part_all rfl
theorem fin_flt (h l : PHeap) (f : Flt) : finP [.keep] h (h ++ l) [.agg (fltC f)] = some (.agg (fltC f), h) := fin_k1 rfl
theorem fin_fltb (h l : PHeap) (f : Flt) (b : Bool) : finP [.keep, .keep] h (h ++ l) [.agg (fltC f), .bool b] = some (.tuple [.agg (fltC f), .bool b], h) := fin_k2 rfl rfl
def firstR (l : List Flt) : Flt × Bool := match l.find? isF with | some f => (f, true) | none => (noF, false)
theorem c18 (ok : Bool) (part : ByteArray) (e : Int) (h : PHeap) : Γ0 18 [.bool ok, .str part, .int .i64 e] h = some (.agg (fltC (unF ok part e)), h) := by
  refine gbody (F := A18) (by kernel_rfl) 1 ?_
  rw [s18_eq]; unfold s18 unF
  simp only [cellsW, forkW, fieldW, fieldF, Nat.reduceAdd, Nat.zero_add, List.append_assoc, List.cons_append, List.nil_append, lenadd, len1, len2, len3, len4, len5, loadN0, loadNk, loadCk, loadC0, loadF, partC, storeN0, storeNk, storeCk, mapS, bS, ↓KLn, K1_or, K1_and, K1one, notW, ifW, nth_zero, bin_lss, bin_gtr, bin_leq, bin_geq, bin_eql, bin_neq, bin_add, bin_sub, unl_self, y20, y21, fill3, fill_none, st3, put3, part3, fin_f]
  cases ok <;> rfl
theorem c17 (l : List Flt) (hm : l.length < 9223372036854775808) (h : PHeap) : Γ0 17 [fltsPV l] h = some (resA (firstR l), h) := by
  obtain ⟨N, hN⟩ : ∃ N : Nat, l.length < N := ⟨_, Nat.lt_succ_self _⟩
  refine gbody (F := A17) (by kernel_rfl) N ?_
  rw [s17_eq]; unfold s17 firstR
  simp only [cellsW, forkW, fieldW, fieldF, Nat.reduceAdd, Nat.zero_add, List.append_assoc, List.cons_append, List.nil_append, lenadd, len1, len2, len3, len4, len5, loadN0, loadNk, loadCk, loadC0, loadF, partC, storeN0, storeNk, storeCk, mapS, bS, ↓KLn, K1_or, K1_and, K1one, notW, ifW, nth_zero, bin_lss, bin_gtr, bin_leq, bin_geq, bin_eql, bin_neq, bin_add, bin_sub, unl_self, y20, y21, len_flts]
  refine loop_find l isF (fun i => [.int .i64 (i : Int)]) hN rfl (fun i a hi ha hb K => ?_) (fun i a hi ha hb h1 h2 K => ?_) (fun h1 h2 K => ?_)
  · unfold isF at hb
    unfold s17_L0
    simp only [cellsW, forkW, fieldW, fieldF, Nat.reduceAdd, Nat.zero_add, List.append_assoc, List.cons_append, List.nil_append, lenadd, len1, len2, len3, len4, len5, loadN0, loadNk, loadCk, loadC0, loadF, partC, storeN0, storeNk, storeCk, mapS, bS, ↓KLn, K1_or, K1_and, K1one, notW, ifW, nth_zero, bin_lss, bin_gtr, bin_leq, bin_geq, bin_eql, bin_neq, bin_add, bin_sub, unl_self, y20, y21, ltT hi, decide_true, if_true, idx_flts _ ha, flt_whole, flt_st, flt_put, fc2, hb, Bool.false_eq_true, if_false, succ63 (show i < 9223372036854775807 by omega), trim_i1']
  · have hb' := hb
    unfold isF at hb
    unfold s17_L0
    simp only [cellsW, forkW, fieldW, fieldF, Nat.reduceAdd, Nat.zero_add, List.append_assoc, List.cons_append, List.nil_append, lenadd, len1, len2, len3, len4, len5, loadN0, loadNk, loadCk, loadC0, loadF, partC, storeN0, storeNk, storeCk, mapS, bS, ↓KLn, K1_or, K1_and, K1one, notW, ifW, nth_zero, bin_lss, bin_gtr, bin_leq, bin_geq, bin_eql, bin_neq, bin_add, bin_sub, unl_self, y20, y21, ltT hi, decide_true, if_true, idx_flts _ ha, flt_whole, flt_st, flt_put, fc2, hb, fin_fltb, find_idx, h1, ha, Option.bind_some, resA]
  · unfold s17_L0
    simp only [cellsW, forkW, fieldW, fieldF, Nat.reduceAdd, Nat.zero_add, List.append_assoc, List.cons_append, List.nil_append, lenadd, len1, len2, len3, len4, len5, loadN0, loadNk, loadCk, loadC0, loadF, partC, storeN0, storeNk, storeCk, mapS, bS, ↓KLn, K1_or, K1_and, K1one, notW, ifW, nth_zero, bin_lss, bin_gtr, bin_leq, bin_geq, bin_eql, bin_neq, bin_add, bin_sub, unl_self, y20, y21, ltF, decide_false, Bool.false_eq_true, if_false, fill_none, st3, put3, part3, fin_fb, find_idx, h1, Option.bind_none, resA]
    rfl
def scanF {α : Type} (part : ByteArray) (code : α → Int) (l : List α) : Flt := match l.findIdx? (fun a => code a != 0) with | some i => (part, i, (l[i]?.map code).getD 0) | none => noF
theorem scan_hit {α : Type} {part : ByteArray} {code : α → Int} {l : List α} {i : Nat} {a : α} (h1 : l.findIdx? (fun a => code a != 0) = some i) (h2 : l[i]? = some a) : scanF part code l = (part, (i : Int), code a) := by
  unfold scanF; rw [h1]; simp only [h2, Option.map_some, Option.getD_some]
theorem scan_none {α : Type} {part : ByteArray} {code : α → Int} {l : List α} (h1 : l.findIdx? (fun a => code a != 0) = none) : scanF part code l = noF := by
  unfold scanF; rw [h1]
/-- The reference's walk of a pattern. -/
theorem c47 (s : Sng) (hl : SngLen s) (p : Pat) (hpm : p.2.length < 9223372036854775808) (h : PHeap) : Γ0 47 [.agg s.cs, .agg (patC p), .int .i64 (qI s.dia 3)] h = some (.int .i64 (patCode s p), h) := by
  obtain ⟨N, hN⟩ : ∃ N : Nat, p.2.length < N := ⟨_, Nat.lt_succ_self _⟩
  refine gbody (F := A47) (by kernel_rfl) N ?_
  rw [s47_eq]; unfold s47 patCode patBad
  simp only [cellsW, forkW, fieldW, fieldF, Nat.reduceAdd, Nat.zero_add, List.append_assoc, List.cons_append, List.nil_append, lenadd, len1, len2, len3, len4, len5, loadN0, loadNk, loadCk, loadC0, loadF, partC, storeN0, storeNk, storeCk, mapS, bS, ↓KLn, K1_or, K1_and, K1one, notW, ifW, nth_zero, bin_lss, bin_gtr, bin_leq, bin_geq, bin_eql, bin_neq, bin_add, bin_sub, unl_self, y20, y21, pc0, pat_fptr, sc2, c68p p hpm, fin_int]
  cases ((qI s.dia 3 != 0 && p.1 != qI s.dia 3) || !patOK p.1 p.2 s.ch) with
  | true => rfl
  | false =>
    simp only [Bool.false_eq_true, if_false, Bool.false_or]
    refine loop_find p.2 (fun c => !cellIn s.dia c) (fun i => [.int .i64 (i : Int)]) hN rfl (fun i a hi ha hb K => ?_) (fun i a hi ha hb h1 h2 K => ?_) (fun h1 h2 K => ?_)
    · unfold s47_L1
      simp only [cellsW, forkW, fieldW, fieldF, Nat.reduceAdd, Nat.zero_add, List.append_assoc, List.cons_append, List.nil_append, lenadd, len1, len2, len3, len4, len5, loadN0, loadNk, loadCk, loadC0, loadF, partC, storeN0, storeNk, storeCk, mapS, bS, ↓KLn, K1_or, K1_and, K1one, notW, ifW, nth_zero, bin_lss, bin_gtr, bin_leq, bin_geq, bin_eql, bin_neq, bin_add, bin_sub, unl_self, y20, y21, pc1, len_cells, ltT hi, decide_true, if_true, sc1, idx_cells _ ha, cell_whole, c69, hb, Bool.false_eq_true, if_false, succ63 (show i < 9223372036854775807 by omega), trim_i2']
    · unfold s47_L1
      simp only [cellsW, forkW, fieldW, fieldF, Nat.reduceAdd, Nat.zero_add, List.append_assoc, List.cons_append, List.nil_append, lenadd, len1, len2, len3, len4, len5, loadN0, loadNk, loadCk, loadC0, loadF, partC, storeN0, storeNk, storeCk, mapS, bS, ↓KLn, K1_or, K1_and, K1one, notW, ifW, nth_zero, bin_lss, bin_gtr, bin_leq, bin_geq, bin_eql, bin_neq, bin_add, bin_sub, unl_self, y20, y21, pc1, len_cells, ltT hi, decide_true, if_true, sc1, idx_cells _ ha, cell_whole, c69, hb, fin_int, h2]
    · unfold s47_L1
      simp only [cellsW, forkW, fieldW, fieldF, Nat.reduceAdd, Nat.zero_add, List.append_assoc, List.cons_append, List.nil_append, lenadd, len1, len2, len3, len4, len5, loadN0, loadNk, loadCk, loadC0, loadF, partC, storeN0, storeNk, storeCk, mapS, bS, ↓KLn, K1_or, K1_and, K1one, notW, ifW, nth_zero, bin_lss, bin_gtr, bin_leq, bin_geq, bin_eql, bin_neq, bin_add, bin_sub, unl_self, y20, y21, pc1, len_cells, ltF, decide_false, Bool.false_eq_true, if_false, h2]
      refine loop_find p.2 (fun c => decide (c.inst > names s)) (fun i => [.int .i64 (i : Int)]) hN rfl (fun i a hi ha hb K => ?_) (fun i a hi ha hb h1 h2 K => ?_) (fun h1 h2 K => ?_)
      · unfold s47_L0
        simp only [cellsW, forkW, fieldW, fieldF, Nat.reduceAdd, Nat.zero_add, List.append_assoc, List.cons_append, List.nil_append, lenadd, len1, len2, len3, len4, len5, loadN0, loadNk, loadCk, loadC0, loadF, partC, storeN0, storeNk, storeCk, mapS, bS, ↓KLn, K1_or, K1_and, K1one, notW, ifW, nth_zero, bin_lss, bin_gtr, bin_leq, bin_geq, bin_eql, bin_neq, bin_add, bin_sub, unl_self, y20, y21, pc1, len_cells, ltT hi, decide_true, if_true, sc1, idx_cells _ ha, cc1, s_whole, c70, hb, Bool.false_eq_true, if_false, succ63 (show i < 9223372036854775807 by omega), trim_i2']
      · unfold s47_L0
        simp only [cellsW, forkW, fieldW, fieldF, Nat.reduceAdd, Nat.zero_add, List.append_assoc, List.cons_append, List.nil_append, lenadd, len1, len2, len3, len4, len5, loadN0, loadNk, loadCk, loadC0, loadF, partC, storeN0, storeNk, storeCk, mapS, bS, ↓KLn, K1_or, K1_and, K1one, notW, ifW, nth_zero, bin_lss, bin_gtr, bin_leq, bin_geq, bin_eql, bin_neq, bin_add, bin_sub, unl_self, y20, y21, pc1, len_cells, ltT hi, decide_true, if_true, sc1, idx_cells _ ha, cc1, s_whole, c70, hb, fin_int, h2]
      · unfold s47_L0
        simp only [cellsW, forkW, fieldW, fieldF, Nat.reduceAdd, Nat.zero_add, List.append_assoc, List.cons_append, List.nil_append, lenadd, len1, len2, len3, len4, len5, loadN0, loadNk, loadCk, loadC0, loadF, partC, storeN0, storeNk, storeCk, mapS, bS, ↓KLn, K1_or, K1_and, K1one, notW, ifW, nth_zero, bin_lss, bin_gtr, bin_leq, bin_geq, bin_eql, bin_neq, bin_add, bin_sub, unl_self, y20, y21, pc1, len_cells, ltF, decide_false, Bool.false_eq_true, if_false, h2, fin_int]
theorem c21 (s : Sng) (hl : SngLen s) (h : PHeap) : Γ0 21 [.agg s.cs, .int .i64 (qI s.dia 3)] h = some (.agg (fltC (scanF ⟨#[112, 97, 116, 116, 101, 114, 110, 115]⟩ (patCode s) s.pats)), h) := by
  obtain ⟨N, hN⟩ : ∃ N : Nat, s.pats.length < N := ⟨_, Nat.lt_succ_self _⟩
  refine gbody (F := A21) (by kernel_rfl) N ?_
  rw [s21_eq]; unfold s21
  have hm := hl.pats
  simp only [cellsW, forkW, fieldW, fieldF, Nat.reduceAdd, Nat.zero_add, List.append_assoc, List.cons_append, List.nil_append, lenadd, len1, len2, len3, len4, len5, loadN0, loadNk, loadCk, loadC0, loadF, partC, storeN0, storeNk, storeCk, mapS, bS, ↓KLn, K1_or, K1_and, K1one, notW, ifW, nth_zero, bin_lss, bin_gtr, bin_leq, bin_geq, bin_eql, bin_neq, bin_add, bin_sub, unl_self, y20, y21, sc10, len_pats]
  refine loop_find s.pats (fun p => patCode s p != 0) (fun i => [.int .i64 (i : Int)]) hN rfl (fun i a hi ha hb K => ?_) (fun i a hi ha hb h1 h2 K => ?_) (fun h1 h2 K => ?_)
  · have k47 := c47 s hl a (hl.cells a (List.mem_of_getElem? ha))
    unfold s21_L0
    simp only [cellsW, forkW, fieldW, fieldF, Nat.reduceAdd, Nat.zero_add, List.append_assoc, List.cons_append, List.nil_append, lenadd, len1, len2, len3, len4, len5, loadN0, loadNk, loadCk, loadC0, loadF, partC, storeN0, storeNk, storeCk, mapS, bS, ↓KLn, K1_or, K1_and, K1one, notW, ifW, nth_zero, bin_lss, bin_gtr, bin_leq, bin_geq, bin_eql, bin_neq, bin_add, bin_sub, unl_self, y20, y21, ltT hi, decide_true, if_true, s_whole, sc10, idx_pats _ ha, pat_fptr, k47, hb, Bool.false_eq_true, if_false, succ63 (show i < 9223372036854775807 by omega), trim_i2']
  · have k47 := c47 s hl a (hl.cells a (List.mem_of_getElem? ha))
    unfold s21_L0
    simp only [cellsW, forkW, fieldW, fieldF, Nat.reduceAdd, Nat.zero_add, List.append_assoc, List.cons_append, List.nil_append, lenadd, len1, len2, len3, len4, len5, loadN0, loadNk, loadCk, loadC0, loadF, partC, storeN0, storeNk, storeCk, mapS, bS, ↓KLn, K1_or, K1_and, K1one, notW, ifW, nth_zero, bin_lss, bin_gtr, bin_leq, bin_geq, bin_eql, bin_neq, bin_add, bin_sub, unl_self, y20, y21, ltT hi, decide_true, if_true, s_whole, sc10, idx_pats _ ha, pat_fptr, k47, hb, fill3, st3, put3, part3, fin_f, scan_hit h1 ha, fltC]
  · unfold s21_L0
    simp only [cellsW, forkW, fieldW, fieldF, Nat.reduceAdd, Nat.zero_add, List.append_assoc, List.cons_append, List.nil_append, lenadd, len1, len2, len3, len4, len5, loadN0, loadNk, loadCk, loadC0, loadF, partC, storeN0, storeNk, storeCk, mapS, bS, ↓KLn, K1_or, K1_and, K1one, notW, ifW, nth_zero, bin_lss, bin_gtr, bin_leq, bin_geq, bin_eql, bin_neq, bin_add, bin_sub, unl_self, y20, y21, ltF, decide_false, Bool.false_eq_true, if_false, fill_none, st3, put3, part3, fin_f, scan_none h1]
    rfl
theorem c22 (s : Sng) (hl : SngLen s) (h : PHeap) : Γ0 22 [.agg s.cs] h = some (.agg (fltC (scanF ⟨#[111, 114, 100, 101, 114, 115]⟩ (fun o => if ordBad s o = true then 10 else 0) s.ords)), h) := by
  obtain ⟨N, hN⟩ : ∃ N : Nat, s.ords.length < N := ⟨_, Nat.lt_succ_self _⟩
  refine gbody (F := A22) (by kernel_rfl) N ?_
  rw [s22_eq]; unfold s22
  have hm := hl.ords
  have hp : ∀ o, ((if ordBad s o = true then (10 : Int) else 0) != 0) = ordBad s o := fun o => by cases ordBad s o <;> rfl
  simp only [cellsW, forkW, fieldW, fieldF, Nat.reduceAdd, Nat.zero_add, List.append_assoc, List.cons_append, List.nil_append, lenadd, len1, len2, len3, len4, len5, loadN0, loadNk, loadCk, loadC0, loadF, partC, storeN0, storeNk, storeCk, mapS, bS, ↓KLn, K1_or, K1_and, K1one, notW, ifW, nth_zero, bin_lss, bin_gtr, bin_leq, bin_geq, bin_eql, bin_neq, bin_add, bin_sub, unl_self, y20, y21, sc3, len_ints]
  refine loop_find s.ords (fun o => (if ordBad s o = true then (10 : Int) else 0) != 0) (fun i => [.int .i64 (i : Int)]) hN rfl (fun i a hi ha hb K => ?_) (fun i a hi ha hb h1 h2 K => ?_) (fun h1 h2 K => ?_)
  · simp only [hp] at hb
    unfold ordBad at hb
    unfold s22_L0
    simp only [cellsW, forkW, fieldW, fieldF, Nat.reduceAdd, Nat.zero_add, List.append_assoc, List.cons_append, List.nil_append, lenadd, len1, len2, len3, len4, len5, loadN0, loadNk, loadCk, loadC0, loadF, partC, storeN0, storeNk, storeCk, mapS, bS, ↓KLn, K1_or, K1_and, K1one, notW, ifW, nth_zero, bin_lss, bin_gtr, bin_leq, bin_geq, bin_eql, bin_neq, bin_add, bin_sub, unl_self, y20, y21, ltT hi, decide_true, if_true, idx_ints _ ha, iv0, c48, sc10, len_pats, c20, hb, Bool.false_eq_true, if_false, succ63 (show i < 9223372036854775807 by omega), trim_i2']
  · have hb2 := hb
    simp only [hp] at hb
    have hb' := hb
    unfold ordBad at hb
    unfold s22_L0
    simp only [cellsW, forkW, fieldW, fieldF, Nat.reduceAdd, Nat.zero_add, List.append_assoc, List.cons_append, List.nil_append, lenadd, len1, len2, len3, len4, len5, loadN0, loadNk, loadCk, loadC0, loadF, partC, storeN0, storeNk, storeCk, mapS, bS, ↓KLn, K1_or, K1_and, K1one, notW, ifW, nth_zero, bin_lss, bin_gtr, bin_leq, bin_geq, bin_eql, bin_neq, bin_add, bin_sub, unl_self, y20, y21, ltT hi, decide_true, if_true, idx_ints _ ha, iv0, c48, sc10, len_pats, c20, hb, fill3, st3, put3, part3, fin_f, scan_hit h1 ha, fltC, hb']
  · unfold s22_L0
    simp only [cellsW, forkW, fieldW, fieldF, Nat.reduceAdd, Nat.zero_add, List.append_assoc, List.cons_append, List.nil_append, lenadd, len1, len2, len3, len4, len5, loadN0, loadNk, loadCk, loadC0, loadF, partC, storeN0, storeNk, storeCk, mapS, bS, ↓KLn, K1_or, K1_and, K1one, notW, ifW, nth_zero, bin_lss, bin_gtr, bin_leq, bin_geq, bin_eql, bin_neq, bin_add, bin_sub, unl_self, y20, y21, ltF, decide_false, Bool.false_eq_true, if_false, fill_none, st3, put3, part3, fin_f, scan_none h1]
    rfl
theorem c23 (s : Sng) (hl : SngLen s) (h : PHeap) : Γ0 23 [.agg s.cs] h = some (.agg (fltC (scanF ⟨#[112, 97, 110, 115]⟩ (fun o => if (!inW o 0 256) = true then 5 else 0) s.pans)), h) := by
  obtain ⟨N, hN⟩ : ∃ N : Nat, s.pans.length < N := ⟨_, Nat.lt_succ_self _⟩
  refine gbody (F := A23) (by kernel_rfl) N ?_
  rw [s23_eq]; unfold s23
  have hm := hl.pans
  have hp : ∀ o : Int, ((if (!inW o 0 256) = true then (5 : Int) else 0) != 0) = !inW o 0 256 := fun o => by cases inW o 0 256 <;> rfl
  simp only [cellsW, forkW, fieldW, fieldF, Nat.reduceAdd, Nat.zero_add, List.append_assoc, List.cons_append, List.nil_append, lenadd, len1, len2, len3, len4, len5, loadN0, loadNk, loadCk, loadC0, loadF, partC, storeN0, storeNk, storeCk, mapS, bS, ↓KLn, K1_or, K1_and, K1one, notW, ifW, nth_zero, bin_lss, bin_gtr, bin_leq, bin_geq, bin_eql, bin_neq, bin_add, bin_sub, unl_self, y20, y21, sc9, len_ints]
  refine loop_find s.pans (fun o => (if (!inW o 0 256) = true then (5 : Int) else 0) != 0) (fun i => [.int .i64 (i : Int)]) hN rfl (fun i a hi ha hb K => ?_) (fun i a hi ha hb h1 h2 K => ?_) (fun h1 h2 K => ?_)
  · simp only [hp] at hb
    unfold s23_L0
    simp only [cellsW, forkW, fieldW, fieldF, Nat.reduceAdd, Nat.zero_add, List.append_assoc, List.cons_append, List.nil_append, lenadd, len1, len2, len3, len4, len5, loadN0, loadNk, loadCk, loadC0, loadF, partC, storeN0, storeNk, storeCk, mapS, bS, ↓KLn, K1_or, K1_and, K1one, notW, ifW, nth_zero, bin_lss, bin_gtr, bin_leq, bin_geq, bin_eql, bin_neq, bin_add, bin_sub, unl_self, y20, y21, ltT hi, decide_true, if_true, idx_ints _ ha, iv0, c20, hb, Bool.false_eq_true, if_false, succ63 (show i < 9223372036854775807 by omega), trim_i2']
  · simp only [hp] at hb
    unfold s23_L0
    simp only [cellsW, forkW, fieldW, fieldF, Nat.reduceAdd, Nat.zero_add, List.append_assoc, List.cons_append, List.nil_append, lenadd, len1, len2, len3, len4, len5, loadN0, loadNk, loadCk, loadC0, loadF, partC, storeN0, storeNk, storeCk, mapS, bS, ↓KLn, K1_or, K1_and, K1one, notW, ifW, nth_zero, bin_lss, bin_gtr, bin_leq, bin_geq, bin_eql, bin_neq, bin_add, bin_sub, unl_self, y20, y21, ltT hi, decide_true, if_true, idx_ints _ ha, iv0, c20, hb, fill3, st3, put3, part3, fin_f, scan_hit h1 ha, fltC]
  · unfold s23_L0
    simp only [cellsW, forkW, fieldW, fieldF, Nat.reduceAdd, Nat.zero_add, List.append_assoc, List.cons_append, List.nil_append, lenadd, len1, len2, len3, len4, len5, loadN0, loadNk, loadCk, loadC0, loadF, partC, storeN0, storeNk, storeCk, mapS, bS, ↓KLn, K1_or, K1_and, K1one, notW, ifW, nth_zero, bin_lss, bin_gtr, bin_leq, bin_geq, bin_eql, bin_neq, bin_add, bin_sub, unl_self, y20, y21, ltF, decide_false, Bool.false_eq_true, if_false, fill_none, st3, put3, part3, fin_f, scan_none h1]
    rfl
theorem smp_fptr (c : Smp) : partP true 0 13 c.cs = some (.agg c.cs) := part_all rfl
theorem c24 (s : Sng) (hl : SngLen s) (h : PHeap) : Γ0 24 [.agg s.cs] h = some (.agg (fltC (scanF ⟨#[115, 97, 109, 112, 108, 101, 115]⟩ (fun x => if (!smpOK x) = true then 1 else 0) s.smps)), h) := by
  obtain ⟨N, hN⟩ : ∃ N : Nat, s.smps.length < N := ⟨_, Nat.lt_succ_self _⟩
  refine gbody (F := A24) (by kernel_rfl) N ?_
  rw [s24_eq]; unfold s24
  have hm := hl.smps
  have hp : ∀ x : Smp, ((if (!smpOK x) = true then (1 : Int) else 0) != 0) = !smpOK x := fun o => by cases smpOK o <;> rfl
  simp only [cellsW, forkW, fieldW, fieldF, Nat.reduceAdd, Nat.zero_add, List.append_assoc, List.cons_append, List.nil_append, lenadd, len1, len2, len3, len4, len5, loadN0, loadNk, loadCk, loadC0, loadF, partC, storeN0, storeNk, storeCk, mapS, bS, ↓KLn, K1_or, K1_and, K1one, notW, ifW, nth_zero, bin_lss, bin_gtr, bin_leq, bin_geq, bin_eql, bin_neq, bin_add, bin_sub, unl_self, y20, y21, sc11, len_smps]
  refine loop_find s.smps (fun x => (if (!smpOK x) = true then (1 : Int) else 0) != 0) (fun i => [.int .i64 (i : Int)]) hN rfl (fun i a hi ha hb K => ?_) (fun i a hi ha hb h1 h2 K => ?_) (fun h1 h2 K => ?_)
  · simp only [hp] at hb
    have hx := hl.smp a (List.mem_of_getElem? ha)
    unfold s24_L0
    simp only [cellsW, forkW, fieldW, fieldF, Nat.reduceAdd, Nat.zero_add, List.append_assoc, List.cons_append, List.nil_append, lenadd, len1, len2, len3, len4, len5, loadN0, loadNk, loadCk, loadC0, loadF, partC, storeN0, storeNk, storeCk, mapS, bS, ↓KLn, K1_or, K1_and, K1one, notW, ifW, nth_zero, bin_lss, bin_gtr, bin_leq, bin_geq, bin_eql, bin_neq, bin_add, bin_sub, unl_self, y20, y21, ltT hi, decide_true, if_true, sc11, idx_smps _ ha, smp_fptr, c49 a (by omega) (by omega), hb, Bool.false_eq_true, if_false, succ63 (show i < 9223372036854775807 by omega), trim_i2']
  · simp only [hp] at hb
    have hx := hl.smp a (List.mem_of_getElem? ha)
    unfold s24_L0
    simp only [cellsW, forkW, fieldW, fieldF, Nat.reduceAdd, Nat.zero_add, List.append_assoc, List.cons_append, List.nil_append, lenadd, len1, len2, len3, len4, len5, loadN0, loadNk, loadCk, loadC0, loadF, partC, storeN0, storeNk, storeCk, mapS, bS, ↓KLn, K1_or, K1_and, K1one, notW, ifW, nth_zero, bin_lss, bin_gtr, bin_leq, bin_geq, bin_eql, bin_neq, bin_add, bin_sub, unl_self, y20, y21, ltT hi, decide_true, if_true, sc11, idx_smps _ ha, smp_fptr, c49 a (by omega) (by omega), hb, fill3, st3, put3, part3, fin_f, scan_hit h1 ha, fltC]
  · unfold s24_L0
    simp only [cellsW, forkW, fieldW, fieldF, Nat.reduceAdd, Nat.zero_add, List.append_assoc, List.cons_append, List.nil_append, lenadd, len1, len2, len3, len4, len5, loadN0, loadNk, loadCk, loadC0, loadF, partC, storeN0, storeNk, storeCk, mapS, bS, ↓KLn, K1_or, K1_and, K1one, notW, ifW, nth_zero, bin_lss, bin_gtr, bin_leq, bin_geq, bin_eql, bin_neq, bin_add, bin_sub, unl_self, y20, y21, ltF, decide_false, Bool.false_eq_true, if_false, fill_none, st3, put3, part3, fin_f, scan_none h1]
    rfl
theorem c50 (s : Sng) (x : Ins) (hx : InsLen x) (h : PHeap) : Γ0 50 [.agg s.cs, .agg x.cs] h = some (.int .i64 (insCode s x), h) := by
  obtain ⟨N, hN⟩ : ∃ N : Nat, x.keys.length < N := ⟨_, Nat.lt_succ_self _⟩
  refine gbody (F := A50) (by kernel_rfl) N ?_
  rw [s50_eq]; unfold s50 insCode
  have hkm := hx.keys
  simp only [cellsW, forkW, fieldW, fieldF, Nat.reduceAdd, Nat.zero_add, List.append_assoc, List.cons_append, List.nil_append, lenadd, len1, len2, len3, len4, len5, loadN0, loadNk, loadCk, loadC0, loadF, partC, storeN0, storeNk, storeCk, mapS, bS, ↓KLn, K1_or, K1_and, K1one, notW, ifW, nth_zero, bin_lss, bin_gtr, bin_leq, bin_geq, bin_eql, bin_neq, bin_add, bin_sub, unl_self, y20, y21, ins_fptr, c73 x hx, fin_int]
  cases insOK x with
  | false => rfl
  | true =>
    simp only [Bool.not_true, Bool.false_eq_true, if_false]
    refine loop_find x.keys (fun k => decide (k.2 > (s.smps.length : Int))) (fun i => [.int .i64 (i : Int)]) hN rfl (fun i a hi ha hb K => ?_) (fun i a hi ha hb h1 h2 K => ?_) (fun h1 h2 K => ?_)
    · have k1 : (keyC a)[1]? = some (.int .i64 a.2) := rfl
      unfold s50_L0
      simp only [cellsW, forkW, fieldW, fieldF, Nat.reduceAdd, Nat.zero_add, List.append_assoc, List.cons_append, List.nil_append, lenadd, len1, len2, len3, len4, len5, loadN0, loadNk, loadCk, loadC0, loadF, partC, storeN0, storeNk, storeCk, mapS, bS, ↓KLn, K1_or, K1_and, K1one, notW, ifW, nth_zero, bin_lss, bin_gtr, bin_leq, bin_geq, bin_eql, bin_neq, bin_add, bin_sub, unl_self, y20, y21, ic1, len_keys, ltT hi, decide_true, if_true, idx_keys _ ha, k1, sc11, len_smps, hb, Bool.false_eq_true, if_false, succ63 (show i < 9223372036854775807 by omega), trim_i2']
    · have k1 : (keyC a)[1]? = some (.int .i64 a.2) := rfl
      unfold s50_L0
      simp only [cellsW, forkW, fieldW, fieldF, Nat.reduceAdd, Nat.zero_add, List.append_assoc, List.cons_append, List.nil_append, lenadd, len1, len2, len3, len4, len5, loadN0, loadNk, loadCk, loadC0, loadF, partC, storeN0, storeNk, storeCk, mapS, bS, ↓KLn, K1_or, K1_and, K1one, notW, ifW, nth_zero, bin_lss, bin_gtr, bin_leq, bin_geq, bin_eql, bin_neq, bin_add, bin_sub, unl_self, y20, y21, ic1, len_keys, ltT hi, decide_true, if_true, idx_keys _ ha, k1, sc11, len_smps, hb, fin_int, h2]
    · unfold s50_L0
      simp only [cellsW, forkW, fieldW, fieldF, Nat.reduceAdd, Nat.zero_add, List.append_assoc, List.cons_append, List.nil_append, lenadd, len1, len2, len3, len4, len5, loadN0, loadNk, loadCk, loadC0, loadF, partC, storeN0, storeNk, storeCk, mapS, bS, ↓KLn, K1_or, K1_and, K1one, notW, ifW, nth_zero, bin_lss, bin_gtr, bin_leq, bin_geq, bin_eql, bin_neq, bin_add, bin_sub, unl_self, y20, y21, ic1, len_keys, ltF, decide_false, Bool.false_eq_true, if_false, h2, fin_int]
theorem c25 (s : Sng) (hl : SngLen s) (h : PHeap) : Γ0 25 [.agg s.cs] h = some (.agg (fltC (scanF ⟨#[105, 110, 115, 116, 115]⟩ (insCode s) s.inss)), h) := by
  obtain ⟨N, hN⟩ : ∃ N : Nat, s.inss.length < N := ⟨_, Nat.lt_succ_self _⟩
  refine gbody (F := A25) (by kernel_rfl) N ?_
  rw [s25_eq]; unfold s25
  have hm := hl.inss
  simp only [cellsW, forkW, fieldW, fieldF, Nat.reduceAdd, Nat.zero_add, List.append_assoc, List.cons_append, List.nil_append, lenadd, len1, len2, len3, len4, len5, loadN0, loadNk, loadCk, loadC0, loadF, partC, storeN0, storeNk, storeCk, mapS, bS, ↓KLn, K1_or, K1_and, K1one, notW, ifW, nth_zero, bin_lss, bin_gtr, bin_leq, bin_geq, bin_eql, bin_neq, bin_add, bin_sub, unl_self, y20, y21, sc12, len_inss]
  refine loop_find s.inss (fun p => insCode s p != 0) (fun i => [.int .i64 (i : Int)]) hN rfl (fun i a hi ha hb K => ?_) (fun i a hi ha hb h1 h2 K => ?_) (fun h1 h2 K => ?_)
  · have k50 := c50 s a (hl.ins a (List.mem_of_getElem? ha))
    unfold s25_L0
    simp only [cellsW, forkW, fieldW, fieldF, Nat.reduceAdd, Nat.zero_add, List.append_assoc, List.cons_append, List.nil_append, lenadd, len1, len2, len3, len4, len5, loadN0, loadNk, loadCk, loadC0, loadF, partC, storeN0, storeNk, storeCk, mapS, bS, ↓KLn, K1_or, K1_and, K1one, notW, ifW, nth_zero, bin_lss, bin_gtr, bin_leq, bin_geq, bin_eql, bin_neq, bin_add, bin_sub, unl_self, y20, y21, ltT hi, decide_true, if_true, s_whole, sc12, idx_inss _ ha, ins_fptr, k50, hb, Bool.false_eq_true, if_false, succ63 (show i < 9223372036854775807 by omega), trim_i2']
  · have k50 := c50 s a (hl.ins a (List.mem_of_getElem? ha))
    unfold s25_L0
    simp only [cellsW, forkW, fieldW, fieldF, Nat.reduceAdd, Nat.zero_add, List.append_assoc, List.cons_append, List.nil_append, lenadd, len1, len2, len3, len4, len5, loadN0, loadNk, loadCk, loadC0, loadF, partC, storeN0, storeNk, storeCk, mapS, bS, ↓KLn, K1_or, K1_and, K1one, notW, ifW, nth_zero, bin_lss, bin_gtr, bin_leq, bin_geq, bin_eql, bin_neq, bin_add, bin_sub, unl_self, y20, y21, ltT hi, decide_true, if_true, s_whole, sc12, idx_inss _ ha, ins_fptr, k50, hb, fill3, st3, put3, part3, fin_f, scan_hit h1 ha, fltC]
  · unfold s25_L0
    simp only [cellsW, forkW, fieldW, fieldF, Nat.reduceAdd, Nat.zero_add, List.append_assoc, List.cons_append, List.nil_append, lenadd, len1, len2, len3, len4, len5, loadN0, loadNk, loadCk, loadC0, loadF, partC, storeN0, storeNk, storeCk, mapS, bS, ↓KLn, K1_or, K1_and, K1one, notW, ifW, nth_zero, bin_lss, bin_gtr, bin_leq, bin_geq, bin_eql, bin_neq, bin_add, bin_sub, unl_self, y20, y21, ltF, decide_false, Bool.false_eq_true, if_false, fill_none, st3, put3, part3, fin_f, scan_none h1]
    rfl
end Go.Vm.X
