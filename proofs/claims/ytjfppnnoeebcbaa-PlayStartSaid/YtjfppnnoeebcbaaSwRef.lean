/- Songs: faults (the reference). -/
import Derived.Test.YtjfppnnoeebcbaaSwWrong
set_option linter.unusedSimpArgs false
set_option linter.unusedVariables false
namespace Go.Vm.X
open Go.Am Go.Vm
attribute [local congr] bind_c ifP_c loop_c K1_c ite_c fork_c guard_c

theorem iv0 (a : Int) : (iV a)[0]? = some (.int .i64 a) := nr rfl
def unF (ok : Bool) (part : ByteArray) (e : Int) : Flt := if ok = true then noF else (part, 0, e)
def fltsPV (l : List Flt) : PV := .frz 3 (l.map fltC)
theorem len_flts (l : List Flt) : lenP false (fltsPV l) = some (.int .i64 l.length) := len_map
theorem idx_flts {l : List Flt} {i : Nat} {c : Flt} (k : IntKind) (h : l[i]? = some c) : indexAddrP 3 (fltsPV l) (.int k i) = some (.fptr (fltC c) 0) := idx_map k h
theorem flt_whole (f : Flt) : partP true 0 3 (fltC f) = some (.agg (fltC f)) := part_all rfl
theorem fin_flt (h l : PHeap) (f : Flt) : finP [.keep] h (h ++ l) [.agg (fltC f)] = some (.agg (fltC f), h) := fin_k1 rfl
theorem fin_fltb (h l : PHeap) (f : Flt) (b : Bool) : finP [.keep, .keep] h (h ++ l) [.agg (fltC f), .bool b] = some (.tuple [.agg (fltC f), .bool b], h) := fin_k2 rfl rfl
def firstR (l : List Flt) : Flt × Bool := match l.find? isF with | some f => (f, true) | none => (noF, false)
theorem c31 (ok : Bool) (part : ByteArray) (e : Int) (h : PHeap) : Γ0 31 [.bool ok, .str part, .int .i64 e] h = some (.agg (fltC (unF ok part e)), h) := by
  refine gbody (F := A31) (by kernel_rfl) 1 ?_
  rw [s31_eq]; unfold s31 unF
  simp only [words, ↓KLn, Nat.reduceAdd, fill3, fill_none, st3, put3, part3, fin_f]
  cases ok <;> rfl
theorem c30 (l : List Flt) (hm : l.length < 9223372036854775808) (h : PHeap) : Γ0 30 [fltsPV l] h = some (resA (firstR l), h) := by
  obtain ⟨N, hN⟩ : ∃ N : Nat, l.length < N := ⟨_, Nat.lt_succ_self _⟩
  refine gbody (F := A30) (by kernel_rfl) N ?_
  rw [s30_eq]; unfold s30 firstR
  simp only [words, ↓KLn, Nat.reduceAdd, len_flts]
  refine loop_find l isF (fun i => [.int .i64 (i : Int)]) hN rfl (fun i a hi ha hb K => ?_) (fun i a hi ha hb h1 h2 K => ?_) (fun h1 h2 K => ?_)
  · unfold isF at hb
    unfold s30_L0
    simp only [words, ↓KLn, Nat.reduceAdd, ltT hi, decide_true, if_true, idx_flts _ ha, flt_whole, flt_st, flt_put, fc2, hb, Bool.false_eq_true, if_false, succ63 (show i < 9223372036854775807 by omega), trim_i1']
  · have hb' := hb
    unfold isF at hb
    unfold s30_L0
    simp only [words, ↓KLn, Nat.reduceAdd, ltT hi, decide_true, if_true, idx_flts _ ha, flt_whole, flt_st, flt_put, fc2, hb, fin_fltb, find_idx, h1, ha, Option.bind_some, resA]
  · unfold s30_L0
    simp only [words, ↓KLn, Nat.reduceAdd, ltF, decide_false, Bool.false_eq_true, if_false, fill_none, st3, put3, part3, fin_fb, find_idx, h1, Option.bind_none, resA]
    rfl
def scanF {α : Type} (part : ByteArray) (code : α → Int) (l : List α) : Flt := match l.findIdx? (fun a => code a != 0) with | some i => (part, i, (l[i]?.map code).getD 0) | none => noF
theorem scan_hit {α : Type} {part : ByteArray} {code : α → Int} {l : List α} {i : Nat} {a : α} (h1 : l.findIdx? (fun a => code a != 0) = some i) (h2 : l[i]? = some a) : scanF part code l = (part, (i : Int), code a) := by
  unfold scanF; rw [h1]; simp only [h2, Option.map_some, Option.getD_some]
theorem scan_none {α : Type} {part : ByteArray} {code : α → Int} {l : List α} (h1 : l.findIdx? (fun a => code a != 0) = none) : scanF part code l = noF := by
  unfold scanF; rw [h1]
/-- The reference's walk of a pattern. -/
theorem c59 (s : Sng) (hl : SngLen s) (p : Pat) (hpm : p.2.length < 9223372036854775808) (h : PHeap) : Γ0 59 [.agg s.cs, .agg (patC p), .int .i64 (qI s.dia 3)] h = some (.int .i64 (patCode s p), h) := by
  obtain ⟨N, hN⟩ : ∃ N : Nat, p.2.length < N := ⟨_, Nat.lt_succ_self _⟩
  refine gbody (F := A59) (by kernel_rfl) N ?_
  rw [s59_eq]; unfold s59 patCode patBad
  simp only [words, ↓KLn, Nat.reduceAdd, pc0, pat_fptr, sc2, c80p p hpm, fin_int]
  cases ((qI s.dia 3 != 0 && p.1 != qI s.dia 3) || !patOK p.1 p.2 s.ch) with
  | true => rfl
  | false =>
    simp only [Bool.false_eq_true, if_false, Bool.false_or]
    refine loop_find p.2 (fun c => !cellIn s.dia c) (fun i => [.int .i64 (i : Int)]) hN rfl (fun i a hi ha hb K => ?_) (fun i a hi ha hb h1 h2 K => ?_) (fun h1 h2 K => ?_)
    · unfold s59_L1
      simp only [words, ↓KLn, Nat.reduceAdd, pc1, len_cells, ltT hi, decide_true, if_true, sc1, idx_cells _ ha, cell_whole, c81, hb, Bool.false_eq_true, if_false, succ63 (show i < 9223372036854775807 by omega), trim_i2']
    · unfold s59_L1
      simp only [words, ↓KLn, Nat.reduceAdd, pc1, len_cells, ltT hi, decide_true, if_true, sc1, idx_cells _ ha, cell_whole, c81, hb, fin_int, h2]
    · unfold s59_L1
      simp only [words, ↓KLn, Nat.reduceAdd, pc1, len_cells, ltF, decide_false, Bool.false_eq_true, if_false, h2]
      refine loop_find p.2 (fun c => decide (c.inst > names s)) (fun i => [.int .i64 (i : Int)]) hN rfl (fun i a hi ha hb K => ?_) (fun i a hi ha hb h1 h2 K => ?_) (fun h1 h2 K => ?_)
      · unfold s59_L0
        simp only [words, ↓KLn, Nat.reduceAdd, pc1, len_cells, ltT hi, decide_true, if_true, sc1, idx_cells _ ha, cc1, s_whole, c82, hb, Bool.false_eq_true, if_false, succ63 (show i < 9223372036854775807 by omega), trim_i2']
      · unfold s59_L0
        simp only [words, ↓KLn, Nat.reduceAdd, pc1, len_cells, ltT hi, decide_true, if_true, sc1, idx_cells _ ha, cc1, s_whole, c82, hb, fin_int, h2]
      · unfold s59_L0
        simp only [words, ↓KLn, Nat.reduceAdd, pc1, len_cells, ltF, decide_false, Bool.false_eq_true, if_false, h2, fin_int]
theorem c34 (s : Sng) (hl : SngLen s) (h : PHeap) : Γ0 34 [.agg s.cs, .int .i64 (qI s.dia 3)] h = some (.agg (fltC (scanF ⟨#[112, 97, 116, 116, 101, 114, 110, 115]⟩ (patCode s) s.pats)), h) := by
  obtain ⟨N, hN⟩ : ∃ N : Nat, s.pats.length < N := ⟨_, Nat.lt_succ_self _⟩
  refine gbody (F := A34) (by kernel_rfl) N ?_
  rw [s34_eq]; unfold s34
  have hm := hl.pats
  simp only [words, ↓KLn, Nat.reduceAdd, sc10, len_pats]
  refine loop_find s.pats (fun p => patCode s p != 0) (fun i => [.int .i64 (i : Int)]) hN rfl (fun i a hi ha hb K => ?_) (fun i a hi ha hb h1 h2 K => ?_) (fun h1 h2 K => ?_)
  · have k47 := c59 s hl a (hl.cells a (List.mem_of_getElem? ha))
    unfold s34_L0
    simp only [words, ↓KLn, Nat.reduceAdd, ltT hi, decide_true, if_true, s_whole, sc10, idx_pats _ ha, pat_fptr, k47, hb, Bool.false_eq_true, if_false, succ63 (show i < 9223372036854775807 by omega), trim_i2']
  · have k47 := c59 s hl a (hl.cells a (List.mem_of_getElem? ha))
    unfold s34_L0
    simp only [words, ↓KLn, Nat.reduceAdd, ltT hi, decide_true, if_true, s_whole, sc10, idx_pats _ ha, pat_fptr, k47, hb, fill3, st3, put3, part3, fin_f, scan_hit h1 ha, fltC]
  · unfold s34_L0
    simp only [words, ↓KLn, Nat.reduceAdd, ltF, decide_false, Bool.false_eq_true, if_false, fill_none, st3, put3, part3, fin_f, scan_none h1]
    rfl
theorem c35 (s : Sng) (hl : SngLen s) (h : PHeap) : Γ0 35 [.agg s.cs] h = some (.agg (fltC (scanF ⟨#[111, 114, 100, 101, 114, 115]⟩ (fun o => if ordBad s o = true then 10 else 0) s.ords)), h) := by
  obtain ⟨N, hN⟩ : ∃ N : Nat, s.ords.length < N := ⟨_, Nat.lt_succ_self _⟩
  refine gbody (F := A35) (by kernel_rfl) N ?_
  rw [s35_eq]; unfold s35
  have hm := hl.ords
  have hp : ∀ o, ((if ordBad s o = true then (10 : Int) else 0) != 0) = ordBad s o := fun o => by cases ordBad s o <;> rfl
  simp only [words, ↓KLn, Nat.reduceAdd, sc3, len_ints]
  refine loop_find s.ords (fun o => (if ordBad s o = true then (10 : Int) else 0) != 0) (fun i => [.int .i64 (i : Int)]) hN rfl (fun i a hi ha hb K => ?_) (fun i a hi ha hb h1 h2 K => ?_) (fun h1 h2 K => ?_)
  · simp only [hp] at hb
    unfold ordBad at hb
    unfold s35_L0
    simp only [words, ↓KLn, Nat.reduceAdd, ltT hi, decide_true, if_true, idx_ints _ ha, iv0, c60, sc10, len_pats, c33, hb, Bool.false_eq_true, if_false, succ63 (show i < 9223372036854775807 by omega), trim_i2']
  · have hb2 := hb
    simp only [hp] at hb
    have hb' := hb
    unfold ordBad at hb
    unfold s35_L0
    simp only [words, ↓KLn, Nat.reduceAdd, ltT hi, decide_true, if_true, idx_ints _ ha, iv0, c60, sc10, len_pats, c33, hb, fill3, st3, put3, part3, fin_f, scan_hit h1 ha, fltC, hb']
  · unfold s35_L0
    simp only [words, ↓KLn, Nat.reduceAdd, ltF, decide_false, Bool.false_eq_true, if_false, fill_none, st3, put3, part3, fin_f, scan_none h1]
    rfl
theorem c36 (s : Sng) (hl : SngLen s) (h : PHeap) : Γ0 36 [.agg s.cs] h = some (.agg (fltC (scanF ⟨#[112, 97, 110, 115]⟩ (fun o => if (!inW o 0 256) = true then 5 else 0) s.pans)), h) := by
  obtain ⟨N, hN⟩ : ∃ N : Nat, s.pans.length < N := ⟨_, Nat.lt_succ_self _⟩
  refine gbody (F := A36) (by kernel_rfl) N ?_
  rw [s36_eq]; unfold s36
  have hm := hl.pans
  have hp : ∀ o : Int, ((if (!inW o 0 256) = true then (5 : Int) else 0) != 0) = !inW o 0 256 := fun o => by cases inW o 0 256 <;> rfl
  simp only [words, ↓KLn, Nat.reduceAdd, sc9, len_ints]
  refine loop_find s.pans (fun o => (if (!inW o 0 256) = true then (5 : Int) else 0) != 0) (fun i => [.int .i64 (i : Int)]) hN rfl (fun i a hi ha hb K => ?_) (fun i a hi ha hb h1 h2 K => ?_) (fun h1 h2 K => ?_)
  · simp only [hp] at hb
    unfold s36_L0
    simp only [words, ↓KLn, Nat.reduceAdd, ltT hi, decide_true, if_true, idx_ints _ ha, iv0, c33, hb, Bool.false_eq_true, if_false, succ63 (show i < 9223372036854775807 by omega), trim_i2']
  · simp only [hp] at hb
    unfold s36_L0
    simp only [words, ↓KLn, Nat.reduceAdd, ltT hi, decide_true, if_true, idx_ints _ ha, iv0, c33, hb, fill3, st3, put3, part3, fin_f, scan_hit h1 ha, fltC]
  · unfold s36_L0
    simp only [words, ↓KLn, Nat.reduceAdd, ltF, decide_false, Bool.false_eq_true, if_false, fill_none, st3, put3, part3, fin_f, scan_none h1]
    rfl
theorem smp_fptr (c : Smp) : partP true 0 13 c.cs = some (.agg c.cs) := part_all rfl
theorem c37 (s : Sng) (hl : SngLen s) (h : PHeap) : Γ0 37 [.agg s.cs] h = some (.agg (fltC (scanF ⟨#[115, 97, 109, 112, 108, 101, 115]⟩ (fun x => if (!smpOK x) = true then 1 else 0) s.smps)), h) := by
  obtain ⟨N, hN⟩ : ∃ N : Nat, s.smps.length < N := ⟨_, Nat.lt_succ_self _⟩
  refine gbody (F := A37) (by kernel_rfl) N ?_
  rw [s37_eq]; unfold s37
  have hm := hl.smps
  have hp : ∀ x : Smp, ((if (!smpOK x) = true then (1 : Int) else 0) != 0) = !smpOK x := fun o => by cases smpOK o <;> rfl
  simp only [words, ↓KLn, Nat.reduceAdd, sc11, len_smps]
  refine loop_find s.smps (fun x => (if (!smpOK x) = true then (1 : Int) else 0) != 0) (fun i => [.int .i64 (i : Int)]) hN rfl (fun i a hi ha hb K => ?_) (fun i a hi ha hb h1 h2 K => ?_) (fun h1 h2 K => ?_)
  · simp only [hp] at hb
    have hx := hl.smp a (List.mem_of_getElem? ha)
    unfold s37_L0
    simp only [words, ↓KLn, Nat.reduceAdd, ltT hi, decide_true, if_true, sc11, idx_smps _ ha, smp_fptr, c61 a (by omega) (by omega), hb, Bool.false_eq_true, if_false, succ63 (show i < 9223372036854775807 by omega), trim_i2']
  · simp only [hp] at hb
    have hx := hl.smp a (List.mem_of_getElem? ha)
    unfold s37_L0
    simp only [words, ↓KLn, Nat.reduceAdd, ltT hi, decide_true, if_true, sc11, idx_smps _ ha, smp_fptr, c61 a (by omega) (by omega), hb, fill3, st3, put3, part3, fin_f, scan_hit h1 ha, fltC]
  · unfold s37_L0
    simp only [words, ↓KLn, Nat.reduceAdd, ltF, decide_false, Bool.false_eq_true, if_false, fill_none, st3, put3, part3, fin_f, scan_none h1]
    rfl
theorem c62 (s : Sng) (x : Ins) (hx : InsLen x) (h : PHeap) : Γ0 62 [.agg s.cs, .agg x.cs] h = some (.int .i64 (insCode s x), h) := by
  obtain ⟨N, hN⟩ : ∃ N : Nat, x.keys.length < N := ⟨_, Nat.lt_succ_self _⟩
  refine gbody (F := A62) (by kernel_rfl) N ?_
  rw [s62_eq]; unfold s62 insCode
  have hkm := hx.keys
  simp only [words, ↓KLn, Nat.reduceAdd, ins_fptr, c85 x hx, fin_int]
  cases insOK x with
  | false => rfl
  | true =>
    simp only [Bool.not_true, Bool.false_eq_true, if_false]
    refine loop_find x.keys (fun k => decide (k.2 > (s.smps.length : Int))) (fun i => [.int .i64 (i : Int)]) hN rfl (fun i a hi ha hb K => ?_) (fun i a hi ha hb h1 h2 K => ?_) (fun h1 h2 K => ?_)
    · have k1 : (keyC a)[1]? = some (.int .i64 a.2) := rfl
      unfold s62_L0
      simp only [words, ↓KLn, Nat.reduceAdd, ic1, len_keys, ltT hi, decide_true, if_true, idx_keys _ ha, k1, sc11, len_smps, hb, Bool.false_eq_true, if_false, succ63 (show i < 9223372036854775807 by omega), trim_i2']
    · have k1 : (keyC a)[1]? = some (.int .i64 a.2) := rfl
      unfold s62_L0
      simp only [words, ↓KLn, Nat.reduceAdd, ic1, len_keys, ltT hi, decide_true, if_true, idx_keys _ ha, k1, sc11, len_smps, hb, fin_int, h2]
    · unfold s62_L0
      simp only [words, ↓KLn, Nat.reduceAdd, ic1, len_keys, ltF, decide_false, Bool.false_eq_true, if_false, h2, fin_int]
theorem c38 (s : Sng) (hl : SngLen s) (h : PHeap) : Γ0 38 [.agg s.cs] h = some (.agg (fltC (scanF ⟨#[105, 110, 115, 116, 115]⟩ (insCode s) s.inss)), h) := by
  obtain ⟨N, hN⟩ : ∃ N : Nat, s.inss.length < N := ⟨_, Nat.lt_succ_self _⟩
  refine gbody (F := A38) (by kernel_rfl) N ?_
  rw [s38_eq]; unfold s38
  have hm := hl.inss
  simp only [words, ↓KLn, Nat.reduceAdd, sc12, len_inss]
  refine loop_find s.inss (fun p => insCode s p != 0) (fun i => [.int .i64 (i : Int)]) hN rfl (fun i a hi ha hb K => ?_) (fun i a hi ha hb h1 h2 K => ?_) (fun h1 h2 K => ?_)
  · have k50 := c62 s a (hl.ins a (List.mem_of_getElem? ha))
    unfold s38_L0
    simp only [words, ↓KLn, Nat.reduceAdd, ltT hi, decide_true, if_true, s_whole, sc12, idx_inss _ ha, ins_fptr, k50, hb, Bool.false_eq_true, if_false, succ63 (show i < 9223372036854775807 by omega), trim_i2']
  · have k50 := c62 s a (hl.ins a (List.mem_of_getElem? ha))
    unfold s38_L0
    simp only [words, ↓KLn, Nat.reduceAdd, ltT hi, decide_true, if_true, s_whole, sc12, idx_inss _ ha, ins_fptr, k50, hb, fill3, st3, put3, part3, fin_f, scan_hit h1 ha, fltC]
  · unfold s38_L0
    simp only [words, ↓KLn, Nat.reduceAdd, ltF, decide_false, Bool.false_eq_true, if_false, fill_none, st3, put3, part3, fin_f, scan_none h1]
    rfl
end Go.Vm.X
