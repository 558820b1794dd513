/- Songs: what is wrong with a song (the reference), and that both say the same. -/
import Derived.Test.YtjfppnnoeebcbaaSwRef
set_option linter.unusedSimpArgs false
set_option linter.unusedVariables false
set_option maxRecDepth 20000
namespace Go.Vm.X
open Go.Am Go.Vm
attribute [local congr] bind_c ifP_c loop_c K1_c ite_c fork_c guard_c unl_c

def headL (s : Sng) : List Flt := [unF (nameOK s.name) ⟨#[110, 97, 109, 101]⟩ 1, unF (kindE s.dia == 0) ⟨#[100, 105, 97, 108, 101, 99, 116]⟩ 6, unF (inW s.ch 1 (qI s.dia 1)) ⟨#[99, 104, 97, 110, 110, 101, 108, 115]⟩ 5]
def restL (s : Sng) : List Flt := [
  unF (inW s.pats.length 1 (qI s.dia 2)) ⟨#[112, 97, 116, 116, 101, 114, 110, 115]⟩ 4,
  scanF ⟨#[112, 97, 116, 116, 101, 114, 110, 115]⟩ (patCode s) s.pats,
  unF (inW s.ords.length 1 64) ⟨#[111, 114, 100, 101, 114, 115]⟩ 4,
  scanF ⟨#[111, 114, 100, 101, 114, 115]⟩ (fun o => if ordBad s o = true then 10 else 0) s.ords,
  unF (inW s.rest 0 (IntKind.i64.wrap ((s.ords.length : Int) - 1))) ⟨#[114, 101, 115, 116, 97, 114, 116]⟩ 5,
  unF (inW s.spd 1 31) ⟨#[115, 112, 101, 101, 100]⟩ 5,
  unF (inW s.tem 32 255) ⟨#[116, 101, 109, 112, 111]⟩ 5,
  unF (inW s.glb 0 128) ⟨#[103, 108, 111, 98, 97, 108]⟩ 5,
  unF (!s.lin || qB s.dia 8) ⟨#[108, 105, 110, 101, 97, 114]⟩ 6,
  unF ((s.pans.length : Int) == s.ch) ⟨#[112, 97, 110, 115]⟩ 4,
  scanF ⟨#[112, 97, 110, 115]⟩ (fun o => if (!inW o 0 256) = true then 5 else 0) s.pans,
  unF (decide ((s.smps.length : Int) ≤ 31) && (s.dia != 6 || (s.smps.length : Int) == 0)) ⟨#[115, 97, 109, 112, 108, 101, 115]⟩ 4,
  scanF ⟨#[115, 97, 109, 112, 108, 101, 115]⟩ (fun x => if (!smpOK x) = true then 1 else 0) s.smps,
  unF (decide ((s.inss.length : Int) ≤ 31) && (qB s.dia 6 || (s.inss.length : Int) == 0)) ⟨#[105, 110, 115, 116, 115]⟩ 4,
  scanF ⟨#[105, 110, 115, 116, 115]⟩ (insCode s) s.inss]
def wrongR (s : Sng) : Flt := match (headL s).find? isF with | some f => f | none => match (restL s).find? isF with | some f => f | none => okF
theorem fill_f3 (a b c : Flt) : fillP (repP [.str ⟨#[]⟩, .int .i64 0, .int .i64 0] 3) [(0, 3, .agg (fltC a)), (3, 3, .agg (fltC b)), (6, 3, .agg (fltC c))] = some ([a, b, c].map fltC).flatten := nr rfl
theorem pure_f3 (a b c : Flt) : ([a, b, c].map fltC).flatten.all pure1 = true := nr rfl
theorem chunk_f3 (a b c : Flt) : (PV.frz 3 (chunk 3 3 ([a, b, c].map fltC).flatten)) = fltsPV [a, b, c] := nr rfl
theorem fill_f15 (a b c d e f g i j k l m n o p : Flt) : fillP (repP [.str ⟨#[]⟩, .int .i64 0, .int .i64 0] 15) [(0, 3, .agg (fltC a)), (3, 3, .agg (fltC b)), (6, 3, .agg (fltC c)), (9, 3, .agg (fltC d)), (12, 3, .agg (fltC e)), (15, 3, .agg (fltC f)), (18, 3, .agg (fltC g)), (21, 3, .agg (fltC i)), (24, 3, .agg (fltC j)), (27, 3, .agg (fltC k)), (30, 3, .agg (fltC l)), (33, 3, .agg (fltC m)), (36, 3, .agg (fltC n)), (39, 3, .agg (fltC o)), (42, 3, .agg (fltC p))] = some ([a, b, c, d, e, f, g, i, j, k, l, m, n, o, p].map fltC).flatten := nr (by kernel_rfl)
theorem pure_f15 (a b c d e f g i j k l m n o p : Flt) : ([a, b, c, d, e, f, g, i, j, k, l, m, n, o, p].map fltC).flatten.all pure1 = true := nr (by kernel_rfl)
theorem chunk_f15 (a b c d e f g i j k l m n o p : Flt) : (PV.frz 3 (chunk 3 15 ([a, b, c, d, e, f, g, i, j, k, l, m, n, o, p].map fltC).flatten)) = fltsPV [a, b, c, d, e, f, g, i, j, k, l, m, n, o, p] := nr (by kernel_rfl)
theorem fork_frz {R : Type} (l : List PV) (n : Nat) (h : PHeap) (k : PV → PHeap → Option R) : forkP (.frz 3 (chunk 3 n l)) h k = k (.frz 3 (chunk 3 n l)) h := forkW _ _ _
theorem flt_put' (f g : Flt) : putAt (fltC g) 0 (fltC f) = some (fltC f) := put_whole rfl rfl
theorem c32' {s : Sng} (hl : SngLen s) (h : PHeap) : Γ0 32 [.str s.name] h = some (.bool (nameOK s.name), h) := c32 (by have := hl.name; omega) h
theorem c22 (s : Sng) (hl : SngLen s) (h : PHeap) : Γ0 22 [.agg s.cs] h = some (wrongV (wrongR s), h) := by
  refine gbody (F := A22) (by kernel_rfl) 1 ?_
  rw [s22_eq]; unfold s22 wrongR
  have hq := q_put s.dia (vs := Z29) rfl
  have k17a := fun a b c h => c30 [a, b, c] (show 3 < 9223372036854775808 by decide) h
  have k17b := fun a b c d e f g i j k l m n o p h => c30 [a, b, c, d, e, f, g, i, j, k, l, m, n, o, p] (show 15 < 9223372036854775808 by decide) h
  simp only [words, ↓KLn, Nat.reduceAdd, sc0, sc1, sc2, c29, q_st, hq, c32' hl, c31, c33, q_1, fill_f3, pure_f3, guardW, chunk_f3, k17a, resA, flt_st, flt_put]
  show (if (firstR (headL s)).2 = true then _ else _) = _
  have hfold : ∀ f, [unF (nameOK s.name) ⟨#[110, 97, 109, 101]⟩ 1, unF (kindE s.dia == 0) ⟨#[100, 105, 97, 108, 101, 99, 116]⟩ 6, unF (inW s.ch 1 (qI s.dia 1)) ⟨#[99, 104, 97, 110, 110, 101, 108, 115]⟩ 5] = f ↔ headL s = f := fun f => Iff.rfl
  cases hf : (headL s).find? isF with
  | some f =>
    have e1 : firstR (headL s) = (f, true) := by unfold firstR; rw [hf]
    unfold headL at e1 ⊢
    simp only [e1, if_true, words, ↓KLn, Nat.reduceAdd, fc0, fc1, fc2, fin_w]
    rfl
  | none =>
    have e1 : firstR (headL s) = (noF, false) := by unfold firstR; rw [hf]
    unfold headL at e1 ⊢
    simp only [e1, Bool.false_eq_true, if_false, words, ↓KLn, Nat.reduceAdd, sc1, sc2, sc3, sc4, sc5, sc6, sc7, sc8, sc9, sc10, sc11, sc12, q_2, q_3, q_6, q_8, s_whole, len_pats, len_ints, len_smps, len_inss, c31, c33, c34 s hl, c35 s hl, c36 s hl, c37 s hl, c38 s hl, fill_f15, pure_f15, guardW, chunk_f15, k17b, resA, flt_st, flt_put']
    show (if (firstR (restL s)).2 = true then _ else _) = _
    cases hg : (restL s).find? isF with
    | some f =>
      have e2 : firstR (restL s) = (f, true) := by unfold firstR; rw [hg]
      unfold restL at e2 ⊢
      simp only [e2, if_true, words, ↓KLn, Nat.reduceAdd, fc0, fc1, fc2, fin_w]
      rfl
    | none =>
      have e2 : firstR (restL s) = (noF, false) := by unfold firstR; rw [hg]
      unfold restL at e2 ⊢
      simp only [e2, Bool.false_eq_true, if_false, words, ↓KLn, Nat.reduceAdd, fin_w]
      rfl
end Go.Vm.X
