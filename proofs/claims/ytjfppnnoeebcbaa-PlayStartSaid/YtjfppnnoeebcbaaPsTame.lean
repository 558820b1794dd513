/- Where a song starts: whether a song is of a size that is looked at; the two walks over the orders. -/
import Derived.Test.YtjfppnnoeebcbaaSwOK
import Derived.Test.YtjfppnnoeebcbaaPsFind
set_option linter.unusedSimpArgs false
set_option linter.unusedVariables false
namespace Go.Vm.X
open Go.Am Go.Vm
attribute [local congr] bind_c ifP_c loop_c K1_c ite_c fork_c guard_c unl_c

def patBig (p : Pat) : Bool := decide ((p.2.length : Int) > 2000)
def smpBig (x : Smp) : Bool := decide ((x.data.length : Int) > 5000) || decide ((x.name.size : Int) > 100)
def insBig (x : Ins) : Bool := (((decide ((x.keys.length : Int) > 200) || decide ((x.name.size : Int) > 100)) || decide ((x.vol.pts.length : Int) > 40)) || decide ((x.pan.pts.length : Int) > 40)) || decide ((x.pit.pts.length : Int) > 40)
def big0 (s : Sng) : Bool := ((((decide ((s.pats.length : Int) > 40) || decide ((s.ords.length : Int) > 100)) || decide ((s.pans.length : Int) > 40)) || decide ((s.smps.length : Int) > 40)) || decide ((s.inss.length : Int) > 40)) || decide ((s.name.size : Int) > 100)
def tameB (s : Sng) : Bool := if big0 s = true then false else !(s.pats.any patBig || (s.smps.any smpBig || s.inss.any insBig))
theorem smp_st (p : Smp) (vs : List PV) (t : TypeId) (l : PHeap) : storeP 13 (.ptr 0 0) (.agg p.cs) (.box vs t .rw :: l) = (putAt vs 0 p.cs).map fun vs' => .box vs' t .rw :: l := storeC0 rfl (by decide)
theorem smp_put (p : Smp) (a b c d e f g i j k l m n : PV) : putAt [a, b, c, d, e, f, g, i, j, k, l, m, n] 0 p.cs = some p.cs := put_whole rfl rfl
theorem mc0 (p : Smp) : p.cs[0]? = some (.str p.name) := nr rfl
theorem mc1 (p : Smp) : p.cs[1]? = some (ints p.data) := nr rfl
theorem ic0 (p : Ins) : p.cs[0]? = some (.str p.name) := nr rfl
theorem ic3 (p : Ins) : p.cs[3]? = some (ptsPV p.vol.pts) := nr rfl
theorem ic11 (p : Ins) : p.cs[11]? = some (ptsPV p.pan.pts) := nr rfl
theorem ic19 (p : Ins) : p.cs[19]? = some (ptsPV p.pit.pts) := nr rfl
theorem insZ_put (p : Ins) : putAt Z33 0 p.cs = some p.cs := put_whole rfl rfl
theorem c4 (s : Sng) (hl : SngLen s) (h : PHeap) : Γ0 4 [.agg s.cs] h = some (.bool (tameB s), h) := by
  obtain ⟨N, h1, h2, h3⟩ : ∃ N : Nat, s.pats.length < N ∧ s.smps.length < N ∧ s.inss.length < N := ⟨s.pats.length + s.smps.length + s.inss.length + 1, by omega, by omega, by omega⟩
  refine gbody (F := A4) (by kernel_rfl) N ?_
  rw [s4_eq]; unfold s4 tameB big0
  have m1 := hl.pats
  have m2 := hl.smps
  have m3 := hl.inss
  simp only [words, ↓KLn, Nat.reduceAdd, sc0, sc3, sc9, sc10, sc11, sc12, len_ints, len_str, len_pats, len_smps, len_inss, fin_bool]
  cases (((((decide ((s.pats.length : Int) > 40) || decide ((s.ords.length : Int) > 100)) || decide ((s.pans.length : Int) > 40)) || decide ((s.smps.length : Int) > 40)) || decide ((s.inss.length : Int) > 40)) || decide ((s.name.size : Int) > 100)) with
  | true => rfl
  | false =>
    simp only [Bool.false_eq_true, if_false]
    refine loop_find s.pats patBig (fun i => [.int .i64 (i : Int)]) h1 rfl (fun i p hi hp hb K => ?_) (fun i p hi hp hb g1 g2 K => ?_) (fun g1 g2 K => ?_)
    · unfold patBig at hb
      unfold s4_L2
      simp only [words, ↓KLn, Nat.reduceAdd, ltT hi, decide_true, if_true, idx_pats _ hp, pat_fptr, pat_st, pat_put, pc1, len_cells, hb, Bool.false_eq_true, if_false, succ63 (show i < 9223372036854775807 by omega), trim_i1']
    · rw [g2]
      unfold patBig at hb
      unfold s4_L2
      simp only [words, ↓KLn, Nat.reduceAdd, ltT hi, decide_true, if_true, idx_pats _ hp, pat_fptr, pat_st, pat_put, pc1, len_cells, hb, fin_bool, Bool.true_or, Bool.not_true]
    · rw [g2]
      unfold s4_L2
      simp only [words, ↓KLn, Nat.reduceAdd, ltF, decide_false, Bool.false_eq_true, if_false, sc11, len_smps, Bool.false_or]
      refine loop_find s.smps smpBig (fun i => [.int .i64 (i : Int)]) h2 rfl (fun i p hi hp hb K => ?_) (fun i p hi hp hb g1 g2 K => ?_) (fun g1 g2 K => ?_)
      · unfold smpBig at hb
        unfold s4_L1
        simp only [words, ↓KLn, Nat.reduceAdd, ltT hi, decide_true, if_true, idx_smps _ hp, smp_fptr, smp_st, smp_put, mc0, mc1, len_ints, len_str, hb, Bool.false_eq_true, if_false, succ63 (show i < 9223372036854775807 by omega), trim_i1']
      · rw [g2]
        unfold smpBig at hb
        unfold s4_L1
        simp only [words, ↓KLn, Nat.reduceAdd, ltT hi, decide_true, if_true, idx_smps _ hp, smp_fptr, smp_st, smp_put, mc0, mc1, len_ints, len_str, hb, fin_bool, Bool.true_or, Bool.not_true]
      · rw [g2]
        unfold s4_L1
        simp only [words, ↓KLn, Nat.reduceAdd, ltF, decide_false, Bool.false_eq_true, if_false, sc12, len_inss, Bool.false_or]
        refine loop_find s.inss insBig (fun i => [.int .i64 (i : Int)]) h3 rfl (fun i p hi hp hb K => ?_) (fun i p hi hp hb g1 g2 K => ?_) (fun g1 g2 K => ?_)
        · unfold insBig at hb
          unfold s4_L0
          simp only [words, ↓KLn, Nat.reduceAdd, ltT hi, decide_true, if_true, idx_inss _ hp, ins_fptr, ins_st, insZ_put, ic0, ic1, ic3, ic11, ic19, len_keys, len_pts, len_str, hb, Bool.false_eq_true, if_false, succ63 (show i < 9223372036854775807 by omega), trim_i1']
        · rw [g2]
          unfold insBig at hb
          unfold s4_L0
          simp only [words, ↓KLn, Nat.reduceAdd, ltT hi, decide_true, if_true, idx_inss _ hp, ins_fptr, ins_st, insZ_put, ic0, ic1, ic3, ic11, ic19, len_keys, len_pts, len_str, hb, fin_bool, Bool.not_true]
        · rw [g2]
          unfold s4_L0
          simp only [words, ↓KLn, Nat.reduceAdd, ltF, decide_false, Bool.false_eq_true, if_false, fin_bool, Bool.not_false]
end Go.Vm.X
