/- Songs: cells of a dialect. -/
import Derived.Test.YtjfppnnoeebcbaaSwNote
set_option linter.unusedSimpArgs false
set_option linter.unusedVariables false
namespace Go.Vm.X
open Go.Am Go.Vm
attribute [local congr] bind_c ifP_c loop_c K1_c ite_c scP_c

def cellIn (d : Int) (c : Cell) : Bool := inW d 1 6 && (cellOK c && (noteOK d c.note && (decide (c.vc ≤ volc d) && (c.ef == 0 || (lettersL d).contains (letterU c.ef).toUInt8))))
theorem bys_str (l : List UInt8) : bys ⟨l.toArray⟩ = l := by simp [bys]
theorem c70s (l : List UInt8) (c : Int) (h : PHeap) : Γ0 70 [strOf l, .int .u8 c] h = some (.int .i64 (Lib.indexByte l c.toNat.toUInt8), h) := by
  have := c70 ⟨l.toArray⟩ c h
  rwa [bys_str] at this
theorem cell_ef {c : Cell} (h : cellOK c = true) : 0 ≤ c.ef ∧ c.ef ≤ 36 := by
  unfold cellOK inW at h
  simp only [Bool.and_eq_true, decide_eq_true_eq] at h
  exact h.2.1.1
theorem c46 (d : Int) (c : Cell) (h : PHeap) : Γ0 46 [.int .i64 d, .agg c.cs] h = some (.bool (cellIn d c), h) := by
  refine gbody (F := A46) (by kernel_rfl) 1 ?_
  rw [s46_eq]
  unfold s46 cellIn
  have hb : loadP true 6 (.ptr h.length 0) (h ++ [.box c.cs 107 .rw]) = some (.agg c.cs) := box_all rfl
  simp only [fork_def, cells_agg, c39, bS, un_not, ↓K1n, ↓KLn, sc_or]
  cases hd : inW d 1 6 with
  | false => simp only [Bool.not_false, Bool.true_eq_false, if_false, if_bool, if_true, Bool.false_and, fin_bool]
  | true =>
    simp only [Bool.not_true, if_true, hb, c66, bS, un_not, Bool.true_and]
    cases hc : cellOK c with
    | false => simp only [Bool.not_false, Bool.true_eq_false, if_false, if_bool, if_true, Bool.false_and, fin_bool, sc_or, ↓K1n, ↓KLn]
    | true =>
      have hef := cell_ef hc
      simp only [Bool.not_true, if_true, field_new, cl0, cl2, cl4, c68 hd, bS, un_not, sc_or, ↓K1n, ↓KLn, Bool.true_and]
      cases hn : noteOK d c.note with
      | false => simp only [Bool.not_false, Bool.true_eq_false, if_false, if_bool, if_true, Bool.false_and, fin_bool, sc_or, ↓K1n, ↓KLn]
      | true =>
        simp only [Bool.not_true, if_true, field_new, cl0, cl2, cl4, c69, bS, un_not, sc_or, ↓K1n, ↓KLn, unl_self, bin_gtr, Bool.true_and, if_bool, decide_eq_true_eq]
        by_cases hv : c.vc > volc d
        · have : decide (c.vc ≤ volc d) = false := decide_eq_false (by omega)
          simp only [hv, if_true, this, Bool.false_and, fin_bool]
        · have hv' : decide (c.vc ≤ volc d) = true := decide_eq_true (by omega)
          simp only [hv, if_false, hv', Bool.true_and, field_new, cl4, bS, bin_eql, ↓K1n, ↓KLn, if_bool]
          by_cases he : c.ef = 0
          · have : (c.ef == 0) = true := by rw [beq_iff_eq]; exact he
            simp only [this, if_true, Bool.true_or, fin_bool]
          · have he' : (c.ef == 0) = false := by rw [beq_eq_false_iff_ne]; exact he
            have k60 := fun H => c72 (e := c.ef) ⟨by omega, hef.2⟩ H
            simp only [he', Bool.false_eq_true, if_false, Bool.false_or, c71, bS, unl_self, field_new, cl4, k60, c70s, bin_geq, Int.toNat_natCast, (index_has _ _).1, fin_bool]
theorem strOf_size (d : Int) : (⟨(lettersL d).toArray⟩ : ByteArray).size ≤ 26 := by
  show (lettersL d).toArray.size ≤ 26
  rw [List.size_toArray]
  unfold lettersL
  repeat' split
  all_goals decide
theorem load_new2 {h l : PHeap} {vs : List PV} {t : TypeId} {k : Nat} {v : PV} (hv : vs[k]? = some v) : loadP false 1 (.ptr h.length k) ((h ++ [.box vs t .rw]) ++ l) = some v := by
  rw [List.append_assoc, load_box, boxAt_some (vs := vs) (t := t) (md := .rw) (by rw [get_new0]; rfl), Option.bind_some, part_cell, hv]
theorem box_all2 {h l : PHeap} {n : Nat} {vs : List PV} {t : TypeId} (h1 : vs.length = n) : loadP true n (.ptr h.length 0) ((h ++ [.box vs t .rw]) ++ l) = some (.agg vs) := by
  rw [List.append_assoc, load_box, boxAt_some (vs := vs) (t := t) (md := .rw) (by rw [get_new0]; rfl), Option.bind_some, part_all h1]
theorem fin_bool2 {h l m : PHeap} {b : Bool} : finP [.keep] h ((h ++ l) ++ m) [.bool b] = some (.bool b, h) := by rw [List.append_assoc]; exact fin_bool
theorem c92s (d : Int) (c : Nat) (hc : c < 256) (h : PHeap) : Γ0 92 [strOf (lettersL d), .int .u8 (c : Int)] h = some (.bool ((lettersL d).contains c.toUInt8), h) := by
  have := c92 (s := ⟨(lettersL d).toArray⟩) (by have := strOf_size d; omega) c hc h
  rwa [bys_str] at this
theorem letterU_lt {e : Int} (h : 1 ≤ e ∧ e ≤ 36) : letterU e < 256 := by unfold letterU; split <;> omega
theorem c81 (d : Int) (c : Cell) (h : PHeap) : Γ0 81 [.int .i64 d, .agg c.cs] h = some (.bool (cellIn d c), h) := by
  refine gbody (F := A81) (by kernel_rfl) 1 ?_
  rw [s81_eq]
  unfold s81 cellIn
  have hz : Z29.length = 29 := rfl
  have f0 := box_set (h := h ++ [.box c.cs 107 .rw]) (n := 29) (cs := qOf d) (vs := Z29) (t := 82) hz (qOf_len d) (by decide) (qOf_one d)
  have g0 : loadP false 1 (.ptr h.length 0) ((h ++ [.box c.cs 107 .rw]) ++ [.box (qOf d) 82 .rw]) = some (.int .i64 c.note) := load_new2 rfl
  have g2 : loadP false 1 (.ptr h.length 2) ((h ++ [.box c.cs 107 .rw]) ++ [.box (qOf d) 82 .rw]) = some (.int .i64 c.vc) := load_new2 rfl
  have g4 : loadP false 1 (.ptr h.length 4) ((h ++ [.box c.cs 107 .rw]) ++ [.box (qOf d) 82 .rw]) = some (.int .i64 c.ef) := load_new2 rfl
  have gb : loadP true 6 (.ptr h.length 0) ((h ++ [.box c.cs 107 .rw]) ++ [.box (qOf d) 82 .rw]) = some (.agg c.cs) := box_all2 rfl
  simp only [fork_def, cells_agg, c29, y20, y21, f0, bS, bin_neq, ↓K1n, ↓KLn, sc_or]
  unfold kindE
  cases hd : inW d 1 6 with
  | false =>
    have : ((if false = true then (0 : Int) else 6) != 0) = true := rfl
    simp only [this, Bool.true_eq_false, if_false, if_bool, if_true, Bool.false_and, fin_bool2]
  | true =>
    have z0 : ((0 : Int) != 0) = false := rfl
    simp only [if_true, z0, gb, c89, bS, un_not, Bool.true_and]
    cases hc : cellOK c with
    | false => simp only [Bool.not_false, if_bool, if_true, Bool.false_and, fin_bool2]
    | true =>
      have hef := cell_ef hc
      simp only [Bool.not_true, Bool.false_eq_true, if_false, if_bool, field_new, g0, c90, bS, ↓K1n, ↓KLn, sc_and, Bool.true_and]
      cases hn : noteOK d c.note with
      | false => simp only [Bool.false_eq_true, if_false, Bool.false_and, fin_bool2]
      | true =>
        simp only [if_true, field_new, g2, c91, bS, unl_self, bin_leq, sc_and, Bool.true_and]
        cases hv : decide (c.vc ≤ volc d) with
        | false => simp only [Bool.false_eq_true, if_false, Bool.false_and, fin_bool2]
        | true =>
          simp only [if_true, field_new, g4, bS, bin_eql, ↓K1n, sc_or, Bool.true_and]
          by_cases he : c.ef = 0
          · have : (c.ef == 0) = true := by rw [beq_iff_eq]; exact he
            simp only [this, Bool.true_eq_false, if_false, Bool.true_or, fin_bool2]
          · have he' : (c.ef == 0) = false := by rw [beq_eq_false_iff_ne]; exact he
            have k82 := fun H => c94 (e := c.ef) ⟨by omega, hef.2⟩ H
            have hlt := letterU_lt (e := c.ef) ⟨by omega, hef.2⟩
            simp only [he', if_true, Bool.false_or, c93, bS, unl_self, field_new, g4, k82, c92s d _ hlt, fin_bool2]
end Go.Vm.X
