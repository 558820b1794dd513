
/- Songs: cells of a dialect. -/
import Derived.Test.YtaacaogceplhoaaIkNote
set_option linter.unusedSimpArgs false
set_option linter.unusedVariables false
namespace Go.Vm.X
open Go.Am Go.Vm
attribute [local congr] bind_c ifP_c loop_c K1_c ite_c scP_c

def cellIn (d : Int) (c : Cell) : Bool := inW d 1 6 && (cellOK c && (noteOK d c.note && (decide (c.vc ≤ volc d) && (c.ef == 0 || (lettersL d).contains (letterU c.ef).toUInt8))))
theorem bys_str (l : List UInt8) : bys ⟨l.toArray⟩ = l := by simp [bys]
theorem cell_ef {c : Cell} (h : cellOK c = true) : 0 ≤ c.ef ∧ c.ef ≤ 36 := by
  unfold cellOK inW at h
  simp only [Bool.and_eq_true, decide_eq_true_eq] at h
  exact h.2.1.1
theorem strOf_size (d : Int) : (⟨(lettersL d).toArray⟩ : ByteArray).size ≤ 26 := by
  show (lettersL d).toArray.size ≤ 26
  rw [List.size_toArray]
  unfold lettersL
  repeat' split
  all_goals decide
theorem load_new2 {h l : PHeap} {vs : List PV} {t : TypeId} {k : Nat} {v : PV} (hv : vs[k]? = some v) : loadP false 1 (.ptr h.length k) ((h ++ [.box vs t .rw]) ++ l) = some v := by
  rw [List.append_assoc, load_box, boxAt_some (vs := vs) (t := t) (md := .rw) (by rw [get_new0]; rfl), Option.bind_some, part_cell, hv]
theorem box_all2 {h l : PHeap} {n : Nat} {vs : List PV} {t : TypeId} (h1 : vs.length = n) : loadP true n (.ptr h.length 0) ((h ++ [.box vs t .rw]) ++ l) = some (.agg vs) := by
  rw [List.append_assoc, load_box, boxAt_some (vs := vs) (t := t) (md := .rw) (by rw [get_new0]; rfl), Option.bind_some, part_all h1]
theorem fin_bool2 {h l m : PHeap} {b : Bool} : finP [.keep] h ((h ++ l) ++ m) [.bool b] = some (.bool b, h) := by rw [List.append_assoc]; exact fin_bool
theorem letterU_lt {e : Int} (h : 1 ≤ e ∧ e ≤ 36) : letterU e < 256 := by unfold letterU; split <;> omega
end Go.Vm.X
