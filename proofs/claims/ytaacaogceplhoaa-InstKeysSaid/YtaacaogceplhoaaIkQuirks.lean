
/- Songs: the quirks of a dialect. -/
import Derived.Test.YtaacaogceplhoaaIkRows
set_option linter.unusedSimpArgs false
set_option linter.unusedVariables false
namespace Go.Vm.X
open Go.Am Go.Vm
attribute [local congr] bind_c ifP_c loop_c K1_c

def plainV : PV → Bool
  | .int _ _ => true
  | .bool _ => true
  | .str _ => true
  | _ => false
theorem plain_lt {n : Nat} : ∀ {v : PV}, plainV v = true → ltV n v
  | .int _ _, _ => lt_int _ _ _
  | .bool _, _ => lt_bool _ _
  | .str _, _ => lt_str _ _
theorem agg_lt {l : List PV} (h : l.all plainV = true) (n : Nat) : ltV n (.agg l) := by
  simp only [ltV]
  exact fun x hx => plain_lt (List.all_eq_true.1 h x hx)
def qTab : List PV := qrow0 ++ qrow1 ++ qrow2 ++ qrow3 ++ qrow4 ++ qrow5 ++ qrow6
def qOf (d : Int) : List PV := if d = 1 then qrow1 else if d = 2 then qrow2 else if d = 3 then qrow3 else if d = 4 then qrow4 else if d = 5 then qrow5 else if d = 6 then qrow6 else qrow0
theorem qOf_out {d : Int} (h : inW d 1 6 = false) : qOf d = qrow0 := by
  unfold inW at h
  simp only [Bool.and_eq_false_iff, decide_eq_false_iff_not] at h
  unfold qOf
  rw [if_neg (by omega), if_neg (by omega), if_neg (by omega), if_neg (by omega), if_neg (by omega), if_neg (by omega)]
theorem qOf_len (d : Int) : (qOf d).length = 29 := by unfold qOf; repeat' split
                                                      all_goals rfl
theorem qOf_one (d : Int) : (qOf d).all oneP = true := by unfold qOf; repeat' split
                                                          all_goals rfl
theorem qOf_plain (d : Int) : (qOf d).all plainV = true := by unfold qOf; repeat' split
                                                              all_goals rfl
/-- A value in a box that is new. -/
theorem box_set {h : PHeap} {n : Nat} {cs vs : List PV} {t : TypeId} (h1 : vs.length = n) (h2 : cs.length = n) (h0 : 0 < n) (hv : cs.all oneP = true) : storeP n (.ptr h.length 0) (.agg cs) (h ++ [.box vs t .rw]) = some (h ++ [.box cs t .rw]) := by
  rw [store_whole (t := t) (by rw [get_new0]; rfl) h1 h2 h0 hv, set_new0]
  rfl
theorem box_all {h : PHeap} {n : Nat} {vs : List PV} {t : TypeId} (h1 : vs.length = n) : loadP true n (.ptr h.length 0) (h ++ [.box vs t .rw]) = some (.agg vs) := by
  rw [load_box, boxAt_some (vs := vs) (t := t) (md := .rw) (by rw [get_new0]; rfl), Option.bind_some, part_all h1]
theorem fin_qe {h l : PHeap} {d e : Int} : finP [.keep, .keep] h (h ++ l) [.agg (qOf d), .int .i64 e] = some (.tuple [.agg (qOf d), .int .i64 e], h) := by
  simp only [fin_def, fzL_cons, fzL_nil, fz_keep, Option.bind_some, Option.map_some, single_two]
  rw [trim_new _ (fun x hx => by simp only [List.mem_cons, List.not_mem_nil, or_false] at hx; rcases hx with rfl | rfl <;> first | exact lt_int _ _ _ | exact agg_lt (qOf_plain d) _)]
def kindE (d : Int) : Int := if inW d 1 6 then 0 else 6
theorem arr_q {d : Int} (h : inW d 1 6 = true) : indexArrP 7 true 29 (.agg qTab) (.int .i64 d) = some (.agg (qOf d)) := by
  rcases inW_six h with rfl | rfl | rfl | rfl | rfl | rfl <;> kernel_rfl
end Go.Vm.X
