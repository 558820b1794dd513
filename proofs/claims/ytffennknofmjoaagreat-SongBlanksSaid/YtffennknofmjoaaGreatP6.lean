/- One part of the proof. -/
import Derived.Test.YtffennknofmjoaaGreatP5
import Derived.Shelf.Sort.AssemblyIn
import Derived.Shelf.Slices.In.SortNone
import Derived.Test.YtffennknofmjoaaGreatChecked
set_option linter.unusedSimpArgs false
set_option linter.unusedVariables false
set_option linter.unusedSimpArgs false
set_option linter.unusedVariables false
namespace Go.Vm.X
open Go.Am Go.Vm
attribute [local congr] bind_c ifP_c loop_c K1_c
theorem inW_six {d : Int} (h : inW d 1 6 = true) : d = 1 ∨ d = 2 ∨ d = 3 ∨ d = 4 ∨ d = 5 ∨ d = 6 := by
  unfold inW at h
  simp only [Bool.and_eq_true, decide_eq_true_eq] at h
  omega
theorem c153 (d : Int) (h : PHeap) : Γ0 153 [.int .i64 d] h = some (strOf (lettersL d), h) := by
  refine gbody (F := A153) (by kernel_rfl) 1 ?_
  rw [s153_eq]
  unfold s153
  simp only [c101, bS, un_not, ↓KLn, if_bool]
  cases hd : inW d 1 6 with
  | false =>
    have e : lettersL d = [] := by
      unfold inW at hd
      simp only [Bool.and_eq_false_iff, decide_eq_false_iff_not] at hd
      unfold lettersL
      rw [if_neg (by omega), if_neg (by omega), if_neg (by omega), if_neg (by omega), if_neg (by omega), if_neg (by omega)]
    rw [e]
    simp only [Bool.not_false, if_true]
    exact Eq.trans (show _ = finP [.keep] h h [strOf []] from rfl) fin_str0
  | true =>
    simp only [Bool.not_true, Bool.false_eq_true, if_false]
    rcases inW_six hd with rfl | rfl | rfl | rfl | rfl | rfl
    · exact Eq.trans (show _ = finP [.keep] h h [strOf (lettersL 1)] from rfl) fin_str0
    · exact Eq.trans (show _ = finP [.keep] h h [strOf (lettersL 2)] from rfl) fin_str0
    · exact Eq.trans (show _ = finP [.keep] h h [strOf (lettersL 3)] from rfl) fin_str0
    · exact Eq.trans (show _ = finP [.keep] h h [strOf (lettersL 4)] from rfl) fin_str0
    · exact Eq.trans (show _ = finP [.keep] h h [strOf (lettersL 5)] from rfl) fin_str0
    · exact Eq.trans (show _ = finP [.keep] h h [strOf (lettersL 6)] from rfl) fin_str0
theorem c151 (d : Int) (h : PHeap) : Γ0 151 [.int .i64 d] h = some (.int .i64 (volc d), h) := by
  refine gbody (F := A151) (by kernel_rfl) 1 ?_
  rw [s151_eq]
  unfold s151
  have k1 : insMapP .int (.int .i64 2) (.int .i64 1) [] = some [(.int .i64 2, .int .i64 1)] := rfl
  have k2 : insMapP .int (.int .i64 3) (.int .i64 8) [(.int .i64 2, .int .i64 1)] = some [(.int .i64 2, .int .i64 1), (.int .i64 3, .int .i64 8)] := rfl
  have k3 : insMapP .int (.int .i64 4) (.int .i64 10) [(.int .i64 2, .int .i64 1), (.int .i64 3, .int .i64 8)] = some [(.int .i64 2, .int .i64 1), (.int .i64 3, .int .i64 8), (.int .i64 4, .int .i64 10)] := rfl
  have sm : ∀ (es es' : List (PV × PV)) (i v : PV), insMapP .int i v es = some es' → setMapP .int (.map h.length) i v (h ++ [.map es .rw]) = some (h ++ [.map es' .rw]) := fun es es' i v e => by
    simp only [setMapP, get_new0, List.getElem?_cons_zero, e, Option.map_some, set_new0, List.set_cons_zero]
  have lk : lookupP .int (.int .i64 0) false (.map h.length) (.int .i64 d) (h ++ [.map [(.int .i64 2, .int .i64 1), (.int .i64 3, .int .i64 8), (.int .i64 4, .int .i64 10)] .rw]) = some (.int .i64 (volc d)) := by
    unfold lookupP mapOfP volc
    simp only [get_new0, List.getElem?_cons_zero, Option.bind_some, findMapP, keyEqP, if_true]
    by_cases h2 : d = 2
    · subst h2; rfl
    · have e2 : (d == 2) = false := by simp [h2]
      by_cases h3 : d = 3
      · subst h3; rfl
      · have e3 : (d == 3) = false := by simp [h3]
        by_cases h4 : d = 4
        · subst h4; rfl
        · have e4 : (d == 4) = false := by simp [h4]
          simp [e2, e3, e4, h2, h3, h4]
  simp only [fork_def, sm _ _ _ _ k1, sm _ _ _ _ k2, sm _ _ _ _ k3, bS, lk, fin_int]
end Go.Vm.X


namespace Go.Vm.X
open Go.Am Go.Vm
def qrow0 : List PV := [.str ⟨#[]⟩, .int .i64 0, .int .i64 0, .int .i64 0, .int .i64 0, .int .i64 0, .bool false, .bool false, .bool false, .int .i64 0, .int .i64 0, .int .i64 0, .bool false, .bool false, .bool false, .bool false, .int .i64 0, .bool false, .int .i64 0, .bool false, .bool false, .int .i64 0, .bool false, .bool false, .bool false, .bool false, .bool false, .bool false, .bool false]
def qrow1 : List PV := [.str ⟨#[102, 111, 117, 114]⟩, .int .i64 4, .int .i64 32, .int .i64 64, .int .i64 49, .int .i64 84, .bool false, .bool false, .bool false, .int .i64 1, .int .i64 453, .int .i64 3424, .bool false, .bool false, .bool false, .bool false, .int .i64 5, .bool true, .int .i64 1, .bool true, .bool false, .int .i64 1, .bool true, .bool false, .bool false, .bool true, .bool false, .bool false, .bool false]
def qrow2 : List PV := [.str ⟨#[115, 99, 114, 101, 97, 109]⟩, .int .i64 16, .int .i64 32, .int .i64 64, .int .i64 13, .int .i64 108, .bool false, .bool true, .bool false, .int .i64 1, .int .i64 64, .int .i64 32767, .bool false, .bool false, .bool false, .bool false, .int .i64 5, .bool false, .int .i64 0, .bool false, .bool false, .int .i64 0, .bool false, .bool false, .bool false, .bool false, .bool false, .bool false, .bool false]
def qrow3 : List PV := [.str ⟨#[102, 97, 115, 116]⟩, .int .i64 16, .int .i64 32, .int .i64 0, .int .i64 1, .int .i64 96, .bool true, .bool true, .bool true, .int .i64 0, .int .i64 32, .int .i64 65535, .bool true, .bool false, .bool false, .bool false, .int .i64 6, .bool true, .int .i64 0, .bool true, .bool true, .int .i64 1, .bool false, .bool true, .bool true, .bool true, .bool true, .bool true, .bool false]
def qrow4 : List PV := [.str ⟨#[105, 109, 112, 117, 108, 115, 101]⟩, .int .i64 16, .int .i64 32, .int .i64 0, .int .i64 1, .int .i64 120, .bool true, .bool true, .bool true, .int .i64 0, .int .i64 16, .int .i64 65535, .bool false, .bool false, .bool false, .bool true, .int .i64 6, .bool false, .int .i64 0, .bool true, .bool false, .int .i64 2, .bool false, .bool true, .bool false, .bool false, .bool false, .bool true, .bool false]
def qrow5 : List PV := [.str ⟨#[99, 111, 109, 112, 111, 115, 101]⟩, .int .i64 8, .int .i64 32, .int .i64 64, .int .i64 13, .int .i64 72, .bool false, .bool false, .bool false, .int .i64 2, .int .i64 0, .int .i64 0, .bool false, .bool true, .bool false, .bool false, .int .i64 5, .bool false, .int .i64 2, .bool false, .bool false, .int .i64 0, .bool false, .bool false, .bool false, .bool false, .bool false, .bool false, .bool true]
def qrow6 : List PV := [.str ⟨#[99, 104, 105, 112]⟩, .int .i64 4, .int .i64 32, .int .i64 0, .int .i64 13, .int .i64 108, .bool true, .bool false, .bool false, .int .i64 1, .int .i64 16, .int .i64 65535, .bool false, .bool false, .bool true, .bool false, .int .i64 5, .bool true, .int .i64 2, .bool false, .bool false, .int .i64 0, .bool false, .bool true, .bool false, .bool false, .bool false, .bool true, .bool false]
end Go.Vm.X


set_option linter.unusedSimpArgs false
set_option linter.unusedVariables false
namespace Go.Vm.X
open Go.Am Go.Vm
attribute [local congr] bind_c ifP_c loop_c K1_c
def plainV : PV → Bool
  | .int _ _ => true
  | .bool _ => true
  | .str _ => true
  | _ => false
theorem plain_lt {n : Nat} : ∀ {v : PV}, plainV v = true → ltV n v
  | .int _ _, _ => lt_int _ _ _
  | .bool _, _ => lt_bool _ _
  | .str _, _ => lt_str _ _
theorem agg_lt {l : List PV} (h : l.all plainV = true) (n : Nat) : ltV n (.agg l) := by
  simp only [ltV]
  exact fun x hx => plain_lt (List.all_eq_true.1 h x hx)
def qTab : List PV := qrow0 ++ qrow1 ++ qrow2 ++ qrow3 ++ qrow4 ++ qrow5 ++ qrow6
def qOf (d : Int) : List PV := if d = 1 then qrow1 else if d = 2 then qrow2 else if d = 3 then qrow3 else if d = 4 then qrow4 else if d = 5 then qrow5 else if d = 6 then qrow6 else qrow0
theorem qOf_out {d : Int} (h : inW d 1 6 = false) : qOf d = qrow0 := by
  unfold inW at h
  simp only [Bool.and_eq_false_iff, decide_eq_false_iff_not] at h
  unfold qOf
  rw [if_neg (by omega), if_neg (by omega), if_neg (by omega), if_neg (by omega), if_neg (by omega), if_neg (by omega)]
theorem qOf_len (d : Int) : (qOf d).length = 29 := by unfold qOf; repeat' split
                                                      all_goals rfl
theorem qOf_one (d : Int) : (qOf d).all oneP = true := by unfold qOf; repeat' split
                                                          all_goals rfl
theorem qOf_plain (d : Int) : (qOf d).all plainV = true := by unfold qOf; repeat' split
                                                              all_goals rfl
theorem box_set {h : PHeap} {n : Nat} {cs vs : List PV} {t : TypeId} (h1 : vs.length = n) (h2 : cs.length = n) (h0 : 0 < n) (hv : cs.all oneP = true) : storeP n (.ptr h.length 0) (.agg cs) (h ++ [.box vs t .rw]) = some (h ++ [.box cs t .rw]) := by
  rw [store_whole (t := t) (by rw [get_new0]; rfl) h1 h2 h0 hv, set_new0]
  rfl
theorem box_all {h : PHeap} {n : Nat} {vs : List PV} {t : TypeId} (h1 : vs.length = n) : loadP true n (.ptr h.length 0) (h ++ [.box vs t .rw]) = some (.agg vs) := by
  rw [load_box, boxAt_some (vs := vs) (t := t) (md := .rw) (by rw [get_new0]; rfl), Option.bind_some, part_all h1]
theorem c102 (h : PHeap) : Γ0 102 [] h = some (.agg qTab, h) := by
  refine gbody (F := A102) (by kernel_rfl) 1 ?_
  rw [s102_eq]
  have key : s102 Γ0 1 h = (storeP 203 (.ptr h.length 0) (.agg qTab) (h ++ [.box Z203 131 .rw])).bind fun h9 => (loadP true 203 (.ptr h.length 0) h9).bind fun v10 => finP [.keep] h h9 [v10] := by kernel_rfl
  have hl : qTab.length = 203 := by kernel_rfl
  have hz : Z203.length = 203 := by kernel_rfl
  have hp : qTab.all plainV = true := by kernel_rfl
  have h1 : qTab.all oneP = true := by kernel_rfl
  rw [key, box_set hz hl (by decide) h1, bS, box_all hl, bS, fin_keep (agg_lt hp)]
theorem fin_qe {h l : PHeap} {d e : Int} : finP [.keep, .keep] h (h ++ l) [.agg (qOf d), .int .i64 e] = some (.tuple [.agg (qOf d), .int .i64 e], h) := by
  simp only [fin_def, fzL_cons, fzL_nil, fz_keep, Option.bind_some, Option.map_some, single_two]
  rw [trim_new _ (fun x hx => by simp only [List.mem_cons, List.not_mem_nil, or_false] at hx; rcases hx with rfl | rfl <;> first | exact lt_int _ _ _ | exact agg_lt (qOf_plain d) _)]
def kindE (d : Int) : Int := if inW d 1 6 then 0 else 6
theorem arr_q {d : Int} (h : inW d 1 6 = true) : indexArrP 7 true 29 (.agg qTab) (.int .i64 d) = some (.agg (qOf d)) := by
  rcases inW_six h with rfl | rfl | rfl | rfl | rfl | rfl <;> kernel_rfl
theorem c53 (d : Int) (h : PHeap) : Γ0 53 [.int .i64 d] h = some (.tuple [.agg (qOf d), .int .i64 (kindE d)], h) := by
  refine gbody (F := A53) (by kernel_rfl) 1 ?_
  rw [s53_eq]
  unfold s53 kindE
  have hz : Z29.length = 29 := rfl
  simp only [fork_def, c101, bS, un_not, ↓KLn, if_bool]
  cases hd : inW d 1 6 with
  | false =>
    simp only [Bool.not_false, if_true, Bool.false_eq_true, if_false]
    have e := qOf_out hd
    have fe := fin_qe (h := h) (l := [.box (qOf d) 83 .rw]) (d := d) (e := 6)
    rw [e] at fe ⊢
    have f0 := box_set (h := h) (n := 29) (cs := qrow0) (vs := Z29) (t := 83) hz hz (by decide) rfl
    have f1 := box_all (h := h) (n := 29) (vs := qrow0) (t := 83) rfl
    refine Eq.trans (show _ = (storeP 29 (.ptr h.length 0) (.agg qrow0) (h ++ [.box Z29 83 .rw])).bind fun h12 => (loadP true 29 (.ptr h.length 0) h12).bind fun v13 => finP [.keep, .keep] h h12 [v13, .int .i64 6] from rfl) ?_
    rw [f0, bS, f1, bS, fe]
  | true =>
    simp only [Bool.not_true, Bool.false_eq_true, if_false, if_true, c102, bS, arr_q hd]
    have f0 := box_set (h := h) (n := 29) (cs := qOf d) (vs := Z29) (t := 83) hz (qOf_len d) (by decide) (qOf_one d)
    have f1 := box_all (h := h) (n := 29) (vs := qOf d) (t := 83) (qOf_len d)
    refine Eq.trans (show _ = (storeP 29 (.ptr h.length 0) (.agg (qOf d)) (h ++ [.box Z29 83 .rw])).bind fun h12 => (loadP true 29 (.ptr h.length 0) h12).bind fun v13 => finP [.keep, .keep] h h12 [v13, .int .i64 0] from rfl) ?_
    rw [f0, bS, f1, bS, fin_qe]
end Go.Vm.X


set_option linter.unusedSimpArgs false
set_option linter.unusedVariables false
namespace Go.Vm.X
open Go.Am Go.Vm
attribute [local congr] bind_c ifP_c loop_c K1_c ite_c
theorem q_end (d e : Int) (h : PHeap) (t : TypeId) : ((storeP 29 (.ptr h.length 0) (.agg (qOf d)) (h ++ [.box Z29 t .rw])).bind fun h12 => (loadP true 29 (.ptr h.length 0) h12).bind fun v13 => finP [.keep, .keep] h h12 [v13, .int .i64 e]) = some (.tuple [.agg (qOf d), .int .i64 e], h) := by
  have hz : Z29.length = 29 := rfl
  rw [box_set hz (qOf_len d) (by decide) (qOf_one d), bS, box_all (qOf_len d), bS, fin_qe]
theorem c56 (d : Int) (h : PHeap) : Γ0 56 [.int .i64 d] h = some (.tuple [.agg (qOf d), .int .i64 (kindE d)], h) := by
  refine gbody (F := A56) (by kernel_rfl) 1 ?_
  rw [s56_eq]
  cases hd : inW d 1 6 with
  | true =>
    rcases inW_six hd with rfl | rfl | rfl | rfl | rfl | rfl
    · exact Eq.trans (show _ = (storeP 29 (.ptr h.length 0) (.agg (qOf 1)) (h ++ [.box Z29 83 .rw])).bind fun h12 => (loadP true 29 (.ptr h.length 0) h12).bind fun v13 => finP [.keep, .keep] h h12 [v13, .int .i64 (kindE 1)] by kernel_rfl) (q_end 1 (kindE 1) h 83)
    · exact Eq.trans (show _ = (storeP 29 (.ptr h.length 0) (.agg (qOf 2)) (h ++ [.box Z29 83 .rw])).bind fun h12 => (loadP true 29 (.ptr h.length 0) h12).bind fun v13 => finP [.keep, .keep] h h12 [v13, .int .i64 (kindE 2)] by kernel_rfl) (q_end 2 (kindE 2) h 83)
    · exact Eq.trans (show _ = (storeP 29 (.ptr h.length 0) (.agg (qOf 3)) (h ++ [.box Z29 83 .rw])).bind fun h12 => (loadP true 29 (.ptr h.length 0) h12).bind fun v13 => finP [.keep, .keep] h h12 [v13, .int .i64 (kindE 3)] by kernel_rfl) (q_end 3 (kindE 3) h 83)
    · exact Eq.trans (show _ = (storeP 29 (.ptr h.length 0) (.agg (qOf 4)) (h ++ [.box Z29 83 .rw])).bind fun h12 => (loadP true 29 (.ptr h.length 0) h12).bind fun v13 => finP [.keep, .keep] h h12 [v13, .int .i64 (kindE 4)] by kernel_rfl) (q_end 4 (kindE 4) h 83)
    · exact Eq.trans (show _ = (storeP 29 (.ptr h.length 0) (.agg (qOf 5)) (h ++ [.box Z29 83 .rw])).bind fun h12 => (loadP true 29 (.ptr h.length 0) h12).bind fun v13 => finP [.keep, .keep] h h12 [v13, .int .i64 (kindE 5)] by kernel_rfl) (q_end 5 (kindE 5) h 83)
    · exact Eq.trans (show _ = (storeP 29 (.ptr h.length 0) (.agg (qOf 6)) (h ++ [.box Z29 83 .rw])).bind fun h12 => (loadP true 29 (.ptr h.length 0) h12).bind fun v13 => finP [.keep, .keep] h h12 [v13, .int .i64 (kindE 6)] by kernel_rfl) (q_end 6 (kindE 6) h 83)
  | false =>
    have hd' := hd
    unfold inW at hd'
    simp only [Bool.and_eq_false_iff, decide_eq_false_iff_not] at hd'
    have e1 : (d == 1) = false := by rw [beq_eq_false_iff_ne]; omega
    have e2 : (d == 2) = false := by rw [beq_eq_false_iff_ne]; omega
    have e3 : (d == 3) = false := by rw [beq_eq_false_iff_ne]; omega
    have e4 : (d == 4) = false := by rw [beq_eq_false_iff_ne]; omega
    have e5 : (d == 5) = false := by rw [beq_eq_false_iff_ne]; omega
    have e6 : (d == 6) = false := by rw [beq_eq_false_iff_ne]; omega
    have hk : kindE d = 6 := by unfold kindE; rw [hd]; rfl
    have hq := q_end d 6 h 83
    rw [qOf_out hd] at hq ⊢
    rw [hk]
    unfold s56
    simp only [fork_def, bin_eql, bS, ↓KLn, if_bool, e1, e2, e3, e4, e5, e6, Bool.false_eq_true, if_false]
    exact Eq.trans (show _ = (storeP 29 (.ptr h.length 0) (.agg qrow0) (h ++ [.box Z29 83 .rw])).bind fun h12 => (loadP true 29 (.ptr h.length 0) h12).bind fun v13 => finP [.keep, .keep] h h12 [v13, .int .i64 6] from rfl) hq
end Go.Vm.X


set_option linter.unusedSimpArgs false
set_option linter.unusedVariables false
namespace Go.Vm.X
open Go.Am Go.Vm
attribute [local congr] bind_c ifP_c loop_c K1_c ite_c
def lowQ (d : Int) : Int := if d = 1 then 49 else if d = 2 then 13 else if d = 3 then 1 else if d = 4 then 1 else if d = 5 then 13 else if d = 6 then 13 else 0
def highQ (d : Int) : Int := if d = 1 then 84 else if d = 2 then 108 else if d = 3 then 96 else if d = 4 then 120 else if d = 5 then 72 else if d = 6 then 108 else 0
theorem q_low (d : Int) : (qOf d)[4]? = some (.int .i64 (lowQ d)) := by
  unfold qOf lowQ
  repeat' split
  all_goals rfl
theorem q_high (d : Int) : (qOf d)[5]? = some (.int .i64 (highQ d)) := by
  unfold qOf highQ
  repeat' split
  all_goals rfl
def noteOK (d x : Int) : Bool := if x = 0 then true else if x = 255 then d == 3 || d == 4 || d == 6 else if x = 254 then d == 2 || d == 4 else if x = 253 then d == 4 else inW x (lowQ d) (highQ d)
theorem c150 {d : Int} (hd : inW d 1 6 = true) (x : Int) (h : PHeap) : Γ0 150 [.int .i64 d, .int .i64 x] h = some (.bool (noteOK d x), h) := by
  refine gbody (F := A150) (by kernel_rfl) 1 ?_
  rw [s150_eq]
  unfold s150 noteOK inW
  have hz : Z29.length = 29 := rfl
  have f0 := box_set (h := h) (n := 29) (cs := qOf d) (vs := Z29) (t := 83) hz (qOf_len d) (by decide) (qOf_one d)
  have l4 : loadP false 1 (.ptr h.length 4) (h ++ [.box (qOf d) 83 .rw]) = some (.int .i64 (lowQ d)) := load_new (q_low d)
  have l5 : loadP false 1 (.ptr h.length 5) (h ++ [.box (qOf d) 83 .rw]) = some (.int .i64 (highQ d)) := load_new (q_high d)
  simp only [c102, arr_q hd, fork_def, f0, bS, ↓KLn, bin_eql, if_bool, beq_iff_eq, fin_bool]
  by_cases h0 : x = 0
  · simp only [h0, if_true]
  · by_cases h1 : x = 255
    · simp only [h0, h1, if_true, if_false, K1_or, K1_one, bS, bin_eql, fin_bool, show ((255 : Int) = 0) = False from eq_false (by decide)]
    · by_cases h2 : x = 254
      · simp only [h0, h1, h2, if_true, if_false, K1_or, K1_one, bS, bin_eql, fin_bool, ↓KLn, if_bool, beq_iff_eq, show ((254 : Int) = 0) = False from eq_false (by decide), show ((254 : Int) = 255) = False from eq_false (by decide)]
      · by_cases h3 : x = 253
        · simp only [h0, h1, h2, h3, if_true, if_false, K1_or, K1_one, bS, bin_eql, fin_bool, ↓KLn, if_bool, beq_iff_eq, show ((253 : Int) = 0) = False from eq_false (by decide), show ((253 : Int) = 255) = False from eq_false (by decide), show ((253 : Int) = 254) = False from eq_false (by decide)]
        · simp only [h0, h1, h2, h3, if_true, if_false, K1_and, K1_one, bS, bin_eql, bin_geq, bin_leq, fin_bool, ↓KLn, if_bool, beq_iff_eq, field_new, l4, l5, ge_iff_le]
end Go.Vm.X


set_option linter.unusedSimpArgs false
set_option linter.unusedVariables false
namespace Go.Vm.X
open Go.Am Go.Vm
attribute [local congr] bind_c ifP_c loop_c K1_c ite_c scP_c
def cellIn (d : Int) (c : Cell) : Bool := inW d 1 6 && (cellOK c && (noteOK d c.note && (decide (c.vc ≤ volc d) && (c.ef == 0 || (lettersL d).contains (letterU c.ef).toUInt8))))
theorem bys_str (l : List UInt8) : bys ⟨l.toArray⟩ = l := by simp [bys]
theorem c152s (l : List UInt8) (c : Int) (h : PHeap) : Γ0 152 [strOf l, .int .u8 c] h = some (.int .i64 (Lib.indexByte l c.toNat.toUInt8), h) := by
  have := c152 ⟨l.toArray⟩ c h
  rwa [bys_str] at this
theorem cell_ef {c : Cell} (h : cellOK c = true) : 0 ≤ c.ef ∧ c.ef ≤ 36 := by
  unfold cellOK inW at h
  simp only [Bool.and_eq_true, decide_eq_true_eq] at h
  exact h.2.1.1
theorem c118 (d : Int) (c : Cell) (h : PHeap) : Γ0 118 [.int .i64 d, .agg c.cs] h = some (.bool (cellIn d c), h) := by
  refine gbody (F := A118) (by kernel_rfl) 1 ?_
  rw [s118_eq]
  unfold s118 cellIn
  have hb : loadP true 6 (.ptr h.length 0) (h ++ [.box c.cs 41 .rw]) = some (.agg c.cs) := box_all rfl
  simp only [fork_def, cells_agg, c101, bS, un_not, ↓K1n, ↓KLn, sc_or]
  cases hd : inW d 1 6 with
  | false => simp only [Bool.not_false, Bool.true_eq_false, if_false, if_bool, if_true, Bool.false_and, fin_bool]
  | true =>
    simp only [Bool.not_true, if_true, hb, c148, bS, un_not, Bool.true_and]
    cases hc : cellOK c with
    | false => simp only [Bool.not_false, Bool.true_eq_false, if_false, if_bool, if_true, Bool.false_and, fin_bool, sc_or, ↓K1n, ↓KLn]
    | true =>
      have hef := cell_ef hc
      simp only [Bool.not_true, if_true, field_new, cl0, cl2, cl4, c150 hd, bS, un_not, sc_or, ↓K1n, ↓KLn, Bool.true_and]
      cases hn : noteOK d c.note with
      | false => simp only [Bool.not_false, Bool.true_eq_false, if_false, if_bool, if_true, Bool.false_and, fin_bool, sc_or, ↓K1n, ↓KLn]
      | true =>
        simp only [Bool.not_true, if_true, field_new, cl0, cl2, cl4, c151, bS, un_not, sc_or, ↓K1n, ↓KLn, unl_self, bin_gtr, Bool.true_and, if_bool, decide_eq_true_eq]
        by_cases hv : c.vc > volc d
        · have : decide (c.vc ≤ volc d) = false := decide_eq_false (by omega)
          simp only [hv, if_true, this, Bool.false_and, fin_bool]
        · have hv' : decide (c.vc ≤ volc d) = true := decide_eq_true (by omega)
          simp only [hv, if_false, hv', Bool.true_and, field_new, cl4, bS, bin_eql, ↓K1n, ↓KLn, if_bool]
          by_cases he : c.ef = 0
          · have : (c.ef == 0) = true := by rw [beq_iff_eq]; exact he
            simp only [this, if_true, Bool.true_or, fin_bool]
          · have he' : (c.ef == 0) = false := by rw [beq_eq_false_iff_ne]; exact he
            have k60 := fun H => c154 (e := c.ef) ⟨by omega, hef.2⟩ H
            simp only [he', Bool.false_eq_true, if_false, Bool.false_or, c153, bS, unl_self, field_new, cl4, k60, c152s, bin_geq, Int.toNat_natCast, (index_has _ _).1, fin_bool]
theorem load_new2 {h l : PHeap} {vs : List PV} {t : TypeId} {k : Nat} {v : PV} (hv : vs[k]? = some v) : loadP false 1 (.ptr h.length k) ((h ++ [.box vs t .rw]) ++ l) = some v := by
  rw [List.append_assoc, load_box, boxAt_some (vs := vs) (t := t) (md := .rw) (by rw [get_new0]; rfl), Option.bind_some, part_cell, hv]
theorem fin_bool2 {h l m : PHeap} {b : Bool} : finP [.keep] h ((h ++ l) ++ m) [.bool b] = some (.bool b, h) := by rw [List.append_assoc]; exact fin_bool
end Go.Vm.X


set_option linter.unusedSimpArgs false
set_option linter.unusedVariables false
namespace Go.Vm.X
open Go.Am Go.Vm
attribute [local congr] bind_c ifP_c loop_c K1_c ite_c
theorem by_bad (b : UInt8) : (decide ((b.toNat : Int) < 32) || decide ((b.toNat : Int) > 126)) = !byOK b := by
  unfold byOK inW
  rw [Bool.eq_iff_iff]
  simp only [Bool.or_eq_true, decide_eq_true_eq, Bool.not_eq_true', Bool.and_eq_false_iff, decide_eq_false_iff_not]
  omega
theorem c157 {s : ByteArray} (hs : s.size < 9223372036854775808) (h : PHeap) : Γ0 157 [.str s] h = some (.bool (nameOK s), h) := by
  have hbl := bys_len s
  refine gbody (F := A157) (by kernel_rfl) (s.size + 1) ?_
  rw [s157_eq]
  unfold s157 nameOK
  simp only [len_str, bS, ↓KLn]
  obtain ⟨k, h1, h2, h3⟩ := first_not byOK (bys s)
  refine loop_pure (fun i => [.int .i64 (i : Int)]) k (by omega) rfl (fun i hi K => ?_) fun K => ?_
  · obtain ⟨b, hb⟩ := lt_l (show i < (bys s).length by omega)
    have hlt : ((i : Int) < (s.size : Int)) = True := eq_true (by omega)
    have hok : byOK b = true := h2 i b hi hb
    unfold s157_L0
    simp only [nth_zero, nth_one, nth_two, nth_three, bin_lss, bin_gtr, hlt, decide_true, bS, ↓KLn, if_bool, if_true, idx_by hb, K1_or, by_bad, hok, Bool.not_true, Bool.false_eq_true, if_false, bin_add, succ63 (show i < 9223372036854775807 by omega), trim_self]
  · rcases h3 with ⟨rfl, h4⟩ | ⟨b, h3, h4, h5⟩
    · have hlt : (((bys s).length : Int) < (s.size : Int)) = False := eq_false (by omega)
      have hle : decide ((s.size : Int) ≤ 22) = decide (s.size ≤ 22) := by rw [decide_eq_decide]; omega
      unfold s157_L0
      simp only [nth_zero, bin_lss, hlt, decide_false, bS, ↓KLn, if_bool, Bool.false_eq_true, if_false, bin_leq, h4, Bool.true_and, hle, fin_bool0]
    · have hk : k < (bys s).length := by
        obtain ⟨hh, _⟩ := List.getElem?_eq_some_iff.1 h3
        exact hh
      have hlt : ((k : Int) < (s.size : Int)) = True := eq_true (by omega)
      unfold s157_L0
      simp only [nth_zero, bin_lss, bin_gtr, hlt, decide_true, bS, ↓KLn, if_bool, if_true, idx_by h3, K1_or, by_bad, h4, Bool.not_false, h5, Bool.false_and, fin_bool0]
end Go.Vm.X


set_option linter.unusedSimpArgs false
set_option linter.unusedVariables false
namespace Go.Vm.X
open Go.Am Go.Vm
attribute [local congr] bind_c ifP_c loop_c K1_c ite_c
def firstI {α : Type} (p : α → Bool) : List α → Int
  | [] => -1
  | a :: l => if p a then 0 else if firstI p l = -1 then -1 else firstI p l + 1
theorem first_at {α : Type} (p : α → Bool) (l : List α) : ∃ k, k ≤ l.length ∧ (∀ i a, i < k → l[i]? = some a → p a = false) ∧ (k = l.length ∧ firstI p l = -1 ∧ l.any p = false ∨ ∃ a, l[k]? = some a ∧ p a = true ∧ firstI p l = (k : Int) ∧ l.any p = true) := by
  induction l with
  | nil => exact ⟨0, Nat.le_refl _, fun i a h => by omega, .inl ⟨rfl, rfl, rfl⟩⟩
  | cons x l ih =>
    cases hx : p x with
    | true => exact ⟨0, Nat.zero_le _, fun i a h => by omega, .inr ⟨x, rfl, hx, by simp [firstI, hx], by simp [hx]⟩⟩
    | false =>
      obtain ⟨k, h1, h2, h3⟩ := ih
      refine ⟨k + 1, by simp; omega, fun i a hi ha => ?_, ?_⟩
      · cases i with
        | zero => cases ha; exact hx
        | succ i => exact h2 i a (by omega) ha
      · rcases h3 with ⟨h3, h4, h5⟩ | ⟨a, h3, h4, h5, h6⟩
        · exact .inl ⟨by simp [h3], by simp [firstI, hx, h4], by simp [hx, h5]⟩
        · refine .inr ⟨a, h3, h4, ?_, by simp [h6]⟩
          have : ¬ (firstI p l = -1) := by omega
          simp only [firstI, hx, this, Bool.false_eq_true, if_false]
          omega
theorem first_any {α : Type} (p : α → Bool) (l : List α) : decide (firstI p l ≥ 0) = l.any p := by
  obtain ⟨k, _, _, h3⟩ := first_at p l
  rcases h3 with ⟨_, h4, h5⟩ | ⟨_, _, _, h5, h6⟩
  · rw [h4, h5]; rfl
  · rw [h5, h6]; exact decide_eq_true (by omega)
def cellsPV (l : List Cell) : PV := .frz 6 (l.map Cell.cs)
theorem len_cells (l : List Cell) : lenP false (cellsPV l) = some (.int .i64 l.length) := len_map
theorem idx_cells {l : List Cell} {i : Nat} {c : Cell} (k : IntKind) (h : l[i]? = some c) : indexAddrP 6 (cellsPV l) (.int k i) = some (.fptr c.cs 0) := idx_map k h
theorem load_cell (c : Cell) (h : PHeap) : loadP true 6 (.fptr c.cs 0) h = some (.agg c.cs) := by rw [load_fptr]; exact part_all rfl
theorem c149 {f : PV} {p : Cell → Bool} {l : List Cell} {h : PHeap} (hm : l.length < 9223372036854775808) (hf : ∀ c, callVP Γ0 f [.agg c.cs] h = some (.bool (p c), h)) : Γ0 149 [cellsPV l, f] h = some (.int .i64 (firstI p l), h) := by
  refine gbody (F := A149) (by kernel_rfl) (l.length + 1) ?_
  rw [s149_eq]
  unfold s149
  simp only [len_cells, bS, ↓KLn]
  obtain ⟨k, h1, h2, h3⟩ := first_at p l
  refine loop_pure (fun i => [.int .i64 (i : Int)]) k (by omega) rfl (fun i hi K => ?_) fun K => ?_
  · obtain ⟨c, hc⟩ := lt_l (show i < l.length by omega)
    have hp := h2 i c hi hc
    unfold s149_L0
    simp only [nth_zero, bin_lss, ltT (show i < l.length by omega), decide_true, bS, ↓KLn, if_bool, if_true, idx_cells _ hc, load_cell, hf, hp, Bool.false_eq_true, if_false, bin_add, succ63 (show i < 9223372036854775807 by omega), trim_self]
  · rcases h3 with ⟨rfl, h4, h5⟩ | ⟨c, h3, h4, h5, h6⟩
    · unfold s149_L0
      simp only [nth_zero, bin_lss, ltF, decide_false, bS, ↓KLn, if_bool, Bool.false_eq_true, if_false, h4, fin_int0]
    · have hk : k < l.length := by
        obtain ⟨hh, _⟩ := List.getElem?_eq_some_iff.1 h3
        exact hh
      unfold s149_L0
      simp only [nth_zero, bin_lss, ltT hk, decide_true, bS, ↓KLn, if_bool, if_true, idx_cells _ h3, load_cell, hf, h4, h5, fin_int0]
theorem c116 {f : PV} {p : Cell → Bool} {l : List Cell} {h : PHeap} (hm : l.length < 9223372036854775808) (hf : ∀ c, callVP Γ0 f [.agg c.cs] h = some (.bool (p c), h)) : Γ0 116 [cellsPV l, f] h = some (.bool (l.any p), h) := by
  refine gbody (F := A116) (by kernel_rfl) 1 ?_
  rw [s116_eq]
  unfold s116
  simp only [c149 hm hf, bS, bin_geq, first_any, fin_bool0]
theorem c147 (c : Cell) (h : PHeap) : Γ0 147 [.agg c.cs] h = some (.bool (!cellOK c), h) := by
  refine gbody (F := A147) (by kernel_rfl) 1 ?_
  rw [s147_eq]
  unfold s147
  have hb : loadP true 6 (.ptr h.length 0) (h ++ [.box c.cs 41 .rw]) = some (.agg c.cs) := box_all rfl
  simp only [fork_def, cells_agg, hb, c148, bS, un_not, fin_bool]
def patV (r : Int) (l : List Cell) : PV := .agg [.int .i64 r, cellsPV l]
def patOK (r : Int) (l : List Cell) (ch : Int) : Bool := inW ch 1 16 && inW r 1 64 && ((l.length : Int) == IntKind.i64.wrap (r * ch)) && l.all cellOK
theorem any_not_all (l : List Cell) : (!l.any fun c => !cellOK c) = l.all cellOK := by rw [List.not_any_eq_all_not]; simp
theorem c115 (r : Int) {l : List Cell} (hm : l.length < 9223372036854775808) (ch : Int) (h : PHeap) : Γ0 115 [patV r l, .int .i64 ch] h = some (.bool (patOK r l ch), h) := by
  refine gbody (F := A115) (by kernel_rfl) 1 ?_
  rw [s115_eq]
  unfold s115 patOK patV
  have l0 : loadP false 1 (.ptr h.length 0) (h ++ [.box [.int .i64 r, cellsPV l] 39 .rw]) = some (.int .i64 r) := load_new rfl
  have l1 : loadP false 1 (.ptr h.length 1) (h ++ [.box [.int .i64 r, cellsPV l] 39 .rw]) = some (cellsPV l) := load_new rfl
  have k32 := c116 (f := .func 147 [] []) (p := fun c => !cellOK c) (h := h ++ [.box [.int .i64 r, cellsPV l] 39 .rw]) hm fun c => by rw [callV_func Γ0 147]; exact c147 c _
  simp only [fork_def, cells_agg, c103, c104, field_new, l0, l1, len_cells, bin_mul, bin_eql, k32, un_not, any_not_all, bS, K1_and, fin_bool]
end Go.Vm.X


set_option linter.unusedSimpArgs false
set_option linter.unusedVariables false
namespace Go.Vm.X
open Go.Am Go.Vm
attribute [local congr] bind_c ifP_c loop_c K1_c ite_c
def loopV (k a b n : Int) : Bool := if k = 0 then a == 0 && b == 0 else if k = 1 ∨ k = 2 then decide (0 ≤ a) && decide (a < b) && decide (b ≤ n) else false
theorem c156 (k a b n : Int) (h : PHeap) : Γ0 156 [.int .i64 k, .int .i64 a, .int .i64 b, .int .i64 n] h = some (.bool (loopV k a b n), h) := by
  refine gbody (F := A156) (by kernel_rfl) 1 ?_
  rw [s156_eq]
  unfold s156 loopV
  by_cases h0 : k = 0
  · subst h0
    simp only [bin_eql, bS, ↓KLn, if_bool, beq_self_eq_true, if_true, K1_and, fin_bool0]
  · have e0 : (k == 0) = false := by rw [beq_eq_false_iff_ne]; exact h0
    by_cases h1 : k = 1
    · subst h1
      simp only [bin_eql, bin_leq, bin_lss, bS, ↓KLn, if_bool, e0, h0, beq_self_eq_true, Bool.false_eq_true, if_false, if_true, true_or, nth_zero, K1_and, fin_bool0]
    · have e1 : (k == 1) = false := by rw [beq_eq_false_iff_ne]; exact h1
      by_cases h2 : k = 2
      · subst h2
        simp only [bin_eql, bin_leq, bin_lss, bS, ↓KLn, if_bool, e0, e1, h0, h1, beq_self_eq_true, Bool.false_eq_true, if_false, if_true, or_true, nth_zero, K1_and, fin_bool0]
      · have e2 : (k == 2) = false := by rw [beq_eq_false_iff_ne]; exact h2
        simp only [bin_eql, bS, ↓KLn, if_bool, e0, e1, e2, h0, h1, h2, Bool.false_eq_true, if_false, or_self, nth_zero, fin_bool0]
theorem fin_ii {h : PHeap} {a b : Int} : finP [.keep, .keep] h h [.int .i64 a, .int .i64 b] = some (.tuple [.int .i64 a, .int .i64 b], h) := by
  simp only [fin_def, fzL_cons, fzL_nil, fz_keep, Option.bind_some, Option.map_some, single_two, trim_self]
def topV (bits : Int) : Int := if bits = 8 then 128 else 32768
theorem c155 {bits : Int} (hb : bits = 8 ∨ bits = 16) (h : PHeap) : Γ0 155 [.int .i64 bits] h = some (.tuple [.int .i64 (-topV bits), .int .i64 (topV bits - 1)], h) := by
  refine gbody (F := A155) (by kernel_rfl) 1 ?_
  rw [s155_eq]
  rcases hb with rfl | rfl
  · exact Eq.trans (show _ = finP [.keep, .keep] h h [.int .i64 (-topV 8), .int .i64 (topV 8 - 1)] by kernel_rfl) fin_ii
  · exact Eq.trans (show _ = finP [.keep, .keep] h h [.int .i64 (-topV 16), .int .i64 (topV 16 - 1)] by kernel_rfl) fin_ii
def fitV (x bits : Int) : Bool := decide (-topV bits ≤ x) && decide (x < topV bits)
end Go.Vm.X


set_option linter.unusedSimpArgs false
set_option linter.unusedVariables false
namespace Go.Vm.X
open Go.Am Go.Vm
attribute [local congr] bind_c ifP_c loop_c K1_c ite_c
structure Smp where
  name : ByteArray
  data : List Int
  (bits rate vol pan fine lo st en su sst sen : Int)
def Smp.cs (s : Smp) : List PV := [.str s.name, ints s.data, .int .i64 s.bits, .int .i64 s.rate, .int .i64 s.vol, .int .i64 s.pan, .int .i64 s.fine, .int .i64 s.lo, .int .i64 s.st, .int .i64 s.en, .int .i64 s.su, .int .i64 s.sst, .int .i64 s.sen]
def smpR (s : Smp) : Bool := decide (1 ≤ s.rate ∧ s.rate ≤ 65535 ∧ 0 ≤ s.vol ∧ s.vol ≤ 64 ∧ -1 ≤ s.pan ∧ s.pan ≤ 256 ∧ -64 ≤ s.fine ∧ s.fine ≤ 63)
def smpB (s : Smp) : Bool := decide ((s.bits = 8 ∨ s.bits = 16) ∧ s.data.length ≤ 4096)
def smpL (s : Smp) : Bool := loopV s.lo s.st s.en s.data.length && loopV s.su s.sst s.sen s.data.length
def smpOK (s : Smp) : Bool := nameOK s.name && smpB s && s.data.all (fun x => fitV x s.bits) && (smpR s && smpL s)
section
variable {h : PHeap} {s : Smp} {t : TypeId}
theorem sl0 : loadP false 1 (.ptr h.length 0) (h ++ [.box s.cs t .rw]) = some (.str s.name) := load_new rfl
theorem sl1 : loadP false 1 (.ptr h.length 1) (h ++ [.box s.cs t .rw]) = some (ints s.data) := load_new rfl
theorem sl2 : loadP false 1 (.ptr h.length 2) (h ++ [.box s.cs t .rw]) = some (.int .i64 s.bits) := load_new rfl
theorem sl3 : loadP false 1 (.ptr h.length 3) (h ++ [.box s.cs t .rw]) = some (.int .i64 s.rate) := load_new rfl
theorem sl4 : loadP false 1 (.ptr h.length 4) (h ++ [.box s.cs t .rw]) = some (.int .i64 s.vol) := load_new rfl
theorem sl5 : loadP false 1 (.ptr h.length 5) (h ++ [.box s.cs t .rw]) = some (.int .i64 s.pan) := load_new rfl
theorem sl6 : loadP false 1 (.ptr h.length 6) (h ++ [.box s.cs t .rw]) = some (.int .i64 s.fine) := load_new rfl
theorem sl7 : loadP false 1 (.ptr h.length 7) (h ++ [.box s.cs t .rw]) = some (.int .i64 s.lo) := load_new rfl
theorem sl8 : loadP false 1 (.ptr h.length 8) (h ++ [.box s.cs t .rw]) = some (.int .i64 s.st) := load_new rfl
theorem sl9 : loadP false 1 (.ptr h.length 9) (h ++ [.box s.cs t .rw]) = some (.int .i64 s.en) := load_new rfl
theorem sl10 : loadP false 1 (.ptr h.length 10) (h ++ [.box s.cs t .rw]) = some (.int .i64 s.su) := load_new rfl
theorem sl11 : loadP false 1 (.ptr h.length 11) (h ++ [.box s.cs t .rw]) = some (.int .i64 s.sst) := load_new rfl
theorem sl12 : loadP false 1 (.ptr h.length 12) (h ++ [.box s.cs t .rw]) = some (.int .i64 s.sen) := load_new rfl
end
theorem forkN {R : Type} (v : PV) (h : PHeap) (k : PV → PHeap → Option R) : forkP v h k = k v h := Eq.trans (fork_def v h k) (Eq.refl _)
theorem K1oneN {R : Type} (k : PV → PHeap → Option R) (v : PV) (h : PHeap) : K1 k (fun j => j v h) = k v h := Eq.trans (K1_one k v h) (Eq.refl _)
theorem ifbN (t : Bool) {R : Type} (a b : Option R) : ifP (.bool t) a b = if t = true then a else b := Eq.trans (if_bool t a b) (Eq.refl _)
theorem cellsN (l : List PV) : cellsP (.agg l) = l := Eq.trans (cells_agg l) (Eq.refl _)
theorem unN (b : Bool) : unP .not (.bool b) = some (.bool !b) := Eq.trans (un_not b) (Eq.refl _)
end Go.Vm.X


set_option linter.unusedSimpArgs false
set_option linter.unusedVariables false
namespace Go.Vm.X
open Go.Am Go.Vm
attribute [local congr] bind_c ifP_c loop_c K1_c ite_c
theorem fit_bad (x bits : Int) : (decide (x < -topV bits) || decide (x > topV bits - 1)) = !fitV x bits := by
  unfold fitV
  rw [Bool.eq_iff_iff]
  simp only [Bool.or_eq_true, decide_eq_true_eq, Bool.not_eq_true', Bool.and_eq_false_iff, decide_eq_false_iff_not]
  omega
theorem smpR_not (s : Smp) : (((((((decide (s.rate < 1) || decide (s.rate > 65535)) || decide (s.vol < 0)) || decide (s.vol > 64)) || decide (s.pan < -1)) || decide (s.pan > 256)) || decide (s.fine < -64)) || decide (s.fine > 63)) = !smpR s := by
  unfold smpR
  rw [Bool.eq_iff_iff]
  simp only [Bool.or_eq_true, Bool.not_eq_true', decide_eq_true_eq, decide_eq_false_iff_not]
  omega
theorem smpB_not (s : Smp) : ((decide ((s.name.size : Int) > 22) || ((s.bits != 8) && (s.bits != 16))) || decide ((s.data.length : Int) > 4096)) = !(decide (s.name.size ≤ 22) && smpB s) := by
  unfold smpB
  rw [Bool.eq_iff_iff]
  simp only [Bool.or_eq_true, Bool.and_eq_true, Bool.not_eq_true', Bool.and_eq_false_iff, decide_eq_true_eq, decide_eq_false_iff_not, bne_iff_ne, ne_eq]
  omega
theorem c126 (s : Smp) (hn : s.name.size < 9223372036854775808) (hm : s.data.length < 9223372036854775808) (h : PHeap) : Γ0 126 [.agg s.cs] h = some (.bool (smpOK s), h) := by
  have hbl := bys_len s.name
  obtain ⟨N, hN1, hN2⟩ : ∃ N : Nat, s.data.length < N ∧ s.name.size < N := ⟨s.data.length + s.name.size + 1, by omega, by omega⟩
  refine gbody (F := A126) (by kernel_rfl) N ?_
  rw [s126_eq]
  unfold s126 smpOK nameOK
  simp only [forkN, cellsN, field_new, sl0, sl1, sl2, len_ints, len_str, bS, bin_neq, bin_gtr, K1_and, K1_or, K1oneN, ↓KLn, ifbN, smpB_not]
  cases hc : (decide (s.name.size ≤ 22) && smpB s) with
  | false =>
    have : ((bys s.name).all byOK && decide (s.name.size ≤ 22) && smpB s && s.data.all (fun x => fitV x s.bits) && (smpR s && smpL s)) = false := by
      revert hc
      cases (bys s.name).all byOK <;> cases decide (s.name.size ≤ 22) <;> cases smpB s <;> simp
    simp only [Bool.not_false, if_true, this, fin_bool]
  | true =>
    rw [Bool.and_eq_true] at hc
    obtain ⟨c1, c2⟩ := hc
    rw [c1, c2]
    have hb : (s.bits = 8 ∨ s.bits = 16) := by
      unfold smpB at c2
      exact (of_decide_eq_true c2).1
    simp only [Bool.not_true, Bool.false_eq_true, if_false, Bool.and_true]
    obtain ⟨k, h1, h2, h3⟩ := first_not byOK (bys s.name)
    refine loop_pure (fun i => [.int .i64 (i : Int)]) k (by omega) rfl (fun i hi K => ?_) fun K => ?_
    · obtain ⟨b, hb⟩ := lt_l (show i < (bys s.name).length by omega)
      have hlt : ((i : Int) < (s.name.size : Int)) = True := eq_true (by omega)
      have hok : byOK b = true := h2 i b hi hb
      unfold s126_L1
      simp only [nth_zero, nth_one, nth_two, nth_three, nth_four, field_new, sl0, bin_lss, bin_gtr, hlt, decide_true, bS, ↓KLn, ifbN, if_true, idx_by hb, K1_or, by_bad, hok, Bool.not_true, Bool.false_eq_true, if_false, bin_add, succ63 (show i < 9223372036854775807 by omega), trim_self]
    · rcases h3 with ⟨rfl, h4⟩ | ⟨b, h3, h4, h5⟩
      · have hlt : (((bys s.name).length : Int) < (s.name.size : Int)) = False := eq_false (by omega)
        unfold s126_L1
        simp only [nth_zero, bin_lss, hlt, decide_false, bS, ↓KLn, ifbN, Bool.false_eq_true, if_false, field_new, sl1, sl2, c155 hb, y20, y21, len_ints, h4, Bool.true_and]
        obtain ⟨k2, g1, g2, g3⟩ := first_not (fun x => fitV x s.bits) s.data
        refine loop_pure (fun i => [.int .i64 (i : Int)]) k2 (by omega) rfl (fun i hi K => ?_) fun K => ?_
        · obtain ⟨a, ha⟩ := lt_l (show i < s.data.length by omega)
          have hp := g2 i a hi ha
          unfold s126_L0
          simp only [nth_zero, nth_one, nth_two, bin_lss, bin_gtr, ltT (show i < s.data.length by omega), decide_true, bS, ↓KLn, ifbN, if_true, idx_ints _ ha, load_iV, K1_or, fit_bad, hp, Bool.not_true, Bool.false_eq_true, if_false, bin_add, succ63 (show i < 9223372036854775807 by omega), trim_self]
        · rcases g3 with ⟨rfl, g4⟩ | ⟨a, g3, g4, g5⟩
          · unfold s126_L0
            simp only [nth_zero, bin_lss, ltF, decide_false, bS, ↓KLn, ifbN, Bool.false_eq_true, if_false, field_new, sl1, sl3, sl4, sl5, sl6, bin_gtr, K1_or, smpR_not, g4, Bool.true_and]
            cases hR : smpR s with
            | false => simp only [Bool.not_false, if_true, Bool.false_and, fin_bool]
            | true => simp only [Bool.not_true, Bool.false_eq_true, if_false, field_new, sl1, sl7, sl8, sl9, sl10, sl11, sl12, len_ints, c156, bS, K1_and, Bool.true_and, smpL, fin_bool]
          · have hk : k2 < s.data.length := by
              obtain ⟨hh, _⟩ := List.getElem?_eq_some_iff.1 g3
              exact hh
            unfold s126_L0
            simp only [nth_zero, bin_lss, bin_gtr, ltT hk, decide_true, bS, ↓KLn, ifbN, if_true, idx_ints _ g3, load_iV, K1_or, fit_bad, g4, Bool.not_false, g5, Bool.false_and, fin_bool]
      · have hk : k < (bys s.name).length := by
          obtain ⟨hh, _⟩ := List.getElem?_eq_some_iff.1 h3
          exact hh
        have hlt : ((k : Int) < (s.name.size : Int)) = True := eq_true (by omega)
        unfold s126_L1
        simp only [nth_zero, field_new, sl0, bin_lss, bin_gtr, hlt, decide_true, bS, ↓KLn, ifbN, if_true, idx_by h3, K1_or, by_bad, h4, Bool.not_false, h5, Bool.false_and, fin_bool]
end Go.Vm.X


set_option linter.unusedSimpArgs false
set_option linter.unusedVariables false
namespace Go.Vm.X
open Go.Am Go.Vm
attribute [local congr] bind_c ifP_c loop_c K1_c ite_c
theorem c121 {f : PV} {p : Int → Bool} {l : List Int} {h : PHeap} (hm : l.length < 9223372036854775808) (hf : ∀ x, callVP Γ0 f [.int .i64 x] h = some (.bool (p x), h)) : Γ0 121 [ints l, f] h = some (.int .i64 (firstI p l), h) := by
  refine gbody (F := A121) (by kernel_rfl) (l.length + 1) ?_
  rw [s121_eq]
  unfold s121
  simp only [len_ints, bS, ↓KLn]
  obtain ⟨k, h1, h2, h3⟩ := first_at p l
  refine loop_pure (fun i => [.int .i64 (i : Int)]) k (by omega) rfl (fun i hi K => ?_) fun K => ?_
  · obtain ⟨c, hc⟩ := lt_l (show i < l.length by omega)
    have hp := h2 i c hi hc
    unfold s121_L0
    simp only [nth_zero, bin_lss, ltT (show i < l.length by omega), decide_true, bS, ↓KLn, ifbN, if_true, idx_ints _ hc, load_iV, hf, hp, Bool.false_eq_true, if_false, bin_add, succ63 (show i < 9223372036854775807 by omega), trim_self]
  · rcases h3 with ⟨rfl, h4, h5⟩ | ⟨c, h3, h4, h5, h6⟩
    · unfold s121_L0
      simp only [nth_zero, bin_lss, ltF, decide_false, bS, ↓KLn, ifbN, Bool.false_eq_true, if_false, h4, fin_int0]
    · have hk : k < l.length := by
        obtain ⟨hh, _⟩ := List.getElem?_eq_some_iff.1 h3
        exact hh
      unfold s121_L0
      simp only [nth_zero, bin_lss, ltT hk, decide_true, bS, ↓KLn, ifbN, if_true, idx_ints _ h3, load_iV, hf, h4, h5, fin_int0]
def smpsPV (l : List Smp) : PV := .frz 13 (l.map Smp.cs)
theorem len_smps (l : List Smp) : lenP false (smpsPV l) = some (.int .i64 l.length) := len_map
theorem idx_smps {l : List Smp} {i : Nat} {c : Smp} (k : IntKind) (h : l[i]? = some c) : indexAddrP 13 (smpsPV l) (.int k i) = some (.fptr c.cs 0) := idx_map k h
theorem load_smp (c : Smp) (h : PHeap) : loadP true 13 (.fptr c.cs 0) h = some (.agg c.cs) := by rw [load_fptr]; exact part_all rfl
theorem c124 {f : PV} {p : Smp → Bool} {l : List Smp} {h : PHeap} (hm : l.length < 9223372036854775808) (hf : ∀ c ∈ l, callVP Γ0 f [.agg c.cs] h = some (.bool (p c), h)) : Γ0 124 [smpsPV l, f] h = some (.int .i64 (firstI p l), h) := by
  refine gbody (F := A124) (by kernel_rfl) (l.length + 1) ?_
  rw [s124_eq]
  unfold s124
  simp only [len_smps, bS, ↓KLn]
  obtain ⟨k, h1, h2, h3⟩ := first_at p l
  refine loop_pure (fun i => [.int .i64 (i : Int)]) k (by omega) rfl (fun i hi K => ?_) fun K => ?_
  · obtain ⟨c, hc⟩ := lt_l (show i < l.length by omega)
    have hp := h2 i c hi hc
    unfold s124_L0
    simp only [nth_zero, bin_lss, ltT (show i < l.length by omega), decide_true, bS, ↓KLn, ifbN, if_true, idx_smps _ hc, load_smp, hf c (List.mem_of_getElem? hc), hp, Bool.false_eq_true, if_false, bin_add, succ63 (show i < 9223372036854775807 by omega), trim_self]
  · rcases h3 with ⟨rfl, h4, h5⟩ | ⟨c, h3, h4, h5, h6⟩
    · unfold s124_L0
      simp only [nth_zero, bin_lss, ltF, decide_false, bS, ↓KLn, ifbN, Bool.false_eq_true, if_false, h4, fin_int0]
    · have hk : k < l.length := by
        obtain ⟨hh, _⟩ := List.getElem?_eq_some_iff.1 h3
        exact hh
      unfold s124_L0
      simp only [nth_zero, bin_lss, ltT hk, decide_true, bS, ↓KLn, ifbN, if_true, idx_smps _ h3, load_smp, hf c (List.mem_of_getElem? h3), h4, h5, fin_int0]
end Go.Vm.X


set_option linter.unusedSimpArgs false
set_option linter.unusedVariables false
namespace Go.Vm.X
open Go.Am Go.Vm
attribute [local congr] bind_c ifP_c loop_c K1_c ite_c
def rightV (is : Bool) (a b n : Int) : Bool := if is = true then decide (0 ≤ a) && decide (a ≤ b) && decide (b < n) else a == 0 && b == 0
theorem c172 (is : Bool) (a b n : Int) {h : PHeap} {k : Nat} {v : PV} (hl : loadP false 1 (.ptr k 1) h = some v) (hn : lenP false v = some (.int .i64 n)) : Γ0 172 [.bool is, .int .i64 a, .int .i64 b, .ptr k 0] h = some (.bool (rightV is a b n), h) := by
  refine gbody (F := A172) (by kernel_rfl) 1 ?_
  rw [s172_eq]
  unfold s172 rightV
  cases is with
  | true => simp only [unN, Bool.not_true, bS, ↓KLn, ifbN, Bool.false_eq_true, if_false, if_true, bin_geq, bin_leq, bin_lss, field_new, hl, hn, K1_and, fin_bool0, ge_iff_le]
  | false => simp only [unN, Bool.not_false, bS, ↓KLn, ifbN, Bool.false_eq_true, if_false, if_true, bin_eql, K1_and, fin_bool0]
end Go.Vm.X


set_option linter.unusedSimpArgs false
set_option linter.unusedVariables false
namespace Go.Vm.X
open Go.Am Go.Vm
attribute [local congr] bind_c ifP_c loop_c K1_c ite_c
def keyC (k : Int × Int) : List PV := [.int .i64 k.1, .int .i64 k.2]
def keysPV (l : List (Int × Int)) : PV := .frz 2 (l.map keyC)
theorem len_keys (l : List (Int × Int)) : lenP false (keysPV l) = some (.int .i64 l.length) := len_map
theorem idx_keys {l : List (Int × Int)} {i : Nat} {c : Int × Int} (k : IntKind) (h : l[i]? = some c) : indexAddrP 2 (keysPV l) (.int k i) = some (.fptr (keyC c) 0) := idx_map k h
theorem load_key (c : Int × Int) (h : PHeap) : loadP true 2 (.fptr (keyC c) 0) h = some (.agg (keyC c)) := by rw [load_fptr]; exact part_all rfl
theorem c158 (k : Int × Int) (h : PHeap) : Γ0 158 [.agg (keyC k)] h = some (.bool (!inW k.1 0 119 || !inW k.2 0 31), h) := by
  refine gbody (F := A158) (by kernel_rfl) 1 ?_
  rw [s158_eq]
  unfold s158
  have l0 : loadP false 1 (.ptr h.length 0) (h ++ [.box (keyC k) 89 .rw]) = some (.int .i64 k.1) := load_new rfl
  have l1 : loadP false 1 (.ptr h.length 1) (h ++ [.box (keyC k) 89 .rw]) = some (.int .i64 k.2) := load_new rfl
  simp only [forkN, cellsN, field_new, l0, l1, c146, unN, bS, K1_or, fin_bool]
theorem c160 {f : PV} {p : Int × Int → Bool} {l : List (Int × Int)} {h : PHeap} (hm : l.length < 9223372036854775808) (hf : ∀ c, callVP Γ0 f [.agg (keyC c)] h = some (.bool (p c), h)) : Γ0 160 [keysPV l, f] h = some (.int .i64 (firstI p l), h) := by
  refine gbody (F := A160) (by kernel_rfl) (l.length + 1) ?_
  rw [s160_eq]
  unfold s160
  simp only [len_keys, bS, ↓KLn]
  obtain ⟨k, h1, h2, h3⟩ := first_at p l
  refine loop_pure (fun i => [.int .i64 (i : Int)]) k (by omega) rfl (fun i hi K => ?_) fun K => ?_
  · obtain ⟨c, hc⟩ := lt_l (show i < l.length by omega)
    have hp := h2 i c hi hc
    unfold s160_L0
    simp only [nth_zero, bin_lss, ltT (show i < l.length by omega), decide_true, bS, ↓KLn, ifbN, if_true, idx_keys _ hc, load_key, hf, hp, Bool.false_eq_true, if_false, bin_add, succ63 (show i < 9223372036854775807 by omega), trim_self]
  · rcases h3 with ⟨rfl, h4, h5⟩ | ⟨c, h3, h4, h5, h6⟩
    · unfold s160_L0
      simp only [nth_zero, bin_lss, ltF, decide_false, bS, ↓KLn, ifbN, Bool.false_eq_true, if_false, h4, fin_int0]
    · have hk : k < l.length := by
        obtain ⟨hh, _⟩ := List.getElem?_eq_some_iff.1 h3
        exact hh
      unfold s160_L0
      simp only [nth_zero, bin_lss, ltT hk, decide_true, bS, ↓KLn, ifbN, if_true, idx_keys _ h3, load_key, hf, h4, h5, fin_int0]
theorem c128 {f : PV} {p : Int × Int → Bool} {l : List (Int × Int)} {h : PHeap} (hm : l.length < 9223372036854775808) (hf : ∀ c, callVP Γ0 f [.agg (keyC c)] h = some (.bool (p c), h)) : Γ0 128 [keysPV l, f] h = some (.bool (l.any p), h) := by
  refine gbody (F := A128) (by kernel_rfl) 1 ?_
  rw [s128_eq]
  unfold s128
  simp only [c160 hm hf, bS, bin_geq, first_any, fin_bool0]
end Go.Vm.X


set_option linter.unusedSimpArgs false
set_option linter.unusedVariables false
namespace Go.Vm.X
open Go.Am Go.Vm
attribute [local congr] bind_c ifP_c loop_c K1_c ite_c
theorem pred63 {i : Nat} (h : i < 9223372036854775807) : IntKind.i64.wrap (((i + 1 : Nat) : Int) - 1) = (i : Int) := by rw [wrap64 (by unfold isI64; omega)]; omega
def ptC (p : Int × Int) : List PV := [.int .i64 p.1, .int .i64 p.2]
def ptsPV (l : List (Int × Int)) : PV := .frz 2 (l.map ptC)
theorem len_pts (l : List (Int × Int)) : lenP false (ptsPV l) = some (.int .i64 l.length) := len_map
theorem idx_pts {l : List (Int × Int)} {i : Nat} {c : Int × Int} (k : IntKind) (h : l[i]? = some c) : indexAddrP 2 (ptsPV l) (.int k i) = some (.fptr (ptC c) 0) := idx_map k h
theorem load_pt (c : Int × Int) (h : PHeap) : loadP true 2 (.fptr (ptC c) 0) h = some (.agg (ptC c)) := by rw [load_fptr]; exact part_all rfl
theorem field_new2 (k : Nat) (row : List PV) : fieldAddrP k (.fptr row 0) = some (.fptr row k) := by rw [field_fptr, Nat.zero_add]
theorem load_pt0 (c : Int × Int) (h : PHeap) : loadP false 1 (.fptr (ptC c) 0) h = some (.int .i64 c.1) := rfl
structure Env where
  on : Bool
  pts : List (Int × Int)
  sus : Bool
  (ss se : Int)
  lp : Bool
  (ls le : Int)
def Env.cs (e : Env) : List PV := [.bool e.on, ptsPV e.pts, .bool e.sus, .int .i64 e.ss, .int .i64 e.se, .bool e.lp, .int .i64 e.ls, .int .i64 e.le]
def ptBad (l : List (Int × Int)) (lo hi : Int) (i : Nat) : Bool :=
  (((match i with | 0 => (l.getD 0 (0, 0)).1 != 0 | j + 1 => decide ((l.getD (j + 1) (0, 0)).1 ≤ (l.getD j (0, 0)).1)) || decide ((l.getD i (0, 0)).1 > 9999)) || decide ((l.getD i (0, 0)).2 < lo)) || decide ((l.getD i (0, 0)).2 > hi)
def ptsOK (l : List (Int × Int)) (lo hi : Int) : Bool := (List.range l.length).all fun i => !ptBad l lo hi i
theorem ptsOK_not {l : List (Int × Int)} {lo hi : Int} {i : Nat} (h1 : i < l.length) (h2 : ptBad l lo hi i = true) : ptsOK l lo hi = false := by
  unfold ptsOK
  rw [Bool.eq_false_iff]
  intro h
  have := List.all_eq_true.1 h i (List.mem_range.2 h1)
  rw [h2] at this
  cases this
theorem ptsOK_is {l : List (Int × Int)} {lo hi : Int} (h : ∀ j, j < l.length → ptBad l lo hi j = false) : ptsOK l lo hi = true := by
  unfold ptsOK
  exact List.all_eq_true.2 fun i hi => by rw [h i (List.mem_range.1 hi)]; rfl
def envOK (e : Env) (lo hi : Int) : Bool := !(decide ((e.pts.length : Int) > 16) || (e.on && ((e.pts.length : Int) == 0))) && (ptsOK e.pts lo hi && (rightV e.sus e.ss e.se e.pts.length && rightV e.lp e.ls e.le e.pts.length))
section
variable {h : PHeap} {e : Env} {t : TypeId}
theorem el0 : loadP false 1 (.ptr h.length 0) (h ++ [.box e.cs t .rw]) = some (.bool e.on) := load_new rfl
theorem el1 : loadP false 1 (.ptr h.length 1) (h ++ [.box e.cs t .rw]) = some (ptsPV e.pts) := load_new rfl
theorem el2 : loadP false 1 (.ptr h.length 2) (h ++ [.box e.cs t .rw]) = some (.bool e.sus) := load_new rfl
theorem el3 : loadP false 1 (.ptr h.length 3) (h ++ [.box e.cs t .rw]) = some (.int .i64 e.ss) := load_new rfl
theorem el4 : loadP false 1 (.ptr h.length 4) (h ++ [.box e.cs t .rw]) = some (.int .i64 e.se) := load_new rfl
theorem el5 : loadP false 1 (.ptr h.length 5) (h ++ [.box e.cs t .rw]) = some (.bool e.lp) := load_new rfl
theorem el6 : loadP false 1 (.ptr h.length 6) (h ++ [.box e.cs t .rw]) = some (.int .i64 e.ls) := load_new rfl
theorem el7 : loadP false 1 (.ptr h.length 7) (h ++ [.box e.cs t .rw]) = some (.int .i64 e.le) := load_new rfl
theorem el1' {l : PHeap} : loadP false 1 (.ptr h.length 1) ((h ++ [.box e.cs t .rw]) ++ l) = some (ptsPV e.pts) := load_new2 rfl
end
theorem box_pt (h : PHeap) (c : Int × Int) : storeP 2 (.ptr h.length 0) (.agg (ptC c)) (h ++ [.box [.int .i64 0, .int .i64 0] 120 .rw]) = some (h ++ [.box (ptC c) 120 .rw]) := box_set rfl rfl (by decide) rfl
theorem pl0 {h : PHeap} {c : Int × Int} {t : TypeId} : loadP false 1 (.ptr h.length 0) (h ++ [.box (ptC c) t .rw]) = some (.int .i64 c.1) := load_new rfl
theorem pl1 {h : PHeap} {c : Int × Int} {t : TypeId} : loadP false 1 (.ptr h.length 1) (h ++ [.box (ptC c) t .rw]) = some (.int .i64 c.2) := load_new rfl
theorem getD_of {α : Type} {l : List α} {i : Nat} {d a : α} (h : l[i]? = some a) : l.getD i d = a := by rw [List.getD_eq_getElem?_getD, h]; rfl
theorem s159_round {e : Env} {lo hi : Int} {h : PHeap} {n : Nat} {j15 : List PV → PHeap → Pt} (hm : e.pts.length < 9223372036854775808) {i : Nat} (hi' : i < e.pts.length) (K : List PV → PHeap → Pt) :
    s159_L0 Γ0 n (.int .i64 lo) (.int .i64 hi) h (.ptr h.length 0) (h ++ [.box e.cs 55 .rw]) (ptsPV e.pts) (.int .i64 e.pts.length) j15 K [.int .i64 i] (h ++ [.box e.cs 55 .rw]) = if ptBad e.pts lo hi i = true then some (.bool false, h) else K [.int .i64 ((i + 1 : Nat) : Int)] (h ++ [.box e.cs 55 .rw]) := by
  obtain ⟨p, hp⟩ := lt_l' hi'
  unfold s159_L0 ptBad
  cases i with
  | zero =>
    have e0 : (((0 : Nat) : Int) == 0) = true := rfl
    have g0 : decide (((0 : Nat) : Int) > 0) = false := rfl
    simp only [nth_zero, bin_lss, ltT hi', decide_true, bS, ↓KLn, ifbN, if_true, idx_pts _ hp, load_pt, forkN, box_pt, bin_eql, e0, scTT, K1oneN, field_new, pl0, pl1, bin_neq, bin_gtr, g0, scFT, K1_or, bin_lss, getD_of hp, fin_bool2, bin_add, succ63 (show 0 < 9223372036854775807 by omega), trim_i1, Bool.true_and, Bool.or_false]
  | succ j =>
    have e0 : (((j + 1 : Nat) : Int) == 0) = false := by rw [beq_eq_false_iff_ne]; omega
    have g0 : decide (((j + 1 : Nat) : Int) > 0) = true := decide_eq_true (by omega)
    obtain ⟨q, hq⟩ := lt_l' (show j < e.pts.length by omega)
    simp only [nth_zero, bin_lss, ltT hi', decide_true, bS, ↓KLn, ifbN, if_true, idx_pts _ hp, load_pt, forkN, box_pt, bin_eql, e0, scFT, K1oneN, scFF, field_new, field_new2, pl0, pl1, bin_neq, bin_gtr, g0, scTT, el1', bin_sub, pred63 (show j < 9223372036854775807 by omega), idx_pts _ hq, load_pt0, bin_leq, K1_or, bin_lss, getD_of hp, getD_of hq, fin_bool2, bin_add, succ63 (show j + 1 < 9223372036854775807 by omega), trim_i1, Bool.false_and]
theorem c159 (e : Env) (hm : e.pts.length < 9223372036854775808) (lo hi : Int) (h : PHeap) : Γ0 159 [.agg e.cs, .int .i64 lo, .int .i64 hi] h = some (.bool (envOK e lo hi), h) := by
  obtain ⟨N, hN⟩ : ∃ N : Nat, e.pts.length < N := ⟨_, Nat.lt_succ_self _⟩
  refine gbody (F := A159) (by kernel_rfl) N ?_
  rw [s159_eq]
  unfold s159 envOK
  simp only [forkN, cellsN, field_new, el0, el1, len_pts, bS, bin_gtr, bin_eql, K1_and, K1oneN, K1_or, ↓KLn, ifbN]
  cases hc : (decide ((e.pts.length : Int) > 16) || (e.on && ((e.pts.length : Int) == 0))) with
  | true => simp only [if_true, Bool.not_true, Bool.false_and, fin_bool]
  | false =>
    simp only [Bool.false_eq_true, if_false, Bool.not_false, Bool.true_and]
    refine loop_until (ptBad e.pts lo hi) (fun i => [.int .i64 (i : Int)]) (fun _ => h ++ [.box e.cs 55 .rw]) e.pts.length hN rfl rfl (fun i hi' hb K => ?_) (fun i hi' hb hj K => ?_) (fun hj K => ?_)
    · rw [s159_round hm hi' K, hb]; rfl
    · rw [s159_round hm hi' K, hb, ptsOK_not hi' hb]; rfl
    · have k75 : ∀ (b : Bool) (x y : Int), callVP Γ0 (.func 172 [] [.ptr h.length 0]) [.bool b, .int .i64 x, .int .i64 y] (h ++ [.box e.cs 55 .rw]) = some (.bool (rightV b x y e.pts.length), h ++ [.box e.cs 55 .rw]) := fun b x y => by
        rw [callV_func Γ0 172]
        exact c172 b x y e.pts.length el1 (len_pts _)
      unfold s159_L0
      simp only [nth_zero, bin_lss, ltF, decide_false, bS, ↓KLn, ifbN, Bool.false_eq_true, if_false, field_new, el2, el3, el4, el5, el6, el7, k75, K1_and, ptsOK_is hj, Bool.true_and, fin_bool]
end Go.Vm.X


set_option linter.unusedSimpArgs false
set_option linter.unusedVariables false
namespace Go.Vm.X
open Go.Am Go.Vm
attribute [local congr] bind_c ifP_c loop_c K1_c ite_c
structure Ins where
  name : ByteArray
  keys : List (Int × Int)
  (vol pan pit : Env)
  (fade nn dup dd gl cut res : Int)
def Ins.cs (i : Ins) : List PV := [.str i.name, keysPV i.keys] ++ (i.vol.cs ++ (i.pan.cs ++ (i.pit.cs ++ [.int .i64 i.fade, .int .i64 i.nn, .int .i64 i.dup, .int .i64 i.dd, .int .i64 i.gl, .int .i64 i.cut, .int .i64 i.res])))
def keyBad (k : Int × Int) : Bool := !inW k.1 0 119 || !inW k.2 0 31
def insR (i : Ins) : Bool := inW i.fade 0 1024 && (inW i.nn 0 3 && (inW i.dup 0 3 && (inW i.dd 0 2 && (inW i.gl 0 64 && (inW i.cut (-1) 127 && inW i.res (-1) 127)))))
def insOK (i : Ins) : Bool := !i.keys.any keyBad && (nameOK i.name && (((i.keys.length : Int) == 0 || (i.keys.length : Int) == 120) && (envOK i.vol 0 64 && (envOK i.pan (-32) 32 && (envOK i.pit (-32) 32 && insR i)))))
section
variable {h : PHeap} {i : Ins} {t : TypeId}
theorem il0 : loadP false 1 (.ptr h.length 0) (h ++ [.box i.cs t .rw]) = some (.str i.name) := load_new rfl
theorem il1 : loadP false 1 (.ptr h.length 1) (h ++ [.box i.cs t .rw]) = some (keysPV i.keys) := load_new rfl
theorem il2 : loadP true 8 (.ptr h.length 2) (h ++ [.box i.cs t .rw]) = some (.agg i.vol.cs) := load_newA (Nat.le_of_ble_eq_true rfl) rfl
theorem il10 : loadP true 8 (.ptr h.length 10) (h ++ [.box i.cs t .rw]) = some (.agg i.pan.cs) := load_newA (Nat.le_of_ble_eq_true rfl) rfl
theorem il18 : loadP true 8 (.ptr h.length 18) (h ++ [.box i.cs t .rw]) = some (.agg i.pit.cs) := load_newA (Nat.le_of_ble_eq_true rfl) rfl
theorem il26 : loadP false 1 (.ptr h.length 26) (h ++ [.box i.cs t .rw]) = some (.int .i64 i.fade) := load_new rfl
theorem il27 : loadP false 1 (.ptr h.length 27) (h ++ [.box i.cs t .rw]) = some (.int .i64 i.nn) := load_new rfl
theorem il28 : loadP false 1 (.ptr h.length 28) (h ++ [.box i.cs t .rw]) = some (.int .i64 i.dup) := load_new rfl
theorem il29 : loadP false 1 (.ptr h.length 29) (h ++ [.box i.cs t .rw]) = some (.int .i64 i.dd) := load_new rfl
theorem il30 : loadP false 1 (.ptr h.length 30) (h ++ [.box i.cs t .rw]) = some (.int .i64 i.gl) := load_new rfl
theorem il31 : loadP false 1 (.ptr h.length 31) (h ++ [.box i.cs t .rw]) = some (.int .i64 i.cut) := load_new rfl
theorem il32 : loadP false 1 (.ptr h.length 32) (h ++ [.box i.cs t .rw]) = some (.int .i64 i.res) := load_new rfl
end
structure InsLen (i : Ins) : Prop where
  name : i.name.size < 9223372036854775808
  keys : i.keys.length < 9223372036854775808
  vol : i.vol.pts.length < 9223372036854775808
  pan : i.pan.pts.length < 9223372036854775808
  pit : i.pit.pts.length < 9223372036854775808
theorem c127 (i : Ins) (hl : InsLen i) (h : PHeap) : Γ0 127 [.agg i.cs] h = some (.bool (insOK i), h) := by
  refine gbody (F := A127) (by kernel_rfl) 1 ?_
  rw [s127_eq]
  unfold s127 insOK insR
  have k45 : ∀ hh, Γ0 128 [keysPV i.keys, .func 158 [] []] hh = some (.bool (i.keys.any keyBad), hh) := fun hh => c128 (by have := hl.keys; omega) fun c => by rw [callV_func Γ0 158]; exact c158 c _
  simp only [forkN, cellsN, field_new, il0, il1, il2, il10, il18, il26, il27, il28, il29, il30, il31, il32, len_keys, c157 hl.name, k45, c159 _ hl.vol, c159 _ hl.pan, c159 _ hl.pit, c146, unN, bS, bin_neq, K1_and, K1_or, K1oneN, ↓KLn, ifbN, fin_bool, Bool.and_assoc]
  have e1 : ((i.keys.length : Int) != 0) = !((i.keys.length : Int) == 0) := rfl
  have e2 : ((i.keys.length : Int) != 120) = !((i.keys.length : Int) == 120) := rfl
  rw [e1, e2]
  generalize nameOK i.name = N, ((i.keys.length : Int) == 0) = a, ((i.keys.length : Int) == 120) = b, i.keys.any keyBad = K, envOK i.vol 0 64 = v, envOK i.pan (-32) 32 = p, envOK i.pit (-32) 32 = q
  cases N <;> cases a <;> cases b <;> cases K <;> cases v <;> cases p <;> cases q <;> rfl
end Go.Vm.X


set_option linter.unusedSimpArgs false
set_option linter.unusedVariables false
namespace Go.Vm.X
open Go.Am Go.Vm
attribute [local congr] bind_c ifP_c loop_c K1_c ite_c fork_c guard_c
abbrev Pat := Int × List Cell
def patC (p : Pat) : List PV := [.int .i64 p.1, cellsPV p.2]
def patsPV (l : List Pat) : PV := .frz 2 (l.map patC)
def inssPV (l : List Ins) : PV := .frz 33 (l.map Ins.cs)
structure Sng where
  name : ByteArray
  (dia ch : Int)
  ords : List Int
  (rest spd tem glb : Int)
  lin : Bool
  pans : List Int
  pats : List Pat
  smps : List Smp
  inss : List Ins
def Sng.cs (s : Sng) : List PV := [.str s.name, .int .i64 s.dia, .int .i64 s.ch, ints s.ords, .int .i64 s.rest, .int .i64 s.spd, .int .i64 s.tem, .int .i64 s.glb, .bool s.lin, ints s.pans, patsPV s.pats, smpsPV s.smps, inssPV s.inss]
def Sng.ck (s : Sng) : List PV := s.cs ++ qOf s.dia
theorem qOf_cases (P : List PV → Prop) (h0 : P qrow0) (h1 : P qrow1) (h2 : P qrow2) (h3 : P qrow3) (h4 : P qrow4) (h5 : P qrow5) (h6 : P qrow6) (d : Int) : P (qOf d) := by
  unfold qOf
  repeat' split
  all_goals assumption
def rI (r : List PV) (k : Nat) : Int := match r[k]? with | some (.int _ n) => n | _ => 0
def rB (r : List PV) (k : Nat) : Bool := match r[k]? with | some (.bool b) => b | _ => false
def qI (d : Int) (k : Nat) : Int := rI (qOf d) k
def qB (d : Int) (k : Nat) : Bool := rB (qOf d) k
theorem q_1 (d : Int) : (qOf d)[1]? = some (.int .i64 (qI d 1)) := qOf_cases (fun r => r[1]? = some (.int .i64 (rI r 1))) rfl rfl rfl rfl rfl rfl rfl d
theorem q_2 (d : Int) : (qOf d)[2]? = some (.int .i64 (qI d 2)) := qOf_cases (fun r => r[2]? = some (.int .i64 (rI r 2))) rfl rfl rfl rfl rfl rfl rfl d
theorem q_3 (d : Int) : (qOf d)[3]? = some (.int .i64 (qI d 3)) := qOf_cases (fun r => r[3]? = some (.int .i64 (rI r 3))) rfl rfl rfl rfl rfl rfl rfl d
theorem q_6 (d : Int) : (qOf d)[6]? = some (.bool (qB d 6)) := qOf_cases (fun r => r[6]? = some (.bool (rB r 6))) rfl rfl rfl rfl rfl rfl rfl d
theorem q_8 (d : Int) : (qOf d)[8]? = some (.bool (qB d 8)) := qOf_cases (fun r => r[8]? = some (.bool (rB r 8))) rfl rfl rfl rfl rfl rfl rfl d
theorem q_known (d : Int) : (qI d 1 == 0) = !inW d 1 6 := by
  unfold qI qOf inW
  by_cases h1 : d = 1
  · subst h1; decide
  · by_cases h2 : d = 2
    · subst h2; decide
    · by_cases h3 : d = 3
      · subst h3; decide
      · by_cases h4 : d = 4
        · subst h4; decide
        · by_cases h5 : d = 5
          · subst h5; decide
          · by_cases h6 : d = 6
            · subst h6; decide
            · rw [if_neg h1, if_neg h2, if_neg h3, if_neg h4, if_neg h5, if_neg h6]
              have : (decide (1 ≤ d) && decide (d ≤ 6)) = false := by
                rw [Bool.and_eq_false_iff, decide_eq_false_iff_not, decide_eq_false_iff_not]; omega
              rw [this]; rfl
section
variable (s : Sng)
theorem sc0 : s.cs[0]? = some (.str s.name) := nr rfl
theorem sc1 : s.cs[1]? = some (.int .i64 s.dia) := nr rfl
theorem sc2 : s.cs[2]? = some (.int .i64 s.ch) := nr rfl
theorem sc3 : s.cs[3]? = some (ints s.ords) := nr rfl
theorem sc4 : s.cs[4]? = some (.int .i64 s.rest) := nr rfl
theorem sc5 : s.cs[5]? = some (.int .i64 s.spd) := nr rfl
theorem sc6 : s.cs[6]? = some (.int .i64 s.tem) := nr rfl
theorem sc7 : s.cs[7]? = some (.int .i64 s.glb) := nr rfl
theorem sc8 : s.cs[8]? = some (.bool s.lin) := nr rfl
theorem sc9 : s.cs[9]? = some (ints s.pans) := nr rfl
theorem sc10 : s.cs[10]? = some (patsPV s.pats) := nr rfl
theorem sc11 : s.cs[11]? = some (smpsPV s.smps) := nr rfl
theorem sc12 : s.cs[12]? = some (inssPV s.inss) := nr rfl
theorem sk0 : s.ck[0]? = some (.str s.name) := nr rfl
theorem sk1 : s.ck[1]? = some (.int .i64 s.dia) := nr rfl
theorem sk2 : s.ck[2]? = some (.int .i64 s.ch) := nr rfl
theorem sk3 : s.ck[3]? = some (ints s.ords) := nr rfl
theorem sk4 : s.ck[4]? = some (.int .i64 s.rest) := nr rfl
theorem sk5 : s.ck[5]? = some (.int .i64 s.spd) := nr rfl
theorem sk6 : s.ck[6]? = some (.int .i64 s.tem) := nr rfl
theorem sk7 : s.ck[7]? = some (.int .i64 s.glb) := nr rfl
theorem sk8 : s.ck[8]? = some (.bool s.lin) := nr rfl
theorem sk9 : s.ck[9]? = some (ints s.pans) := nr rfl
theorem sk10 : s.ck[10]? = some (patsPV s.pats) := nr rfl
theorem sk11 : s.ck[11]? = some (smpsPV s.smps) := nr rfl
theorem sk12 : s.ck[12]? = some (inssPV s.inss) := nr rfl
theorem sk14 : s.ck[14]? = some (.int .i64 (qI s.dia 1)) := q_1 s.dia
theorem sk15 : s.ck[15]? = some (.int .i64 (qI s.dia 2)) := q_2 s.dia
theorem sk16 : s.ck[16]? = some (.int .i64 (qI s.dia 3)) := q_3 s.dia
theorem sk19 : s.ck[19]? = some (.bool (qB s.dia 6)) := q_6 s.dia
theorem sk21 : s.ck[21]? = some (.bool (qB s.dia 8)) := q_8 s.dia
theorem s_whole : partP true 0 13 s.cs = some (.agg s.cs) := part_all rfl
theorem ck_len : s.ck.length = 42 := by unfold Sng.ck; rw [List.length_append, qOf_len]; rfl
theorem ck_whole : partP true 0 42 s.ck = some (.agg s.ck) := part_all (ck_len s)
end
theorem q_fz {ss : List FS} (d : Int) (h : ss = List.replicate 29 .keep) : fzOKL ss (qOf d) = true := by
  subst h
  unfold qOf
  repeat' split
  all_goals rfl
theorem fzOKL_app : ∀ {s1 s2 : List FS} {v1 v2 : List PV}, fzOKL s1 v1 = true → fzOKL s2 v2 = true → fzOKL (s1 ++ s2) (v1 ++ v2) = true
  | [], _, [], _, _, h2 => h2
  | s :: s1, s2, v :: v1, v2, h1, h2 => by
    unfold fzOKL at h1
    rw [Bool.and_eq_true] at h1
    show (fzOK s v && fzOKL (s1 ++ s2) (v1 ++ v2)) = true
    rw [h1.1, fzOKL_app h1.2 h2]; rfl
theorem ck_fz (s : Sng) : fzOKL SA42 s.ck = true :=
  fzOKL_app (s1 := [.keep, .keep, .keep, .flat 1, .keep, .keep, .keep, .keep, .keep, .flat 1, (.sl 2 [.keep, (.flat 6)]), (.sl 13 [.keep, (.flat 1), .keep, .keep, .keep, .keep, .keep, .keep, .keep, .keep, .keep, .keep, .keep]), (.sl 33 [.keep, (.flat 2), .keep, (.flat 2), .keep, .keep, .keep, .keep, .keep, .keep, .keep, (.flat 2), .keep, .keep, .keep, .keep, .keep, .keep, .keep, (.flat 2), .keep, .keep, .keep, .keep, .keep, .keep, .keep, .keep, .keep, .keep, .keep, .keep, .keep])]) (v1 := s.cs) rfl (q_fz s.dia rfl)
def mark (o : Int) : Bool := o == 254 || o == 255
theorem c87 (o : Int) (h : PHeap) : Γ0 87 [.int .i64 o] h = some (.bool (mark o), h) := by
  refine gbody (F := A87) (by kernel_rfl) 1 ?_
  rw [s87_eq]; unfold s87 mark
  simp only [bin_eql, bS, K1_or, fin_bool0]
theorem c123 (o : Int) (h : PHeap) : Γ0 123 [.int .i64 o] h = some (.bool (!inW o 0 256), h) := by
  refine gbody (F := A123) (by kernel_rfl) 1 ?_
  rw [s123_eq]; unfold s123
  simp only [c54, notW, bS, fin_bool0]
theorem c125 (s : Smp) (hn : s.name.size < 9223372036854775808) (hm : s.data.length < 9223372036854775808) (h : PHeap) : Γ0 125 [.agg s.cs] h = some (.bool (!smpOK s), h) := by
  refine gbody (F := A125) (by kernel_rfl) 1 ?_
  rw [s125_eq]; unfold s125
  have hw : partP true 0 13 s.cs = some (.agg s.cs) := part_all rfl
  simp only [cellsW, forkW, loadN0, hw, c126 s hn hm, notW, bS, fin_bool]
def names (s : Sng) : Int := if qB s.dia 6 then s.inss.length else s.smps.length
theorem len_pats (l : List Pat) : lenP false (patsPV l) = some (.int .i64 l.length) := len_map
theorem idx_pats {l : List Pat} {i : Nat} {c : Pat} (k : IntKind) (h : l[i]? = some c) : indexAddrP 2 (patsPV l) (.int k i) = some (.fptr (patC c) 0) := idx_map k h
theorem len_inss (l : List Ins) : lenP false (inssPV l) = some (.int .i64 l.length) := len_map
theorem idx_inss {l : List Ins} {i : Nat} {c : Ins} (k : IntKind) (h : l[i]? = some c) : indexAddrP 33 (inssPV l) (.int k i) = some (.fptr c.cs 0) := idx_map k h
theorem c120 (s : Sng) (h : PHeap) : Γ0 120 [.agg s.ck] h = some (.int .i64 (names s), h) := by
  refine gbody (F := A120) (by kernel_rfl) 1 ?_
  rw [s120_eq]; unfold s120 names
  simp only [cellsW, forkW, fieldW, Nat.reduceAdd, Nat.zero_add, loadN0, partC, sk19, sk12, sk11, len_smps, len_inss, bS, ↓KLn, ifW, fin_int]
  cases qB s.dia 6 <;> rfl
theorem load_app {agg : Bool} {n b o : Nat} {h : PHeap} {v : PV} (hl : loadP agg n (.ptr b o) h = some v) (l : PHeap) : loadP agg n (.ptr b o) (h ++ l) = some v := by
  rw [load_box] at hl ⊢
  unfold boxAt at hl ⊢
  cases hb : h[b]? with
  | none => rw [hb] at hl; cases hl
  | some blk =>
    have hlt : b < h.length := by
      rcases Nat.lt_or_ge b h.length with h1 | h1
      · exact h1
      · rw [List.getElem?_eq_none h1] at hb; cases hb
    rw [List.getElem?_append_left hlt, hb]
    rw [hb] at hl
    exact hl
theorem cell_whole (c : Cell) : partP true 0 6 c.cs = some (.agg c.cs) := part_all rfl
theorem cc1 (c : Cell) : c.cs[1]? = some (.int .i64 c.inst) := nr rfl
theorem c117 (c : Cell) {d : Int} {b : Nat} {h : PHeap} (hl : loadP false 1 (.ptr b 1) h = some (.int .i64 d)) : Γ0 117 [.agg c.cs, .ptr b 0] h = some (.bool (!cellIn d c), h) := by
  refine gbody (F := A117) (by kernel_rfl) 1 ?_
  rw [s117_eq]; unfold s117
  simp only [cellsW, forkW, fieldW, Nat.zero_add, load_app hl, loadN0, cell_whole, c118, notW, bS, fin_bool]
theorem c119 (c : Cell) {s : Sng} {b : Nat} {h : PHeap} (hl : loadP true 42 (.ptr b 0) h = some (.agg s.ck)) : Γ0 119 [.agg c.cs, .ptr b 0] h = some (.bool (decide (c.inst > names s)), h) := by
  refine gbody (F := A119) (by kernel_rfl) 1 ?_
  rw [s119_eq]; unfold s119
  simp only [cellsW, forkW, fieldW, Nat.zero_add, load_app hl, loadN0, partC, cc1, fz_aggI _ (ck_fz s), c120, unl_self, bin_gtr, bS, fin_bool]
theorem c122 (o : Int) {l : List Pat} {b : Nat} {h : PHeap} (hl : loadP false 1 (.ptr b 10) h = some (patsPV l)) : Γ0 122 [.int .i64 o, .ptr b 0] h = some (.bool (!mark o && !inW o 0 (IntKind.i64.wrap ((l.length : Int) - 1))), h) := by
  refine gbody (F := A122) (by kernel_rfl) 1 ?_
  rw [s122_eq]; unfold s122
  simp only [c87, notW, bS, fieldW, Nat.zero_add, hl, len_pats, bin_sub, c54, K1_and, fin_bool0]
theorem c129 (k : Int × Int) {l : List Smp} {b : Nat} {h : PHeap} (hl : loadP false 1 (.ptr b 11) h = some (smpsPV l)) : Γ0 129 [.agg (keyC k), .ptr b 0] h = some (.bool (decide (k.2 > (l.length : Int))), h) := by
  refine gbody (F := A129) (by kernel_rfl) 1 ?_
  rw [s129_eq]; unfold s129
  have k1 : (keyC k)[1]? = some (.int .i64 k.2) := rfl
  simp only [cellsW, forkW, fieldW, Nat.zero_add, load_app hl, loadN0, partC, k1, len_smps, bin_gtr, bS, fin_bool]
end Go.Vm.X


set_option linter.unusedSimpArgs false
set_option linter.unusedVariables false
namespace Go.Vm.X
open Go.Am Go.Vm
attribute [local congr] bind_c ifP_c loop_c K1_c ite_c fork_c guard_c
abbrev Flt := ByteArray × Int × Int
def fltC (f : Flt) : List PV := [.str f.1, .int .i64 f.2.1, .int .i64 f.2.2]
def noF : Flt := (⟨#[]⟩, 0, 0)
def isF (f : Flt) : Bool := f.2.2 != 0
theorem fill3 (x y z : PV) (a : ByteArray) (k k' : IntKind) (m n : Int) : fillP [x, y, z] [(0, 1, .str a), (1, 1, .int k m), (2, 1, .int k' n)] = some [.str a, .int k m, .int k' n] := nr rfl
theorem st3 (o : Nat) (a b c : PV) (vs : List PV) (t : TypeId) (l : PHeap) : storeP 3 (.ptr 0 o) (.agg [a, b, c]) (.box vs t .rw :: l) = (putAt vs o [a, b, c]).map fun vs' => .box vs' t .rw :: l := storeC0 rfl (by decide)
theorem put3 (x y z : PV) (a : ByteArray) (k k' : IntKind) (m n : Int) : putAt [x, y, z] 0 [.str a, .int k m, .int k' n] = some [.str a, .int k m, .int k' n] := nr rfl
theorem part3 (a b c : PV) : partP true 0 3 [a, b, c] = some (.agg [a, b, c]) := nr rfl
theorem fin_fb (h l : PHeap) (a : ByteArray) (k k' : IntKind) (m n : Int) (b : Bool) : finP [.keep, .keep] h (h ++ l) [.agg [.str a, .int k m, .int k' n], .bool b] = some (.tuple [.agg [.str a, .int k m, .int k' n], .bool b], h) := fin_k2 rfl rfl
structure SngLen (s : Sng) : Prop where
  name : s.name.size < 9223372036854775808
  ords : s.ords.length < 9223372036854775808
  pans : s.pans.length < 9223372036854775808
  pats : s.pats.length < 9223372036854775808
  cells : ∀ p ∈ s.pats, p.2.length < 9223372036854775808
  smps : s.smps.length < 9223372036854775808
  smp : ∀ p ∈ s.smps, p.name.size < 9223372036854775808 ∧ p.data.length < 9223372036854775808
  inss : s.inss.length < 9223372036854775808
  ins : ∀ p ∈ s.inss, InsLen p
theorem firstI_idx {α : Type} (p : α → Bool) (l : List α) : firstI p l = match l.findIdx? p with | some i => (i : Int) | none => -1 := by
  induction l with
  | nil => rfl
  | cons x l ih =>
    rw [List.findIdx?_cons]
    unfold firstI
    cases p x with
    | true => rfl
    | false =>
      simp only [Bool.false_eq_true, if_false]
      rw [ih]
      cases l.findIdx? p with
      | none => rfl
      | some i =>
        simp only [Option.map_some]
        rw [if_neg (by omega)]
        show ((i : Int) + 1) = ((i + 1 : Nat) : Int)
        omega
def headA (s : Sng) : Flt × Bool :=
  if (!nameOK s.name) = true then ((⟨#[110, 97, 109, 101]⟩, 0, 1), true)
  else if (qI s.dia 1 == 0) = true then ((⟨#[100, 105, 97, 108, 101, 99, 116]⟩, 0, 6), true)
  else if (!inW s.ch 1 (qI s.dia 1)) = true then ((⟨#[99, 104, 97, 110, 110, 101, 108, 115]⟩, 0, 5), true)
  else (noF, false)
def resA (a : Flt × Bool) : PV := .tuple [.agg (fltC a.1), .bool a.2]
theorem c114' {s : Sng} (hl : SngLen s) (h : PHeap) : Γ0 114 [.str s.name] h = some (.bool (nameOK s.name), h) := c114 (by have := hl.name; omega) h
theorem c68 (s : Sng) (hl : SngLen s) (h : PHeap) : Γ0 68 [.agg s.ck] h = some (resA (headA s), h) := by
  refine gbody (F := A68) (by kernel_rfl) 1 ?_
  rw [s68_eq]; unfold s68 headA
  simp only [words, ↓KLn, Nat.reduceAdd, sk0, sk1, sk2, sk14, c114' hl, c54, fill3, fill_none, st3, put3, part3, fin_fb]
  cases (!nameOK s.name) with
  | true => rfl
  | false =>
    cases (qI s.dia 1 == 0) with
    | true => rfl
    | false => cases (!inW s.ch 1 (qI s.dia 1)) <;> rfl
def ordBad (s : Sng) (o : Int) : Bool := !mark o && !inW o 0 (IntKind.i64.wrap ((s.pats.length : Int) - 1))
def ordA (s : Sng) : Flt × Bool :=
  if (!inW s.ords.length 1 64) = true then ((⟨#[111, 114, 100, 101, 114, 115]⟩, 0, 4), true)
  else match s.ords.findIdx? (ordBad s) with
    | some i => ((⟨#[111, 114, 100, 101, 114, 115]⟩, i, 10), true)
    | none => ((⟨#[114, 101, 115, 116, 97, 114, 116]⟩, 0, 5), !inW s.rest 0 (IntKind.i64.wrap ((s.ords.length : Int) - 1)))
theorem dec_none : decide ((-1 : Int) ≥ 0) = false := nr rfl
theorem dec_some (i : Nat) : decide ((i : Int) ≥ 0) = true := decide_eq_true (by omega)
theorem c70 (s : Sng) (hl : SngLen s) (h : PHeap) : Γ0 70 [.agg s.ck] h = some (resA (ordA s), h) := by
  refine gbody (F := A70) (by kernel_rfl) 1 ?_
  rw [s70_eq]; unfold s70 ordA
  have k37 : ∀ l, Γ0 121 [ints s.ords, .func 122 [] [.ptr h.length 0]] (h ++ .box s.ck 104 .rw :: l) = some (.int .i64 (firstI (ordBad s) s.ords), h ++ .box s.ck 104 .rw :: l) := fun l => c121 (by have := hl.ords; omega) fun x => by
    rw [callV_func Γ0 122]
    exact c122 x (by rw [loadN0, partC]; rfl)
  simp only [words, ↓KLn, Nat.reduceAdd, sk3, sk4, len_ints, c54, fz_ints, k37, firstI_idx, fill3, st3, put3, part3, fin_fb]
  cases (!inW (s.ords.length : Int) 1 64) with
  | true => rfl
  | false =>
    simp only [Bool.false_eq_true, if_false]
    cases s.ords.findIdx? (ordBad s) with
    | some i => simp only [dec_some, if_true]; rfl
    | none => simp only [dec_none, Bool.false_eq_true, if_false]; rfl
def numA (s : Sng) : Flt × Bool :=
  if (!inW s.spd 1 31) = true then ((⟨#[115, 112, 101, 101, 100]⟩, 0, 5), true)
  else if (!inW s.tem 32 255) = true then ((⟨#[116, 101, 109, 112, 111]⟩, 0, 5), true)
  else if (!inW s.glb 0 128) = true then ((⟨#[103, 108, 111, 98, 97, 108]⟩, 0, 5), true)
  else if (s.lin && !qB s.dia 8) = true then ((⟨#[108, 105, 110, 101, 97, 114]⟩, 0, 6), true)
  else if ((s.pans.length : Int) != s.ch) = true then ((⟨#[112, 97, 110, 115]⟩, 0, 4), true)
  else match s.pans.findIdx? (fun p => !inW p 0 256) with
    | some i => ((⟨#[112, 97, 110, 115]⟩, i, 5), true)
    | none => ((⟨#[112, 97, 110, 115]⟩, -1, 5), false)
theorem c71 (s : Sng) (hl : SngLen s) (h : PHeap) : Γ0 71 [.agg s.ck] h = some (resA (numA s), h) := by
  refine gbody (F := A71) (by kernel_rfl) 1 ?_
  rw [s71_eq]; unfold s71 numA
  have k37 : ∀ h, Γ0 121 [ints s.pans, .func 123 [] []] h = some (.int .i64 (firstI (fun p => !inW p 0 256) s.pans), h) := fun h => c121 (by have := hl.pans; omega) fun x => by
    rw [callV_func Γ0 123]
    exact c123 x h
  simp only [words, ↓KLn, Nat.reduceAdd, sk2, sk5, sk6, sk7, sk8, sk9, sk21, len_ints, c54, k37, firstI_idx, fill3, st3, put3, part3, fin_fb]
  cases (!inW s.spd 1 31) with
  | true => rfl
  | false => cases (!inW s.tem 32 255) with
    | true => rfl
    | false => cases (!inW s.glb 0 128) with
      | true => rfl
      | false => cases (s.lin && !qB s.dia 8) with
        | true => rfl
        | false => cases ((s.pans.length : Int) != s.ch) with
          | true => rfl
          | false =>
            cases s.pans.findIdx? (fun p => !inW p 0 256) with
            | some i => simp only [dec_some]; rfl
            | none => simp only [dec_none]; rfl
end Go.Vm.X


set_option linter.unusedSimpArgs false
set_option linter.unusedVariables false
namespace Go.Vm.X
open Go.Am Go.Vm
attribute [local congr] bind_c ifP_c loop_c K1_c ite_c fork_c guard_c
def patBad (s : Sng) (p : Pat) : Bool := ((qI s.dia 3 != 0 && p.1 != qI s.dia 3) || !patOK p.1 p.2 s.ch) || p.2.any fun c => !cellIn s.dia c
def patCode (s : Sng) (p : Pat) : Int := if patBad s p = true then 1 else if (p.2.any fun c => decide (c.inst > names s)) = true then 10 else 0
theorem st2 (o : Nat) (a b : PV) (vs : List PV) (t : TypeId) (l : PHeap) : storeP 2 (.ptr 0 o) (.agg [a, b]) (.box vs t .rw :: l) = (putAt vs o [a, b]).map fun vs' => .box vs' t .rw :: l := storeC0 rfl (by decide)
theorem pat_fptr (p : Pat) : partP true 0 2 (patC p) = some (.agg (patC p)) := part_all rfl
theorem pat_st (p : Pat) (vs : List PV) (t : TypeId) (l : PHeap) : storeP 2 (.ptr 0 0) (.agg (patC p)) (.box vs t .rw :: l) = (putAt vs 0 (patC p)).map fun vs' => .box vs' t .rw :: l := storeC0 rfl (by decide)
theorem pat_put (p : Pat) (a b : PV) : putAt [a, b] 0 (patC p) = some (patC p) := put_whole rfl rfl
theorem pc0 (p : Pat) : (patC p)[0]? = some (.int .i64 p.1) := nr rfl
theorem pc1 (p : Pat) : (patC p)[1]? = some (cellsPV p.2) := nr rfl
theorem fz_cells (n : Nat) (l : List Cell) (h : PHeap) : fz (.flat n) (cellsPV l) h = some (cellsPV l, h) := fz_frz _ _ _ _
theorem fz_pat (p : Pat) (h : PHeap) : fz (.agg [.keep, .flat 6]) (.agg (patC p)) h = some (.agg (patC p), h) := fz_aggI _ rfl
theorem c115p (p : Pat) (hm : p.2.length < 9223372036854775808) (ch : Int) (h : PHeap) : Γ0 115 [.agg (patC p), .int .i64 ch] h = some (.bool (patOK p.1 p.2 ch), h) := c115 p.1 (by omega) ch h
theorem s69_round {s : Sng} {h : PHeap} {n : Nat} {j20 : List PV → PHeap → Pt} (hl : SngLen s) {i : Nat} {p : Pat} (hi : i < s.pats.length) (hp : s.pats[i]? = some p) (K : List PV → PHeap → Pt) :
    s69_L0 Γ0 n h (.ptr h.length 0) (.ptr (h.length + 1) 0) (h ++ [.box s.ck 104 .rw, .box [.str ⟨#[]⟩, .int .i64 0, .int .i64 0] 108 .rw]) (patsPV s.pats) (.int .i64 s.pats.length) j20 K [.int .i64 i] (h ++ [.box s.ck 104 .rw, .box [.str ⟨#[]⟩, .int .i64 0, .int .i64 0] 108 .rw]) =
      if (patCode s p != 0) = true then some (resA ((⟨#[112, 97, 116, 116, 101, 114, 110, 115]⟩, i, patCode s p), true), h) else K [.int .i64 ((i + 1 : Nat) : Int)] (h ++ [.box s.ck 104 .rw, .box [.str ⟨#[]⟩, .int .i64 0, .int .i64 0] 108 .rw]) := by
  have hpm := hl.cells p (List.mem_of_getElem? hp)
  have hlm := hl.pats
  have k33 : ∀ l, Γ0 116 [cellsPV p.2, .func 117 [] [.ptr h.length 0]] (h ++ .box s.ck 104 .rw :: l) = some (.bool (p.2.any fun c => !cellIn s.dia c), h ++ .box s.ck 104 .rw :: l) := fun l => c116 (by omega) fun c => by
    rw [callV_func Γ0 117]
    exact c117 c (by rw [loadN0, partC]; rfl)
  have k35 : ∀ l, Γ0 116 [cellsPV p.2, .func 119 [] [.ptr h.length 0]] (h ++ .box s.ck 104 .rw :: l) = some (.bool (p.2.any fun c => decide (c.inst > names s)), h ++ .box s.ck 104 .rw :: l) := fun l => c116 (by omega) fun c => by
    rw [callV_func Γ0 119]
    exact c119 c (by rw [loadN0, ck_whole])
  unfold s69_L0 patCode patBad
  simp only [words, ↓KLn, Nat.reduceAdd, ltT hi, decide_true, if_true, idx_pats _ hp, pat_fptr, pat_st, pat_put, pc0, pc1, sk16, sk2, fz_cells, fz_pat, c115p p hpm, k33, k35, fill3, st3, put3, part3, fin_fb, trim_i2', succ63 (show i < 9223372036854775807 by omega)]
  cases ((qI s.dia 3 != 0 && p.1 != qI s.dia 3) || !patOK p.1 p.2 s.ch || p.2.any fun c => !cellIn s.dia c) with
  | true => rfl
  | false => cases (p.2.any fun c => decide (c.inst > names s)) <;> rfl
def patA (s : Sng) : Flt × Bool :=
  if (!inW s.pats.length 1 (qI s.dia 2)) = true then ((⟨#[112, 97, 116, 116, 101, 114, 110, 115]⟩, 0, 4), true)
  else match s.pats.findIdx? (fun p => patCode s p != 0) with
    | some i => ((⟨#[112, 97, 116, 116, 101, 114, 110, 115]⟩, i, (s.pats[i]?.map (patCode s)).getD 0), true)
    | none => (noF, false)
theorem c69 (s : Sng) (hl : SngLen s) (h : PHeap) : Γ0 69 [.agg s.ck] h = some (resA (patA s), h) := by
  obtain ⟨N, hN⟩ : ∃ N : Nat, s.pats.length < N := ⟨_, Nat.lt_succ_self _⟩
  refine gbody (F := A69) (by kernel_rfl) N ?_
  rw [s69_eq]; unfold s69 patA
  simp only [words, ↓KLn, Nat.reduceAdd, sk10, sk15, len_pats, c54, fill3, fill_none, st3, put3, part3, fin_fb]
  cases (!inW (s.pats.length : Int) 1 (qI s.dia 2)) with
  | true => rfl
  | false =>
    simp only [Bool.false_eq_true, if_false]
    refine loop_find s.pats (fun p => patCode s p != 0) (fun i => [.int .i64 (i : Int)]) hN rfl (fun i p hi hp hb K => ?_) (fun i p hi hp hb h1 h2 K => ?_) (fun h1 h2 K => ?_)
    · rw [s69_round hl hi hp K, if_neg (by rw [hb]; decide)]
    · rw [s69_round hl hi hp K, if_pos hb, h1]
      simp only [hp, Option.map_some, Option.getD_some]
    · rw [h1]
      unfold s69_L0
      simp only [words, ↓KLn, Nat.reduceAdd, ltF, decide_false, Bool.false_eq_true, if_false, fill_none, st3, put3, part3, fin_fb]
      rfl
def insCode (s : Sng) (x : Ins) : Int := if (!insOK x) = true then 1 else if (x.keys.any fun k => decide (k.2 > (s.smps.length : Int))) = true then 10 else 0
theorem ins_fptr (p : Ins) : partP true 0 33 p.cs = some (.agg p.cs) := part_all rfl
theorem ins_st (p : Ins) (vs : List PV) (t : TypeId) (l : PHeap) : storeP 33 (.ptr 0 0) (.agg p.cs) (.box vs t .rw :: l) = (putAt vs 0 p.cs).map fun vs' => .box vs' t .rw :: l := storeC0 rfl (by decide)
theorem ins_put {vs : List PV} (p : Ins) (h : vs.length = 33) : putAt vs 0 p.cs = some p.cs := put_whole (by rw [h]; rfl) rfl
theorem ic1 (p : Ins) : p.cs[1]? = some (keysPV p.keys) := nr rfl
theorem fz_keys (n : Nat) (l : List (Int × Int)) (h : PHeap) : fz (.flat n) (keysPV l) h = some (keysPV l, h) := fz_frz _ _ _ _
theorem fz_ins (p : Ins) (h : PHeap) : fz (.agg SA33) (.agg p.cs) h = some (.agg p.cs, h) := fz_aggI _ rfl
theorem fz_smps (n : Nat) (cs : List FS) (l : List Smp) (h : PHeap) : fz (.sl n cs) (smpsPV l) h = some (smpsPV l, h) := fz_frzs _ _ _ _ _
theorem s72_round {s : Sng} {h : PHeap} {n : Nat} {j39 : List PV → PHeap → Pt} (hl : SngLen s) {i : Nat} {p : Ins} (hi : i < s.inss.length) (hp : s.inss[i]? = some p) (K : List PV → PHeap → Pt) :
    s72_L0 Γ0 n h (.ptr h.length 0) (.ptr (h.length + 1) 0) (h ++ [.box s.ck 104 .rw, .box [.str ⟨#[]⟩, .int .i64 0, .int .i64 0] 108 .rw]) (inssPV s.inss) (.int .i64 s.inss.length) j39 K [.int .i64 i] (h ++ [.box s.ck 104 .rw, .box [.str ⟨#[]⟩, .int .i64 0, .int .i64 0] 108 .rw]) =
      if (insCode s p != 0) = true then some (resA ((⟨#[105, 110, 115, 116, 115]⟩, i, insCode s p), true), h) else K [.int .i64 ((i + 1 : Nat) : Int)] (h ++ [.box s.ck 104 .rw, .box [.str ⟨#[]⟩, .int .i64 0, .int .i64 0] 108 .rw]) := by
  have hpm := hl.ins p (List.mem_of_getElem? hp)
  have hlm := hl.inss
  have hkm := hpm.keys
  have k46 : ∀ l, Γ0 128 [keysPV p.keys, .func 129 [] [.ptr h.length 0]] (h ++ .box s.ck 104 .rw :: l) = some (.bool (p.keys.any fun k => decide (k.2 > (s.smps.length : Int))), h ++ .box s.ck 104 .rw :: l) := fun l => c128 (by omega) fun c => by
    rw [callV_func Γ0 129]
    exact c129 c (by rw [loadN0, partC]; rfl)
  have hz := ins_put (vs := Z33) p rfl
  unfold s72_L0 insCode
  simp only [words, ↓KLn, Nat.reduceAdd, ltT hi, decide_true, if_true, idx_inss _ hp, ins_fptr, ins_st, hz, ic1, fz_ins, fz_keys, c127 p hpm, k46, fill3, st3, put3, part3, fin_fb, trim_i2', succ63 (show i < 9223372036854775807 by omega)]
  cases insOK p with
  | false => rfl
  | true => cases (p.keys.any fun k => decide (k.2 > (s.smps.length : Int))) <;> rfl
def sndA (s : Sng) : Flt × Bool :=
  if (decide ((s.smps.length : Int) > 31) || (s.dia == 6 && decide ((s.smps.length : Int) > 0))) = true then ((⟨#[115, 97, 109, 112, 108, 101, 115]⟩, 0, 4), true)
  else match s.smps.findIdx? (fun x => !smpOK x) with
    | some i => ((⟨#[115, 97, 109, 112, 108, 101, 115]⟩, i, 1), true)
    | none =>
      if (decide ((s.inss.length : Int) > 31) || (!qB s.dia 6 && decide ((s.inss.length : Int) > 0))) = true then ((⟨#[105, 110, 115, 116, 115]⟩, 0, 4), true)
      else match s.inss.findIdx? (fun p => insCode s p != 0) with
        | some i => ((⟨#[105, 110, 115, 116, 115]⟩, i, (s.inss[i]?.map (insCode s)).getD 0), true)
        | none => (noF, false)
theorem c72 (s : Sng) (hl : SngLen s) (h : PHeap) : Γ0 72 [.agg s.ck] h = some (resA (sndA s), h) := by
  obtain ⟨N, hN⟩ : ∃ N : Nat, s.inss.length < N := ⟨_, Nat.lt_succ_self _⟩
  refine gbody (F := A72) (by kernel_rfl) N ?_
  rw [s72_eq]; unfold s72 sndA
  have k41 : ∀ h, Γ0 124 [smpsPV s.smps, .func 125 [] []] h = some (.int .i64 (firstI (fun x => !smpOK x) s.smps), h) := fun h => c124 (by have := hl.smps; omega) fun x hx => by
    rw [callV_func Γ0 125]
    have hx := hl.smp x hx
    exact c125 x (by omega) (by omega) h
  simp only [words, ↓KLn, Nat.reduceAdd, sk11, sk1, sk12, sk19, len_smps, len_inss, fz_smps, k41, firstI_idx, fill3, fill_none, st3, put3, part3, fin_fb]
  cases (decide ((s.smps.length : Int) > 31) || (s.dia == 6 && decide ((s.smps.length : Int) > 0))) with
  | true => rfl
  | false =>
    simp only [Bool.false_eq_true, if_false]
    cases s.smps.findIdx? (fun x => !smpOK x) with
    | some i => simp only [dec_some, if_true]; rfl
    | none =>
      simp only [dec_none, Bool.false_eq_true, if_false]
      cases (decide ((s.inss.length : Int) > 31) || (!qB s.dia 6 && decide ((s.inss.length : Int) > 0))) with
      | true => rfl
      | false =>
        simp only [Bool.false_eq_true, if_false]
        refine loop_find s.inss (fun p => insCode s p != 0) (fun i => [.int .i64 (i : Int)]) hN rfl (fun i p hi hp hb K => ?_) (fun i p hi hp hb h1 h2 K => ?_) (fun h1 h2 K => ?_)
        · rw [s72_round hl hi hp K, if_neg (by rw [hb]; decide)]
        · rw [s72_round hl hi hp K, if_pos hb, h1]
          simp only [hp, Option.map_some, Option.getD_some]
        · rw [h1]
          unfold s72_L0
          simp only [words, ↓KLn, Nat.reduceAdd, ltF, decide_false, Bool.false_eq_true, if_false, fill_none, st3, put3, part3, fin_fb]
          rfl
end Go.Vm.X


set_option linter.unusedSimpArgs false
set_option linter.unusedVariables false
namespace Go.Vm.X
open Go.Am Go.Vm
attribute [local congr] bind_c ifP_c loop_c K1_c ite_c fork_c guard_c
def asks (s : Sng) : List (Nat × Flt × Bool) := [(68, headA s), (69, patA s), (70, ordA s), (71, numA s), (72, sndA s)]
def okF : Flt := (⟨#[]⟩, -1, 0)
def wrongP (s : Sng) : Flt := match (asks s).find? (fun a => a.2.2) with | some a => a.2.1 | none => okF
def wrongV (f : Flt) : PV := .tuple [.str f.1, .int .i64 f.2.1, .int .i64 f.2.2]
theorem asks_call {s : Sng} (hl : SngLen s) {a : Nat × Flt × Bool} (ha : a ∈ asks s) (h : PHeap) : callVP Γ0 (.func a.1 [.agg s.ck] []) [] h = some (resA a.2, h) := by
  unfold asks at ha
  simp only [List.mem_cons, List.not_mem_nil, or_false] at ha
  rcases ha with rfl | rfl | rfl | rfl | rfl
  · rw [callV_func Γ0 68]; exact c68 s hl h
  · rw [callV_func Γ0 69]; exact c69 s hl h
  · rw [callV_func Γ0 70]; exact c70 s hl h
  · rw [callV_func Γ0 71]; exact c71 s hl h
  · rw [callV_func Γ0 72]; exact c72 s hl h
theorem fill_ck (s : Sng) : fillP Z42 [(0, 13, .agg s.cs), (13, 29, .agg (qOf s.dia))] = some s.ck := by
  rw [fill_step (size := 13) (v := .agg s.cs) rfl (by decide) (Nat.le_of_ble_eq_true rfl), fill_step (size := 29) (v := .agg (qOf s.dia)) (qOf_len _) (by decide) (Nat.le_of_ble_eq_true rfl), fill_none]
  show some (s.cs ++ qOf s.dia ++ []) = _
  rw [List.append_nil]; rfl
theorem ck_st (s : Sng) (vs : List PV) (t : TypeId) (l : PHeap) : storeP 42 (.ptr 0 0) (.agg s.ck) (.box vs t .rw :: l) = (putAt vs 0 s.ck).map fun vs' => .box vs' t .rw :: l := storeC0 (ck_len s) (by decide)
theorem ck_put (s : Sng) {vs : List PV} (hv : vs.length = 42) : putAt vs 0 s.ck = some s.ck := put_whole (by rw [hv, ck_len]) (by unfold Sng.ck; rw [List.all_append, qOf_one]; rfl)
theorem q_st (d : Int) (vs : List PV) (t : TypeId) (l : PHeap) : storeP 29 (.ptr 0 0) (.agg (qOf d)) (.box vs t .rw :: l) = (putAt vs 0 (qOf d)).map fun vs' => .box vs' t .rw :: l := storeC0 (qOf_len d) (by decide)
theorem q_put (d : Int) {vs : List PV} (hv : vs.length = 29) : putAt vs 0 (qOf d) = some (qOf d) := put_whole (by rw [hv, qOf_len]) (qOf_one d)
theorem q_whole (d : Int) : partP true 0 29 (qOf d) = some (.agg (qOf d)) := part_all (qOf_len d)
theorem fill5 (a b c d e : Nat) (xs : List PV) : fillP (repP [.nilF] 5) [(0, 1, .func a xs []), (1, 1, .func b xs []), (2, 1, .func c xs []), (3, 1, .func d xs []), (4, 1, .func e xs [])] = some [.func a xs [], .func b xs [], .func c xs [], .func d xs [], .func e xs []] := nr rfl
theorem chunk5 (a b c d e : PV) : chunk 1 5 [a, b, c, d, e] = [[a], [b], [c], [d], [e]] := nr rfl
theorem flt_st (f : Flt) (vs : List PV) (t : TypeId) (l : PHeap) : storeP 3 (.ptr 0 0) (.agg (fltC f)) (.box vs t .rw :: l) = (putAt vs 0 (fltC f)).map fun vs' => .box vs' t .rw :: l := storeC0 rfl (by decide)
theorem flt_put (f : Flt) (a b c : PV) : putAt [a, b, c] 0 (fltC f) = some (fltC f) := put_whole rfl rfl
theorem fc0 (f : Flt) : (fltC f)[0]? = some (.str f.1) := nr rfl
theorem fc1 (f : Flt) : (fltC f)[1]? = some (.int .i64 f.2.1) := nr rfl
theorem fc2 (f : Flt) : (fltC f)[2]? = some (.int .i64 f.2.2) := nr rfl
theorem fin_w (h l : PHeap) (a : ByteArray) (k k' : IntKind) (m n : Int) : finP [.keep, .keep, .keep] h (h ++ l) [.str a, .int k m, .int k' n] = some (.tuple [.str a, .int k m, .int k' n], h) := fin_k3 rfl rfl rfl
theorem c24 (s : Sng) (hl : SngLen s) (h : PHeap) : Γ0 24 [.agg s.cs] h = some (wrongV (wrongP s), h) := by
  obtain ⟨N, hN⟩ : ∃ N : Nat, 5 < N := ⟨_, Nat.lt_succ_self _⟩
  refine gbody (F := A24) (by kernel_rfl) N ?_
  rw [s24_eq]; unfold s24 wrongP
  have hq := q_put s.dia (vs := Z29) rfl
  have hf := fill_ck s
  have hp := ck_put s (vs := Z42) rfl
  simp only [words, ↓KLn, Nat.reduceAdd, sc1, c53, q_st, hq, s_whole, q_whole, hf, ck_st, hp, ck_whole, fill5, chunk5, len_ref]
  refine loop_find (asks s) (fun a => a.2.2) (fun i => [.int .i64 (i : Int)]) hN rfl (fun i a hi ha hb K => ?_) (fun i a hi ha hb h1 h2 K => ?_) (fun h1 h2 K => ?_)
  · have hrow : ([[PV.func 68 [.agg s.ck] []], [.func 69 [.agg s.ck] []], [.func 70 [.agg s.ck] []], [.func 71 [.agg s.ck] []], [.func 72 [.agg s.ck] []]] : List (List PV))[i]? = some [.func a.1 [.agg s.ck] []] := by
      have : ((asks s).map fun a => [PV.func a.1 [.agg s.ck] []])[i]? = some [.func a.1 [.agg s.ck] []] := by rw [List.getElem?_map, ha]; rfl
      exact this
    have hi5 : ((i : Int) < ((5 : Nat) : Int)) = True := eq_true (by have : i < 5 := hi; omega)
    unfold s24_L0
    simp only [words, ↓KLn, Nat.reduceAdd, hi5, decide_true, if_true, idx_ref (sz := 1) .i64 (show i < 5 from hi), loadLNk, loadLCk, loadLC0 5 rfl hrow, List.getElem?_cons_zero, asks_call hl (List.mem_of_getElem? ha), resA, flt_st, flt_put, hb, Bool.false_eq_true, if_false, succ63 (show i < 9223372036854775807 by have : i < 5 := hi; omega), trim_i4']
  · have hrow : ([[PV.func 68 [.agg s.ck] []], [.func 69 [.agg s.ck] []], [.func 70 [.agg s.ck] []], [.func 71 [.agg s.ck] []], [.func 72 [.agg s.ck] []]] : List (List PV))[i]? = some [.func a.1 [.agg s.ck] []] := by
      have : ((asks s).map fun a => [PV.func a.1 [.agg s.ck] []])[i]? = some [.func a.1 [.agg s.ck] []] := by rw [List.getElem?_map, ha]; rfl
      exact this
    have hi5 : ((i : Int) < ((5 : Nat) : Int)) = True := eq_true (by have : i < 5 := hi; omega)
    unfold s24_L0
    simp only [words, ↓KLn, Nat.reduceAdd, hi5, decide_true, if_true, idx_ref (sz := 1) .i64 (show i < 5 from hi), loadLNk, loadLCk, loadLC0 5 rfl hrow, List.getElem?_cons_zero, asks_call hl (List.mem_of_getElem? ha), resA, flt_st, flt_put, hb, fc0, fc1, fc2, fin_w, find_idx, h1, ha, Option.bind_some, wrongV]
  · unfold s24_L0
    have hi5 : (((asks s).length : Int) < ((5 : Nat) : Int)) = False := eq_false (by show ¬ (((5 : Nat) : Int) < ((5 : Nat) : Int)); omega)
    simp only [words, ↓KLn, Nat.reduceAdd, hi5, decide_false, Bool.false_eq_true, if_false, fin_w, find_idx, h1, Option.bind_none]
    rfl
theorem c16 (s : Sng) (hl : SngLen s) (h : PHeap) : Γ0 16 [.agg s.cs] h = some (.bool ((wrongP s).2.2 == 0), h) := by
  refine gbody (F := A16) (by kernel_rfl) 1 ?_
  rw [s16_eq]; unfold s16
  simp only [words, ↓KLn, Nat.reduceAdd, s_whole, c24 s hl, wrongV, y30, y31, y32, fin_bool]
end Go.Vm.X


set_option linter.unusedSimpArgs false
set_option linter.unusedVariables false
namespace Go.Vm.X
open Go.Am Go.Vm
attribute [local congr] bind_c ifP_c loop_c K1_c ite_c fork_c guard_c
theorem iv0 (a : Int) : (iV a)[0]? = some (.int .i64 a) := nr rfl
def unF (ok : Bool) (part : ByteArray) (e : Int) : Flt := if ok = true then noF else (part, 0, e)
def scanF {α : Type} (part : ByteArray) (code : α → Int) (l : List α) : Flt := match l.findIdx? (fun a => code a != 0) with | some i => (part, i, (l[i]?.map code).getD 0) | none => noF
end Go.Vm.X


set_option linter.unusedSimpArgs false
set_option linter.unusedVariables false
set_option maxRecDepth 20000
namespace Go.Vm.X
open Go.Am Go.Vm
attribute [local congr] bind_c ifP_c loop_c K1_c ite_c fork_c guard_c unl_c
def headL (s : Sng) : List Flt := [unF (nameOK s.name) ⟨#[110, 97, 109, 101]⟩ 1, unF (kindE s.dia == 0) ⟨#[100, 105, 97, 108, 101, 99, 116]⟩ 6, unF (inW s.ch 1 (qI s.dia 1)) ⟨#[99, 104, 97, 110, 110, 101, 108, 115]⟩ 5]
def restL (s : Sng) : List Flt := [
  unF (inW s.pats.length 1 (qI s.dia 2)) ⟨#[112, 97, 116, 116, 101, 114, 110, 115]⟩ 4,
  scanF ⟨#[112, 97, 116, 116, 101, 114, 110, 115]⟩ (patCode s) s.pats,
  unF (inW s.ords.length 1 64) ⟨#[111, 114, 100, 101, 114, 115]⟩ 4,
  scanF ⟨#[111, 114, 100, 101, 114, 115]⟩ (fun o => if ordBad s o = true then 10 else 0) s.ords,
  unF (inW s.rest 0 (IntKind.i64.wrap ((s.ords.length : Int) - 1))) ⟨#[114, 101, 115, 116, 97, 114, 116]⟩ 5,
  unF (inW s.spd 1 31) ⟨#[115, 112, 101, 101, 100]⟩ 5,
  unF (inW s.tem 32 255) ⟨#[116, 101, 109, 112, 111]⟩ 5,
  unF (inW s.glb 0 128) ⟨#[103, 108, 111, 98, 97, 108]⟩ 5,
  unF (!s.lin || qB s.dia 8) ⟨#[108, 105, 110, 101, 97, 114]⟩ 6,
  unF ((s.pans.length : Int) == s.ch) ⟨#[112, 97, 110, 115]⟩ 4,
  scanF ⟨#[112, 97, 110, 115]⟩ (fun o => if (!inW o 0 256) = true then 5 else 0) s.pans,
  unF (decide ((s.smps.length : Int) ≤ 31) && (s.dia != 6 || (s.smps.length : Int) == 0)) ⟨#[115, 97, 109, 112, 108, 101, 115]⟩ 4,
  scanF ⟨#[115, 97, 109, 112, 108, 101, 115]⟩ (fun x => if (!smpOK x) = true then 1 else 0) s.smps,
  unF (decide ((s.inss.length : Int) ≤ 31) && (qB s.dia 6 || (s.inss.length : Int) == 0)) ⟨#[105, 110, 115, 116, 115]⟩ 4,
  scanF ⟨#[105, 110, 115, 116, 115]⟩ (insCode s) s.inss]
def wrongR (s : Sng) : Flt := match (headL s).find? isF with | some f => f | none => match (restL s).find? isF with | some f => f | none => okF
end Go.Vm.X


set_option linter.unusedSimpArgs false
set_option linter.unusedVariables false
namespace Go.Vm.X
open Go.Am Go.Vm
theorem find_un {ok : Bool} {part : ByteArray} {e : Int} (he : e ≠ 0) (l : List Flt) : (unF ok part e :: l).find? isF = if (!ok) = true then some (part, 0, e) else l.find? isF := by
  rw [List.find?_cons]
  cases ok with
  | true => rfl
  | false =>
    have : isF (unF false part e) = true := by
      show (e != 0) = true
      rw [bne_iff_ne]; exact he
    rw [this]; rfl
theorem idx_some {α : Type} {p : α → Bool} {l : List α} {i : Nat} (h : l.findIdx? p = some i) : ∃ a, l[i]? = some a ∧ p a = true := by
  obtain ⟨h1, h2, h3⟩ := List.findIdx?_eq_some_iff_getElem.1 h
  exact ⟨_, List.getElem?_eq_getElem h1, h2⟩
theorem find_scan {α : Type} (part : ByteArray) (code : α → Int) (xs : List α) (l : List Flt) : (scanF part code xs :: l).find? isF = match xs.findIdx? (fun a => code a != 0) with | some i => some (part, (i : Int), (xs[i]?.map code).getD 0) | none => l.find? isF := by
  rw [List.find?_cons]
  unfold scanF
  cases h : xs.findIdx? (fun a => code a != 0) with
  | none => rfl
  | some i =>
    obtain ⟨a, h1, h2⟩ := idx_some h
    simp only [h1, Option.map_some, Option.getD_some]
    have : isF (part, (i : Int), code a) = true := h2
    rw [this]
def ofA (a : Flt × Bool) : Option Flt := if a.2 = true then some a.1 else none
theorem kind_q (d : Int) : (!(kindE d == 0)) = (qI d 1 == 0) := by
  rw [q_known]; unfold kindE
  cases inW d 1 6 <;> rfl
theorem head_law (s : Sng) : (headL s).find? isF = ofA (headA s) := by
  unfold headL headA ofA
  rw [find_un (by decide), find_un (by decide), find_un (by decide), kind_q]
  cases nameOK s.name with
  | false => rfl
  | true => cases (qI s.dia 1 == 0) with
    | true => rfl
    | false => cases inW s.ch 1 (qI s.dia 1) <;> rfl
theorem pat_law (s : Sng) (l : List Flt) : (unF (inW s.pats.length 1 (qI s.dia 2)) ⟨#[112, 97, 116, 116, 101, 114, 110, 115]⟩ 4 :: scanF ⟨#[112, 97, 116, 116, 101, 114, 110, 115]⟩ (patCode s) s.pats :: l).find? isF = (ofA (patA s)).or (l.find? isF) := by
  unfold patA ofA
  rw [find_un (by decide), find_scan]
  cases inW (s.pats.length : Int) 1 (qI s.dia 2) with
  | false => rfl
  | true =>
    simp only [Bool.not_true, Bool.false_eq_true, if_false]
    cases s.pats.findIdx? (fun p => patCode s p != 0) with
    | none => rfl
    | some i => rfl
theorem ten_idx {α : Type} {p : α → Bool} {c : Int} (hc : c ≠ 0) (l : List α) : l.findIdx? (fun o => (if p o = true then c else 0) != 0) = l.findIdx? p := by
  congr 1
  funext o
  cases p o with
  | true => simp only [if_true, bne_iff_ne, ne_eq]; exact hc
  | false => rfl
theorem ten_get {α : Type} {p : α → Bool} {c : Int} {l : List α} {i : Nat} (h : l.findIdx? p = some i) : (l[i]?.map fun o => if p o = true then c else 0).getD 0 = c := by
  obtain ⟨a, h1, h2⟩ := idx_some h
  rw [h1]
  simp only [Option.map_some, Option.getD_some, h2, if_true]
theorem ord_law (s : Sng) (l : List Flt) : (unF (inW s.ords.length 1 64) ⟨#[111, 114, 100, 101, 114, 115]⟩ 4 :: scanF ⟨#[111, 114, 100, 101, 114, 115]⟩ (fun o => if ordBad s o = true then 10 else 0) s.ords :: unF (inW s.rest 0 (IntKind.i64.wrap ((s.ords.length : Int) - 1))) ⟨#[114, 101, 115, 116, 97, 114, 116]⟩ 5 :: l).find? isF = (ofA (ordA s)).or (l.find? isF) := by
  unfold ordA ofA
  rw [find_un (by decide), find_scan, ten_idx (by decide)]
  cases inW (s.ords.length : Int) 1 64 with
  | false => rfl
  | true =>
    simp only [Bool.not_true, Bool.false_eq_true, if_false]
    cases h : s.ords.findIdx? (ordBad s) with
    | some i => simp only [ten_get h]; rfl
    | none =>
      simp only
      rw [find_un (by decide)]
      cases inW s.rest 0 (IntKind.i64.wrap ((s.ords.length : Int) - 1)) <;> rfl
theorem num_law (s : Sng) (l : List Flt) : (unF (inW s.spd 1 31) ⟨#[115, 112, 101, 101, 100]⟩ 5 :: unF (inW s.tem 32 255) ⟨#[116, 101, 109, 112, 111]⟩ 5 :: unF (inW s.glb 0 128) ⟨#[103, 108, 111, 98, 97, 108]⟩ 5 :: unF (!s.lin || qB s.dia 8) ⟨#[108, 105, 110, 101, 97, 114]⟩ 6 :: unF ((s.pans.length : Int) == s.ch) ⟨#[112, 97, 110, 115]⟩ 4 :: scanF ⟨#[112, 97, 110, 115]⟩ (fun o => if (!inW o 0 256) = true then 5 else 0) s.pans :: l).find? isF = (ofA (numA s)).or (l.find? isF) := by
  unfold numA ofA
  have e1 : (!(!s.lin || qB s.dia 8)) = (s.lin && !qB s.dia 8) := by cases s.lin <;> cases qB s.dia 8 <;> rfl
  have e2 : (!((s.pans.length : Int) == s.ch)) = ((s.pans.length : Int) != s.ch) := rfl
  rw [find_un (by decide), find_un (by decide), find_un (by decide), find_un (by decide), find_un (by decide), find_scan, ten_idx (p := fun o => !inW o 0 256) (by decide), e1, e2]
  cases inW s.spd 1 31 with
  | false => rfl
  | true => cases inW s.tem 32 255 with
    | false => rfl
    | true => cases inW s.glb 0 128 with
      | false => rfl
      | true => cases (s.lin && !qB s.dia 8) with
        | true => rfl
        | false => cases ((s.pans.length : Int) != s.ch) with
          | true => rfl
          | false =>
            simp only [Bool.not_true, Bool.false_eq_true, if_false]
            cases h : s.pans.findIdx? (fun o => !inW o 0 256) with
            | none => rfl
            | some i => simp only [ten_get h]; rfl
theorem snd_law (s : Sng) (l : List Flt) : (unF (decide ((s.smps.length : Int) ≤ 31) && (s.dia != 6 || (s.smps.length : Int) == 0)) ⟨#[115, 97, 109, 112, 108, 101, 115]⟩ 4 :: scanF ⟨#[115, 97, 109, 112, 108, 101, 115]⟩ (fun x => if (!smpOK x) = true then 1 else 0) s.smps :: unF (decide ((s.inss.length : Int) ≤ 31) && (qB s.dia 6 || (s.inss.length : Int) == 0)) ⟨#[105, 110, 115, 116, 115]⟩ 4 :: scanF ⟨#[105, 110, 115, 116, 115]⟩ (insCode s) s.inss :: l).find? isF = (ofA (sndA s)).or (l.find? isF) := by
  unfold sndA ofA
  have e1 : (!(decide ((s.smps.length : Int) ≤ 31) && (s.dia != 6 || (s.smps.length : Int) == 0))) = (decide ((s.smps.length : Int) > 31) || (s.dia == 6 && decide ((s.smps.length : Int) > 0))) := by
    rw [Bool.eq_iff_iff]
    simp only [Bool.not_eq_true', Bool.and_eq_false_iff, Bool.or_eq_false_iff, decide_eq_false_iff_not, bne_eq_false_iff_eq, beq_eq_false_iff_ne, Bool.or_eq_true, Bool.and_eq_true, decide_eq_true_eq, beq_iff_eq, ne_eq]
    omega
  have e2 : (!(decide ((s.inss.length : Int) ≤ 31) && (qB s.dia 6 || (s.inss.length : Int) == 0))) = (decide ((s.inss.length : Int) > 31) || (!qB s.dia 6 && decide ((s.inss.length : Int) > 0))) := by
    rw [Bool.eq_iff_iff]
    simp only [Bool.not_eq_true', Bool.and_eq_false_iff, Bool.or_eq_false_iff, decide_eq_false_iff_not, beq_eq_false_iff_ne, Bool.or_eq_true, Bool.and_eq_true, decide_eq_true_eq, ne_eq]
    cases qB s.dia 6 with
    | true => simp only [Bool.true_eq_false, false_and, or_false, Bool.not_true, Bool.false_eq_true]; omega
    | false => simp only [true_and, Bool.not_false]; omega
  rw [find_un (by decide), find_scan, ten_idx (p := fun x => !smpOK x) (by decide), find_un (by decide), find_scan, e1, e2]
  cases (decide ((s.smps.length : Int) > 31) || (s.dia == 6 && decide ((s.smps.length : Int) > 0))) with
  | true => rfl
  | false =>
    simp only [Bool.false_eq_true, if_false]
    cases h : s.smps.findIdx? (fun x => !smpOK x) with
    | some i => simp only [ten_get h]; rfl
    | none =>
      simp only
      cases (decide ((s.inss.length : Int) > 31) || (!qB s.dia 6 && decide ((s.inss.length : Int) > 0))) with
      | true => rfl
      | false =>
        simp only [Bool.false_eq_true, if_false]
        cases s.inss.findIdx? (fun p => insCode s p != 0) <;> rfl
theorem wrong_same (s : Sng) : wrongP s = wrongR s := by
  unfold wrongP wrongR
  rw [head_law]
  unfold restL
  rw [pat_law, ord_law, num_law, snd_law]
  unfold asks ofA
  cases h1 : (headA s).2 with
  | true => simp only [List.find?_cons, h1]; rfl
  | false => cases h2 : (patA s).2 with
    | true => simp only [List.find?_cons, h1, h2]; rfl
    | false => cases h3 : (ordA s).2 with
      | true => simp only [List.find?_cons, h1, h2, h3]; rfl
      | false => cases h4 : (numA s).2 with
        | true => simp only [List.find?_cons, h1, h2, h3, h4]; rfl
        | false => cases h5 : (sndA s).2 with
          | true => simp only [List.find?_cons, h1, h2, h3, h4, h5]; rfl
          | false => simp only [List.find?_cons, h1, h2, h3, h4, h5]; rfl
end Go.Vm.X


set_option linter.unusedSimpArgs false
set_option linter.unusedVariables false
namespace Go.Vm.X
open Go.Am Go.Vm
attribute [local congr] bind_c ifP_c loop_c K1_c ite_c fork_c guard_c unl_c
theorem ic0 (p : Ins) : p.cs[0]? = some (.str p.name) := nr rfl
end Go.Vm.X


set_option linter.unusedSimpArgs false
set_option linter.unusedVariables false
set_option maxRecDepth 20000
namespace Go.Vm.X
open Go.Am Go.Vm
attribute [local congr] bind_c ifP_c loop_c K1_c ite_c fork_c guard_c unl_c
def cell0 : Cell := ⟨0, 0, 0, 0, 0, 0⟩
theorem fill2r (x y : PV) (k : IntKind) (m : Int) (b lo n v sz : Nat) : fillP [x, y] [(0, 1, .int k m), (1, 1, .ref b lo n v sz)] = some [.int k m, .ref b lo n v sz] := nr rfl
theorem put2r (x y : PV) (k : IntKind) (m : Int) (b lo n v sz : Nat) : putAt [x, y] 0 [.int k m, .ref b lo n v sz] = some [.int k m, .ref b lo n v sz] := nr rfl
theorem part2 (a b : PV) : partP true 0 2 [a, b] = some (.agg [a, b]) := nr rfl
theorem c55 (r ch : Int) (hr : inW r 1 64 = true) (hc : inW ch 1 16 = true) (h : PHeap) : Γ0 55 [.int .i64 r, .int .i64 ch] h = some (.tuple [.agg (patC (r, List.replicate (r * ch).toNat cell0)), .int .i64 0], h) := by
  refine gbody (F := A55) (by kernel_rfl) 1 ?_
  rw [s55_eq]; unfold s55
  have hr' := hr
  have hc' := hc
  unfold inW at hr' hc'
  simp only [Bool.and_eq_true, decide_eq_true_eq] at hr' hc'
  have hb1 : r * ch ≤ 64 * 16 := Int.mul_le_mul hr'.2 hc'.2 (by omega) (by omega)
  have hb2 : 1 * 1 ≤ r * ch := Int.mul_le_mul hr'.1 hc'.1 (by omega) (by omega)
  obtain ⟨N, hN⟩ : ∃ N : Nat, r * ch = (N : Int) := ⟨(r * ch).toNat, by omega⟩
  have hw : IntKind.i64.wrap (r * ch) = (N : Int) := by rw [wrap64 (by unfold isI64; omega), hN]
  have hm : N ≤ mostLen := by unfold mostLen; omega
  have hz : (List.replicate N ([.int .i64 0, .int .i64 0, .int .i64 0, .int .i64 0, .int .i64 0, .int .i64 0] : List PV)) = (List.replicate N cell0).map Cell.cs := by rw [List.map_replicate]; rfl
  have hlen : ((List.replicate N cell0).map Cell.cs).length = N := by simp
  rw [hN, Int.toNat_natCast]
  simp only [words, ↓KLn, Nat.reduceAdd, c103, c104, hr, hc, Bool.not_true, Bool.false_eq_true, if_false, bin_mul, hw, mkSlice_new hm, hz, fill2r, st2, put2r, part2]
  have e := fz_logF (h := h) (l := [.box [.int .i64 r, .ref (h.length + 1) 0 N N 6] 39 .rw, .log ((List.replicate N cell0).map Cell.cs) 6 41 .rw]) (k := 1) (s := 6) rfl (by rw [hlen]; omega) (pure_map (f := Cell.cs) (fun c => rfl) _)
  rw [hlen] at e
  refine fin_new (ws := [.agg (patC (r, List.replicate N cell0)), .int .i64 0]) (l := [.box [.int .i64 r, .ref (h.length + 1) 0 N N 6] 39 .rw, .log ((List.replicate N cell0).map Cell.cs) 6 41 .ro]) ?_ ?_
  · rw [fzL_cons, fz_aggs, fzL_cons, fz_keep, Option.bind_some, fzL_cons]
    show Option.bind (Option.map _ (Option.map _ ((fz (.flat 6) (.ref (h.length + 1) 0 N N 6) _).bind _))) _ = _
    rw [show ([PV.int .i64 0, .int .i64 0, .int .i64 0, .int .i64 0, .int .i64 0, .int .i64 0] : List PV).length = 6 from rfl, e]
    simp only [bS, mapS, fzL_nil, fzL_cons, fz_keep, List.set_cons_succ, List.set_cons_zero]
    rfl
  · intro v hv
    simp only [List.mem_cons, List.not_mem_nil, or_false] at hv
    rcases hv with rfl | rfl
    · exact plainP_lt rfl
    · exact plainP_lt rfl
theorem fill_b (d ch : Int) (b : Bool) : fillP [.str ⟨#[]⟩, .int .i64 0, .int .i64 0, .nilS, .int .i64 0, .int .i64 0, .int .i64 0, .int .i64 0, .bool false, .nilS, .nilS, .nilS, .nilS] [(1, 1, .int .i64 d), (2, 1, .int .i64 ch), (5, 1, .int .i64 6), (6, 1, .int .i64 125), (7, 1, .int .i64 128), (8, 1, .bool b)] = some [.str ⟨#[]⟩, .int .i64 d, .int .i64 ch, .nilS, .int .i64 0, .int .i64 6, .int .i64 125, .int .i64 128, .bool b, .nilS, .nilS, .nilS, .nilS] := nr rfl
theorem st13 (a b c d e f g i j k l m n : PV) (vs : List PV) (t : TypeId) (r : PHeap) : storeP 13 (.ptr 0 0) (.agg [a, b, c, d, e, f, g, i, j, k, l, m, n]) (.box vs t .rw :: r) = (putAt vs 0 [a, b, c, d, e, f, g, i, j, k, l, m, n]).map fun vs' => .box vs' t .rw :: r := storeC0 rfl (by decide)
theorem part13 (a b c d e f g i j k l m n : PV) : partP true 0 13 [a, b, c, d, e, f, g, i, j, k, l, m, n] = some (.agg [a, b, c, d, e, f, g, i, j, k, l, m, n]) := nr rfl
theorem part13_9 (a b c d e f g i j k l m n : PV) : [a, b, c, d, e, f, g, i, j, k, l, m, n][9]? = some k := nr rfl
theorem part13_3 (a b c d e f g i j k l m n : PV) : [a, b, c, d, e, f, g, i, j, k, l, m, n][3]? = some d := nr rfl
theorem part13_10 (a b c d e f g i j k l m n : PV) : [a, b, c, d, e, f, g, i, j, k, l, m, n][10]? = some l := nr rfl
theorem put13_9 (a b c d e f g i j k l m n : PV) (u v w x y : Nat) : putAt [a, b, c, d, e, f, g, i, j, k, l, m, n] 9 [.ref u v w x y] = some [a, b, c, d, e, f, g, i, j, .ref u v w x y, l, m, n] := nr rfl
theorem put13_3 (a b c d e f g i j k l m n : PV) (u v w x y : Nat) : putAt [a, b, c, d, e, f, g, i, j, k, l, m, n] 3 [.ref u v w x y] = some [a, b, c, .ref u v w x y, e, f, g, i, j, k, l, m, n] := nr rfl
theorem put13_10 (a b c d e f g i j k l m n : PV) (u v w x y : Nat) : putAt [a, b, c, d, e, f, g, i, j, k, l, m, n] 10 [.ref u v w x y] = some [a, b, c, d, e, f, g, i, j, k, .ref u v w x y, m, n] := nr rfl
theorem st1r (u v w x y o : Nat) (vs : List PV) (t : TypeId) (l : PHeap) : storeP 1 (.ptr 0 o) (.ref u v w x y) (.box vs t .rw :: l) = (putAt vs o [.ref u v w x y]).map fun vs' => .box vs' t .rw :: l := st1 rfl o vs t l
theorem fill1i (z : PV) (k : IntKind) (n : Int) : fillP (repP [z] 1) [(0, 1, .int k n)] = some [.int k n] := fill_int z k n
theorem pure1i (k : IntKind) (n : Int) : [PV.int k n].all pure1 = true := nr rfl
theorem chunk1i (v : PV) : chunk 1 1 [v] = [[v]] := nr rfl
theorem fillLit (a b c d : Int) : fillP [.int .i64 0, .int .i64 0, .int .i64 0, .int .i64 0] [(0, 1, .int .i64 a), (1, 1, .int .i64 b), (2, 1, .int .i64 c), (3, 1, .int .i64 d)] = some [.int .i64 a, .int .i64 b, .int .i64 c, .int .i64 d] := nr rfl
def pans4 : List Int := [0, 256, 256, 0]
def panAt (d : Int) (c : Nat) : Int := if d = 1 then pans4.getD c 0 else 128
def pansN (d : Int) (n : Nat) : List Int := (List.range n).map (panAt d)
def ordN (n : Nat) : List Int := (List.range n).map Int.ofNat
def patN (ch : Nat) : Pat := (64, List.replicate (64 * ch) cell0)
def blankS (d : Int) (ch n : Nat) : Sng := { name := ⟨#[]⟩, dia := d, ch := ch, ords := ordN n, rest := 0, spd := 6, tem := 125, glb := 128, lin := qB d 8, pans := pansN d ch, pats := List.replicate n (patN ch), smps := [], inss := [] }
def sngZ : Sng := { name := ⟨#[]⟩, dia := 0, ch := 0, ords := [], rest := 0, spd := 0, tem := 0, glb := 0, lin := false, pans := [], pats := [], smps := [], inss := [] }
theorem pan_lit {d : Int} (hd : d = 1) {i : Nat} (hi : i < 4) : indexArrP 4 false 1 (.agg [.int .i64 0, .int .i64 256, .int .i64 256, .int .i64 0]) (.int .i64 i) = some (.int .i64 (panAt d i)) := by
  subst hd
  have : i = 0 ∨ i = 1 ∨ i = 2 ∨ i = 3 := by omega
  rcases this with rfl | rfl | rfl | rfl <;> rfl
theorem pansN_succ (d : Int) (n : Nat) : (pansN d (n + 1)).map iV = (pansN d n).map iV ++ [[.int .i64 (panAt d n)]] := by
  unfold pansN
  rw [List.range_succ, List.map_append, List.map_append]; rfl
theorem ordN_succ (n : Nat) : (ordN (n + 1)).map iV = (ordN n).map iV ++ [[.int .i64 (n : Int)]] := by
  unfold ordN
  rw [List.range_succ, List.map_append, List.map_append]; rfl
theorem pansN_len (d : Int) (n : Nat) : ((pansN d n).map iV).length = n := by simp [pansN]
theorem ordN_len (n : Nat) : ((ordN n).map iV).length = n := by simp [ordN]
def b13z : PBlk := .box [.str ⟨#[]⟩, .int .i64 0, .int .i64 0, .nilS, .int .i64 0, .int .i64 0, .int .i64 0, .int .i64 0, .bool false, .nilS, .nilS, .nilS, .nilS] 27 .rw
def blkS (d : Int) (ch : Nat) (b : Bool) (ords pans pats : PV) : PBlk := .box [.str ⟨#[]⟩, .int .i64 d, .int .i64 ch, ords, .int .i64 0, .int .i64 6, .int .i64 125, .int .i64 128, .bool b, pans, pats, .nilS, .nilS] 27 .rw
def hP (h : PHeap) (d : Int) (ch : Nat) (b : Bool) (o : PV) : Nat → PHeap
  | 0 => h ++ [b13z, .box (qOf d) 83 .rw, blkS d ch b o .nilS .nilS]
  | i + 1 => h ++ [b13z, .box (qOf d) 83 .rw, blkS d ch b o (.ref (h.length + 3) 0 (i + 1) (i + 1) 1) .nilS, .log ((pansN d (i + 1)).map iV) 1 3 .rw]
theorem app3 {h l : PHeap} {a b c : PBlk} {sz n : Nat} {t : TypeId} {rows : List (List PV)} {row : List PV} (hn : n = rows.length) (hs : 0 < sz) (hp : row.all oneP = true) (hm : n < mostLen) :
    appendP t sz (.ref (h.length + 3) 0 n n sz) (.frz sz [row]) (h ++ a :: b :: c :: .log rows sz t .rw :: l) = some (.ref (h.length + 3) 0 (n + 1) (n + 1) sz, h ++ a :: b :: c :: .log (rows ++ [row]) sz t .rw :: l) := by
  subst hn
  exact append_new (k := 3) (l := a :: b :: c :: .log rows sz t .rw :: l) rfl hs hp hm
theorem hP_trim {h : PHeap} {d : Int} {ch : Nat} {b : Bool} {o p : PV} {m1 m2 m3 m4 : Nat} {h' : PHeap} {vs : List PV} (e : h'[h.length + 2]? = some (blkS d ch b o (.ref (h.length + 3) m1 m2 m3 m4) p)) : trim (hP h d ch b o 0) vs h' = h' := by
  refine trim_keep (b := h.length + 2) (by show _ < (h ++ _).length; simp) e ?_ (not_ltB (b := h.length + 3) (lo := m1) (m := m2) (v := m3) (sz := m4) (by simp) (by show (h ++ _).length ≤ _; simp))
  show (h ++ _)[_]? ≠ _
  rw [get_new]
  intro k
  cases k
theorem s17_pan {N : Nat} {h : PHeap} {d : Int} {ch : Nat} {b : Bool} {o : PV} {j17 : List PV → PHeap → Pt} {i : Nat} (hi : i < ch) (hc : ch ≤ 16) (h4 : d = 1 → ch ≤ 4) (K : List PV → PHeap → Pt) :
    s17_L1 Γ0 N (.int .i64 d) (.int .i64 ch) (.ptr (h.length + 2) 0) (hP h d ch b o 0) j17 K [.int .i64 (i : Int)] (hP h d ch b o i) = K [.int .i64 ((i + 1 : Nat) : Int)] (hP h d ch b o (i + 1)) := by
  have hlt : ((i : Int) < (ch : Int)) = True := eq_true (by omega)
  have hrow : ∀ a, ([PV.int .i64 a] : List PV).all oneP = true := fun a => rfl
  have hs : i < 9223372036854775807 := by omega
  by_cases hd : d = 1
  · have e11 : (d == 1) = true := by rw [hd]; rfl
    have hl := pan_lit hd (show i < 4 by have := h4 hd; omega)
    unfold s17_L1
    cases i with
    | zero =>
      simp only [hP, blkS, b13z, words, ↓KLn, Nat.reduceAdd, hlt, decide_true, if_true, e11, fillLit, hl, part13_9, fill1i, pure1i, guardW, chunk1i, append_nilS (sz := 1) (by decide) (hrow _), len3, st1r, put13_9, succ63 hs]
      refine congrArg (K _) (Eq.trans (hP_trim (d := d) (ch := ch) (b := b) (o := o) (p := .nilS) (m1 := 0) (m2 := 1) (m3 := 1) (m4 := 1) ?_) ?_)
      · rw [get_new]; rfl
      · rfl
    | succ i =>
      simp only [hP, blkS, b13z, words, ↓KLn, Nat.reduceAdd, hlt, decide_true, if_true, e11, fillLit, hl, part13_9, fill1i, pure1i, guardW, chunk1i, app3 (sz := 1) (pansN_len d (i + 1)).symm (by decide) (hrow _) (show i + 1 < mostLen by unfold mostLen; omega), st1r, put13_9, succ63 hs]
      refine congrArg (K _) (Eq.trans (hP_trim (d := d) (ch := ch) (b := b) (o := o) (p := .nilS) (m1 := 0) (m2 := i + 1 + 1) (m3 := i + 1 + 1) (m4 := 1) ?_) ?_)
      · rw [get_new]; rfl
      · rw [pansN_succ d (i + 1)]
  · have e11 : (d == 1) = false := by simpa using hd
    have e12 : ∀ i, panAt d i = 128 := fun i => if_neg hd
    unfold s17_L1
    cases i with
    | zero =>
      simp only [hP, blkS, b13z, words, ↓KLn, Nat.reduceAdd, hlt, decide_true, if_true, e11, Bool.false_eq_true, if_false, part13_9, fill1i, pure1i, guardW, chunk1i, append_nilS (sz := 1) (by decide) (hrow _), len3, st1r, put13_9, succ63 hs]
      refine congrArg (K _) (Eq.trans (hP_trim (d := d) (ch := ch) (b := b) (o := o) (p := .nilS) (m1 := 0) (m2 := 1) (m3 := 1) (m4 := 1) ?_) ?_)
      · rw [get_new]; rfl
      · rw [pansN_succ d 0, e12]; rfl
    | succ i =>
      simp only [hP, blkS, b13z, words, ↓KLn, Nat.reduceAdd, hlt, decide_true, if_true, e11, Bool.false_eq_true, if_false, part13_9, fill1i, pure1i, guardW, chunk1i, app3 (sz := 1) (pansN_len d (i + 1)).symm (by decide) (hrow _) (show i + 1 < mostLen by unfold mostLen; omega), st1r, put13_9, succ63 hs]
      refine congrArg (K _) (Eq.trans (hP_trim (d := d) (ch := ch) (b := b) (o := o) (p := .nilS) (m1 := 0) (m2 := i + 1 + 1) (m3 := i + 1 + 1) (m4 := 1) ?_) ?_)
      · rw [get_new]; rfl
      · rw [pansN_succ d (i + 1), e12]
end Go.Vm.X


set_option linter.unusedSimpArgs false
set_option linter.unusedVariables false
set_option maxRecDepth 20000
namespace Go.Vm.X
open Go.Am Go.Vm
attribute [local congr] bind_c ifP_c loop_c K1_c ite_c fork_c guard_c unl_c
theorem app5 {h l : PHeap} {a b c d e : PBlk} {sz n : Nat} {t : TypeId} {rows : List (List PV)} {row : List PV} (hn : n = rows.length) (hs : 0 < sz) (hp : row.all oneP = true) (hm : n < mostLen) :
    appendP t sz (.ref (h.length + 5) 0 n n sz) (.frz sz [row]) (h ++ a :: b :: c :: d :: e :: .log rows sz t .rw :: l) = some (.ref (h.length + 5) 0 (n + 1) (n + 1) sz, h ++ a :: b :: c :: d :: e :: .log (rows ++ [row]) sz t .rw :: l) := by
  subst hn
  exact append_new (k := 5) (l := a :: b :: c :: d :: e :: .log rows sz t .rw :: l) rfl hs hp hm
theorem app6 {h l : PHeap} {a b c d e f : PBlk} {sz n : Nat} {t : TypeId} {rows : List (List PV)} {row : List PV} (hn : n = rows.length) (hs : 0 < sz) (hp : row.all oneP = true) (hm : n < mostLen) :
    appendP t sz (.ref (h.length + 6) 0 n n sz) (.frz sz [row]) (h ++ a :: b :: c :: d :: e :: f :: .log rows sz t .rw :: l) = some (.ref (h.length + 6) 0 (n + 1) (n + 1) sz, h ++ a :: b :: c :: d :: e :: f :: .log (rows ++ [row]) sz t .rw :: l) := by
  subst hn
  exact append_new (k := 6) (l := a :: b :: c :: d :: e :: f :: .log rows sz t .rw :: l) rfl hs hp hm
theorem far52 {h l : PHeap} {a b d e : PBlk} {n o sz sz' : Nat} {t t' : TypeId} {md md' : Md} {vs : List PV} {rows : List (List PV)} (hn : n = rows.length) :
    farP (.ref (h.length + 5) 0 n n sz) (.ptr (h.length + 2) o) (h ++ a :: b :: .box vs t' md' :: d :: e :: .log rows sz' t md :: l) = true := by
  subst hn
  unfold farP
  simp only [get_new, List.getElem?_cons_succ, List.getElem?_cons_zero]
  exact Nat.beq_refl _
theorem far_nil {b o : Nat} {h : PHeap} : farP .nilS (.ptr b o) h = true := nr rfl
theorem end_flat (h : PHeap) (a b c d e f g x : PBlk) (r : PHeap) : h ++ a :: b :: c :: d :: e :: f :: g :: (r ++ [x]) = (h ++ a :: b :: c :: d :: e :: f :: g :: r) ++ [x] := by simp
theorem load_end7 {agg : Bool} {n o : Nat} {h : PHeap} {a b c d e f g : PBlk} {r : PHeap} {vs : List PV} {t : TypeId} {md : Md} : loadP agg n (.ptr (h ++ a :: b :: c :: d :: e :: f :: g :: r).length o) (h ++ a :: b :: c :: d :: e :: f :: g :: (r ++ [.box vs t md])) = partP agg o n vs := by
  rw [end_flat, loadN0]
theorem store_end7 {n o : Nat} {v : PV} {h : PHeap} {a b c d e f g : PBlk} {r : PHeap} {x : PBlk} : storeP n (.ptr (h ++ a :: b :: c :: d :: e :: f :: g :: r).length o) v (h ++ a :: b :: c :: d :: e :: f :: g :: (r ++ [x])) = (storeP n (.ptr 0 o) v [x]).map fun l => h ++ a :: b :: c :: d :: e :: f :: g :: (r ++ l) := by
  rw [end_flat, storeN0]
  congr 1
  funext l
  simp
theorem fill_pat (p : Pat) : fillP (repP [.int .i64 0, .nilS] 1) [(0, 2, .agg (patC p))] = some (patC p) := nr rfl
theorem pure_pat (p : Pat) : (patC p).all pure1 = true := nr rfl
theorem chunk_pat (p : Pat) : chunk 2 1 (patC p) = [patC p] := nr rfl
theorem k55 {ch : Nat} (h1 : 1 ≤ ch) (hc : ch ≤ 16) (h : PHeap) : Γ0 55 [.int .i64 64, .int .i64 ch] h = some (.tuple [.agg (patC (patN ch)), .int .i64 0], h) := by
  have hi : inW (ch : Int) 1 16 = true := by unfold inW; simp only [Bool.and_eq_true, decide_eq_true_eq]; omega
  rw [c55 64 ch rfl hi h]
  have : (64 * (ch : Int)).toNat = 64 * ch := by omega
  rw [this]; rfl
def hQ (h : PHeap) (d : Int) (ch : Nat) (b : Bool) : Nat → PHeap
  | 0 => h ++ [b13z, .box (qOf d) 83 .rw, blkS d ch b .nilS (.ref (h.length + 3) 0 ch ch 1) .nilS, .log ((pansN d ch).map iV) 1 3 .rw]
  | i + 1 => h ++ b13z :: .box (qOf d) 83 .rw :: blkS d ch b (.ref (h.length + 6) 0 (i + 1) (i + 1) 1) (.ref (h.length + 3) 0 ch ch 1) (.ref (h.length + 5) 0 (i + 1) (i + 1) 2) :: .log ((pansN d ch).map iV) 1 3 .rw :: .box (patC (patN ch)) 39 .rw :: .log (List.replicate (i + 1) (patC (patN ch))) 2 39 .rw :: .log ((ordN (i + 1)).map iV) 1 3 .rw :: List.replicate i (.box (patC (patN ch)) 39 .rw)
theorem hQ_trim {h : PHeap} {d : Int} {ch : Nat} {b : Bool} {o p : PV} {m1 m2 m3 m4 : Nat} {h' : PHeap} {vs : List PV} (e : h'[h.length + 2]? = some (blkS d ch b (.ref (h.length + 6) m1 m2 m3 m4) o p)) : trim (hQ h d ch b 0) vs h' = h' := by
  refine trim_keep (b := h.length + 2) (by show _ < (h ++ _).length; simp) e ?_ (not_ltB (b := h.length + 6) (lo := m1) (m := m2) (v := m3) (sz := m4) (by simp) (by show (h ++ _).length ≤ _; simp))
  show (h ++ _)[_]? ≠ _
  rw [get_new]
  intro k
  cases k
theorem s17_pat {N : Nat} {h : PHeap} {d : Int} {ch : Nat} {b : Bool} {j20 : List PV → PHeap → Pt} {n i : Nat} (hi : i < n) (hn : n ≤ 32) (h1 : 1 ≤ ch) (hc : ch ≤ 16) (K : List PV → PHeap → Pt) :
    s17_L0 Γ0 N (.int .i64 ch) (.int .i64 n) (.ptr (h.length + 2) 0) (hQ h d ch b 0) j20 K [.int .i64 (i : Int)] (hQ h d ch b i) = K [.int .i64 ((i + 1 : Nat) : Int)] (hQ h d ch b (i + 1)) := by
  have k55 := k55 h1 hc
  have hlt : ((i : Int) < (n : Int)) = True := eq_true (by omega)
  have hp : (patC (patN ch)).all oneP = true := rfl
  have hrow : ∀ a, ([PV.int .i64 a] : List PV).all oneP = true := fun a => rfl
  have hs : i < 9223372036854775807 := by omega
  unfold s17_L0
  cases i with
  | zero =>
    simp only [hQ, blkS, b13z, words, ↓KLn, Nat.reduceAdd, hlt, decide_true, if_true, k55, pat_st, pat_put, part13_10, pat_fptr, fill_pat, pure_pat, guardW, chunk_pat, far_nil, Bool.and_true, append_nilS (sz := 2) (by decide) hp, part13_3, fill1i, pure1i, chunk1i, append_nilS (sz := 1) (by decide) (hrow _), len6, st1r, put13_10, put13_3, succ63 hs]
    refine congrArg (K _) (Eq.trans (hQ_trim (d := d) (ch := ch) (b := b) (o := .ref (h.length + 3) 0 ch ch 1) (p := .ref (h.length + 5) 0 1 1 2) (m1 := 0) (m2 := 1) (m3 := 1) (m4 := 1) ?_) ?_)
    · rw [get_new]; rfl
    · rfl
  | succ i =>
    have hr : i + 1 = (List.replicate (i + 1) (patC (patN ch))).length := by simp
    have hm : i + 1 < mostLen := by unfold mostLen; omega
    simp only [hQ, blkS, b13z, words, ↓KLn, Nat.reduceAdd, hlt, decide_true, if_true, k55, store_end7, load_end7, pat_st, pat_put, part13_10, pat_fptr, fill_pat, pure_pat, guardW, chunk_pat, far52 hr, Bool.and_true, app5 (sz := 2) hr (by decide) hp hm, part13_3, fill1i, pure1i, chunk1i, app6 (sz := 1) (ordN_len (i + 1)).symm (by decide) (hrow _) hm, st1r, put13_10, put13_3, succ63 hs]
    refine congrArg (K _) (Eq.trans (hQ_trim (d := d) (ch := ch) (b := b) (o := .ref (h.length + 3) 0 ch ch 1) (p := .ref (h.length + 5) 0 (i + 1 + 1) (i + 1 + 1) 2) (m1 := 0) (m2 := i + 1 + 1) (m3 := i + 1 + 1) (m4 := 1) ?_) ?_)
    · rw [get_new]; rfl
    · have e1 : List.replicate (i + 1 + 1) (patC (patN ch)) = List.replicate (i + 1) (patC (patN ch)) ++ [patC (patN ch)] := List.replicate_succ'
      have e2 : List.replicate (i + 1) (PBlk.box (patC (patN ch)) 39 Md.rw) = List.replicate i (PBlk.box (patC (patN ch)) 39 Md.rw) ++ [PBlk.box (patC (patN ch)) 39 Md.rw] := List.replicate_succ'
      rw [ordN_succ (i + 1), e1, e2]
end Go.Vm.X


set_option linter.unusedSimpArgs false
set_option linter.unusedVariables false
set_option maxRecDepth 20000
namespace Go.Vm.X
open Go.Am Go.Vm
attribute [local congr] bind_c ifP_c loop_c K1_c ite_c fork_c guard_c unl_c
theorem put13b (a b c d e f g i j k l m n : PV) (x : ByteArray) (y z y5 y6 y7 : Int) (w : Bool) (o : PV) (ho : oneP o = true) : putAt [a, b, c, d, e, f, g, i, j, k, l, m, n] 0 [.str x, .int .i64 y, .int .i64 z, o, .int .i64 0, .int .i64 y5, .int .i64 y6, .int .i64 y7, .bool w, .nilS, .nilS, .nilS, .nilS] = some [.str x, .int .i64 y, .int .i64 z, o, .int .i64 0, .int .i64 y5, .int .i64 y6, .int .i64 y7, .bool w, .nilS, .nilS, .nilS, .nilS] := put_whole rfl (by simp only [List.all_cons, ho, List.all_nil, Bool.and_true, Bool.true_and]; rfl)
theorem put13r (a b c d e f g i j k l m n : PV) (x : ByteArray) (y z : Int) (w : Bool) (o : PV) (ho : oneP o = true) (r1 r2 r3 r4 r5 t1 t2 t3 t4 t5 : Nat) : putAt [a, b, c, d, e, f, g, i, j, k, l, m, n] 0 [.str x, .int .i64 y, .int .i64 z, o, .int .i64 0, .int .i64 6, .int .i64 125, .int .i64 128, .bool w, .ref r1 r2 r3 r4 r5, .ref t1 t2 t3 t4 t5, .nilS, .nilS] = some [.str x, .int .i64 y, .int .i64 z, o, .int .i64 0, .int .i64 6, .int .i64 125, .int .i64 128, .bool w, .ref r1 r2 r3 r4 r5, .ref t1 t2 t3 t4 t5, .nilS, .nilS] := put_whole rfl (by simp only [List.all_cons, ho, List.all_nil, Bool.and_true, Bool.true_and]; rfl)
theorem one_nil : oneP .nilS = true := rfl
theorem one_ref (a b c d e : Nat) : oneP (.ref a b c d e) = true := rfl
theorem one_frz (n : Nat) (l : List (List PV)) : oneP (.frz n l) = true := rfl
theorem fin_z {h l : PHeap} {n : Int} : finP [.agg SA13, .keep] h (h ++ l) [.agg [.str ⟨#[]⟩, .int .i64 0, .int .i64 0, .nilS, .int .i64 0, .int .i64 0, .int .i64 0, .int .i64 0, .bool false, .nilS, .nilS, .nilS, .nilS], .int .i64 n] = some (.tuple [.agg sngZ.cs, .int .i64 n], h) := by
  refine fin_new (ws := [.agg sngZ.cs, .int .i64 n]) (l := l) ?_ ?_
  · rw [fzL_cons, fz_aggs]
    unfold SA13
    simp only [fzL_cons, fzL_nil, fz_keep, bS, mapS, fz_nil, fz_nils]
    rfl
  · intro v hv
    simp only [List.mem_cons, List.not_mem_nil, or_false] at hv
    rcases hv with rfl | rfl
    · exact plainP_lt rfl
    · exact plainP_lt rfl
def blankV (d ch n : Int) : PV :=
  if kindE d ≠ 0 then .tuple [.agg sngZ.cs, .int .i64 (kindE d)]
  else if (!inW ch 1 (qI d 1) || !inW n 1 32) = true then .tuple [.agg sngZ.cs, .int .i64 5]
  else .tuple [.agg (blankS d ch.toNat n.toNat).cs, .int .i64 0]
theorem q1_le (d : Int) : qI d 1 ≤ 16 := qOf_cases (fun r => rI r 1 ≤ 16) (by decide) (by decide) (by decide) (by decide) (by decide) (by decide) (by decide) d
theorem q1_one : qI 1 1 = 4 := by decide
theorem fz_blank {h : PHeap} {d : Int} {ch n : Nat} (h1 : 1 ≤ ch) (hn : 1 ≤ n) (b0 : PBlk) (r : PHeap) {b : Bool} (hb : b = qB d 8) :
    finP [.agg SA13, .keep] h (h ++ b0 :: .box (qOf d) 83 .rw :: blkS d ch b (.ref (h.length + 6) 0 n n 1) (.ref (h.length + 3) 0 ch ch 1) (.ref (h.length + 5) 0 n n 2) :: .log ((pansN d ch).map iV) 1 3 .rw :: .box (patC (patN ch)) 39 .rw :: .log (List.replicate n (patC (patN ch))) 2 39 .rw :: .log ((ordN n).map iV) 1 3 .rw :: r)
      [.agg [.str ⟨#[]⟩, .int .i64 d, .int .i64 ch, .ref (h.length + 6) 0 n n 1, .int .i64 0, .int .i64 6, .int .i64 125, .int .i64 128, .bool b, .ref (h.length + 3) 0 ch ch 1, .ref (h.length + 5) 0 n n 2, .nilS, .nilS], .int .i64 0]
      = some (.tuple [.agg (blankS d ch n).cs, .int .i64 0], h) := by
  subst hb
  generalize hS : blkS d ch (qB d 8) (.ref (h.length + 6) 0 n n 1) (.ref (h.length + 3) 0 ch ch 1) (.ref (h.length + 5) 0 n n 2) = S
  have hr1 : ((List.replicate n (patC (patN ch))).length) = n := by simp
  have z1 : fz (.flat 1) (.ref (h.length + 6) 0 n n 1) (h ++ b0 :: .box (qOf d) 83 .rw :: S :: .log ((pansN d ch).map iV) 1 3 .rw :: .box (patC (patN ch)) 39 .rw :: .log (List.replicate n (patC (patN ch))) 2 39 .rw :: .log ((ordN n).map iV) 1 3 .rw :: r) = some (ints (ordN n), h ++ b0 :: .box (qOf d) 83 .rw :: S :: .log ((pansN d ch).map iV) 1 3 .rw :: .box (patC (patN ch)) 39 .rw :: .log (List.replicate n (patC (patN ch))) 2 39 .rw :: .log ((ordN n).map iV) 1 3 .ro :: r) := by
    have e := fz_logF (h := h) (l := b0 :: .box (qOf d) 83 .rw :: S :: .log ((pansN d ch).map iV) 1 3 .rw :: .box (patC (patN ch)) 39 .rw :: .log (List.replicate n (patC (patN ch))) 2 39 .rw :: .log ((ordN n).map iV) 1 3 .rw :: r) (k := 6) (s := 1) rfl (by rw [ordN_len]; omega) (pure_map (f := iV) (fun c => rfl) _)
    rw [ordN_len] at e
    exact e
  have z2 : ∀ m : Md, fz (.flat 1) (.ref (h.length + 3) 0 ch ch 1) (h ++ b0 :: .box (qOf d) 83 .rw :: S :: .log ((pansN d ch).map iV) 1 3 .rw :: .box (patC (patN ch)) 39 .rw :: .log (List.replicate n (patC (patN ch))) 2 39 .rw :: .log ((ordN n).map iV) 1 3 m :: r) = some (ints (pansN d ch), h ++ b0 :: .box (qOf d) 83 .rw :: S :: .log ((pansN d ch).map iV) 1 3 .ro :: .box (patC (patN ch)) 39 .rw :: .log (List.replicate n (patC (patN ch))) 2 39 .rw :: .log ((ordN n).map iV) 1 3 m :: r) := fun m => by
    have e := fz_logF (h := h) (l := b0 :: .box (qOf d) 83 .rw :: S :: .log ((pansN d ch).map iV) 1 3 .rw :: .box (patC (patN ch)) 39 .rw :: .log (List.replicate n (patC (patN ch))) 2 39 .rw :: .log ((ordN n).map iV) 1 3 m :: r) (k := 3) (s := 1) rfl (by rw [pansN_len]; omega) (pure_map (f := iV) (fun c => rfl) _)
    rw [pansN_len] at e
    exact e
  have z3 : ∀ m m' : Md, fz (.sl 2 [.keep, .flat 6]) (.ref (h.length + 5) 0 n n 2) (h ++ b0 :: .box (qOf d) 83 .rw :: S :: .log ((pansN d ch).map iV) 1 3 m :: .box (patC (patN ch)) 39 .rw :: .log (List.replicate n (patC (patN ch))) 2 39 .rw :: .log ((ordN n).map iV) 1 3 m' :: r) = some (patsPV (List.replicate n (patN ch)), h ++ b0 :: .box (qOf d) 83 .rw :: S :: .log ((pansN d ch).map iV) 1 3 m :: .box (patC (patN ch)) 39 .rw :: .log (List.replicate n (patC (patN ch))) 2 39 .ro :: .log ((ordN n).map iV) 1 3 m' :: r) := fun m m' => by
    have e := fz_logS (h := h) (l := b0 :: .box (qOf d) 83 .rw :: S :: .log ((pansN d ch).map iV) 1 3 m :: .box (patC (patN ch)) 39 .rw :: .log (List.replicate n (patC (patN ch))) 2 39 .rw :: .log ((ordN n).map iV) 1 3 m' :: r) (k := 5) (s := 2) (cs := [.keep, .flat 6]) rfl (by rw [hr1]; omega) (fun r hr => by rw [List.eq_of_mem_replicate hr]; rfl) (by rw [← List.map_replicate]; exact pure_map (f := patC) (fun c => rfl) _)
    rw [hr1] at e
    unfold patsPV
    rw [List.map_replicate]
    exact e
  refine fin_new (ws := [.agg (blankS d ch n).cs, .int .i64 0]) (l := b0 :: .box (qOf d) 83 .rw :: S :: .log ((pansN d ch).map iV) 1 3 .ro :: .box (patC (patN ch)) 39 .rw :: .log (List.replicate n (patC (patN ch))) 2 39 .ro :: .log ((ordN n).map iV) 1 3 .ro :: r) ?_ ?_
  · rw [fzL_cons, fz_aggs]
    unfold SA13
    simp only [fzL_cons, fzL_nil, fz_keep, bS, mapS, z1, z2, z3, fz_nils]
    rfl
  · intro v hv
    simp only [List.mem_cons, List.not_mem_nil, or_false] at hv
    rcases hv with rfl | rfl
    · exact plainP_lt rfl
    · exact plainP_lt rfl
theorem c17g (d ch n : Int) (h : PHeap) : Γ0 17 [.int .i64 d, .int .i64 ch, .int .i64 n] h = some (blankV d ch n, h) := by
  obtain ⟨N, hN⟩ : ∃ N : Nat, 40 < N := ⟨_, Nat.lt_succ_self _⟩
  refine gbody (F := A17) (by kernel_rfl) N ?_
  rw [s17_eq]; unfold s17 blankV
  have hq := q_put d (vs := Z29) rfl
  by_cases e : kindE d = 0
  · have e0 : (kindE d != 0) = false := by rw [e]; rfl
    rw [if_neg (by rw [e]; simp)]
    by_cases hr : (!inW ch 1 (qI d 1) || !inW n 1 32) = true
    · rw [if_pos hr]
      simp only [words, ↓KLn, Nat.reduceAdd, c53, q_st, hq, e0, Bool.false_eq_true, if_false, q_1, c54, hr, if_true, fill_none, st13, put13b _ _ _ _ _ _ _ _ _ _ _ _ _ _ _ _ _ _ _ _ _ one_nil, part13, fin_z]
    · rw [if_neg hr]
      rw [Bool.or_eq_true, not_or] at hr
      simp only [Bool.not_eq_true', Bool.not_eq_false, inW, Bool.and_eq_true, decide_eq_true_eq] at hr
      have hq16 := q1_le d
      have hi1 : inW ch 1 (qI d 1) = true := by unfold inW; simp only [Bool.and_eq_true, decide_eq_true_eq]; omega
      have hi2 : inW n 1 32 = true := by unfold inW; simp only [Bool.and_eq_true, decide_eq_true_eq]; omega
      obtain ⟨c, rfl⟩ : ∃ c : Nat, ch = (c : Int) := ⟨ch.toNat, by omega⟩
      obtain ⟨m, rfl⟩ : ∃ m : Nat, n = (m : Int) := ⟨n.toNat, by omega⟩
      have h4 : d = 1 → c ≤ 4 := fun k => by
        have := hr.1.2
        rw [k, q1_one] at this
        omega
      have hc1 : 1 ≤ c := by omega
      have hc2 : c ≤ 16 := by omega
      have hm1 : 1 ≤ m := by omega
      have hm2 : m ≤ 32 := by omega
      rw [Int.toNat_natCast, Int.toNat_natCast]
      simp only [words, ↓KLn, Nat.reduceAdd, c53, q_st, hq, e0, Bool.false_eq_true, if_false, q_1, c54, hi1, hi2, Bool.not_true, Bool.or_false, q_8, fill_b, st13, put13b _ _ _ _ _ _ _ _ _ _ _ _ _ _ _ _ _ _ _ _ _ one_nil]
      refine loop_run (fun i => [.int .i64 (i : Int)]) (hP h d c (qB d 8) .nilS) c (by omega) rfl rfl (fun i hi K => s17_pan hi hc2 h4 K) fun K => ?_
      have hf4 : ((c : Int) < (c : Int)) = False := eq_false (by omega)
      have hlast : hP h d c (qB d 8) .nilS c = hQ h d c (qB d 8) 0 := by
        obtain ⟨c', rfl⟩ : ∃ c', c = c' + 1 := ⟨c - 1, by omega⟩
        rfl
      rw [hlast]
      unfold s17_L1
      simp only [words, ↓KLn, Nat.reduceAdd, hf4, decide_false, Bool.false_eq_true, if_false]
      refine loop_run (fun i => [.int .i64 (i : Int)]) (hQ h d c (qB d 8)) m (by omega) rfl rfl (fun i hi K => s17_pat hi hm2 hc1 hc2 K) fun K => ?_
      have hf1 : ((m : Int) < (m : Int)) = False := eq_false (by omega)
      obtain ⟨m', rfl⟩ : ∃ m', m = m' + 1 := ⟨m - 1, by omega⟩
      unfold s17_L0
      simp only [hQ, b13z, blkS, words, ↓KLn, Nat.reduceAdd, hf1, decide_false, Bool.false_eq_true, if_false, part13, st13, put13r _ _ _ _ _ _ _ _ _ _ _ _ _ _ _ _ _ _ (one_ref _ _ _ _ _)]
      exact fz_blank hc1 hm1 _ _ rfl
  · have e0 : (kindE d != 0) = true := by simpa using e
    rw [if_pos e]
    simp only [words, ↓KLn, Nat.reduceAdd, c53, q_st, hq, e0, if_true, fill_none, st13, put13b _ _ _ _ _ _ _ _ _ _ _ _ _ _ _ _ _ _ _ _ _ one_nil, part13, fin_z]
end Go.Vm.X


set_option linter.unusedSimpArgs false
set_option linter.unusedVariables false
set_option maxRecDepth 20000
namespace Go.Vm.X
open Go.Am Go.Vm
def blank : Sng := { name := ⟨#[]⟩, dia := 1, ch := 4, ords := [0], rest := 0, spd := 6, tem := 125, glb := 128, lin := false, pans := [0, 256, 256, 0], pats := [(64, List.replicate 256 cell0)], smps := [], inss := [] }
def blankL : Sng := { blank with lin := true }
def pat64 : Pat := (64, List.replicate 256 cell0)
theorem blank_eq : blankS 1 4 1 = blank := by kernel_rfl
theorem c17 (h : PHeap) : Γ0 17 [.int .i64 1, .int .i64 4, .int .i64 1] h = some (.tuple [.agg blank.cs, .int .i64 0], h) := by
  rw [c17g, ← blank_eq]
  rfl
end Go.Vm.X



/- Songs: the law. -/
set_option linter.unusedSimpArgs false
set_option linter.unusedVariables false
set_option maxRecDepth 20000
namespace Go.Vm.X
open Go.Am Go.Vm
attribute [local congr] bind_c ifP_c loop_c K1_c ite_c fork_c guard_c unl_c
theorem sng_st (s : Sng) (vs : List PV) (t : TypeId) (l : PHeap) : storeP 13 (.ptr 0 0) (.agg s.cs) (.box vs t .rw :: l) = (putAt vs 0 s.cs).map fun vs' => .box vs' t .rw :: l := storeC0 rfl (by decide)
theorem sng_put (s : Sng) (a b c d e f g i j k l m n : PV) : putAt [a, b, c, d, e, f, g, i, j, k, l, m, n] 0 s.cs = some s.cs := put_whole rfl rfl
theorem st1b (b : Bool) (o : Nat) (vs : List PV) (t : TypeId) (l : PHeap) : storeP 1 (.ptr 0 o) (.bool b) (.box vs t .rw :: l) = (putAt vs o [.bool b]).map fun vs' => .box vs' t .rw :: l := st1 rfl o vs t l
theorem put_lin : putAt blank.cs 8 [.bool true] = some blankL.cs := nr rfl
theorem ix_pan : indexAddrP 1 (ints blank.pans) (.int .i64 1) = some (.fptr (iV 256) 0) := nr rfl
theorem blank_len : SngLen blank where
  name := by decide
  ords := by decide
  pans := by decide
  pats := by decide
  cells := fun p hp => by
    have : p = pat64 := by simpa [blank, pat64] using hp
    subst this
    show (List.replicate 256 cell0).length < _
    rw [List.length_replicate]; decide
  smps := by decide
  smp := fun p hp => by cases hp
  inss := by decide
  ins := fun p hp => by cases hp
theorem blankL_len : SngLen blankL where
  name := by decide
  ords := by decide
  pans := by decide
  pats := by decide
  cells := blank_len.cells
  smps := by decide
  smp := fun p hp => by cases hp
  inss := by decide
  ins := fun p hp => by cases hp
theorem wrong_blank : wrongP blank = okF := by kernel_rfl
theorem wrong_blankL : wrongP blankL = (⟨#[108, 105, 110, 101, 97, 114]⟩, 0, 6) := by kernel_rfl
theorem c8 (h : PHeap) : Γ0 8 [] h = some (.bool true, h) := by
  refine gbody (F := A8) (by kernel_rfl) 1 ?_
  rw [s8_eq]; unfold s8
  simp only [words, ↓KLn, Nat.reduceAdd, c17, sng_st, sng_put, s_whole, st1b, put_lin, c24 blankL blankL_len, wrong_blankL, wrongV, y30, y31, y32, c16 blank blank_len, wrong_blank, sc9, len_ints, ix_pan, iv0, bin_seq, fin_bool]
  have e1 : (okF.2.2 == 0) = true := rfl
  have e2 : ((blank.pans.length : Int) == 4) = true := rfl
  simp only [e1, e2, beq_self_eq_true, Bool.and_self]
end Go.Vm.X


set_option linter.unusedSimpArgs false
set_option linter.unusedVariables false
namespace Go.Vm.X
open Go.Am Go.Vm
structure SngOK (s : Sng) : Prop where
  name : nameOK s.name = true
  dia : inW s.dia 1 6 = true
  ch : inW s.ch 1 (qI s.dia 1) = true
  npats : inW s.pats.length 1 (qI s.dia 2) = true
  pats : ∀ p ∈ s.pats, patCode s p = 0
  nords : inW s.ords.length 1 64 = true
  ords : ∀ o ∈ s.ords, ordBad s o = false
  rest : inW s.rest 0 (IntKind.i64.wrap ((s.ords.length : Int) - 1)) = true
  spd : inW s.spd 1 31 = true
  tem : inW s.tem 32 255 = true
  glb : inW s.glb 0 128 = true
  lin : (!s.lin || qB s.dia 8) = true
  npans : (s.pans.length : Int) = s.ch
  pans : ∀ p ∈ s.pans, inW p 0 256 = true
  nsmps : (s.smps.length : Int) ≤ 31
  smps : ∀ x ∈ s.smps, smpOK x = true
  ninss : (s.inss.length : Int) ≤ 31
  inss : ∀ x ∈ s.inss, insCode s x = 0
theorem un_ok {ok : Bool} {part : ByteArray} {e : Int} (he : e ≠ 0) (h : isF (unF ok part e) = false) : ok = true := by
  cases ok with
  | true => rfl
  | false =>
    have h2 : (e != 0) = false := h
    rw [bne_eq_false_iff_eq] at h2
    exact absurd h2 he
theorem scan_ok {α : Type} {part : ByteArray} {code : α → Int} {l : List α} (h : isF (scanF part code l) = false) : ∀ a ∈ l, code a = 0 := by
  unfold scanF at h
  cases hi : l.findIdx? (fun a => code a != 0) with
  | none =>
    intro a ha
    have := List.findIdx?_eq_none_iff.1 hi a ha
    rwa [bne_eq_false_iff_eq] at this
  | some i =>
    rw [hi] at h
    obtain ⟨a, h1, h2⟩ := idx_some hi
    simp only [h1, Option.map_some, Option.getD_some] at h
    have h3 : (code a != 0) = false := h
    rw [h2] at h3
    cases h3
theorem find_isF {l : List Flt} {f : Flt} (h : l.find? isF = some f) : (f.2.2 == 0) = false := by
  have := List.find?_some h
  unfold isF at this
  rw [beq_eq_false_iff_ne]
  rwa [bne_iff_ne] at this
theorem sng_ok {s : Sng} (h : ((wrongP s).2.2 == 0) = true) : SngOK s := by
  rw [wrong_same] at h
  unfold wrongR at h
  cases h1 : (headL s).find? isF with
  | some f =>
    rw [h1] at h
    simp only [find_isF h1] at h
    cases h
  | none =>
    rw [h1] at h
    simp only at h
    cases h2 : (restL s).find? isF with
    | some f =>
      rw [h2] at h
      simp only [find_isF h2] at h
      cases h
    | none =>
      have g1 := List.find?_eq_none.1 h1
      have g2 := List.find?_eq_none.1 h2
      have m1 : ∀ f ∈ headL s, isF f = false := fun f hf => by simpa using g1 f hf
      have m2 : ∀ f ∈ restL s, isF f = false := fun f hf => by simpa using g2 f hf
      unfold headL at m1
      unfold restL at m2
      simp only [List.forall_mem_cons] at m1 m2
      obtain ⟨a1, a2, a3, _⟩ := m1
      obtain ⟨b1, b2, b3, b4, b5, b6, b7, b8, b9, b10, b11, b12, b13, b14, b15, _⟩ := m2
      have k2 := un_ok (by decide) a2
      have k12 := un_ok (by decide) b12
      have k14 := un_ok (by decide) b14
      simp only [Bool.and_eq_true, decide_eq_true_eq] at k12 k14
      exact {
        name := un_ok (by decide) a1
        dia := by
          have := k2
          unfold kindE at this
          cases hd : inW s.dia 1 6 with
          | true => rfl
          | false => rw [hd] at this; cases this
        ch := un_ok (by decide) a3
        npats := un_ok (by decide) b1
        pats := scan_ok b2
        nords := un_ok (by decide) b3
        ords := fun o ho => by
          have := scan_ok b4 o ho
          cases hb : ordBad s o with
          | false => rfl
          | true => rw [hb] at this; cases this
        rest := un_ok (by decide) b5
        spd := un_ok (by decide) b6
        tem := un_ok (by decide) b7
        glb := un_ok (by decide) b8
        lin := un_ok (by decide) b9
        npans := by
          have := un_ok (by decide) b10
          rwa [beq_iff_eq] at this
        pans := fun o ho => by
          have := scan_ok b11 o ho
          cases hb : inW o 0 256 with
          | true => rfl
          | false => rw [hb] at this; cases this
        nsmps := k12.1
        smps := fun o ho => by
          have := scan_ok b13 o ho
          cases hb : smpOK o with
          | true => rfl
          | false => rw [hb] at this; cases this
        ninss := k14.1
        inss := scan_ok b15 }
end Go.Vm.X



/- Instruments: which note and sample a key plays; lists that are the same. -/
set_option linter.unusedSimpArgs false
set_option linter.unusedVariables false
namespace Go.Vm.X
open Go.Am Go.Vm
attribute [local congr] bind_c ifP_c loop_c K1_c ite_c fork_c guard_c unl_c
theorem ic_whole (i : Ins) : partP true 0 33 i.cs = some (.agg i.cs) := part_all rfl
def keyAt (i : Ins) (n : Nat) (own : Int) : Int × Int := if i.keys.length = 0 then ((n : Int), own) else i.keys.getD n (0, 0)
def keyV (i : Ins) (n own : Int) : Int × Int := if insOK i = true ∧ 0 ≤ n ∧ n ≤ 119 then keyAt i n.toNat own else (0, 0)
def pairV (p : Int × Int) : PV := .tuple [.int .i64 p.1, .int .i64 p.2]
theorem kc0 (c : Int × Int) : (keyC c)[0]? = some (.int .i64 c.1) := nr rfl
theorem kc1 (c : Int × Int) : (keyC c)[1]? = some (.int .i64 c.2) := nr rfl
theorem fin_ii' {h l : PHeap} {a b : Int} : finP [.keep, .keep] h (h ++ l) [.int .i64 a, .int .i64 b] = some (.tuple [.int .i64 a, .int .i64 b], h) := fin_k2 rfl rfl
theorem keys_120 {i : Ins} (h : insOK i = true) : i.keys.length = 0 ∨ i.keys.length = 120 := by
  unfold insOK at h
  simp only [Bool.and_eq_true, Bool.or_eq_true, beq_iff_eq] at h
  omega
theorem keys_ok {i : Ins} (h : insOK i = true) {k : Int × Int} (hk : k ∈ i.keys) : 0 ≤ k.1 ∧ k.1 ≤ 119 ∧ 0 ≤ k.2 ∧ k.2 ≤ 31 := by
  unfold insOK at h
  simp only [Bool.and_eq_true, Bool.not_eq_true', List.any_eq_false] at h
  have := h.1 k hk
  unfold keyBad inW at this
  simp only [Bool.or_eq_true, Bool.not_eq_true', Bool.and_eq_false_iff, decide_eq_false_iff_not] at this
  omega
theorem inW_of {n : Int} (h : inW n 0 119 = true) : 0 ≤ n ∧ n ≤ 119 := by
  unfold inW at h
  simpa only [Bool.and_eq_true, decide_eq_true_eq] using h
theorem c111 (i : Ins) (hl : InsLen i) (n own : Int) (h : PHeap) : Γ0 111 [.agg i.cs, .int .i64 n, .int .i64 own] h = some (pairV (keyV i n own), h) := by
  refine gbody (F := A111) (by kernel_rfl) 1 ?_
  rw [s111_eq]; unfold s111 keyV
  cases hv : insOK i with
  | false =>
    simp only [words, ↓KLn, Nat.reduceAdd, ↓K1n, sc_or, ic_whole, c127 i hl, hv, Bool.not_false, if_true, fin_ii', Bool.false_eq_true, false_and, if_false]
    rfl
  | true =>
    cases hn : inW n 0 119 with
    | false =>
      have hne : ¬ (0 ≤ n ∧ n ≤ 119) := fun hh => by
        unfold inW at hn
        simp [hh.1, hh.2] at hn
      simp only [words, ↓KLn, Nat.reduceAdd, ↓K1n, sc_or, ic_whole, c127 i hl, hv, Bool.not_true, c146, hn, Bool.not_false, if_true, fin_ii', Bool.false_eq_true, if_false, true_and, if_neg hne]
      rfl
    | true =>
      obtain ⟨m, rfl⟩ : ∃ m : Nat, n = (m : Int) := ⟨n.toNat, by have := inW_of hn; omega⟩
      have hb := inW_of hn
      by_cases h0 : i.keys.length = 0
      · have e0 : ((i.keys.length : Int) == 0) = true := by rw [beq_iff_eq]; omega
        simp only [words, ↓KLn, Nat.reduceAdd, ↓K1n, sc_or, ic_whole, c127 i hl, hv, Bool.not_true, c146, hn, if_true, fin_ii', Bool.false_eq_true, if_false, true_and, if_pos hb, ic1, len_keys, e0]
        unfold keyAt
        rw [if_pos h0]
        rfl
      · obtain ⟨k, hk⟩ := lt_l (show m < i.keys.length by have := keys_120 hv; omega)
        have e0 : ((i.keys.length : Int) == 0) = false := by rw [beq_eq_false_iff_ne]; omega
        simp only [words, ↓KLn, Nat.reduceAdd, ↓K1n, sc_or, ic_whole, c127 i hl, hv, Bool.not_true, c146, hn, if_true, fin_ii', Bool.false_eq_true, if_false, true_and, if_pos hb, ic1, len_keys, e0, idx_keys _ hk, kc0, kc1]
        unfold keyAt
        rw [if_neg h0, Int.toNat_natCast, getD_of hk]
        rfl
theorem eq_pair (x y : Int × Int) : eqAggP [.int, .int] true (.agg (keyC x)) (.agg (keyC y)) = some (.bool (decide (x ≠ y))) := by
  obtain ⟨a, b⟩ := x
  obtain ⟨c, d⟩ := y
  simp only [eqAggP, eqCellsP, keyC]
  by_cases h1 : a = c <;> by_cases h2 : b = d <;> simp [h1, h2]
theorem key_part (c : Int × Int) : partP true 0 2 (keyC c) = some (.agg (keyC c)) := part_all rfl
theorem same_or {α : Type} [DecidableEq α] {a b : List α} (hlen : a.length = b.length) {i : Nat} {x y : α} (h1 : a[i]? = some x) (h2 : b[i]? = some y) (hne : x ≠ y) : decide (a = b) = false := by
  rw [decide_eq_false_iff_not]
  rintro rfl
  rw [h1] at h2
  cases h2
  exact hne rfl
theorem same_all {α : Type} [DecidableEq α] {a b : List α} (hlen : a.length = b.length) (h : ∀ (i : Nat) (x y : α), a[i]? = some x → b[i]? = some y → x = y) : decide (a = b) = true := by
  rw [decide_eq_true_eq]
  apply List.ext_getElem hlen
  intro i h1 h2
  exact h i _ _ (List.getElem?_eq_getElem h1) (List.getElem?_eq_getElem h2)
theorem len_ne {α : Type} [DecidableEq α] {a b : List α} (h : a.length ≠ b.length) : decide (a = b) = false := by
  rw [decide_eq_false_iff_not]
  rintro rfl
  exact h rfl
def neAt {α : Type} [DecidableEq α] (a b : List α) (i : Nat) : Bool := match a[i]?, b[i]? with
  | some x, some y => decide (x ≠ y)
  | _, _ => false
theorem pt_part (c : Int × Int) : partP true 0 2 (ptC c) = some (.agg (ptC c)) := part_all rfl
theorem eq_pairP (x y : Int × Int) : eqAggP [.int, .int] true (.agg (ptC x)) (.agg (ptC y)) = some (.bool (decide (x ≠ y))) := eq_pair x y
end Go.Vm.X



/- Compact of a list of numbers. -/
set_option linter.unusedSimpArgs false
set_option linter.unusedVariables false
namespace Go.Vm.X
open Go.Am Go.Vm
def keepAt (l : List Int) (j : Nat) : Bool := j == 0 || l.getD j 0 != l.getD (j - 1) 0
def ddN (l : List Int) (m : Nat) : List Int := ((List.range m).filter (keepAt l)).map fun j => l.getD j 0
theorem ddN_succ (l : List Int) (m : Nat) : ddN l (m + 1) = if keepAt l m = true then ddN l m ++ [l.getD m 0] else ddN l m := by
  unfold ddN
  rw [List.range_succ, List.filter_append, List.map_append]
  cases h : keepAt l m with
  | true => simp [h]
  | false => simp [h]
theorem ddN_le (l : List Int) : ∀ m, (ddN l m).length ≤ m
  | 0 => by simp [ddN]
  | m + 1 => by
    have := ddN_le l m
    rw [ddN_succ]
    split
    · rw [List.length_append]; simp; omega
    · omega
theorem ddN_all {l : List Int} {m : Nat} (hm : m ≤ l.length) (h : ∀ j, j < m → keepAt l j = true) : ddN l m = l.take m := by
  induction m with
  | zero => simp [ddN]
  | succ m ih =>
    rw [ddN_succ, if_pos (h m (by omega)), ih (by omega) fun j hj => h j (by omega), List.take_add_one]
    congr 1
    rw [List.getD_eq_getElem?_getD, List.getElem?_eq_getElem (by omega)]
    rfl
theorem ddN_lt {l : List Int} {k : Nat} (h : keepAt l k = false) : ∀ m, k < m → (ddN l m).length < m
  | 0, hm => by omega
  | m + 1, hm => by
    rw [ddN_succ]
    by_cases e : k = m
    · subst e
      rw [if_neg (by rw [h]; decide)]
      have := ddN_le l k
      omega
    · have := ddN_lt h m (by omega)
      split
      · rw [List.length_append]; simp; omega
      · omega
theorem ddN_pos {l : List Int} : ∀ {m : Nat}, 0 < m → 0 < (ddN l m).length
  | 1, _ => by simp [ddN, keepAt]
  | m + 2, _ => by
    have := ddN_pos (l := l) (m := m + 1) (by omega)
    rw [ddN_succ]
    split
    · rw [List.length_append]; omega
    · exact this
def outN (l : List Int) (m : Nat) : List Int := ddN l m ++ l.drop (ddN l m).length
theorem outN_len {l : List Int} {m : Nat} (hm : m ≤ l.length) : (outN l m).length = l.length := by
  have := ddN_le l m
  unfold outN
  rw [List.length_append, List.length_drop]
  omega
theorem outN_get {l : List Int} {m j : Nat} (h : (ddN l m).length ≤ j) : (outN l m)[j]? = l[j]? := by
  unfold outN
  rw [List.getElem?_append_right h, List.getElem?_drop]
  congr 1
  omega
theorem outN_keep {l : List Int} {m : Nat} (hm : m < l.length) (h : keepAt l m = true) (hlt : (ddN l m).length < m) : (outN l m).set (ddN l m).length (l.getD m 0) = outN l (m + 1) := by
  unfold outN
  rw [ddN_succ, if_pos h, List.set_append_right _ _ (Nat.le_refl _), Nat.sub_self, List.append_assoc]
  congr 1
  have : (ddN l m).length < l.length := by omega
  rw [List.length_append, List.drop_eq_getElem_cons this]
  rfl
theorem outN_drop {l : List Int} {m : Nat} (h : keepAt l m = false) : outN l (m + 1) = outN l m := by
  unfold outN
  rw [ddN_succ, if_neg (by rw [h]; decide)]
theorem mem_ddN {l : List Int} {m : Nat} {x : Int} (hm : m ≤ l.length) : x ∈ ddN l m ↔ x ∈ l.take m := by
  induction m with
  | zero => simp [ddN]
  | succ m ih =>
    have e : l.take (m + 1) = l.take m ++ [l.getD m 0] := by
      rw [List.take_add_one]; congr 1
      rw [List.getD_eq_getElem?_getD, List.getElem?_eq_getElem (by omega)]
      rfl
    rw [e, ddN_succ]
    split
    · rw [List.mem_append, List.mem_append, ih (by omega)]
    · rename_i hk
      rw [ih (by omega), List.mem_append]
      constructor
      · exact .inl
      · rintro (h | h)
        · exact h
        · have h1 : x = l.getD m 0 := by simpa using h
          unfold keepAt at hk
          simp only [Bool.or_eq_true, beq_iff_eq, bne_iff_ne, not_or, Decidable.not_not] at hk
          rw [h1, hk.2, List.mem_take_iff_getElem]
          refine ⟨m - 1, by omega, ?_⟩
          rw [List.getD_eq_getElem?_getD, List.getElem?_eq_getElem (by omega)]
          rfl
theorem ddN_sorted {l : List Int} (hs : l.Pairwise (· ≤ ·)) : ∀ {m : Nat}, m ≤ l.length → (ddN l m).Pairwise (· < ·)
  | 0, _ => by simp [ddN]
  | m + 1, hm => by
    rw [ddN_succ]
    split
    · rename_i hk
      rw [List.pairwise_append]
      refine ⟨ddN_sorted hs (by omega), by simp, fun x hx y hy => ?_⟩
      have hy' : y = l.getD m 0 := by simpa using hy
      rw [mem_ddN (by omega), List.mem_take_iff_getElem] at hx
      obtain ⟨j, hj, rfl⟩ := hx
      subst hy'
      unfold keepAt at hk
      simp only [Bool.or_eq_true, beq_iff_eq, bne_iff_ne] at hk
      have hm1 : m < l.length := by omega
      have e1 : l.getD m 0 = l[m] := by rw [List.getD_eq_getElem?_getD, List.getElem?_eq_getElem hm1]; rfl
      have e2 : l.getD (m - 1) 0 = l[m - 1] := by rw [List.getD_eq_getElem?_getD, List.getElem?_eq_getElem (by omega)]; rfl
      rw [e1, e2] at hk
      rw [e1]
      have h1 : l[m - 1] ≤ l[m] := by
        by_cases e : m - 1 < m
        · exact List.pairwise_iff_getElem.1 hs _ _ (by omega) hm1 e
        · omega
      have h2 : l[j] ≤ l[m - 1] := by
        by_cases e : j < m - 1
        · exact List.pairwise_iff_getElem.1 hs _ _ (by omega) (by omega) e
        · have : j = m - 1 := by omega
          subst this
          exact Int.le_refl _
      omega
    · exact ddN_sorted hs (by omega)
theorem sorted_eq : ∀ {a b : List Int}, a.Pairwise (· < ·) → b.Pairwise (· < ·) → (∀ x, x ∈ a ↔ x ∈ b) → a = b
  | [], [], _, _, _ => rfl
  | [], y :: b, _, _, h => absurd ((h y).2 (by simp)) (by simp)
  | x :: a, [], _, _, h => absurd ((h x).1 (by simp)) (by simp)
  | x :: a, y :: b, ha, hb, h => by
    rw [List.pairwise_cons] at ha hb
    have e : x = y := by
      rcases List.mem_cons.1 ((h x).1 (by simp)) with h1 | h1
      · exact h1
      · rcases List.mem_cons.1 ((h y).2 (by simp)) with h2 | h2
        · exact h2.symm
        · have := hb.1 x h1; have := ha.1 y h2; omega
    subst e
    rw [sorted_eq ha.2 hb.2 fun z => ?_]
    constructor
    · intro hz
      rcases List.mem_cons.1 ((h z).1 (by simp [hz])) with h1 | h1
      · subst h1; have := ha.1 z hz; omega
      · exact h1
    · intro hz
      rcases List.mem_cons.1 ((h z).2 (by simp [hz])) with h1 | h1
      · subst h1; have := hb.1 z hz; omega
      · exact h1
theorem srt_sorted (l : List Int) : (srt l).Pairwise (· ≤ ·) := by
  have := List.pairwise_mergeSort (le := fun x y : Int => decide (x ≤ y)) (fun a b c h1 h2 => by simp only [decide_eq_true_eq] at *; omega) (fun a b => by simp only [Bool.or_eq_true, decide_eq_true_eq]; omega) l
  exact this.imp fun h => by simpa using h
theorem mem_srt {l : List Int} {x : Int} : x ∈ srt l ↔ x ∈ l := List.mem_mergeSort
theorem dd_srt {l b : List Int} (hb : b.Pairwise (· < ·)) (h : ∀ x, x ∈ l ↔ x ∈ b) : ddN (srt l) (srt l).length = b :=
  sorted_eq (ddN_sorted (srt_sorted l) (Nat.le_refl _)) hb fun x => by rw [mem_ddN (Nat.le_refl _), List.take_length, mem_srt]; exact h x
end Go.Vm.X


set_option linter.unusedSimpArgs false
set_option linter.unusedVariables false
namespace Go.Vm.X
open Go.Am Go.Vm
attribute [local congr] bind_c ifP_c loop_c K1_c ite_c fork_c guard_c unl_c
structure Sink (b : Nat) (ok : List Int → Prop) (H : List Int → PHeap) : Prop where
  len : ∀ L, (H L).length = (H []).length
  yld : ∀ L x rest, ok (L ++ [x]) → Γ0 yieldId [.ptr b 0, .int .i64 x] (H L ++ rest) = some (.bool true, H (L ++ [x]) ++ rest)
  keep : ∀ L L' k, k < (H []).length → (H L')[k]? = (H L)[k]? ∨ ∃ blk, (H L')[k]? = some blk ∧ ltB (H []).length blk
  pre : ∀ A B, ok (A ++ B) → ok A
theorem Sink.trim {b : Nat} {ok : List Int → Prop} {H : List Int → PHeap} (s : Sink b ok H) (L L' : List Int) {r : List PV} (hr : ∀ v ∈ r, ltV (H []).length v) (rest : PHeap) : Go.Vm.trim (H L) r (H L' ++ rest) = H L' := by
  have e : (H L).length = (H L').length := by rw [s.len L, s.len L']
  have hc : (∀ v ∈ r, ltV (H L).length v) ∧ ∀ b, b < (H L).length → (H L' ++ rest)[b]? = (H L)[b]? ∨ ∃ blk, (H L' ++ rest)[b]? = some blk ∧ ltB (H L).length blk := by
    have e0 := s.len L
    refine ⟨by rw [e0]; exact hr, fun b hb => ?_⟩
    rw [List.getElem?_append_left (by omega), e0]
    exact s.keep L L' b (by omega)
  unfold Go.Vm.trim
  rw [if_pos hc, e, List.take_left]
theorem fin_unit (h h' : PHeap) : finP [] h h' [] = some (undefP, trim h [] h') := by
  rw [fin_def, fzL_nil, Option.map_some]
  rfl
def Src (h : PHeap) (g : PV) (items : List Int) : Prop := ∀ (b : Nat) (ok : List Int → Prop) (H : List Int → PHeap) (L : List Int), Sink b ok H → (∀ M k, k < h.length → (H M)[k]? = h[k]?) → ok (L ++ items) → callFP Γ0 g [.yield b] (H L) = some (undefP, H (L ++ items))
theorem box_eq {g h : PHeap} {k : Nat} (e : g[k]? = h[k]?) : boxAt g k = boxAt h k := by unfold boxAt; rw [e]
theorem box_load1 {g : PHeap} {k o : Nat} {vs : List PV} {v : PV} (e : boxAt g k = some vs) (hv : vs[o]? = some v) : loadP false 1 (.ptr k o) g = some v := by
  rw [load_box, e, Option.bind_some]
  exact hv
theorem box_loadN {g : PHeap} {k n : Nat} {vs : List PV} (e : boxAt g k = some vs) (hv : vs.length = n) : loadP true n (.ptr k 0) g = some (.agg vs) := by
  rw [load_box, e, Option.bind_some]
  exact part_all hv
theorem box_lt {g : PHeap} {k : Nat} {vs : List PV} (e : boxAt g k = some vs) : k < g.length := by
  unfold boxAt at e
  cases h : g[k]? with
  | none => rw [h] at e; cases e
  | some x => exact (List.getElem?_eq_some_iff.1 h).1
theorem box_app {g : PHeap} {k : Nat} {vs : List PV} (e : boxAt g k = some vs) (l : PHeap) : boxAt (g ++ l) k = some vs := by
  rw [← e]
  exact box_eq (List.getElem?_append_left (box_lt e))
theorem snoc_ind {α : Type} {P : List α → Prop} (h0 : P []) (h1 : ∀ l a, P l → P (l ++ [a])) : ∀ l, P l := by
  intro l
  rw [← List.reverse_reverse l]
  induction l.reverse with
  | nil => exact h0
  | cons a t ih => rw [List.reverse_cons]; exact h1 _ _ ih
def nmStep (acc : List Int) (o : Int) : List Int := if (mark o || acc.contains o) = true then acc else acc ++ [o]
def nm (l : List Int) : List Int := l.foldl nmStep []
theorem nm_snoc (l : List Int) (o : Int) : nm (l ++ [o]) = nmStep (nm l) o := by unfold nm; rw [List.foldl_append]; rfl
theorem nm_le : ∀ (l : List Int) (acc : List Int), (l.foldl nmStep acc).length ≤ acc.length + l.length
  | [], acc => by simp
  | o :: l, acc => by
    have := nm_le l (nmStep acc o)
    have h2 : (nmStep acc o).length ≤ acc.length + 1 := by unfold nmStep; split <;> simp
    simp only [List.foldl_cons, List.length_cons]
    omega
theorem nm_pre (l l' : List Int) : ∃ r, nm (l ++ l') = nm l ++ r := by
  refine snoc_ind (P := fun l' => ∃ r, nm (l ++ l') = nm l ++ r) ⟨[], by simp⟩ (fun l' o ih => ?_) l'
  · obtain ⟨r, hr⟩ := ih
    rw [← List.append_assoc, nm_snoc, hr]
    unfold nmStep
    split
    · exact ⟨r, rfl⟩
    · exact ⟨r ++ [o], by rw [List.append_assoc]⟩
theorem nm_mem (l : List Int) : ∀ o, o ∈ nm l ↔ o ∈ l ∧ mark o = false := by
  refine snoc_ind (P := fun l => ∀ o, o ∈ nm l ↔ o ∈ l ∧ mark o = false) (fun o => by simp [nm]) (fun l x ih => ?_) l
  · intro o
    rw [nm_snoc]
    unfold nmStep
    by_cases hx : (mark x || (nm l).contains x) = true
    · rw [if_pos hx, ih, List.mem_append, List.mem_singleton]
      constructor
      · rintro ⟨h1, h2⟩; exact ⟨.inl h1, h2⟩
      · rintro ⟨h1 | rfl, h2⟩
        · exact ⟨h1, h2⟩
        · rw [h2, Bool.false_or, List.contains_iff_mem, ih] at hx
          exact hx
    · rw [if_neg hx, List.mem_append, List.mem_singleton, ih, List.mem_append, List.mem_singleton]
      have hm : mark x = false := by
        cases h : mark x with
        | false => rfl
        | true => rw [h] at hx; simp at hx
      constructor
      · rintro (⟨h1, h2⟩ | rfl)
        · exact ⟨.inl h1, h2⟩
        · exact ⟨.inr rfl, hm⟩
      · rintro ⟨h1 | rfl, h2⟩
        · exact .inl ⟨h1, h2⟩
        · exact .inr rfl
def mapE (l : List Int) : List (PV × PV) := l.map fun o => (.int .i64 o, .bool true)
theorem find_mapE (o : Int) : ∀ l : List Int, findMapP .int (.int .i64 o) (mapE l) = some (if l.contains o = true then some (.bool true) else none)
  | [] => rfl
  | y :: r => by
    have ih := find_mapE o r
    unfold mapE at ih ⊢
    rw [List.map_cons, findMapP]
    simp only [keyEqP, if_true]
    by_cases h : o = y
    · subst h; simp
    · have h2 : (o == y) = false := by simpa using h
      rw [h2]
      simp only [ih, List.contains_cons, h2, Bool.false_or]
theorem ins_mapE (o : Int) : ∀ l : List Int, l.contains o = false → insMapP .int (.int .i64 o) (.bool true) (mapE l) = some (mapE (l ++ [o]))
  | [], _ => rfl
  | y :: r, h => by
    rw [List.contains_cons, Bool.or_eq_false_iff] at h
    have ih := ins_mapE o r h.2
    unfold mapE at ih ⊢
    rw [List.cons_append, List.map_cons, List.map_cons, insMapP]
    simp only [keyEqP, if_true, h.1, ih, Option.map_some]
theorem get_one (g : PHeap) (x : PBlk) (n : Nat) (h : n = g.length) : (g ++ [x])[n]? = some x := by subst h; simp
theorem look_mapE {g : PHeap} {n : Nat} (h : n = g.length) (l : List Int) (o : Int) (md : Md) : lookupP .int (.bool false) false (.map n) (.int .i64 o) (g ++ [.map (mapE l) md]) = some (.bool (l.contains o)) := by
  simp only [lookupP, mapOfP, get_one g _ n h, Option.bind_some, find_mapE, Option.map_some]
  cases l.contains o <;> rfl
theorem set_mapE {g : PHeap} {n : Nat} (h : n = g.length) {l : List Int} {o : Int} (ho : l.contains o = false) : setMapP .int (.map n) (.int .i64 o) (.bool true) (g ++ [.map (mapE l) .rw]) = some (g ++ [.map (mapE (l ++ [o])) .rw]) := by
  subst h
  simp only [setMapP, get_one g _ _ rfl, ins_mapE o l ho, Option.map_some]
  congr 1
  rw [List.set_append_right _ _ (Nat.le_refl _), Nat.sub_self]
  rfl
theorem callV_yield (b : Nat) (args : List PV) (h : PHeap) : callVP Γ0 (.yield b) args h = Γ0 yieldId (.ptr b 0 :: args) h := rfl
theorem src_named {h : PHeap} {k : Nat} {s : Sng} (e : boxAt h k = some s.cs) (hm : s.ords.length < 9223372036854775808) : Src h (.func 94 [] [.ptr k 0]) (nm s.ords) := by
  intro b ok H L S hH hok
  rw [callF_func Γ0 94]
  show Γ0 94 [.yield b, .ptr k 0] (H L) = _
  have hl : ∀ M M', (H M).length = (H M').length := fun M M' => by rw [S.len M, S.len M']
  have hb : ∀ M l, boxAt (H M ++ l) k = some s.cs := fun M l => by
    refine box_app ?_ l
    rw [← e]
    exact box_eq (hH M k (box_lt e))
  refine gbody (F := A94) (by kernel_rfl) (s.ords.length + 1) ?_
  rw [s94_eq]; unfold s94
  simp only [words, ↓KLn, Nat.reduceAdd, box_load1 (hb L _) (sc3 s), len_ints]
  refine loop_run (fun i => [.int .i64 (i : Int)]) (fun i => H (L ++ nm (s.ords.take i)) ++ [.map (mapE (nm (s.ords.take i))) .rw]) s.ords.length (by omega) rfl (by simp [nm, mapE]) (fun i hi K => ?_) fun K => ?_
  · obtain ⟨o, ho⟩ := lt_l hi
    have ht : s.ords.take (i + 1) = s.ords.take i ++ [o] := take_succ_get ho
    have htr : ∀ (M M' : List Int) (x y : PBlk) (r : List PV), Go.Vm.trim (H M ++ [x]) r (H M' ++ [y]) = H M' ++ [y] := fun M M' x y r => trim_len _ (by simp [hl M' M])
    unfold s94_L0
    simp only [words, ↓KLn, Nat.reduceAdd, ltT hi, decide_true, if_true, idx_ints _ ho, iv0, c87]
    rw [ht, nm_snoc]
    unfold nmStep
    cases hmk : mark o with
    | true => simp only [words, ↓KLn, Nat.reduceAdd, ↓K1n, sc_or, Bool.true_or, if_true, Bool.true_eq_false, if_false, succ63 (show i < 9223372036854775807 by omega), htr]
    | false =>
      have hlk := look_mapE (hl L (L ++ nm (s.ords.take i))) (nm (s.ords.take i)) o .rw
      cases hc : (nm (s.ords.take i)).contains o with
      | true => simp only [words, ↓KLn, Nat.reduceAdd, ↓K1n, sc_or, Bool.false_or, if_true, hlk, hc, succ63 (show i < 9223372036854775807 by omega), htr]
      | false =>
        have hst := set_mapE (hl L (L ++ nm (s.ords.take i))) hc
        have hy := S.yld (L ++ nm (s.ords.take i)) o [.map (mapE (nm (s.ords.take i) ++ [o])) .rw] (by
          obtain ⟨r, hr⟩ := nm_pre (s.ords.take (i + 1)) (s.ords.drop (i + 1))
          rw [List.take_append_drop] at hr
          rw [hr, ht, nm_snoc, nmStep, hmk, hc, Bool.or_self, if_neg (by decide), ← List.append_assoc, ← List.append_assoc] at hok
          exact S.pre _ _ hok)
        simp only [words, ↓KLn, Nat.reduceAdd, ↓K1n, sc_or, Bool.false_or, if_true, Bool.false_eq_true, if_false, hlk, hc, hst, callV_yield, hy, Bool.not_true, succ63 (show i < 9223372036854775807 by omega), htr, List.append_assoc]
  · unfold s94_L0
    simp only [words, ↓KLn, Nat.reduceAdd, ltF, decide_false, Bool.false_eq_true, if_false, fin_unit, List.take_length]
    rw [S.trim _ _ (by simp)]
end Go.Vm.X



/- Compact, the walk: its result can still be written. -/
set_option linter.unusedSimpArgs false
set_option linter.unusedVariables false
namespace Go.Vm.X
open Go.Am Go.Vm
attribute [local congr] bind_c ifP_c loop_c K1_c ite_c fork_c guard_c unl_c
def lg (p r : PHeap) (l : List Int) (md : Md) : PHeap := p ++ .log (l.map iV) 1 3 md :: r
theorem lg_at (p r : PHeap) (l : List Int) (md : Md) : (lg p r l md)[p.length]? = some (.log (l.map iV) 1 3 md) := by unfold lg; simp
theorem lg_set (p r : PHeap) (l l' : List Int) (md md' : Md) : (lg p r l md).set p.length (.log (l'.map iV) 1 3 md') = lg p r l' md' := by unfold lg; simp
theorem lg_len (p r : PHeap) (l : List Int) (md : Md) : (lg p r l md).length = p.length + (r.length + 1) := by unfold lg; simp
theorem lg_load {p r : PHeap} {l : List Int} {i n : Nat} {v : Int} {md : Md} (hn : n = l.length) (hv : l[i]? = some v) : loadP false 1 (.lptr p.length i 0 n 1) (lg p r l md) = some (.int .i64 v) := by
  subst hn
  simp only [loadP, logAt, lg_at, List.length_map, Nat.beq_refl, Bool.and_self, cond_true, Option.bind_some, List.getElem?_map, hv, Option.map_some]
  rfl
theorem lg_store {p r : PHeap} {l : List Int} {i n : Nat} {v : Int} (hn : n = l.length) (hi : i < l.length) : storeP 1 (.lptr p.length i 0 n 1) (.int .i64 v) (lg p r l .rw) = some (lg p r (l.set i v) .rw) := by
  subst hn
  have e : (l.map iV)[i]? = some (iV l[i]) := by rw [List.getElem?_map, List.getElem?_eq_getElem hi]; rfl
  have e2 : (l.map iV).set i (iV v) = (l.set i v).map iV := by rw [List.map_set]
  simp only [storeP, cellsP, List.length_cons, List.length_nil, lg_at, List.length_map, e, Option.bind_some]
  rw [← lg_set p r l (l.set i v) .rw .rw, ← e2]
  rfl
theorem rf_idx {b lo n v i : Nat} (hi : i < n) : indexAddrP 1 (.ref b lo n v 1) (.int .i64 (i : Int)) = some (.lptr b (lo + i) 0 v 1) := by
  simp only [indexAddrP]
  rw [if_pos ⟨by omega, by omega, trivial⟩, Int.toNat_natCast]
theorem rf_len {b lo n v : Nat} : lenP false (.ref b lo n v 1) = some (.int .i64 (n : Int)) := by simp only [lenP]
theorem rf_lo {b n v k : Nat} (hk : k < n) : sliceP 1 (.ref b 0 n v 1) (some (.int .i64 (k : Int))) none none = some (.ref b k (n - k) v 1) := by
  simp only [sliceP, boundP, if_true, Option.bind_some]
  rw [if_pos ⟨by omega, by omega⟩, Option.bind_some, Int.toNat_natCast, if_neg (by omega), Nat.zero_add]
theorem rf_hi {b n v k : Nat} (h0 : 0 < k) (hk : k ≤ n) : sliceP 1 (.ref b 0 n v 1) none (some (.int .i64 (k : Int))) none = some (.ref b 0 k v 1) := by
  simp only [sliceP, boundP, if_true, Option.bind_some]
  rw [if_pos ⟨by omega, by omega⟩, Option.bind_some, Int.toNat_natCast, if_neg (by omega), Nat.zero_add, Nat.sub_zero]
theorem lg_clear {p r : PHeap} {l : List Int} {k m n : Nat} (hn : n = l.length) (hk : k < m) (hm : m ≤ n) : clearP [.int .i64 0] (.ref p.length k (m - k) n 1) (lg p r l .rw) = some (undefP, lg p r (l.take k ++ List.replicate (m - k) 0 ++ l.drop m) .rw) := by
  subst hn
  simp only [clearP, lg_at, List.length_map]
  rw [if_pos ⟨trivial, rfl, trivial, by omega, by omega, rfl⟩]
  rw [← lg_set p r l (l.take k ++ List.replicate (m - k) 0 ++ l.drop m) .rw .rw]
  congr 3
  rw [show k + (m - k) = m by omega, List.map_append, List.map_append, List.map_take, List.map_drop, List.map_replicate]
  rfl
theorem pure_ints (l : List Int) : ((l.map iV).flatten).all pure1 = true := by
  rw [List.all_eq_true]
  intro x hx
  rw [List.mem_flatten] at hx
  obtain ⟨r, hr, hx⟩ := hx
  rw [List.mem_map] at hr
  obtain ⟨z, _, rfl⟩ := hr
  have : x = .int .i64 z := by simpa [iV] using hx
  subst this
  rfl
theorem fin_keep1 {h0 h' : PHeap} {b lo n v sz : Nat} (hl : h'.length = h0.length) : finP [.raw] h0 h' [.ref b lo n v sz] = some (.ref b lo n v sz, h') := by
  rw [fin_def]
  simp only [fzL, fz, Option.bind_some, Option.map_some, trim_len _ hl]
  rfl
theorem i_pred {i : Nat} (h : i < 9223372036854775807) : IntKind.i64.wrap (((i + 1 : Nat) : Int) - 1) = (i : Int) := by rw [wrap64 (by unfold isI64; omega)]; omega
theorem neqI {l : List Int} {j : Nat} {x y : Int} (hx : l[j + 1]? = some x) (hy : l[j]? = some y) : keepAt l (j + 1) = (x != y) := by
  unfold keepAt
  rw [show j + 1 - 1 = j from rfl, getD_of hx, getD_of hy]
  simp
theorem c106 (p r : PHeap) (l : List Int) (hm : l.length < 4294967297) : ∃ l', l'.length = l.length ∧ l'.take (ddN l l.length).length = ddN l l.length ∧ Γ0 106 [.ref p.length 0 l.length l.length 1] (lg p r l .rw) = some (.ref p.length 0 (ddN l l.length).length l.length 1, lg p r l' .rw) := by
  by_cases h0 : l.length = 0
  · obtain rfl := List.eq_nil_of_length_eq_zero h0
    refine ⟨[], rfl, rfl, gbody (F := A106) (by kernel_rfl) 1 ?_⟩
    rw [s106_eq]; unfold s106
    simp only [words, ↓KLn, Nat.reduceAdd, List.length_nil, rf_len]
    have e : decide (((0 : Nat) : Int) < 2) = true := by decide
    simp only [e, if_true]
    rw [fin_keep1 rfl]
    rfl
  obtain ⟨N, hN⟩ : ∃ N : Nat, l.length < N := ⟨_, Nat.lt_succ_self _⟩
  by_cases h1 : l.length < 2
  · have hone : ∀ j, j < l.length → keepAt l j = true := fun j hj => by
      have : j = 0 := by omega
      subst this
      rfl
    have hd := ddN_all (Nat.le_refl _) hone
    rw [List.take_length] at hd
    refine ⟨l, rfl, by rw [hd, List.take_length], gbody (F := A106) (by kernel_rfl) 1 ?_⟩
    rw [s106_eq]; unfold s106
    have e : decide ((l.length : Int) < 2) = true := by rw [decide_eq_true_eq]; omega
    simp only [words, ↓KLn, Nat.reduceAdd, rf_len, e, if_true]
    rw [fin_keep1 rfl, hd]
  · have stp : ∀ (j : Nat) (K : List PV → PHeap → Pt) (j5 : List PV → PHeap → Pt), j + 1 < l.length → keepAt l (j + 1) = true → s106_L1 Γ0 N (.ref p.length 0 l.length l.length 1) (lg p r l .rw) (lg p r l .rw) j5 K [.int .i64 ((j + 1 : Nat) : Int)] (lg p r l .rw) = K [.int .i64 ((j + 1 + 1 : Nat) : Int)] (lg p r l .rw) := fun j K j5 hj hk => by
      obtain ⟨x, hx⟩ := lt_l hj
      obtain ⟨y, hy⟩ := lt_l (show j < l.length by omega)
      have hne := (neqI hx hy).symm.trans hk
      have hxy : (x == y) = false := by simpa [bne] using hne
      unfold s106_L1
      simp only [words, ↓KLn, Nat.reduceAdd, rf_len, ltT hj, decide_true, if_true, rf_idx hj, i_pred (show j < 9223372036854775807 by omega), rf_idx (show j < l.length by omega), Nat.zero_add, lg_load rfl hx, lg_load rfl hy, hxy, Bool.false_eq_true, if_false, succ63 (show j + 1 < 9223372036854775807 by omega), trim_self]
    by_cases hall : ∀ j, j < l.length → keepAt l j = true
    · have hd := ddN_all (Nat.le_refl _) hall
      rw [List.take_length] at hd
      refine ⟨l, rfl, by rw [hd, List.take_length], gbody (F := A106) (by kernel_rfl) N ?_⟩
      rw [s106_eq]; unfold s106
      have e : decide ((l.length : Int) < 2) = false := by rw [decide_eq_false_iff_not]; omega
      simp only [words, ↓KLn, Nat.reduceAdd, rf_len, e, Bool.false_eq_true, if_false]
      refine loop_pure (fun i => [.int .i64 ((i + 1 : Nat) : Int)]) (l.length - 1) (by omega) rfl (fun i hi K => ?_) fun K => ?_
      · exact stp i K _ (by omega) (hall _ (by omega))
      · unfold s106_L1
        have e2 : decide (((l.length - 1 + 1 : Nat) : Int) < (l.length : Int)) = false := by rw [decide_eq_false_iff_not]; omega
        simp only [words, ↓KLn, Nat.reduceAdd, rf_len, e2, Bool.false_eq_true, if_false]
        rw [fin_keep1 rfl, hd]
    · obtain ⟨k, hk, hbad, hfirst⟩ : ∃ k, k < l.length ∧ keepAt l k = false ∧ ∀ j, j < k → keepAt l j = true := by
        have : ∃ k, k < l.length ∧ keepAt l k = false := Classical.byContradiction fun hn => hall fun j hj => by
          cases hh : keepAt l j with
          | true => rfl
          | false => exact absurd ⟨j, hj, hh⟩ hn
        obtain ⟨k, h1, h2⟩ := this
        induction k using Nat.strongRecOn with
        | ind k ih =>
          by_cases hx : ∃ j, j < k ∧ keepAt l j = false
          · obtain ⟨j, h3, h4⟩ := hx
            exact ih j h3 (by omega) h4
          · exact ⟨k, h1, h2, fun j hj => by
              cases hh : keepAt l j with
              | true => rfl
              | false => exact absurd ⟨j, hj, hh⟩ hx⟩
      obtain ⟨k, rfl⟩ : ∃ q, k = q + 1 := ⟨k - 1, by
        have : k ≠ 0 := by rintro rfl; cases hbad
        omega⟩
      have hdk : ddN l (k + 1) = l.take (k + 1) := ddN_all (by omega) hfirst
      have hdl : (ddN l (k + 1)).length = k + 1 := by rw [hdk, List.length_take]; omega
      have hd2 : ddN l (k + 1 + 1) = ddN l (k + 1) := by rw [ddN_succ, if_neg (by rw [hbad]; decide)]
      have hin : ∀ m, k + 1 < m → (ddN l m).length < m := ddN_lt hbad
      have hout0 : outN l (k + 1 + 1) = l := by unfold outN; rw [hd2, hdl, hdk, List.take_append_drop]
      have htk0 : ((outN l l.length).take (ddN l l.length).length) = ddN l l.length := by unfold outN; exact List.take_left
      have hol0 : (outN l l.length).length = l.length := outN_len (Nat.le_refl _)
      have hle0 := ddN_le l l.length
      refine ⟨(outN l l.length).take (ddN l l.length).length ++ List.replicate (l.length - (ddN l l.length).length) 0 ++ (outN l l.length).drop l.length, ?_, ?_, gbody (F := A106) (by kernel_rfl) N ?_⟩
      · rw [List.length_append, List.length_append, List.length_take, List.length_replicate, List.length_drop]; omega
      · rw [List.append_assoc, List.take_append_of_le_length (by rw [htk0]; exact Nat.le_refl _), List.take_take, Nat.min_self, htk0]
      rw [s106_eq]; unfold s106
      have e : decide ((l.length : Int) < 2) = false := by rw [decide_eq_false_iff_not]; omega
      simp only [words, ↓KLn, Nat.reduceAdd, rf_len, e, Bool.false_eq_true, if_false]
      refine loop_until (fun i => Nat.beq i k) (fun i => [.int .i64 ((i + 1 : Nat) : Int)]) (fun _ => lg p r l .rw) (k + 1) (by omega) rfl rfl (fun i hi hb K => ?_) (fun i hi hb hj K => ?_) (fun hj K => ?_)
      · have : i ≠ k := by rintro rfl; rw [Nat.beq_refl] at hb; cases hb
        exact stp i K _ (by omega) (hfirst _ (by omega))
      · obtain rfl := Nat.eq_of_beq_eq_true hb
        obtain ⟨x, hx⟩ := lt_l hk
        obtain ⟨y, hy⟩ := lt_l (show i < l.length by omega)
        have hne := (neqI hx hy).symm.trans hbad
        have hxy : (x == y) = true := by simpa [bne] using hne
        unfold s106_L1
        simp only [words, ↓KLn, Nat.reduceAdd, rf_len, ltT hk, decide_true, if_true, rf_idx hk, i_pred (show i < 9223372036854775807 by omega), rf_idx (show i < l.length by omega), Nat.zero_add, lg_load rfl hx, lg_load rfl hy, hxy, rf_lo hk]
        refine loop_run (fun j => [.int .i64 (((ddN l (i + 2 + j)).length : Nat) : Int), .int .i64 ((j + 1 : Nat) : Int)]) (fun j => lg p r (outN l (i + 2 + j)) .rw) (l.length - (i + 2)) (by omega) (by simp only [Nat.add_zero, hd2, hdl]; rfl) (by simp only [Nat.add_zero, hout0]) (fun j hj K => ?_) fun K => ?_
        · have hmlt : i + 2 + j < l.length := by omega
          obtain ⟨x, hx⟩ := lt_l hmlt
          obtain ⟨y, hy⟩ := lt_l (show i + 1 + j < l.length by omega)
          have hlt := hin (i + 2 + j) (by omega)
          have hol : l.length = (outN l (i + 2 + j)).length := (outN_len (by omega)).symm
          have gx : (outN l (i + 2 + j))[i + 1 + (j + 1)]? = some x := by
            rw [outN_get (by omega), show i + 1 + (j + 1) = i + 2 + j by omega]; exact hx
          have gy : (outN l (i + 2 + j))[i + 1 + j]? = some y := by rw [outN_get (by omega)]; exact hy
          have hk2 : keepAt l (i + 2 + j) = (x != y) := by
            have := neqI (l := l) (j := i + 1 + j) (x := x) (y := y) (by rw [show i + 1 + j + 1 = i + 2 + j by omega]; exact hx) hy
            rw [show i + 1 + j + 1 = i + 2 + j by omega] at this
            exact this
          unfold s106_L0
          simp only [words, ↓KLn, Nat.reduceAdd, nth_one, rf_len, ltT (show j + 1 < l.length - (i + 1) by omega), decide_true, if_true, rf_idx (show j + 1 < l.length - (i + 1) by omega), i_pred (show j < 9223372036854775807 by omega), rf_idx (show j < l.length - (i + 1) by omega), lg_load hol gx, lg_load hol gy]
          rw [show i + 2 + (j + 1) = i + 2 + j + 1 by omega]
          cases hc : (x != y) with
          | true =>
            have hkp := hk2.trans hc
            have e5 : (ddN l (i + 2 + j + 1)).length = (ddN l (i + 2 + j)).length + 1 := by rw [ddN_succ, if_pos hkp, List.length_append]; rfl
            have e6 : outN l (i + 2 + j + 1) = (outN l (i + 2 + j)).set (ddN l (i + 2 + j)).length x := by rw [← outN_keep hmlt hkp hlt, getD_of hx]
            simp only [words, ↓KLn, Nat.reduceAdd, if_true, lg_load hol gx, rf_idx (show j + 1 < l.length - (i + 1) by omega), rf_idx (show (ddN l (i + 2 + j)).length < l.length by omega), Nat.zero_add, lg_store hol (show (ddN l (i + 2 + j)).length < (outN l (i + 2 + j)).length by omega), bS, nth_zero, nth_one, succ63 (show (ddN l (i + 2 + j)).length < 9223372036854775807 by omega), succ63 (show j + 1 < 9223372036854775807 by omega), e5, e6]
            rw [trim_len _ (by rw [lg_len, lg_len])]
          | false =>
            have hkp := hk2.trans hc
            have e5 : (ddN l (i + 2 + j + 1)).length = (ddN l (i + 2 + j)).length := by rw [ddN_succ, if_neg (by rw [hkp]; decide)]
            simp only [words, ↓KLn, Nat.reduceAdd, Bool.false_eq_true, if_false, bS, nth_zero, nth_one, succ63 (show j + 1 < 9223372036854775807 by omega), e5, outN_drop hkp]
            rw [trim_len _ (by rw [lg_len, lg_len])]
        · have em : i + 2 + (l.length - (i + 2)) = l.length := by omega
          have hlt := hin l.length (by omega)
          have hpos : 0 < (ddN l l.length).length := ddN_pos (by omega)
          have hol : l.length = (outN l l.length).length := (outN_len (Nat.le_refl _)).symm
          have htk : ((outN l l.length).take (ddN l l.length).length) = ddN l l.length := by unfold outN; exact List.take_left
          have e2 : decide (((l.length - (i + 2) + 1 : Nat) : Int) < ((l.length - (i + 1) : Nat) : Int)) = false := by rw [decide_eq_false_iff_not]; omega
          simp only [em]
          unfold s106_L0
          simp only [words, ↓KLn, Nat.reduceAdd, nth_one, rf_len, e2, Bool.false_eq_true, if_false, rf_lo hlt, lg_clear hol hlt (Nat.le_refl _), rf_hi hpos (Nat.le_of_lt hlt)]
          rw [fin_keep1 (by rw [lg_len, lg_len])]
      · exact absurd (hj k (by omega)) (by rw [Nat.beq_refl]; decide)
end Go.Vm.X


set_option linter.unusedSimpArgs false
set_option linter.unusedVariables false
namespace Go.Vm.X
open Go.Am Go.Vm
attribute [local congr] bind_c ifP_c loop_c K1_c ite_c fork_c guard_c unl_c
theorem c144 (p r : PHeap) (l : List Int) : Γ0 144 [.ref p.length 0 l.length l.length 1] (lg p r l .rw) = some (undefP, lg p r (srt l) .rw) := by
  refine prun_base rfl (by kernel_rfl) ?_
  have e0 : ∀ args h, orP (idxP 171) (sortP 144) 144 args h = sortP 144 144 args h := fun args h => by
    unfold orP idxP
    simp only [show Nat.beq 144 171 = false from rfl, cond_false, Option.none_or]
  rw [e0]
  unfold sortP
  simp only [Nat.beq_refl, cond_true]
  by_cases h0 : l.length = 0
  · obtain rfl := List.eq_nil_of_length_eq_zero h0
    rw [if_pos h0]
    have : srt [] = [] := List.eq_nil_of_length_eq_zero (srt_len [])
    rw [this]
  · rw [if_neg h0, lg_at]
    have e1 : (l.map iV).flatten = l.map (PV.int .i64) := flat_ones l
    simp only [List.length_map]
    rw [if_pos ⟨trivial, trivial, trivial, trivial, trivial, by omega⟩, e1, intsP_map, Option.map_some]
    rw [← lg_set p r l (srt l) .rw .rw]
    rfl
theorem chunk1 (v : PV) : chunk 1 1 [v] = [[v]] := nr rfl
theorem all_int (k : IntKind) (v : Int) : [PV.int k v].all pure1 = true := nr rfl
theorem lt_iVs (n : Nat) (L : List Int) (t : TypeId) (md : Md) : ltB n (.log (L.map iV) 1 t md) := by
  intro x hx
  rw [List.mem_flatten] at hx
  obtain ⟨r, hr, hx⟩ := hx
  rw [List.mem_map] at hr
  obtain ⟨z, _, rfl⟩ := hr
  have : x = .int .i64 z := by simpa [iV] using hx
  subst this
  simp only [ltV]
theorem trim_to {g g' rest : PHeap} {r : List PV} (hl : g'.length = g.length) (hr : ∀ v ∈ r, ltV g.length v) (hk : ∀ k, k < g.length → g'[k]? = g[k]? ∨ ∃ blk, g'[k]? = some blk ∧ ltB g.length blk) : trim g r (g' ++ rest) = g' := by
  unfold trim
  have hc : (∀ v ∈ r, ltV g.length v) ∧ ∀ b, b < g.length → (g' ++ rest)[b]? = g[b]? ∨ ∃ blk, (g' ++ rest)[b]? = some blk ∧ ltB g.length blk := ⟨hr, fun b hb => by
    rw [List.getElem?_append_left (by omega)]
    exact hk b hb⟩
  rw [if_pos hc, ← hl, List.take_left]
theorem keep_app {h a a' : PHeap} (hl : a'.length = a.length) (hb : ∀ blk ∈ a', ltB (h ++ a).length blk) (k : Nat) (hk : k < (h ++ a).length) : (h ++ a')[k]? = (h ++ a)[k]? ∨ ∃ blk, (h ++ a')[k]? = some blk ∧ ltB (h ++ a).length blk := by
  by_cases h1 : k < h.length
  · left
    rw [List.getElem?_append_left h1, List.getElem?_append_left h1]
  · right
    rw [List.length_append] at hk
    rw [List.getElem?_append_right (by omega)]
    obtain ⟨blk, e⟩ : ∃ blk, a'[k - h.length]? = some blk := ⟨_, List.getElem?_eq_getElem (by omega)⟩
    exact ⟨blk, e, hb _ (List.mem_of_getElem? e)⟩
theorem grow_nil (el : TypeId) (h : PHeap) : growP .nilS el 1 h = some (.ref h.length 0 0 0 1, h ++ [.log [] 1 el .rw]) := nr rfl
theorem begin2 {h l : PHeap} {a b : PBlk} {vals : List PV} {lv ps : List Nat} {ab bb : PCode} {pend : Option AExit} : beginRoundP (h.length + 2) (h ++ a :: b :: .loop vals lv ps ab bb .ready pend .rw :: l) = some (h ++ a :: b :: .loop vals lv ps ab bb .busy pend .rw :: l) := by
  unfold beginRoundP
  rw [get_new]
  simp only [List.getElem?_cons_succ, List.getElem?_cons_zero]
  rw [set_new]
  rfl
theorem end2 {h l : PHeap} {a b : PBlk} {vals : List PV} {lv ps : List Nat} {ab bb : PCode} {pend : Option AExit} : endRoundP (h.length + 2) .normal (h ++ a :: b :: .loop vals lv ps ab bb .busy pend .rw :: l) = some (.bool true, h ++ a :: b :: .loop vals lv ps ab bb .ready none .rw :: l) := by
  unfold endRoundP
  rw [get_new]
  simp only [List.getElem?_cons_succ, List.getElem?_cons_zero]
  rw [set_new]
  rfl
theorem pend2 {h l : PHeap} {a b : PBlk} {vals : List PV} {lv ps : List Nat} {ab bb : PCode} {pend : Option AExit} : pendOfP (h.length + 2) (h ++ a :: b :: .loop vals lv ps ab bb .ready pend .rw :: l) = some pend := by
  unfold pendOfP
  rw [get_new]
  rfl
theorem dead2 {h l : PHeap} {a b c : PBlk} : (h ++ a :: b :: c :: l).set (h.length + 2) .dead = h ++ a :: b :: .dead :: l := by
  rw [set_new]
  rfl
theorem end_none {R : Type} (A : Option R) (X : Nat → Option R) (r : Option R) : endF none A X r = A := nr rfl
def hA (h : PHeap) (L : List Int) : PHeap := h ++ [.log (L.map iV) 1 3 .rw, .box [.ref h.length 0 L.length L.length 1] 22 .rw, .loop [.ptr (h.length + 1) 0] [2] [7] L167_0a L167_0b .ready none .rw]
theorem app0 {h l : PHeap} {L : List Int} {x : Int} (hm : L.length < 4294967296) : appendP 3 1 (.ref h.length 0 L.length L.length 1) (.frz 1 [[.int .i64 x]]) (h ++ .log (L.map iV) 1 3 .rw :: l) = some (.ref h.length 0 (L.length + 1) (L.length + 1) 1, h ++ .log ((L ++ [x]).map iV) 1 3 .rw :: l) := by
  have := append_one (h := h) (l := .log (L.map iV) 1 3 .rw :: l) (k := 0) (rows := L.map iV) (v := .int .i64 x) (t := 3) L.length (by simp) rfl rfl (by simpa [mostLen] using hm)
  rw [List.map_append]
  exact this
theorem lt_loop (n m : Nat) (lv ps : List Nat) (a b : PCode) (st : LSt) (pend : Option AExit) (md : Md) (h : m < n) : ltB n (.loop [.ptr m 0] lv ps a b st pend md) := by
  intro x hx
  simp only [List.mem_singleton] at hx
  subst hx
  simp only [ltV]
  exact h
theorem lt_boxr (n m lo k v sz : Nat) (t : TypeId) (md : Md) (h : m < n) : ltB n (.box [.ref m lo k v sz] t md) := by
  intro x hx
  simp only [List.mem_singleton] at hx
  subst hx
  simp only [ltV]
  exact h
theorem sinkA (h : PHeap) : Sink (h.length + 2) (fun L => L.length ≤ 4294967296) (hA h) where
  len := fun L => by simp [hA]
  keep := fun L L' k hk => by
    have e : (hA h []).length = (hA h L).length := by simp [hA]
    rw [e] at hk ⊢
    refine keep_app (by simp) (fun blk hb => ?_) k hk
    simp only [List.mem_cons, List.not_mem_nil, or_false] at hb
    rcases hb with rfl | rfl | rfl
    · exact lt_iVs _ _ _ _
    · exact lt_boxr _ _ _ _ _ _ _ _ (by simp)
    · exact lt_loop _ _ _ _ _ _ _ _ _ (by simp)
  pre := fun A B hab => by
    simp only [List.length_append] at hab ⊢
    omega
  yld := fun L x rest hok => by
    have hm : L.length < 4294967296 := by
      simp only [List.length_append, List.length_cons, List.length_nil] at hok
      omega
    have hg : (hA h L ++ rest)[h.length + 2]? = some (.loop [.ptr (h.length + 1) 0] [2] [7] L167_0a L167_0b .ready none .rw) := by
      unfold hA
      rw [List.append_assoc, get_new]
      rfl
    refine gbody_round 1 ((r167_0_eq Γ0 1 _ _ _ _ none .rw hg).trans ?_)
    unfold r167_0 hA
    simp only [List.append_assoc, List.cons_append, List.nil_append]
    have hl : ∀ l, loadP false 1 (.ptr (h.length + 1) 0) (h ++ .log (L.map iV) 1 3 .rw :: .box [.ref h.length 0 L.length L.length 1] 22 .rw :: l) = some (.ref h.length 0 L.length L.length 1) := fun l => by
      rw [load_box]
      unfold boxAt
      rw [get_new]
      rfl
    have hs : ∀ (q : PBlk) (l : PHeap), storeP 1 (.ptr (h.length + 1) 0) (.ref h.length 0 (L.length + 1) (L.length + 1) 1) (h ++ q :: .box [.ref h.length 0 L.length L.length 1] 22 .rw :: l) = some (h ++ q :: .box [.ref h.length 0 (L.length + 1) (L.length + 1) 1] 22 .rw :: l) := fun q l => by
      unfold storeP
      simp only [get_new, List.getElem?_cons_succ, List.getElem?_cons_zero, set_new]
      rfl
    simp only [begin2, bS, ↓KLn, hl, fill_int, all_int, chunk1, app0 hm, hs, end2, mapS, forkN, guardW]
    rw [trim_len _ (by simp)]
    simp
end Go.Vm.X


set_option linter.unusedSimpArgs false
set_option linter.unusedVariables false
namespace Go.Vm.X
open Go.Am Go.Vm
attribute [local congr] bind_c ifP_c loop_c K1_c ite_c fork_c guard_c unl_c
def bxA (h : PHeap) (n : Nat) : PBlk := .box [.ref h.length 0 n n 1] 22 .rw
theorem src_run {h : PHeap} {g : PV} {items : List Int} (S : Src h g items) (hm : items.length ≤ 4294967296) : callFP Γ0 g [.yield (h.length + 2)] (hA h []) = some (undefP, hA h items) := by
  have := S (h.length + 2) _ (hA h) [] (sinkA h) (fun M k hk => by unfold hA; rw [List.getElem?_append_left hk]) (by simpa using hm)
  simpa using this
theorem fin_rawK {h l : PHeap} {k n v sz : Nat} : finP [.raw] h (h ++ l) [.ref h.length k n v sz] = some (.ref h.length k n v sz, h ++ l) := by
  rw [fin_def]
  simp only [fzL, fz, Option.bind_some, Option.map_some]
  unfold trim
  rw [if_neg]
  · rfl
  · intro hh
    have := hh.1 (.ref h.length k n v sz) (by simp)
    simp only [ltV] at this
    omega
theorem c167 {h : PHeap} {g : PV} {items : List Int} (S : Src h g items) (hm : items.length ≤ 4294967296) : Γ0 167 [.nilS, g] h = some (.ref h.length 0 items.length items.length 1, lg h [bxA h items.length] items .rw) := by
  refine gbody (F := A167) (by kernel_rfl) 1 ?_
  rw [s167_eq]; unfold s167
  have hr := src_run S hm
  unfold hA at hr
  simp only [List.map_nil, List.length_nil] at hr
  have ht : trim (h ++ [.log [] 1 3 .rw, .box [.ref h.length 0 0 0 1] 22 .rw]) [] (h ++ [.log (items.map iV) 1 3 .rw, .box [.ref h.length 0 items.length items.length 1] 22 .rw, .dead]) = h ++ [.log (items.map iV) 1 3 .rw, .box [.ref h.length 0 items.length items.length 1] 22 .rw] := by
    have := trim_to (g := h ++ [.log [] 1 3 .rw, .box [.ref h.length 0 0 0 1] 22 .rw]) (g' := h ++ [.log (items.map iV) 1 3 .rw, .box [.ref h.length 0 items.length items.length 1] 22 .rw]) (r := []) (rest := [.dead]) (by simp) (by simp) (keep_app (by simp) (fun blk hb => by
      simp only [List.mem_cons, List.not_mem_nil, or_false] at hb
      rcases hb with rfl | rfl
      · exact lt_iVs _ _ _ _
      · exact lt_boxr _ _ _ _ _ _ _ _ (by simp)))
    simpa using this
  have hl : loadP false 1 (.ptr (h.length + 1) 0) (h ++ [.log (items.map iV) 1 3 .rw, .box [.ref h.length 0 items.length items.length 1] 22 .rw]) = some (.ref h.length 0 items.length items.length 1) := by
    rw [load_box]
    unfold boxAt
    rw [get_new]
    rfl
  simp only [grow_nil, bS, forkN, cells_ref, List.append_assoc, List.cons_append, List.nil_append, List.length_append, List.length_cons, List.length_nil, Nat.zero_add, Nat.reduceAdd, ↓KLn, hr, pend2, dead2, end_none, ht, hl, fin_rawK]
  rfl
theorem c143 {h : PHeap} {g : PV} {items : List Int} (S : Src h g items) (hm : items.length ≤ 4294967296) : Γ0 143 [g] h = some (.ref h.length 0 items.length items.length 1, lg h [bxA h items.length] items .rw) := by
  refine gbody (F := A143) (by kernel_rfl) 1 ?_
  rw [s143_eq]; unfold s143
  simp only [c167 S hm, bS]
  exact fin_rawK
theorem c105 {h : PHeap} {g : PV} {items : List Int} (S : Src h g items) (hm : items.length ≤ 4294967296) : Γ0 105 [g] h = some (.ref h.length 0 items.length items.length 1, lg h [bxA h items.length] (srt items) .rw) := by
  refine gbody (F := A105) (by kernel_rfl) 1 ?_
  rw [s105_eq]; unfold s105
  simp only [c143 S hm, c144, bS]
  exact fin_rawK
def dd (l : List Int) : List Int := ddN (srt l) (srt l).length
theorem fin_lgK {h r : PHeap} {l : List Int} {k n : Nat} (hn : n = l.length) (hk : k ≤ n) : finP [.flat 1] h (lg h r l .rw) [.ref h.length 0 k n 1] = some (ints (l.take k), h) := by
  subst hn
  by_cases h0 : k = 0
  · subst h0
    unfold lg
    exact fin_new (show fzL [.flat 1] _ _ = some ([ints []], _) from by simp only [fzL, fz, if_true, Option.bind_some, Option.map_some]; rfl) (by simp [ltV, ints])
  · have e : fz (.flat 1) (.ref h.length 0 k l.length 1) (lg h r l .rw) = some (ints (l.take k), lg h r l .ro) := by
      rw [fz, if_neg h0, lg_at]
      simp only [List.length_map, List.drop_zero, lg_set]
      rw [← List.map_take, if_pos ⟨trivial, trivial, by omega, pure_ints _⟩]
      rfl
    exact fin_new (l := .log (l.map iV) 1 3 .ro :: r) (show fzL [.flat 1] _ _ = some ([ints (l.take k)], _) from by simp only [fzL, e, Option.bind_some, Option.map_some]; rfl) (by simp [ltV, ints])
theorem c60 {h : PHeap} {g : PV} {items : List Int} (S : Src h g items) (hm : items.length ≤ 4294967296) : Γ0 60 [g] h = some (ints (dd items), h) := by
  refine gbody (F := A60) (by kernel_rfl) 1 ?_
  rw [s60_eq]; unfold s60
  obtain ⟨l', e1, e2, e3⟩ := c106 h [bxA h items.length] (srt items) (by rw [srt_len]; omega)
  rw [srt_len] at e3 e2
  simp only [c105 S hm, bS, e3]
  rw [fin_lgK (by rw [e1, srt_len]) (by have := ddN_le (srt items) items.length; omega), e2]
  unfold dd
  rw [srt_len]
def cn (l : List Cell) : List Int := (l.map Cell.inst).filter fun x => decide (x > 0)
theorem cn_snoc (l : List Cell) (c : Cell) : cn (l ++ [c]) = if c.inst > 0 then cn l ++ [c.inst] else cn l := by
  unfold cn
  rw [List.map_append, List.filter_append]
  by_cases h : c.inst > 0 <;> simp [h]
def cnAt (s : Sng) (p : Int) : List Int := cn (s.pats.getD p.toNat (0, [])).2
theorem c41 (s : Sng) (h : PHeap) : Γ0 41 [.agg s.cs] h = some (.func 94 [] [.ptr h.length 0], h ++ [.box s.cs 27 .rw]) := by
  refine gbody (F := A41) (by kernel_rfl) 1 ?_
  rw [s41_eq]; unfold s41
  simp only [words, ↓KLn, Nat.reduceAdd]
  rw [fin_def]
  simp only [fzL, fz, Option.bind_some, Option.map_some]
  unfold trim
  rw [if_neg]
  · rfl
  · intro hh
    have := hh.1 _ (List.mem_singleton.2 rfl)
    simp [ltV] at this
theorem c43 (s : Sng) (g : PV) (hg : cellsP g = [g]) (h : PHeap) : Γ0 43 [.agg s.cs, g] h = some (.func 96 [] [.ptr (h.length + 1) 0, .ptr h.length 0], h ++ [.box s.cs 27 .rw, .box [g] 77 .rw]) := by
  refine gbody (F := A43) (by kernel_rfl) 1 ?_
  rw [s43_eq]; unfold s43
  simp only [words, ↓KLn, Nat.reduceAdd, hg]
  rw [fin_def]
  simp only [fzL, fz, Option.bind_some, Option.map_some]
  unfold trim
  rw [if_neg]
  · rfl
  · intro hh
    have := hh.1 _ (List.mem_singleton.2 rfl)
    simp [ltV] at this
end Go.Vm.X


set_option linter.unusedSimpArgs false
set_option linter.unusedVariables false
namespace Go.Vm.X
open Go.Am Go.Vm
attribute [local congr] bind_c ifP_c loop_c K1_c ite_c fork_c guard_c unl_c
theorem ltV_mono {n m : Nat} (h : n ≤ m) : ∀ v : PV, ltV n v → ltV m v
  | .ptr b o, hv => by simp only [ltV] at hv ⊢; omega
  | .ref b lo k v sz, hv => by simp only [ltV] at hv ⊢; omega
  | .lptr b i o v sz, hv => by simp only [ltV] at hv ⊢; omega
  | .map b, hv => by simp only [ltV] at hv ⊢; omega
  | .yield b, hv => by simp only [ltV] at hv ⊢; omega
  | .func f xs ys, hv => by
    simp only [ltV] at hv ⊢
    exact ⟨fun x hx => ltV_mono h x (hv.1 x hx), fun x hx => ltV_mono h x (hv.2 x hx)⟩
  | .iface t v, hv => by
    simp only [ltV] at hv ⊢
    exact ltV_mono h v hv
  | .agg cs, hv => by
    simp only [ltV] at hv ⊢
    exact fun x hx => ltV_mono h x (hv x hx)
  | .tuple cs, hv => by
    simp only [ltV] at hv ⊢
    exact fun x hx => ltV_mono h x (hv x hx)
  | .junk, _ => by simp only [ltV]
  | .int _ _, _ => by simp only [ltV]
  | .bool _, _ => by simp only [ltV]
  | .str _, _ => by simp only [ltV]
  | .nilS, _ => by simp only [ltV]
  | .nilP, _ => by simp only [ltV]
  | .nilM, _ => by simp only [ltV]
  | .nilF, _ => by simp only [ltV]
  | .nilI, _ => by simp only [ltV]
  | .emp, _ => by simp only [ltV]
  | .frz _ _, _ => by simp only [ltV]
  | .fptr _ _, _ => by simp only [ltV]
theorem ltB_mono {n m : Nat} (h : n ≤ m) : ∀ {b : PBlk}, ltB n b → ltB m b
  | .box _ _ _, hb => fun x hx => ltV_mono h x (hb x hx)
  | .log _ _ _ _, hb => fun x hx => ltV_mono h x (hb x hx)
  | .map _ _, hb => fun x hx => ⟨ltV_mono h _ (hb x hx).1, ltV_mono h _ (hb x hx).2⟩
  | .loop _ _ _ _ _ _ _ _, hb => fun x hx => ltV_mono h x (hb x hx)
  | .dead, _ => trivial
theorem Sink.keep2 {b : Nat} {ok : List Int → Prop} {H : List Int → PHeap} (s : Sink b ok H) (L L' : List Int) (t : PHeap) (k : Nat) (hk : k < (H L ++ t).length) : (H L' ++ t)[k]? = (H L ++ t)[k]? ∨ ∃ blk, (H L' ++ t)[k]? = some blk ∧ ltB (H L ++ t).length blk := by
  have e : (H L').length = (H L).length := by rw [s.len L, s.len L']
  by_cases h1 : k < (H L).length
  · rw [List.getElem?_append_left (by omega), List.getElem?_append_left h1]
    rcases s.keep L L' k (by rw [← s.len L]; exact h1) with h | ⟨blk, h2, h3⟩
    · exact .inl h
    · exact .inr ⟨blk, h2, ltB_mono (by rw [List.length_append, s.len L]; omega) h3⟩
  · left
    rw [List.getElem?_append_right (by omega), List.getElem?_append_right (by omega), e]
theorem Sink.trim3 {b : Nat} {ok : List Int → Prop} {H : List Int → PHeap} (s : Sink b ok H) (L L' : List Int) (t rest : PHeap) {r : List PV} (hr : ∀ v ∈ r, ∀ n, ltV n v) : Go.Vm.trim (H L ++ t) r (H L' ++ (t ++ rest)) = H L' ++ t := by
  rw [← List.append_assoc]
  exact trim_to (by simp [s.len L, s.len L']) (fun v hv => hr v hv _) fun k hk => s.keep2 L L' t k hk
theorem begin1 {g l : PHeap} {a : PBlk} {n : Nat} (hn : n = g.length + 1) {vals : List PV} {lv ps : List Nat} {ab bb : PCode} {pend : Option AExit} : beginRoundP n (g ++ a :: .loop vals lv ps ab bb .ready pend .rw :: l) = some (g ++ a :: .loop vals lv ps ab bb .busy pend .rw :: l) := by
  subst hn
  unfold beginRoundP
  rw [get_new]
  simp only [List.getElem?_cons_succ, List.getElem?_cons_zero]
  rw [set_new]
  rfl
theorem end1 {g l : PHeap} {a : PBlk} {n : Nat} (hn : n = g.length + 1) {vals : List PV} {lv ps : List Nat} {ab bb : PCode} {pend : Option AExit} : endRoundP n .normal (g ++ a :: .loop vals lv ps ab bb .busy pend .rw :: l) = some (.bool true, g ++ a :: .loop vals lv ps ab bb .ready none .rw :: l) := by
  subst hn
  unfold endRoundP
  rw [get_new]
  simp only [List.getElem?_cons_succ, List.getElem?_cons_zero]
  rw [set_new]
  rfl
theorem pend1 {g l : PHeap} {a : PBlk} {n : Nat} (hn : n = g.length + 1) {vals : List PV} {lv ps : List Nat} {ab bb : PCode} {pend : Option AExit} : pendOfP n (g ++ a :: .loop vals lv ps ab bb .ready pend .rw :: l) = some pend := by
  subst hn
  unfold pendOfP
  rw [get_new]
  rfl
theorem dead1 {g l : PHeap} {a c : PBlk} {n : Nat} (hn : n = g.length + 1) : (g ++ a :: c :: l).set n .dead = g ++ a :: .dead :: l := by
  subst hn
  rw [set_new]
  rfl
theorem cells_yield (b : Nat) : cellsP (.yield b) = [.yield b] := nr rfl
theorem cell_st (c : Cell) (vs : List PV) (t : TypeId) (l : PHeap) : storeP 6 (.ptr 0 0) (.agg c.cs) (.box vs t .rw :: l) = (putAt vs 0 c.cs).map fun vs' => .box vs' t .rw :: l := storeC0 rfl (by decide)
theorem cell_all (c : Cell) : partP true 0 6 c.cs = some (.agg c.cs) := part_all rfl
theorem cell_put (c : Cell) (a b d e f g : PV) : putAt [a, b, d, e, f, g] 0 c.cs = some c.cs := put_whole rfl rfl
theorem src_cells {h : PHeap} {k1 k2 : Nat} {s : Sng} {g : PV} {ps : List Int} (e1 : boxAt h k1 = some [g]) (e2 : boxAt h k2 = some s.cs) (hl : ∀ p ∈ s.pats, p.2.length < 9223372036854775808) (S : Src h g ps) (hp : ∀ p ∈ ps, 0 ≤ p ∧ p < s.pats.length) : Src h (.func 96 [] [.ptr k1 0, .ptr k2 0]) (ps.flatMap (cnAt s)) := by
  intro b ok H L Sk hH hok
  rw [callF_func Γ0 96]
  show Γ0 96 [.yield b, .ptr k1 0, .ptr k2 0] (H L) = _
  have hlen : ∀ M M', (H M).length = (H M').length := fun M M' => by rw [Sk.len M, Sk.len M']
  have hb : ∀ M l, boxAt (H M ++ l) k2 = some s.cs := fun M l => by
    refine box_app ?_ l
    rw [← e2]
    exact box_eq (hH M k2 (box_lt e2))
  have hb1 : ∀ M l, boxAt (H M ++ l) k1 = some [g] := fun M l => by
    refine box_app ?_ l
    rw [← e1]
    exact box_eq (hH M k1 (box_lt e1))
  obtain ⟨H2, hH2⟩ : ∃ H2 : List Int → PHeap, H2 = fun M => H (L ++ M.flatMap (cnAt s)) ++ [.box [.yield b] 85 .rw, .loop [.ptr k2 0, .ptr (H L).length 0] [2, 3] [8] L96_0a L96_0b .ready none .rw] := ⟨_, rfl⟩
  have S2 : Sink ((H L).length + 1) (fun M => ok (L ++ M.flatMap (cnAt s)) ∧ ∀ p ∈ M, 0 ≤ p ∧ p < s.pats.length) H2 := by
    constructor
    · intro M; simp only [hH2, List.length_append, hlen (L ++ M.flatMap (cnAt s)) (L ++ [].flatMap (cnAt s))]
    · rintro M p rest ⟨ho, hv⟩
      obtain ⟨hv0, hv1⟩ := hv p (by simp)
      obtain ⟨i, rfl⟩ : ∃ i : Nat, p = (i : Int) := ⟨p.toNat, by omega⟩
      obtain ⟨pt, hpt⟩ := lt_l (show i < s.pats.length by omega)
      have hml := hl pt (List.mem_of_getElem? hpt)
      have hcn : cnAt s (i : Int) = cn pt.2 := by unfold cnAt; rw [Int.toNat_natCast, getD_of hpt]
      rw [List.flatMap_append, ← List.append_assoc, List.flatMap_singleton, hcn] at ho
      subst hH2
      have hg : (H (L ++ M.flatMap (cnAt s)) ++ [.box [.yield b] 85 .rw, .loop [.ptr k2 0, .ptr (H L).length 0] [2, 3] [8] L96_0a L96_0b .ready none .rw] ++ rest)[(H L).length + 1]? = some (.loop [.ptr k2 0, .ptr (H L).length 0] [2, 3] [8] L96_0a L96_0b .ready none .rw) := by
        rw [List.append_assoc, hlen L (L ++ M.flatMap (cnAt s)), get_new]
        rfl
      refine gbody_round (pt.2.length + 1) ((r96_0_eq Γ0 _ _ _ _ _ _ none .rw hg).trans ?_)
      unfold r96_0
      simp only [List.append_assoc, List.cons_append, List.nil_append]
      generalize hX : L ++ M.flatMap (cnAt s) = X at *
      have hn : ∀ Y, (H L).length + 1 = (H Y).length + 1 := fun Y => by rw [hlen L Y]
      have hld : ∀ l, loadP false 1 (.ptr k2 10) (H X ++ l) = some (patsPV s.pats) := fun l => box_load1 (hb X l) (sc10 s)
      have hw : ∀ Y l, loadP false 1 (.ptr (H L).length 0) (H Y ++ .box [.yield b] 85 .rw :: l) = some (.yield b) := fun Y l => by
        rw [load_box]
        unfold boxAt
        rw [hlen L Y, show (H Y).length = (H Y).length + 0 from rfl, get_new]
        rfl
      simp only [begin1 (hn X), bS, fieldW, Nat.zero_add, hld, idx_pats _ hpt, load_fptr, partC, pc1, len_cells, ↓KLn]
      refine loop_run (fun j => [.int .i64 (j : Int)]) (fun j => H (X ++ cn (pt.2.take j)) ++ .box [.yield b] 85 .rw :: .loop [.ptr k2 0, .ptr (H L).length 0] [2, 3] [8] L96_0a L96_0b .busy none .rw :: rest) pt.2.length (by omega) rfl (by simp [cn]) (fun j hj K => ?_) fun K => ?_
      · obtain ⟨c, hc⟩ := lt_l hj
        have ht : pt.2.take (j + 1) = pt.2.take j ++ [c] := take_succ_get hc
        unfold r96_0_L0
        obtain ⟨tl, htl⟩ : ∃ tl : PHeap, tl = .box [.yield b] 85 .rw :: .loop [.ptr k2 0, .ptr (H L).length 0] [2, 3] [8] L96_0a L96_0b .busy none .rw :: rest := ⟨_, rfl⟩
        have htr : ∀ Y (cb : PBlk) v, (∀ n, ltV n v) → Go.Vm.trim (H X ++ tl) [v] (H Y ++ (tl ++ [cb])) = H Y ++ tl := fun Y cb v hv => Sk.trim3 X Y tl [cb] (fun w hw => by rw [List.mem_singleton] at hw; subst hw; exact hv)
        have hlt : ∀ (z : Int) n, ltV n (.int .i64 z) := fun z n => by simp only [ltV]
        rw [← htl]
        rw [ht, cn_snoc]
        have hw2 : ∀ l, loadP false 1 (.ptr (H L).length 0) (H (X ++ cn (pt.2.take j)) ++ tl ++ l) = some (.yield b) := fun l => by
          rw [htl, List.append_assoc, List.cons_append]; exact hw _ _
        obtain ⟨g0, hg0⟩ : ∃ g0 : PHeap, g0 = H (X ++ cn (pt.2.take j)) ++ tl := ⟨_, rfl⟩
        have htr0 : ∀ (cb : PBlk) v, (∀ n, ltV n v) → Go.Vm.trim (H X ++ tl) [v] (g0 ++ [cb]) = g0 := fun cb v hv => by
          rw [hg0, List.append_assoc]
          exact htr _ cb v hv
        rw [← hg0] at hw2 ⊢
        by_cases hpos : c.inst > 0
        · have hy : ∀ cb : PBlk, Γ0 yieldId [.ptr b 0, .int .i64 c.inst] (g0 ++ [cb]) = some (.bool true, H (X ++ (cn (pt.2.take j) ++ [c.inst])) ++ (tl ++ [cb])) := fun cb => by
            have := Sk.yld (X ++ cn (pt.2.take j)) c.inst (tl ++ [cb]) (by
              have e : cn pt.2 = cn (pt.2.take j ++ [c] ++ pt.2.drop (j + 1)) := by rw [← ht, List.take_append_drop]
              have e3 : cn (pt.2.take j ++ [c] ++ pt.2.drop (j + 1)) = cn (pt.2.take j ++ [c]) ++ cn (pt.2.drop (j + 1)) := by unfold cn; rw [List.map_append, List.filter_append]
              rw [e, e3, cn_snoc, if_pos hpos] at ho
              have ho2 := ho
              rw [← List.append_assoc, ← List.append_assoc] at ho2
              exact Sk.pre _ _ ho2)
            rw [hg0, List.append_assoc, this, List.append_assoc]
          rw [if_pos hpos]
          simp only [words, ↓KLn, Nat.reduceAdd, List.length_map, ↓K1n, sc_and, ltT hj, decide_true, if_true, idx_cells _ hc, cell_all, cell_st, cell_put, cc1, hpos, hw2, callV_yield, hy, Bool.not_true, Bool.false_eq_true, if_false, succ63 (show j < 9223372036854775807 by omega), htr _ _ _ (hlt _)]
        · rw [if_neg hpos]
          simp only [words, ↓KLn, Nat.reduceAdd, List.length_map, ↓K1n, sc_and, ltT hj, decide_true, if_true, idx_cells _ hc, cell_all, cell_st, cell_put, cc1, hpos, decide_false, Bool.false_eq_true, if_false, succ63 (show j < 9223372036854775807 by omega), htr0 _ _ (hlt _)]
          rw [hg0]
      · unfold r96_0_L0
        simp only [words, ↓KLn, Nat.reduceAdd, List.length_map, ltF, decide_false, Bool.false_eq_true, if_false, List.take_length, end1 (hn _), mapS]
        rw [trim_len _ (by simp [hlen (X ++ cn pt.2) X]), List.flatMap_append, List.flatMap_singleton, hcn, ← List.append_assoc, hX]
    · intro M M' k hk
      subst hH2
      simp only at hk ⊢
      have e0 : (H (L ++ [].flatMap (cnAt s))).length = (H (L ++ M.flatMap (cnAt s))).length := hlen _ _
      rw [List.length_append, e0, ← List.length_append] at hk
      have := Sk.keep2 (L ++ M.flatMap (cnAt s)) (L ++ M'.flatMap (cnAt s)) _ k hk
      rw [List.length_append, ← e0, ← List.length_append] at this
      exact this
    · rintro A B ⟨h1, h2⟩
      refine ⟨?_, fun p hp => h2 p (List.mem_append_left _ hp)⟩
      rw [List.flatMap_append, ← List.append_assoc] at h1
      exact Sk.pre _ _ h1
  have hrun := S _ _ H2 [] S2 (fun M k hk => by
    subst hH2
    have : k < (H (L ++ M.flatMap (cnAt s))).length := (List.getElem?_eq_some_iff.1 ((hH _ k hk).trans (List.getElem?_eq_getElem hk))).1
    rw [List.getElem?_append_left this]
    exact hH _ k hk) (by simpa using ⟨hok, hp⟩)
  subst hH2
  refine gbody (F := A96) (by kernel_rfl) 1 ?_
  rw [s96_eq]; unfold s96
  simp only [List.nil_append, List.flatMap_nil, List.append_nil] at hrun
  have hg1 : ∀ l, loadP false 1 (.ptr k1 0) (H L ++ l) = some g := fun l => box_load1 (hb1 L l) rfl
  have hn : (H L).length + 1 = (H (L ++ ps.flatMap (cnAt s))).length + 1 := by rw [hlen L]
  simp only [bS, forkN, cells_yield, hg1, List.length_append, List.length_cons, List.length_nil, Nat.zero_add, List.append_assoc, List.cons_append, List.nil_append, hrun, pend1 hn, dead1 hn, end_none, ↓KLn]
  have ht := Sk.trim3 L (L ++ ps.flatMap (cnAt s)) [.box [.yield b] 85 .rw] [.dead] (r := []) (by simp)
  simp only [List.cons_append, List.nil_append] at ht
  rw [ht, fin_unit, Sk.trim _ _ (by simp)]
end Go.Vm.X


set_option linter.unusedSimpArgs false
set_option linter.unusedVariables false
namespace Go.Vm.X
open Go.Am Go.Vm
attribute [local congr] bind_c ifP_c loop_c K1_c ite_c fork_c guard_c unl_c
def playL (i : Ins) (own : Int) (m : Nat) : List Int := ((List.range m).map fun (n : Nat) => (keyV i (n : Int) own).2).filter fun s => decide (s > 0)
theorem playL_succ (i : Ins) (own : Int) (m : Nat) : playL i own (m + 1) = if (keyV i (m : Int) own).2 > 0 then playL i own m ++ [(keyV i (m : Int) own).2] else playL i own m := by
  unfold playL
  rw [List.range_succ, List.map_append, List.filter_append]
  split
  · rename_i h; simp [h]
  · rename_i h; simp [h]
theorem playL_le (i : Ins) (own : Int) (m : Nat) : (playL i own m).length ≤ m := by
  unfold playL
  exact Nat.le_trans (List.length_filter_le _ _) (by simp)
theorem lg2 (h : PHeap) (b : PBlk) (l : List Int) : h ++ [b, .log (l.map iV) 1 3 .rw] = lg (h ++ [b]) [] l .rw := by unfold lg; simp
theorem pext0 (p : Int × Int) : extractP (pairV p) 0 = some (.int .i64 p.1) := nr rfl
theorem pext1 (p : Int × Int) : extractP (pairV p) 1 = some (.int .i64 p.2) := nr rfl
theorem app_ints (h : PHeap) (b : PBlk) (l : List Int) (v : Int) (hm : l.length < 4294967296) : appendP 3 1 (.ref (h.length + 1) 0 l.length l.length 1) (.frz 1 [[.int .i64 v]]) (h ++ [b, .log (l.map iV) 1 3 .rw]) = some (.ref (h.length + 1) 0 (l.length + 1) (l.length + 1) 1, h ++ [b, .log ((l ++ [v]).map iV) 1 3 .rw]) := by
  rw [append_one (k := 1) (rows := l.map iV) l.length (by simp) rfl rfl (by simpa [mostLen] using hm)]
  simp [iV]
theorem fin_intsL (h l : PHeap) (xs : List Int) : finP [.flat 1] h (h ++ l) [ints xs] = some (ints xs, h) := fin_new (show fzL [.flat 1] [ints xs] (h ++ l) = some ([ints xs], h ++ l) from by simp only [fzL, fz, ints, Option.bind_some, Option.map_some]) (by simp [ltV, ints])
theorem trim2 (h : PHeap) (a b c d : PBlk) (r : List PV) : trim (h ++ [a, b]) r (h ++ [c, d]) = h ++ [c, d] := trim_len _ (by simp)
theorem fin_rawKj {h l : PHeap} {j k n v sz : Nat} : finP [.raw] h (h ++ l) [.ref (h.length + j) k n v sz] = some (.ref (h.length + j) k n v sz, h ++ l) := by
  rw [fin_def]
  simp only [fzL, fz, Option.bind_some, Option.map_some]
  unfold trim
  rw [if_neg]
  · rfl
  · intro hh
    have := hh.1 (.ref (h.length + j) k n v sz) (by simp)
    simp only [ltV] at this
    omega
def smpV (i : Ins) (own : Int) : List Int := dd (playL i own 120)
theorem c108 (i : Ins) (hl : InsLen i) (hv : insOK i = true) (own : Int) (h : PHeap) : ∃ l', l'.length = (playL i own 120).length ∧ l'.take (smpV i own).length = smpV i own ∧ (smpV i own).length ≤ l'.length ∧ Γ0 108 [.agg i.cs, .int .i64 own] h = some (.ref (h.length + 1) 0 (smpV i own).length l'.length 1, lg (h ++ [.box i.cs 57 .rw]) [] l' .rw) := by
  obtain ⟨N, hN⟩ : ∃ N : Nat, 120 < N := ⟨121, by omega⟩
  have hle := playL_le i own 120
  obtain ⟨l', g1, g2, hb⟩ := c106 (h ++ [.box i.cs 57 .rw]) [] (srt (playL i own 120)) (by rw [srt_len]; omega)
  refine ⟨l', by rw [g1, srt_len], g2, ?_, ?_⟩
  · rw [g1]; exact ddN_le _ _
  refine gbody (F := A108) (by kernel_rfl) N ?_
  rw [s108_eq]; unfold s108
  simp only [words, ↓KLn, Nat.reduceAdd, ic_whole, c127 i hl, hv, Bool.not_true, Bool.false_eq_true, if_false, if_true]
  refine loop_run (fun m => [.ref (h.length + 1) 0 (playL i own m).length (playL i own m).length 1, .int .i64 (m : Int)]) (fun m => h ++ [.box i.cs 57 .rw, .log ((playL i own m).map iV) 1 3 .rw]) 120 hN rfl rfl (fun m hm K => ?_) fun K => ?_
  · unfold s108_L0
    have hle := playL_le i own m
    have e1 : decide ((m : Int) < 120) = true := by rw [decide_eq_true_eq]; omega
    simp only [words, ↓KLn, Nat.reduceAdd, nth_one, e1, if_true, ic_whole, c111 i hl, pext0, pext1]
    rw [playL_succ]
    by_cases hp : (keyV i (m : Int) own).2 > 0
    · simp only [words, ↓KLn, Nat.reduceAdd, nth_one, hp, decide_true, if_true, fill_int, chunk1, all_int, app_ints _ _ _ _ (show (playL i own m).length < 4294967296 by omega), succ63 (show m < 9223372036854775807 by omega), trim2, List.length_append]
      rfl
    · simp only [words, ↓KLn, Nat.reduceAdd, nth_one, hp, decide_false, if_false, Bool.false_eq_true, succ63 (show m < 9223372036854775807 by omega), trim2]
  · unfold s108_L0
    have e1 : decide (((120 : Nat) : Int) < 120) = false := by decide
    have e2 : (h ++ [PBlk.box i.cs 57 .rw]).length = h.length + 1 := by simp
    have e3 := c144 (h ++ [.box i.cs 57 .rw]) [] (playL i own 120)
    rw [e2] at e3 hb
    rw [srt_len] at hb
    rw [g1, srt_len]
    simp only [words, ↓KLn, Nat.reduceAdd, nth_one, e1, Bool.false_eq_true, if_false]
    rw [lg2, e3]
    simp only [bS, hb]
    unfold smpV dd
    rw [srt_len]
    unfold lg
    rw [List.append_assoc]
    exact fin_rawKj
theorem scal_i (k : IntKind) (n : Int) : scal (.int k n) = true := nr rfl
theorem box_lock (g : PHeap) (k : Nat) : boxAt (lock g) k = boxAt g k := by
  unfold boxAt lock
  rw [List.getElem?_map]
  cases g[k]? with
  | none => rfl
  | some b =>
    cases b with
    | box vs t md => cases md <;> rfl
    | log r s e md => cases md <;> rfl
    | map es md => cases md <;> rfl
    | loop a b c d e f g md => cases md <;> rfl
    | dead => rfl
theorem c109 {s : Sng} {g : PHeap} {k : Nat} (e : boxAt g k = some s.cs) (x : Int) : Γ0 109 [.int .i64 x, .ptr k 0] g = some (.bool (decide (x > (s.smps.length : Int))), g) := by
  refine gbody (F := A109) (by kernel_rfl) 1 ?_
  rw [s109_eq]; unfold s109
  simp only [bS, fieldW, Nat.zero_add, box_load1 e (sc11 s), len_smps, bin_gtr, fin_bool0]
theorem fz_lg {p r : PHeap} {l : List Int} {k n : Nat} (hn : n = l.length) (hk : k ≤ n) : ∃ md, fz (.flat 1) (.ref p.length 0 k n 1) (lg p r l .rw) = some (ints (l.take k), lg p r l md) := by
  subst hn
  by_cases h0 : k = 0
  · subst h0
    exact ⟨.rw, by simp only [fz, if_true]; rfl⟩
  · refine ⟨.ro, ?_⟩
    rw [fz, if_neg h0, lg_at]
    simp only [List.length_map, List.drop_zero, lg_set]
    rw [← List.map_take, if_pos ⟨trivial, trivial, by omega, pure_ints _⟩]
    rfl
theorem box_lg {p r : PHeap} {l l' : List Int} {md md' : Md} {k : Nat} {vs : List PV} (e : boxAt (lg p r l md) k = some vs) : boxAt (lg p r l' md') k = some vs := by
  rw [← e]
  unfold boxAt lg
  by_cases h : k = p.length
  · subst h
    exfalso
    unfold boxAt lg at e
    rw [List.getElem?_append_right (Nat.le_refl _), Nat.sub_self] at e
    cases e
  · have : (p ++ PBlk.log (l'.map iV) 1 3 md' :: r)[k]? = (p ++ PBlk.log (l.map iV) 1 3 md :: r)[k]? := by
      by_cases h1 : k < p.length
      · rw [List.getElem?_append_left h1, List.getElem?_append_left h1]
      · rw [List.getElem?_append_right (by omega), List.getElem?_append_right (by omega)]
        obtain ⟨j, hj⟩ : ∃ j, k - p.length = j + 1 := ⟨k - p.length - 1, by omega⟩
        rw [hj]
        rfl
    rw [this]
theorem fin_lgF {p : PHeap} {l : List Int} {k n : Nat} (hn : n = l.length) (hk : k ≤ n) : ∃ blk, finP [.flat 1] (lg p [] l .rw) (lg p [] l .rw) [.ref p.length 0 k n 1] = some (ints (l.take k), p ++ [blk]) := by
  obtain ⟨md, e⟩ := fz_lg (p := p) (r := []) hn hk
  refine ⟨.log (l.map iV) 1 3 md, ?_⟩
  rw [fin_def]
  simp only [fzL, e, Option.bind_some, Option.map_some]
  rw [trim_len _ (by simp [lg_len])]
  rfl
theorem c107 {s : Sng} {p : PHeap} {l : List Int} {k n kk : Nat} (hn : n = l.length) (hk : k ≤ n) (hm : n < 4294967296) (e : boxAt (lg p [] l .rw) kk = some s.cs) (hc : (∀ x ∈ l.take k, ¬ x > (s.smps.length : Int)) ∨ k = 1 ∧ ∃ x, l.take k = [x] ∧ x > (s.smps.length : Int)) :
    ∃ blk, Γ0 107 [.ref p.length 0 k n 1, .func 109 [] [.ptr kk 0]] (lg p [] l .rw) = some (ints ((l.take k).filter fun x => decide (x ≤ (s.smps.length : Int))), p ++ [blk]) := by
  obtain ⟨md, ez⟩ := fz_lg (p := p) (r := []) hn hk
  have hf : ∀ x, callVP Γ0 (.func 109 [] [.ptr kk 0]) [.int .i64 x] (lock (lg p [] l md)) = some (.bool (decide (x > (s.smps.length : Int))), lock (lg p [] l md)) := fun x => by
    rw [callV_func Γ0 109]
    exact c109 (by rw [box_lock]; exact box_lg e) x
  have hi := c121 (l := l.take k) (f := .func 109 [] [.ptr kk 0]) (by rw [List.length_take]; omega) hf
  rcases hc with hg | ⟨rfl, x, hx, hbad⟩
  · obtain ⟨blk, hfin⟩ := fin_lgF (p := p) hn hk
    refine ⟨blk, gbody (F := A107) (by kernel_rfl) 1 ?_⟩
    rw [s107_eq]; unfold s107
    have hnone : firstI (fun x => decide (x > (s.smps.length : Int))) (l.take k) = -1 := by
      obtain ⟨j, h1, h2, h3⟩ := first_at (fun x => decide (x > (s.smps.length : Int))) (l.take k)
      rcases h3 with ⟨_, h4, _⟩ | ⟨c, h3, h4, _⟩
      · exact h4
      · exact absurd (List.mem_of_getElem? h3) (fun hm => by
          have := hg c hm
          simp [this] at h4)
    have hflt : (l.take k).filter (fun x => decide (x ≤ (s.smps.length : Int))) = l.take k := by
      rw [List.filter_eq_self]
      intro a ha
      have := hg a ha
      simp only [decide_eq_true_eq]
      omega
    have e1 : ((-1 : Int) == -1) = true := rfl
    rw [hflt]
    simp only [ez, bS, hi, hnone, scal_i, guardW, bin_eql, e1, ↓KLn, ifW, if_true, hfin]
  · refine ⟨.log ((l.take 0 ++ List.replicate (1 - 0) 0 ++ l.drop 1).map iV) 1 3 .rw, gbody (F := A107) (by kernel_rfl) 2 ?_⟩
    rw [s107_eq]; unfold s107
    have hone : firstI (fun x => decide (x > (s.smps.length : Int))) (l.take 1) = 0 := by
      rw [hx]; simp [firstI, hbad]
    have hflt : (l.take 1).filter (fun x => decide (x ≤ (s.smps.length : Int))) = [] := by
      rw [hx]
      simp
      omega
    have e1 : ((0 : Int) == -1) = false := rfl
    have e2 : ((0 : Int) + 1) = 1 := rfl
    have w1 : IntKind.i64.wrap (0 + 1) = 1 := by decide
    have hcl := lg_clear (p := p) (r := []) (l := l) (k := 0) (m := 1) (n := n) hn (by omega) hk
    have hlo : sliceP 1 (.ref p.length 0 1 n 1) (some (.int .i64 0)) none none = some (.ref p.length 0 (1 - 0) n 1) := nr rfl
    have hhi : sliceP 1 (.ref p.length 0 1 n 1) none (some (.int .i64 0)) none = some (.frz 1 []) := nr rfl
    rw [hflt]
    simp only [ez, bS, hi, hone, scal_i, guardW, bin_eql, e1, ↓KLn, ifW, Bool.false_eq_true, if_false, bin_add, w1]
    unfold loopP s107_L0
    have e3 : decide ((1 : Int) < ((1 : Nat) : Int)) = false := by decide
    simp only [bS, nth_zero, nth_one, rf_len, bin_lss, e3, ↓KLn, ifW, Bool.false_eq_true, if_false, hlo, hcl, hhi]
    rw [fin_def]
    simp only [fzL, fz, Option.bind_some, Option.map_some]
    rw [trim_len _ (by simp [lg_len])]
    rfl
end Go.Vm.X



/- The samples that an instrument plays: the reference. -/
set_option linter.unusedSimpArgs false
set_option linter.unusedVariables false
namespace Go.Vm.X
open Go.Am Go.Vm
attribute [local congr] bind_c ifP_c loop_c K1_c ite_c fork_c guard_c unl_c
def seenK (ks : List (Int × Int)) (s : Int) : Bool := ks.any fun k => k.2 == s
def outR (i : Ins) (j : Nat) : List Int := ((List.range j).map fun (s : Nat) => ((s + 1 : Nat) : Int)).filter (seenK i.keys)
def refV (i : Ins) (own : Int) : List Int := if insOK i = true then (if i.keys.length = 0 then (if own > 0 then [own] else []) else outR i 31) else []
theorem trim3 (h : PHeap) (a b c a' b' c' : PBlk) (r : List PV) : trim (h ++ [a, b, c]) r (h ++ [a', b', c']) = h ++ [a', b', c'] := trim_len _ (by simp)
theorem outR_sorted (i : Ins) (m : Nat) : (outR i m).Pairwise (· < ·) := by
  unfold outR
  refine List.Pairwise.filter _ ?_
  rw [List.pairwise_map]
  exact List.pairwise_lt_range.imp fun h => by omega
theorem seen_iff {i : Ins} {x : Int} : seenK i.keys x = true ↔ ∃ k, k ∈ i.keys ∧ k.2 = x := by
  unfold seenK
  rw [List.any_eq_true]
  constructor
  · rintro ⟨k, h1, h2⟩; exact ⟨k, h1, by simpa using h2⟩
  · rintro ⟨k, h1, h2⟩; exact ⟨k, h1, by simpa using h2⟩
theorem mem_play {i : Ins} {own x : Int} : x ∈ playL i own 120 ↔ x > 0 ∧ ∃ n : Nat, n < 120 ∧ (keyV i (n : Int) own).2 = x := by
  unfold playL
  rw [List.mem_filter, List.mem_map]
  constructor
  · rintro ⟨⟨n, h1, h2⟩, h3⟩
    exact ⟨by simpa using h3, n, by simpa using h1, h2⟩
  · rintro ⟨h3, n, h1, h2⟩
    exact ⟨⟨n, by simpa using h1, h2⟩, by simpa using h3⟩
theorem smp_same (i : Ins) (own : Int) (hv : insOK i = true) : smpV i own = refV i own := by
  unfold smpV refV dd
  · rw [if_pos hv]
    have hkv : ∀ n : Nat, n < 120 → keyV i (n : Int) own = keyAt i n own := fun n hn => by
      unfold keyV
      rw [if_pos ⟨hv, by omega, by omega⟩, Int.toNat_natCast]
    by_cases h0 : i.keys.length = 0
    · rw [if_pos h0]
      have hk : ∀ n : Nat, n < 120 → (keyV i (n : Int) own).2 = own := fun n hn => by rw [hkv n hn]; unfold keyAt; rw [if_pos h0]
      refine dd_srt (by split <;> simp) fun x => ?_
      rw [mem_play]
      constructor
      · rintro ⟨h1, n, h2, h3⟩
        rw [hk n h2] at h3
        subst h3
        rw [if_pos h1]
        simp
      · intro h
        split at h
        · rename_i ho
          have : x = own := by simpa using h
          subst this
          exact ⟨ho, 0, by omega, hk 0 (by omega)⟩
        · cases h
    · rw [if_neg h0]
      have h120 := (keys_120 hv).resolve_left h0
      refine dd_srt (outR_sorted i 31) fun x => ?_
      rw [mem_play]
      unfold outR
      rw [List.mem_filter, List.mem_map, seen_iff]
      constructor
      · rintro ⟨h1, n, h2, h3⟩
        obtain ⟨k, hk⟩ := lt_l (show n < i.keys.length by omega)
        rw [hkv n h2] at h3
        unfold keyAt at h3
        rw [if_neg h0, getD_of hk] at h3
        have := keys_ok hv (List.mem_of_getElem? hk)
        exact ⟨⟨x.toNat - 1, by rw [List.mem_range]; omega, by omega⟩, k, List.mem_of_getElem? hk, h3⟩
      · rintro ⟨⟨s, h1, h2⟩, k, h3, h4⟩
        obtain ⟨n, hn⟩ := List.getElem?_of_mem h3
        have hlt := (List.getElem?_eq_some_iff.1 hn).1
        refine ⟨by omega, n, by omega, ?_⟩
        rw [hkv n (by omega)]
        unfold keyAt
        rw [if_neg h0, getD_of hn]
        exact h4
end Go.Vm.X


set_option linter.unusedSimpArgs false
set_option linter.unusedVariables false
namespace Go.Vm.X
open Go.Am Go.Vm
attribute [local congr] bind_c ifP_c loop_c K1_c ite_c fork_c guard_c unl_c
theorem s_fz (s : Sng) (h : PHeap) : fz (.agg SA13) (.agg s.cs) h = some (.agg s.cs, h) := fz_aggI _ rfl
theorem fin_q1 {h l : PHeap} {d : Int} : finP [.keep] h (h ++ l) [.agg (qOf d)] = some (.agg (qOf d), h) := by
  refine fin_new (ws := [.agg (qOf d)]) (l := l) (by simp only [fzL_cons, fzL_nil, fz_keep, Option.bind_some, Option.map_some]) ?_
  intro v hv
  simp only [List.mem_singleton] at hv
  subst hv
  exact plainP_lt (qOf_cases (fun r => plainP (.agg r) = true) rfl rfl rfl rfl rfl rfl rfl _)
theorem c45 (s : Sng) (h : PHeap) : Γ0 45 [.agg s.cs] h = some (.agg (qOf s.dia), h) := by
  refine gbody (F := A45) (by kernel_rfl) 1 ?_
  rw [s45_eq]; unfold s45
  have hq := q_put s.dia (vs := Z29) rfl
  have hq2 := q_put s.dia (vs := qOf s.dia) (qOf_len _)
  simp only [words, ↓KLn, Nat.reduceAdd, sc1, c53, q_st, hq, hq2, q_whole]
  exact fin_q1
theorem ins_ok {s : Sng} (ok : SngOK s) {i : Ins} (hi : i ∈ s.inss) : insOK i = true ∧ ∀ k ∈ i.keys, ¬ k.2 > (s.smps.length : Int) := by
  have := ok.inss i hi
  unfold insCode at this
  split at this
  · cases this
  · rename_i h1
    split at this
    · cases this
    · rename_i h2
      refine ⟨by simpa using h1, fun k hk hh => h2 ?_⟩
      rw [List.any_eq_true]
      exact ⟨k, hk, by simpa using hh⟩
def leS (s : Sng) (x : Int) : Bool := decide (x ≤ (s.smps.length : Int))
def smpsOf (s : Sng) (n : Int) : List Int := match s.inss[n.toNat - 1]? with
  | some i => (smpV i n).filter (leS s)
  | none => []
theorem c62 {s : Sng} (hl : SngLen s) (ok : SngOK s) {n : Int} (h1 : 1 ≤ n) (h2 : n ≤ s.inss.length) (h : PHeap) : Γ0 62 [.agg s.cs, .int .i64 n] h = some (ints (smpsOf s n), h) := by
  obtain ⟨m, rfl⟩ : ∃ m : Nat, n = ((m + 1 : Nat) : Int) := ⟨n.toNat - 1, by omega⟩
  obtain ⟨i, hi⟩ := lt_l (show m < s.inss.length by omega)
  have hmem := List.mem_of_getElem? hi
  obtain ⟨hv, hk⟩ := ins_ok ok hmem
  have hil := hl.ins i hmem
  have hlen := playL_le i ((m + 1 : Nat) : Int) 120
  obtain ⟨l', e1, e2, e3, e4⟩ := c108 i hil hv ((m + 1 : Nat) : Int) (h ++ [.box s.cs 27 .rw])
  have hsame := smp_same i ((m + 1 : Nat) : Int) hv
  have hc : (∀ x ∈ l'.take (smpV i ((m + 1 : Nat) : Int)).length, ¬ x > (s.smps.length : Int)) ∨ (smpV i ((m + 1 : Nat) : Int)).length = 1 ∧ ∃ x, l'.take (smpV i ((m + 1 : Nat) : Int)).length = [x] ∧ x > (s.smps.length : Int) := by
    rw [e2, hsame]
    unfold refV
    rw [if_pos hv]
    by_cases h0 : i.keys.length = 0
    · rw [if_pos h0, if_pos (by omega)]
      by_cases hb : ((m + 1 : Nat) : Int) > (s.smps.length : Int)
      · exact .inr ⟨rfl, _, rfl, hb⟩
      · left
        intro x hx
        simp only [List.mem_singleton] at hx
        subst hx
        exact hb
    · rw [if_neg h0]
      left
      intro x hx
      unfold outR at hx
      rw [List.mem_filter, seen_iff] at hx
      obtain ⟨_, k, hk1, rfl⟩ := hx
      exact hk k hk1
  have hbox : boxAt (lg (h ++ [.box s.cs 27 .rw] ++ [.box i.cs 57 .rw]) [] l' .rw) h.length = some s.cs := by
    unfold lg boxAt
    simp
  obtain ⟨blk, e5⟩ := c107 (s := s) (p := h ++ [.box s.cs 27 .rw] ++ [.box i.cs 57 .rw]) (l := l') (k := (smpV i ((m + 1 : Nat) : Int)).length) (n := l'.length) (kk := h.length) rfl e3 (by omega) hbox hc
  have hout : (l'.take (smpV i ((m + 1 : Nat) : Int)).length).filter (fun x => decide (x ≤ (s.smps.length : Int))) = smpsOf s ((m + 1 : Nat) : Int) := by
    rw [e2]
    unfold smpsOf leS
    rw [Int.toNat_natCast, Nat.add_sub_cancel, hi]
  rw [hout] at e5
  have el : (h ++ [PBlk.box s.cs 27 .rw] ++ [PBlk.box i.cs 57 .rw]).length = h.length + 1 + 1 := by simp
  have el1 : (h ++ [PBlk.box s.cs 27 .rw]).length = h.length + 1 := by simp
  rw [el] at e5
  rw [el1] at e4
  refine gbody (F := A62) (by kernel_rfl) 1 ?_
  rw [s62_eq]; unfold s62
  simp only [words, ↓KLn, Nat.reduceAdd, sc12, i_pred (show m < 9223372036854775807 by have := hl.inss; omega), idx_inss _ hi, ins_fptr, fz_ins]
  rw [e4]
  simp only [bS]
  rw [e5]
  simp only [bS]
  rw [List.append_assoc, List.append_assoc, fin_intsL]
theorem yld0 {b : Nat} {ok : List Int → Prop} {H : List Int → PHeap} (S : Sink b ok H) (L : List Int) (x : Int) (h : ok (L ++ [x])) : Γ0 yieldId [.ptr b 0, .int .i64 x] (H L) = some (.bool true, H (L ++ [x])) := by
  have := S.yld L x [] h
  rwa [List.append_nil, List.append_nil] at this
theorem src_used {h : PHeap} {k1 k2 : Nat} {s : Sng} {ns : List Int} (e1 : boxAt h k1 = some [ints ns]) (e2 : boxAt h k2 = some s.cs) (hl : SngLen s) (hok : SngOK s) (hm : ns.length < 9223372036854775807) (hn : ∀ n ∈ ns, 1 ≤ n ∧ n ≤ s.inss.length) (hb : ∀ n, (smpsOf s n).length < 9223372036854775807) : Src h (.func 61 [] [.ptr k1 0, .ptr k2 0]) (ns.flatMap (smpsOf s)) := by
  intro b ok H L Sk hH hok2
  rw [callF_func Γ0 61]
  show Γ0 61 [.yield b, .ptr k1 0, .ptr k2 0] (H L) = _
  have hlen : ∀ M M', (H M).length = (H M').length := fun M M' => by rw [Sk.len M, Sk.len M']
  have hb1 : ∀ M, boxAt (H M) k1 = some [ints ns] := fun M => by
    rw [← e1]
    exact box_eq (hH M k1 (box_lt e1))
  have hb2 : ∀ M, boxAt (H M) k2 = some s.cs := fun M => by
    rw [← e2]
    exact box_eq (hH M k2 (box_lt e2))
  obtain ⟨N, hN1, hN2⟩ : ∃ N : Nat, ns.length < N ∧ ∀ n ∈ ns, (smpsOf s n).length < N := ⟨ns.length + (ns.flatMap (smpsOf s)).length + 1, by omega, fun n hn => by
    have : (smpsOf s n).length ≤ (ns.flatMap (smpsOf s)).length := by
      obtain ⟨a, b, rfl⟩ := List.append_of_mem hn
      simp only [List.flatMap_append, List.flatMap_cons, List.length_append]
      omega
    omega⟩
  refine gbody (F := A61) (by kernel_rfl) N ?_
  rw [s61_eq]; unfold s61
  have ht1 : ∀ M v, Go.Vm.trim (H L) [v] (H M) = H M := fun M v => trim_len _ (hlen M L)
  have q1 : ∀ M, loadP false 1 (.ptr k1 0) (H M) = some (ints ns) := fun M => box_load1 (hb1 M) rfl
  have q2 : ∀ M, loadP true 13 (.ptr k2 0) (H M) = some (.agg s.cs) := fun M => box_loadN (hb2 M) rfl
  simp only [bS, q1, len_ints, ↓KLn]
  refine loop_run (fun i => [.int .i64 (i : Int)]) (fun i => H (L ++ (ns.take i).flatMap (smpsOf s))) ns.length hN1 rfl (by simp) (fun i hi K => ?_) fun K => ?_
  · obtain ⟨n, hni⟩ := lt_l hi
    have hmem := List.mem_of_getElem? hni
    obtain ⟨g1, g2⟩ := hn n hmem
    have ht : ns.take (i + 1) = ns.take i ++ [n] := take_succ_get hni
    have hfm : L ++ (ns.take (i + 1)).flatMap (smpsOf s) = L ++ (ns.take i).flatMap (smpsOf s) ++ smpsOf s n := by rw [ht, List.flatMap_append, List.flatMap_singleton, List.append_assoc]
    unfold s61_L1
    rw [hfm]
    generalize hX : L ++ (ns.take i).flatMap (smpsOf s) = X
    simp only [words, ↓KLn, Nat.reduceAdd, ltT hi, decide_true, if_true, idx_ints _ hni, iv0, q2, s_fz, c62 hl hok g1 g2, len_ints]
    refine loop_run (fun j => [.int .i64 (j : Int)]) (fun j => H (X ++ (smpsOf s n).take j)) (smpsOf s n).length (hN2 n hmem) rfl (by simp) (fun j hj K' => ?_) fun K' => ?_
    · obtain ⟨x, hx⟩ := lt_l hj
      have ht2 : (smpsOf s n).take (j + 1) = (smpsOf s n).take j ++ [x] := take_succ_get hx
      have hy := yld0 Sk (X ++ (smpsOf s n).take j) x (by
        have e : ns.flatMap (smpsOf s) = (ns.take i).flatMap (smpsOf s) ++ ((smpsOf s n).take j ++ [x] ++ (smpsOf s n).drop (j + 1)) ++ (ns.drop (i + 1)).flatMap (smpsOf s) := by
          rw [← ht2, List.take_append_drop]
          have e0 : ns = ns.take i ++ [n] ++ ns.drop (i + 1) := by rw [← ht, List.take_append_drop]
          have e00 := congrArg (List.flatMap (smpsOf s)) e0
          rw [List.flatMap_append, List.flatMap_append, List.flatMap_singleton] at e00
          exact e00
        rw [e, ← List.append_assoc, ← List.append_assoc, ← List.append_assoc, ← List.append_assoc, hX] at hok2
        exact Sk.pre _ _ (Sk.pre _ _ hok2))
      have ht3 : ∀ M v, Go.Vm.trim (H X) [v] (H M) = H M := fun M v => trim_len _ (hlen M X)
      have := hb n
      unfold s61_L0
      simp only [words, ↓KLn, Nat.reduceAdd, ltT hj, decide_true, if_true, idx_ints _ hx, iv0, callV_yield, hy, Bool.not_true, Bool.false_eq_true, if_false, succ63 (show j < 9223372036854775807 by omega), ht3]
      rw [ht2, List.append_assoc]
    · unfold s61_L0
      simp only [words, ↓KLn, Nat.reduceAdd, ltF, decide_false, Bool.false_eq_true, if_false, List.take_length, succ63 (show i < 9223372036854775807 by omega), ht1]
  · unfold s61_L1
    simp only [words, ↓KLn, Nat.reduceAdd, ltF, decide_false, Bool.false_eq_true, if_false, List.take_length, fin_unit]
    rw [trim_len _ (hlen _ _)]
end Go.Vm.X


set_option linter.unusedSimpArgs false
set_option linter.unusedVariables false
namespace Go.Vm.X
open Go.Am Go.Vm
attribute [local congr] bind_c ifP_c loop_c K1_c ite_c fork_c guard_c unl_c
def usedP (s : Sng) : List Int := dd (nm s.ords)
def usedN (s : Sng) : List Int := dd ((nm s.ords).flatMap (cnAt s))
def usedM (s : Sng) : List Int := dd ((usedN s).flatMap (smpsOf s))
def usedV (s : Sng) : PV :=
  if ((wrongP s).2.2 == 0) = true then
    if qB s.dia 6 = true then .tuple [ints (usedP s), ints (usedM s), ints (usedN s), .int .i64 0]
    else .tuple [ints (usedP s), ints (usedN s), ints [], .int .i64 0]
  else .tuple [ints [], ints [], ints [], .int .i64 1]
theorem fin4 {h l : PHeap} {a b c : List Int} {n : Int} : finP [.flat 1, .flat 1, .flat 1, .keep] h (h ++ l) [ints a, ints b, ints c, .int .i64 n] = some (.tuple [ints a, ints b, ints c, .int .i64 n], h) :=
  fin_new (ws := [ints a, ints b, ints c, .int .i64 n]) (l := l) (by simp only [fzL, fz, ints, Option.bind_some, Option.map_some]) (by simp [ltV, ints])
theorem fin4n {h l : PHeap} {a b : List Int} {n : Int} : finP [.flat 1, .flat 1, .flat 1, .keep] h (h ++ l) [ints a, ints b, .nilS, .int .i64 n] = some (.tuple [ints a, ints b, ints [], .int .i64 n], h) :=
  fin_new (ws := [ints a, ints b, ints [], .int .i64 n]) (l := l) (by simp only [fzL, fz, ints, Option.bind_some, Option.map_some]; rfl) (by simp [ltV, ints])
theorem fin4z {h l : PHeap} {n : Int} : finP [.flat 1, .flat 1, .flat 1, .keep] h (h ++ l) [.nilS, .nilS, .nilS, .int .i64 n] = some (.tuple [ints [], ints [], ints [], .int .i64 n], h) :=
  fin_new (ws := [ints [], ints [], ints [], .int .i64 n]) (l := l) (by simp only [fzL, fz, ints, Option.bind_some, Option.map_some]; rfl) (by simp [ltV, ints])
theorem box_k {h l : PHeap} {k : Nat} {vs : List PV} {t : TypeId} {md : Md} (e : l[k]? = some (.box vs t md)) : boxAt (h ++ l) (h.length + k) = some vs := by
  unfold boxAt
  rw [get_new, e]
theorem nm_ok {s : Sng} (ok : SngOK s) {o : Int} (h : o ∈ nm s.ords) : 0 ≤ o ∧ o < s.pats.length := by
  rw [nm_mem] at h
  have h1 := ok.ords o h.1
  unfold ordBad inW at h1
  rw [h.2] at h1
  have h2 := ok.npats
  unfold inW at h2
  simp only [Bool.and_eq_true, decide_eq_true_eq] at h2
  have hq : qI s.dia 2 < 9223372036854775807 := qOf_cases (fun r => rI r 2 < 9223372036854775807) (by decide) (by decide) (by decide) (by decide) (by decide) (by decide) (by decide) _
  have hw : IntKind.i64.wrap ((s.pats.length : Int) - 1) = (s.pats.length : Int) - 1 := by rw [wrap64 (by unfold isI64; omega)]
  rw [hw] at h1
  simp only [Bool.not_false, Bool.true_and, Bool.not_eq_false', Bool.and_eq_true, decide_eq_true_eq] at h1
  omega
theorem pat_ok {s : Sng} (ok : SngOK s) {p : Pat} (hp : p ∈ s.pats) : p.2.length ≤ 1024 ∧ ∀ c ∈ p.2, 0 ≤ c.inst ∧ c.inst ≤ names s := by
  have := ok.pats p hp
  unfold patCode at this
  split at this
  · cases this
  · rename_i h1
    split at this
    · cases this
    · rename_i h2
      have hbad : patBad s p = false := by simpa using h1
      unfold patBad at hbad
      rw [Bool.or_eq_false_iff, Bool.or_eq_false_iff] at hbad
      have hok : patOK p.1 p.2 s.ch = true := by simpa using hbad.1.2
      unfold patOK inW at hok
      simp only [Bool.and_eq_true, decide_eq_true_eq, beq_iff_eq] at hok
      obtain ⟨⟨⟨⟨a1, a2⟩, a3, a4⟩, a5⟩, a6⟩ := hok
      have hb1 : p.1 * s.ch ≤ 64 * 16 := Int.mul_le_mul a4 a2 (by omega) (by omega)
      have hb2 : 1 * 1 ≤ p.1 * s.ch := Int.mul_le_mul a3 a1 (by omega) (by omega)
      rw [wrap64 (by unfold isI64; omega)] at a5
      refine ⟨by omega, fun c hc => ⟨?_, ?_⟩⟩
      · have := List.all_eq_true.1 a6 c hc
        unfold cellOK inW at this
        simp only [Bool.and_eq_true, decide_eq_true_eq] at this
        omega
      · rw [List.any_eq_true] at h2
        have h3 : ¬ c.inst > names s := fun hh => h2 ⟨c, hc, by simpa using hh⟩
        omega
theorem cn_le (l : List Cell) : (cn l).length ≤ l.length := by
  unfold cn
  exact Nat.le_trans (List.length_filter_le _ _) (by simp)
theorem cnAt_ok {s : Sng} (ok : SngOK s) (p : Int) : (cnAt s p).length ≤ 1024 ∧ ∀ x ∈ cnAt s p, 1 ≤ x ∧ x ≤ names s := by
  unfold cnAt
  rw [List.getD_eq_getElem?_getD]
  cases h : s.pats[p.toNat]? with
  | none => simp [cn]
  | some pt =>
    obtain ⟨h1, h2⟩ := pat_ok ok (List.mem_of_getElem? h)
    refine ⟨Nat.le_trans (cn_le _) h1, fun x hx => ?_⟩
    unfold cn at hx
    rw [List.mem_filter, List.mem_map] at hx
    obtain ⟨⟨c, hc, rfl⟩, hx2⟩ := hx
    have := h2 c hc
    simp only [decide_eq_true_eq] at hx2
    omega
theorem flat_le {α β : Type} (f : α → List β) (m : Nat) (hf : ∀ x, (f x).length ≤ m) : ∀ l : List α, (l.flatMap f).length ≤ l.length * m
  | [] => by simp
  | x :: l => by
    have := flat_le f m hf l
    have h2 := hf x
    rw [List.flatMap_cons, List.length_append, List.length_cons, Nat.add_mul]
    omega
theorem mem_dd {l : List Int} {x : Int} : x ∈ dd l ↔ x ∈ l := by
  unfold dd
  rw [mem_ddN (Nat.le_refl _), List.take_length, mem_srt]
theorem dd_le (l : List Int) : (dd l).length ≤ l.length := by
  unfold dd
  have := ddN_le (srt l) (srt l).length
  rw [srt_len] at this ⊢
  exact this
theorem nm_len {s : Sng} (ok : SngOK s) : (nm s.ords).length ≤ 64 := by
  have h1 := nm_le s.ords []
  have h2 := ok.nords
  unfold inW at h2
  simp only [Bool.and_eq_true, decide_eq_true_eq] at h2
  unfold nm
  simp only [List.length_nil] at h1
  omega
theorem cells_len {s : Sng} (ok : SngOK s) : ((nm s.ords).flatMap (cnAt s)).length ≤ 65536 := by
  have h1 := flat_le (cnAt s) 1024 (fun p => (cnAt_ok ok p).1) (nm s.ords)
  have h2 := nm_len ok
  have : (nm s.ords).length * 1024 ≤ 64 * 1024 := Nat.mul_le_mul_right _ h2
  omega
theorem usedN_ok {s : Sng} (ok : SngOK s) {n : Int} (h : n ∈ usedN s) : 1 ≤ n ∧ n ≤ names s := by
  unfold usedN at h
  rw [mem_dd, List.mem_flatMap] at h
  obtain ⟨p, _, hp⟩ := h
  exact (cnAt_ok ok p).2 n hp
theorem smpsOf_le (s : Sng) (n : Int) : (smpsOf s n).length ≤ 120 := by
  unfold smpsOf
  split
  · refine Nat.le_trans (List.length_filter_le _ _) (Nat.le_trans (dd_le _) (playL_le _ _ _))
  · simp
theorem smps_len {s : Sng} (ok : SngOK s) : ((usedN s).flatMap (smpsOf s)).length ≤ 65536 * 120 := by
  have h1 := flat_le (smpsOf s) 120 (smpsOf_le s) (usedN s)
  have h2 : (usedN s).length ≤ 65536 := Nat.le_trans (dd_le _) (cells_len ok)
  have : (usedN s).length * 120 ≤ 65536 * 120 := Nat.mul_le_mul_right _ h2
  omega
theorem q6f (d : Int) : fieldP false 6 1 (.agg (qOf d)) = some (.bool (qB d 6)) := by
  show partP false 6 1 (qOf d) = _
  exact q_6 d
theorem st1i (l : List Int) (o : Nat) (vs : List PV) (t : TypeId) (r : PHeap) : storeP 1 (.ptr 0 o) (ints l) (.box vs t .rw :: r) = (putAt vs o [ints l]).map fun vs' => .box vs' t .rw :: r := st1 rfl o vs t r
theorem put1i (x : PV) (l : List Int) : putAt [x] 0 [ints l] = some [ints l] := put_whole rfl rfl
theorem one0 (x : PV) : [x][0]? = some x := nr rfl
theorem len5h (h : PHeap) (a b c d e : PBlk) : (h ++ [a, b, c, d, e]).length = h.length + 5 := by simp
theorem c19 (s : Sng) (hl : SngLen s) (h : PHeap) : Γ0 19 [.agg s.cs] h = some (usedV s, h) := by
  refine gbody (F := A19) (by kernel_rfl) 1 ?_
  rw [s19_eq]; unfold s19 usedV
  cases hv : ((wrongP s).2.2 == 0) with
  | false => simp only [words, ↓KLn, Nat.reduceAdd, s_whole, s_fz, c16 s hl, hv, Bool.not_false, if_true, fin4z, Bool.false_eq_true, if_false]
  | true =>
    have ok := sng_ok hv
    have k1 : Γ0 60 [.func 94 [] [.ptr (h.length + 1) 0]] (h ++ [.box s.cs 27 .rw, .box s.cs 27 .rw]) = some (ints (usedP s), h ++ [.box s.cs 27 .rw, .box s.cs 27 .rw]) :=
      c60 (src_named (box_k rfl) (by have := hl.ords; omega)) (by have := nm_len ok; omega)
    have k2 : Γ0 60 [.func 96 [] [.ptr (h.length + 4) 0, .ptr (h.length + 3) 0]] (lock (h ++ [.box s.cs 27 .rw, .box s.cs 27 .rw, .box s.cs 27 .rw, .box s.cs 27 .rw, .box [.func 94 [] [.ptr (h.length + 2) 0]] 77 .rw])) = some (ints (usedN s), lock (h ++ [.box s.cs 27 .rw, .box s.cs 27 .rw, .box s.cs 27 .rw, .box s.cs 27 .rw, .box [.func 94 [] [.ptr (h.length + 2) 0]] 77 .rw])) := by
      refine c60 (src_cells (g := .func 94 [] [.ptr (h.length + 2) 0]) (s := s) (ps := nm s.ords) ?_ ?_ ?_ (src_named (s := s) ?_ (by have := hl.ords; omega)) (fun p hp => nm_ok ok hp)) (by have := cells_len ok; omega)
      · rw [box_lock]; exact box_k rfl
      · rw [box_lock]; exact box_k rfl
      · intro p hp; have := (pat_ok ok hp).1; omega
      · rw [box_lock]; exact box_k rfl
    simp only [words, ↓KLn, Nat.reduceAdd, s_whole, s_fz, c16 s hl, hv, Bool.not_true, Bool.false_eq_true, if_false, if_true, c41, k1, lock_len, unl_new, c43 s _ (cells_func _ _ _)]
    rw [k2]
    simp only [bS, unl_self]
    simp only [words, ↓KLn, Nat.reduceAdd, len5h, st1i, put1i, s_whole, s_fz, c45, q6f]
    cases hq : qB s.dia 6 with
    | false =>
      simp only [words, ↓KLn, Nat.reduceAdd, Bool.not_false, if_true, Bool.false_eq_true, if_false, one0, fin4n]
    | true =>
      have hnm : names s = s.inss.length := by unfold names; rw [hq]; rfl
      have k3 : Γ0 60 [.func 61 [] [.ptr (h.length + 6) 0, .ptr h.length 0]] (h ++ [.box s.cs 27 .rw, .box s.cs 27 .rw, .box s.cs 27 .rw, .box s.cs 27 .rw, .box [.func 94 [] [.ptr (h.length + 2) 0]] 77 .rw, .log [] 1 3 .rw, .box [ints (usedN s)] 22 .rw]) = some (ints (usedM s), h ++ [.box s.cs 27 .rw, .box s.cs 27 .rw, .box s.cs 27 .rw, .box s.cs 27 .rw, .box [.func 94 [] [.ptr (h.length + 2) 0]] 77 .rw, .log [] 1 3 .rw, .box [ints (usedN s)] 22 .rw]) := by
        refine c60 (src_used (s := s) (ns := usedN s) (box_k rfl) (box_k (k := 0) rfl) hl ok ?_ (fun n hn => ?_) fun n => ?_) (by have := smps_len ok; omega)
        · have h2 : (usedN s).length ≤ 65536 := Nat.le_trans (dd_le _) (cells_len ok)
          omega
        · have := usedN_ok ok hn; omega
        · have := smpsOf_le s n; omega
      simp only [words, ↓KLn, Nat.reduceAdd, Bool.not_true, Bool.false_eq_true, if_false, if_true]
      rw [k3]
      simp only [words, ↓KLn, Nat.reduceAdd, one0, fin4]
end Go.Vm.X


set_option linter.unusedSimpArgs false
set_option linter.unusedVariables false
namespace Go.Vm.X
open Go.Am Go.Vm
attribute [local congr] bind_c ifP_c loop_c K1_c ite_c fork_c guard_c unl_c
def setP (l : List Int) : List PV := (List.range 256).map fun (i : Nat) => .bool (l.contains (i : Int))
end Go.Vm.X


set_option linter.unusedSimpArgs false
set_option linter.unusedVariables false
namespace Go.Vm.X
open Go.Am Go.Vm
attribute [local congr] bind_c ifP_c loop_c K1_c ite_c fork_c guard_c unl_c
def hU (s : Sng) (P M N : List Int) (h : PHeap) : PHeap := h ++ [.box s.cs 27 .rw, .box (setP P) 100 .rw, .box (setP M) 100 .rw, .box (setP N) 100 .rw]
theorem lt_int (z : Int) (n : Nat) : ltV n (.int .i64 z) := by simp only [ltV]
end Go.Vm.X


set_option linter.unusedSimpArgs false
set_option linter.unusedVariables false
namespace Go.Vm.X
open Go.Am Go.Vm
attribute [local congr] bind_c ifP_c loop_c K1_c ite_c fork_c guard_c unl_c
theorem y40 (a b c d : PV) : extractP (.tuple [a, b, c, d]) 0 = some a := nr rfl
theorem y41 (a b c d : PV) : extractP (.tuple [a, b, c, d]) 1 = some b := nr rfl
theorem y42 (a b c d : PV) : extractP (.tuple [a, b, c, d]) 2 = some c := nr rfl
theorem y43 (a b c d : PV) : extractP (.tuple [a, b, c, d]) 3 = some d := nr rfl
end Go.Vm.X


set_option linter.unusedSimpArgs false
set_option linter.unusedVariables false
namespace Go.Vm.X
open Go.Am Go.Vm
attribute [local congr] bind_c ifP_c loop_c K1_c ite_c fork_c guard_c unl_c
instance : DecidableEq Cell := fun x y =>
  if h : x.note = y.note ∧ x.inst = y.inst ∧ x.vc = y.vc ∧ x.va = y.va ∧ x.ef = y.ef ∧ x.pa = y.pa then isTrue (by
    obtain ⟨a, b, c, d, e, f⟩ := x
    obtain ⟨a', b', c', d', e', f'⟩ := y
    obtain ⟨rfl, rfl, rfl, rfl, rfl, rfl⟩ := h
    rfl)
  else isFalse (by rintro rfl; exact h ⟨rfl, rfl, rfl, rfl, rfl, rfl⟩)
theorem eq_cell (x y : Cell) : eqAggP [.int, .int, .int, .int, .int, .int] true (.agg x.cs) (.agg y.cs) = some (.bool (decide (x ≠ y))) := by
  obtain ⟨a, b, c, d, e, f⟩ := x
  obtain ⟨a', b', c', d', e', f'⟩ := y
  simp only [eqAggP, eqCellsP, Cell.cs, if_true, Option.map_some, Bool.true_bne]
  congr 2
  rw [Bool.eq_iff_iff]
  simp [Cell.mk.injEq]
theorem ne_int (x y : Int) : (x != y) = decide (x ≠ y) := by
  by_cases h : x = y <;> simp [h]
theorem c33 (a b : List Int) (hm : a.length < 9223372036854775808) (h : PHeap) : Γ0 33 [ints a, ints b] h = some (.bool (decide (a = b)), h) := by
  obtain ⟨N, hN⟩ : ∃ N : Nat, a.length < N := ⟨_, Nat.lt_succ_self _⟩
  refine gbody (F := A33) (by kernel_rfl) N ?_
  rw [s33_eq]; unfold s33
  by_cases hlen : a.length = b.length
  · have e0 : ((a.length : Int) != (b.length : Int)) = false := by rw [hlen]; simp
    simp only [words, ↓KLn, Nat.reduceAdd, len_ints, bin_neq, e0, Bool.false_eq_true, if_false]
    have stp : ∀ (i : Nat) (K : List PV → PHeap → Pt) (j7 : List PV → PHeap → Pt), i < a.length → s33_L0 Γ0 N (ints a) (ints b) h h (.int .i64 a.length) j7 K [.int .i64 i] h = if neAt a b i = true then some (.bool false, h) else K [.int .i64 ((i + 1 : Nat) : Int)] h := fun i K j7 hi => by
      obtain ⟨x, hx⟩ := lt_l hi
      obtain ⟨y, hy⟩ := lt_l (show i < b.length by omega)
      unfold s33_L0 neAt
      simp only [words, ↓KLn, Nat.reduceAdd, ltT hi, decide_true, if_true, idx_ints _ hx, idx_ints _ hy, iv0, bin_neq, ne_int, hx, hy, fin_bool0, succ63 (show i < 9223372036854775807 by omega)]
      cases decide (x ≠ y) <;> simp only [if_true, Bool.false_eq_true, if_false, trim_self]
    refine loop_until (neAt a b) (fun i => [.int .i64 (i : Int)]) (fun _ => h) a.length hN rfl rfl (fun i hi hb K => ?_) (fun i hi hb hj K => ?_) (fun hj K => ?_)
    · rw [stp i K _ hi, if_neg (by rw [hb]; decide)]
    · rw [stp i K _ hi, if_pos hb]
      obtain ⟨x, hx⟩ := lt_l hi
      obtain ⟨y, hy⟩ := lt_l (show i < b.length by omega)
      unfold neAt at hb
      simp only [hx, hy, decide_eq_true_eq] at hb
      rw [same_or hlen hx hy hb]
    · unfold s33_L0
      simp only [words, ↓KLn, Nat.reduceAdd, ltF, decide_false, Bool.false_eq_true, if_false, fin_bool0]
      rw [same_all hlen]
      intro i x y hx hy
      have := hj i (List.getElem?_eq_some_iff.1 hx).1
      unfold neAt at this
      simpa only [hx, hy, decide_eq_false_iff_not, Decidable.not_not] using this
  · have e0 : ((a.length : Int) != (b.length : Int)) = true := by rw [bne_iff_ne]; omega
    simp only [words, ↓KLn, Nat.reduceAdd, len_ints, bin_neq, e0, if_true, fin_bool0, len_ne hlen]
theorem c131 (a b : List Cell) (hm : a.length < 9223372036854775808) (h : PHeap) : Γ0 131 [cellsPV a, cellsPV b] h = some (.bool (decide (a = b)), h) := by
  obtain ⟨N, hN⟩ : ∃ N : Nat, a.length < N := ⟨_, Nat.lt_succ_self _⟩
  refine gbody (F := A131) (by kernel_rfl) N ?_
  rw [s131_eq]; unfold s131
  by_cases hlen : a.length = b.length
  · have e0 : ((a.length : Int) != (b.length : Int)) = false := by rw [hlen]; simp
    simp only [words, ↓KLn, Nat.reduceAdd, len_cells, bin_neq, e0, Bool.false_eq_true, if_false]
    have stp : ∀ (i : Nat) (K : List PV → PHeap → Pt) (j7 : List PV → PHeap → Pt), i < a.length → s131_L0 Γ0 N (cellsPV a) (cellsPV b) h h (.int .i64 a.length) j7 K [.int .i64 i] h = if neAt a b i = true then some (.bool false, h) else K [.int .i64 ((i + 1 : Nat) : Int)] h := fun i K j7 hi => by
      obtain ⟨x, hx⟩ := lt_l hi
      obtain ⟨y, hy⟩ := lt_l (show i < b.length by omega)
      unfold s131_L0 neAt
      simp only [words, ↓KLn, Nat.reduceAdd, ltT hi, decide_true, if_true, idx_cells _ hx, idx_cells _ hy, cell_all, eq_cell, hx, hy, fin_bool0, succ63 (show i < 9223372036854775807 by omega)]
      cases decide (x ≠ y) <;> simp only [if_true, Bool.false_eq_true, if_false, trim_self]
    refine loop_until (neAt a b) (fun i => [.int .i64 (i : Int)]) (fun _ => h) a.length hN rfl rfl (fun i hi hb K => ?_) (fun i hi hb hj K => ?_) (fun hj K => ?_)
    · rw [stp i K _ hi, if_neg (by rw [hb]; decide)]
    · rw [stp i K _ hi, if_pos hb]
      obtain ⟨x, hx⟩ := lt_l hi
      obtain ⟨y, hy⟩ := lt_l (show i < b.length by omega)
      unfold neAt at hb
      simp only [hx, hy, decide_eq_true_eq] at hb
      rw [same_or hlen hx hy hb]
    · unfold s131_L0
      simp only [words, ↓KLn, Nat.reduceAdd, ltF, decide_false, Bool.false_eq_true, if_false, fin_bool0]
      rw [same_all hlen]
      intro i x y hx hy
      have := hj i (List.getElem?_eq_some_iff.1 hx).1
      unfold neAt at this
      simpa only [hx, hy, decide_eq_false_iff_not, Decidable.not_not] using this
  · have e0 : ((a.length : Int) != (b.length : Int)) = true := by rw [bne_iff_ne]; omega
    simp only [words, ↓KLn, Nat.reduceAdd, len_cells, bin_neq, e0, if_true, fin_bool0, len_ne hlen]
theorem c132 (a b : List (Int × Int)) (hm : a.length < 9223372036854775808) (h : PHeap) : Γ0 132 [keysPV a, keysPV b] h = some (.bool (decide (a = b)), h) := by
  obtain ⟨N, hN⟩ : ∃ N : Nat, a.length < N := ⟨_, Nat.lt_succ_self _⟩
  refine gbody (F := A132) (by kernel_rfl) N ?_
  rw [s132_eq]; unfold s132
  by_cases hlen : a.length = b.length
  · have e0 : ((a.length : Int) != (b.length : Int)) = false := by rw [hlen]; simp
    simp only [words, ↓KLn, Nat.reduceAdd, len_keys, bin_neq, e0, Bool.false_eq_true, if_false]
    have stp : ∀ (i : Nat) (K : List PV → PHeap → Pt) (j7 : List PV → PHeap → Pt), i < a.length → s132_L0 Γ0 N (keysPV a) (keysPV b) h h (.int .i64 a.length) j7 K [.int .i64 i] h = if neAt a b i = true then some (.bool false, h) else K [.int .i64 ((i + 1 : Nat) : Int)] h := fun i K j7 hi => by
      obtain ⟨x, hx⟩ := lt_l hi
      obtain ⟨y, hy⟩ := lt_l (show i < b.length by omega)
      unfold s132_L0 neAt
      simp only [words, ↓KLn, Nat.reduceAdd, ltT hi, decide_true, if_true, idx_keys _ hx, idx_keys _ hy, key_part, eq_pair, hx, hy, fin_bool0, succ63 (show i < 9223372036854775807 by omega)]
      cases decide (x ≠ y) <;> simp only [if_true, Bool.false_eq_true, if_false, trim_self]
    refine loop_until (neAt a b) (fun i => [.int .i64 (i : Int)]) (fun _ => h) a.length hN rfl rfl (fun i hi hb K => ?_) (fun i hi hb hj K => ?_) (fun hj K => ?_)
    · rw [stp i K _ hi, if_neg (by rw [hb]; decide)]
    · rw [stp i K _ hi, if_pos hb]
      obtain ⟨x, hx⟩ := lt_l hi
      obtain ⟨y, hy⟩ := lt_l (show i < b.length by omega)
      unfold neAt at hb
      simp only [hx, hy, decide_eq_true_eq] at hb
      rw [same_or hlen hx hy hb]
    · unfold s132_L0
      simp only [words, ↓KLn, Nat.reduceAdd, ltF, decide_false, Bool.false_eq_true, if_false, fin_bool0]
      rw [same_all hlen]
      intro i x y hx hy
      have := hj i (List.getElem?_eq_some_iff.1 hx).1
      unfold neAt at this
      simpa only [hx, hy, decide_eq_false_iff_not, Decidable.not_not] using this
  · have e0 : ((a.length : Int) != (b.length : Int)) = true := by rw [bne_iff_ne]; omega
    simp only [words, ↓KLn, Nat.reduceAdd, len_keys, bin_neq, e0, if_true, fin_bool0, len_ne hlen]
theorem c161 (a b : List (Int × Int)) (hm : a.length < 9223372036854775808) (h : PHeap) : Γ0 161 [ptsPV a, ptsPV b] h = some (.bool (decide (a = b)), h) := by
  obtain ⟨N, hN⟩ : ∃ N : Nat, a.length < N := ⟨_, Nat.lt_succ_self _⟩
  refine gbody (F := A161) (by kernel_rfl) N ?_
  rw [s161_eq]; unfold s161
  by_cases hlen : a.length = b.length
  · have e0 : ((a.length : Int) != (b.length : Int)) = false := by rw [hlen]; simp
    simp only [words, ↓KLn, Nat.reduceAdd, len_pts, bin_neq, e0, Bool.false_eq_true, if_false]
    have stp : ∀ (i : Nat) (K : List PV → PHeap → Pt) (j7 : List PV → PHeap → Pt), i < a.length → s161_L0 Γ0 N (ptsPV a) (ptsPV b) h h (.int .i64 a.length) j7 K [.int .i64 i] h = if neAt a b i = true then some (.bool false, h) else K [.int .i64 ((i + 1 : Nat) : Int)] h := fun i K j7 hi => by
      obtain ⟨x, hx⟩ := lt_l hi
      obtain ⟨y, hy⟩ := lt_l (show i < b.length by omega)
      unfold s161_L0 neAt
      simp only [words, ↓KLn, Nat.reduceAdd, ltT hi, decide_true, if_true, idx_pts _ hx, idx_pts _ hy, pt_part, eq_pairP, hx, hy, fin_bool0, succ63 (show i < 9223372036854775807 by omega)]
      cases decide (x ≠ y) <;> simp only [if_true, Bool.false_eq_true, if_false, trim_self]
    refine loop_until (neAt a b) (fun i => [.int .i64 (i : Int)]) (fun _ => h) a.length hN rfl rfl (fun i hi hb K => ?_) (fun i hi hb hj K => ?_) (fun hj K => ?_)
    · rw [stp i K _ hi, if_neg (by rw [hb]; decide)]
    · rw [stp i K _ hi, if_pos hb]
      obtain ⟨x, hx⟩ := lt_l hi
      obtain ⟨y, hy⟩ := lt_l (show i < b.length by omega)
      unfold neAt at hb
      simp only [hx, hy, decide_eq_true_eq] at hb
      rw [same_or hlen hx hy hb]
    · unfold s161_L0
      simp only [words, ↓KLn, Nat.reduceAdd, ltF, decide_false, Bool.false_eq_true, if_false, fin_bool0]
      rw [same_all hlen]
      intro i x y hx hy
      have := hj i (List.getElem?_eq_some_iff.1 hx).1
      unfold neAt at this
      simpa only [hx, hy, decide_eq_false_iff_not, Decidable.not_not] using this
  · have e0 : ((a.length : Int) != (b.length : Int)) = true := by rw [bne_iff_ne]; omega
    simp only [words, ↓KLn, Nat.reduceAdd, len_pts, bin_neq, e0, if_true, fin_bool0, len_ne hlen]
end Go.Vm.X


set_option linter.unusedSimpArgs false
set_option linter.unusedVariables false
namespace Go.Vm.X
open Go.Am Go.Vm
attribute [local congr] bind_c ifP_c loop_c K1_c ite_c fork_c guard_c unl_c
def strE (a b : ByteArray) : Bool := a.toList == b.toList
def patE (p q : Pat) : Bool := (p.1 == q.1) && decide (p.2 = q.2)
def envE (a b : Env) : Bool := decide (a.pts = b.pts) && (a.on == b.on) && (a.sus == b.sus) && (a.ss == b.ss) && (a.se == b.se) && (a.lp == b.lp) && (a.ls == b.ls) && (a.le == b.le)
def smpE (a b : Smp) : Bool := decide (a.data = b.data) && strE a.name b.name && (a.bits == b.bits) && (a.rate == b.rate) && (a.vol == b.vol) && (a.pan == b.pan) && (a.fine == b.fine) && (a.lo == b.lo) && (a.st == b.st) && (a.en == b.en) && (a.su == b.su) && (a.sst == b.sst) && (a.sen == b.sen)
def insE (a b : Ins) : Bool := decide (a.keys = b.keys) && envE a.vol b.vol && envE a.pan b.pan && envE a.pit b.pit && strE a.name b.name && (a.fade == b.fade) && (a.nn == b.nn) && (a.dup == b.dup) && (a.dd == b.dd) && (a.gl == b.gl) && (a.cut == b.cut) && (a.res == b.res)
theorem st_seq (a b : ByteArray) : binP .eql (.str a) (.str b) = some (.bool (strE a b)) := nr rfl
theorem beq_b (a b : Bool) : (false != (a == b)) = (a == b) := by cases a <;> cases b <;> rfl
theorem c76 (p q : Pat) (hp : p.2.length < 9223372036854775808) (h : PHeap) : Γ0 76 [.agg (patC p), .agg (patC q)] h = some (.bool (patE p q), h) := by
  refine gbody (F := A76) (by kernel_rfl) 1 ?_
  rw [s76_eq]; unfold s76 patE
  simp only [words, ↓KLn, Nat.reduceAdd, pc0, pc1, c131 p.2 q.2 hp, K1_and, fin_bool]
section
variable (e : Env)
theorem ev0 : e.cs[0]? = some (.bool e.on) := nr rfl
theorem ev1 : e.cs[1]? = some (ptsPV e.pts) := nr rfl
theorem ev2 : e.cs[2]? = some (.bool e.sus) := nr rfl
theorem ev3 : e.cs[3]? = some (.int .i64 e.ss) := nr rfl
theorem ev4 : e.cs[4]? = some (.int .i64 e.se) := nr rfl
theorem ev5 : e.cs[5]? = some (.bool e.lp) := nr rfl
theorem ev6 : e.cs[6]? = some (.int .i64 e.ls) := nr rfl
theorem ev7 : e.cs[7]? = some (.int .i64 e.le) := nr rfl
end
theorem c133 (a b : Env) (ha : a.pts.length < 9223372036854775808) (h : PHeap) : Γ0 133 [.agg a.cs, .agg b.cs] h = some (.bool (envE a b), h) := by
  refine gbody (F := A133) (by kernel_rfl) 1 ?_
  rw [s133_eq]; unfold s133 envE
  simp only [words, ↓KLn, Nat.reduceAdd, ev0, ev1, ev2, ev3, ev4, ev5, ev6, ev7, c161 a.pts b.pts ha, eqBool_bool, beq_b, K1_and, fin_bool]
section
variable (e : Smp)
theorem mv0 : e.cs[0]? = some (.str e.name) := nr rfl
theorem mv1 : e.cs[1]? = some (ints e.data) := nr rfl
theorem mv2 : e.cs[2]? = some (.int .i64 e.bits) := nr rfl
theorem mv3 : e.cs[3]? = some (.int .i64 e.rate) := nr rfl
theorem mv4 : e.cs[4]? = some (.int .i64 e.vol) := nr rfl
theorem mv5 : e.cs[5]? = some (.int .i64 e.pan) := nr rfl
theorem mv6 : e.cs[6]? = some (.int .i64 e.fine) := nr rfl
theorem mv7 : e.cs[7]? = some (.int .i64 e.lo) := nr rfl
theorem mv8 : e.cs[8]? = some (.int .i64 e.st) := nr rfl
theorem mv9 : e.cs[9]? = some (.int .i64 e.en) := nr rfl
theorem mv10 : e.cs[10]? = some (.int .i64 e.su) := nr rfl
theorem mv11 : e.cs[11]? = some (.int .i64 e.sst) := nr rfl
theorem mv12 : e.cs[12]? = some (.int .i64 e.sen) := nr rfl
theorem smp_whole : partP true 0 13 e.cs = some (.agg e.cs) := part_all rfl
end
theorem c77 (a b : Smp) (ha : a.data.length < 9223372036854775808) (h : PHeap) : Γ0 77 [.agg a.cs, .agg b.cs] h = some (.bool (smpE a b), h) := by
  refine gbody (F := A77) (by kernel_rfl) 1 ?_
  rw [s77_eq]; unfold s77 smpE
  simp only [words, ↓KLn, Nat.reduceAdd, mv0, mv1, mv2, mv3, mv4, mv5, mv6, mv7, mv8, mv9, mv10, mv11, mv12, c33 a.data b.data ha, st_seq, K1_and, fin_bool]
section
variable (e : Ins)
theorem iv26 : e.cs[26]? = some (.int .i64 e.fade) := nr rfl
theorem iv27 : e.cs[27]? = some (.int .i64 e.nn) := nr rfl
theorem iv28 : e.cs[28]? = some (.int .i64 e.dup) := nr rfl
theorem iv29 : e.cs[29]? = some (.int .i64 e.dd) := nr rfl
theorem iv30 : e.cs[30]? = some (.int .i64 e.gl) := nr rfl
theorem iv31 : e.cs[31]? = some (.int .i64 e.cut) := nr rfl
theorem iv32 : e.cs[32]? = some (.int .i64 e.res) := nr rfl
theorem ivV : partP true 2 8 e.cs = some (.agg e.vol.cs) := nr rfl
theorem ivN : partP true 10 8 e.cs = some (.agg e.pan.cs) := nr rfl
theorem ivT : partP true 18 8 e.cs = some (.agg e.pit.cs) := nr rfl
end
theorem c78 (a b : Ins) (ha : InsLen a) (h : PHeap) : Γ0 78 [.agg a.cs, .agg b.cs] h = some (.bool (insE a b), h) := by
  obtain ⟨h1, h2, h3, h4, h5⟩ := ha
  refine gbody (F := A78) (by kernel_rfl) 1 ?_
  rw [s78_eq]; unfold s78 insE
  simp only [words, ↓KLn, Nat.reduceAdd, ic0, ic1, ivV, ivN, ivT, iv26, iv27, iv28, iv29, iv30, iv31, iv32, c132 a.keys b.keys h2, c133 a.vol b.vol h3, c133 a.pan b.pan h4, c133 a.pit b.pit h5, st_seq, K1_and, fin_bool]
def all2 {α : Type} (f : α → α → Bool) (a b : List α) : Bool := (List.range a.length).all fun i => match a[i]?, b[i]? with | some x, some y => f x y | _, _ => true
def badAt {α : Type} (f : α → α → Bool) (a b : List α) (i : Nat) : Bool := match a[i]?, b[i]? with | some x, some y => !f x y | _, _ => false
theorem all2_true {α : Type} {f : α → α → Bool} {a b : List α} (h : ∀ i, i < a.length → badAt f a b i = false) : all2 f a b = true := by
  unfold all2
  rw [List.all_eq_true]
  intro i hi
  have := h i (List.mem_range.1 hi)
  unfold badAt at this
  split at this <;> simp_all
theorem all2_false {α : Type} {f : α → α → Bool} {a b : List α} {i : Nat} (hi : i < a.length) (h : badAt f a b i = true) : all2 f a b = false := by
  unfold all2
  rw [List.all_eq_false]
  refine ⟨i, List.mem_range.2 hi, ?_⟩
  unfold badAt at h
  split at h <;> simp_all
def partsE (a b : Sng) : Bool := if a.pats.length = b.pats.length ∧ a.smps.length = b.smps.length ∧ a.inss.length = b.inss.length then all2 patE a.pats b.pats && all2 smpE a.smps b.smps && all2 insE a.inss b.inss else false
theorem c34 (a b : Sng) (ha : SngLen a) (h : PHeap) : Γ0 34 [.agg a.cs, .agg b.cs] h = some (.bool (partsE a b), h) := by
  obtain ⟨N, h1, h2, h3⟩ : ∃ N : Nat, a.pats.length < N ∧ a.smps.length < N ∧ a.inss.length < N := ⟨a.pats.length + a.smps.length + a.inss.length + 1, by omega, by omega, by omega⟩
  refine gbody (F := A34) (by kernel_rfl) N ?_
  rw [s34_eq]; unfold s34 partsE
  have ne : ∀ x y : Nat, ((x : Int) != (y : Int)) = decide (x ≠ y) := fun x y => by
    by_cases hh : x = y
    · subst hh; simp
    · rw [decide_eq_true hh, bne_iff_ne]; omega
  simp only [words, ↓KLn, Nat.reduceAdd, sc10, sc11, sc12, len_pats, len_smps, len_inss, ne, K1_or]
  by_cases hp : a.pats.length = b.pats.length
  case neg =>
    simp only [hp, ne_eq, not_false_eq_true, decide_true, Bool.true_or, if_true, false_and, if_false, words, ↓KLn, Nat.reduceAdd, fin_bool]
  by_cases hs : a.smps.length = b.smps.length
  case neg =>
    simp only [hp, hs, ne_eq, not_false_eq_true, decide_true, Bool.true_or, Bool.or_true, if_true, false_and, and_false, if_false, words, ↓KLn, Nat.reduceAdd, fin_bool]
  by_cases hi : a.inss.length = b.inss.length
  case neg =>
    simp only [hp, hs, hi, ne_eq, not_false_eq_true, decide_true, Bool.true_or, Bool.or_true, if_true, false_and, and_false, if_false, words, ↓KLn, Nat.reduceAdd, fin_bool]
  have hpe : (if a.pats.length = b.pats.length ∧ a.smps.length = b.smps.length ∧ a.inss.length = b.inss.length then all2 patE a.pats b.pats && all2 smpE a.smps b.smps && all2 insE a.inss b.inss else false) = (all2 patE a.pats b.pats && all2 smpE a.smps b.smps && all2 insE a.inss b.inss) := if_pos ⟨hp, hs, hi⟩
  rw [hpe]
  simp only [hp, hs, hi, ne_eq, not_true_eq_false, decide_false, Bool.or_self, Bool.false_eq_true, if_false, words, ↓KLn, Nat.reduceAdd, sc10, len_pats]
  rw [← hp]
  have lp := ha.pats
  have ls := ha.smps
  have li := ha.inss
  have stpP : ∀ (i : Nat) (K : List PV → PHeap → Pt) (j : List PV → PHeap → Pt), i < a.pats.length → s34_L2 Γ0 N h (.ptr h.length 0) (.ptr (h.length + 1) 0) (h ++ [.box a.cs 27 .rw, .box b.cs 27 .rw]) (.int .i64 a.pats.length) j K [.int .i64 i] (h ++ [.box a.cs 27 .rw, .box b.cs 27 .rw]) = if badAt patE a.pats b.pats i = true then some (.bool false, h) else K [.int .i64 ((i + 1 : Nat) : Int)] (h ++ [.box a.cs 27 .rw, .box b.cs 27 .rw]) := fun i K j hi => by
    obtain ⟨x, hx⟩ := lt_l hi
    obtain ⟨y, hy⟩ := lt_l (show i < b.pats.length by omega)
    unfold s34_L2 badAt
    simp only [words, ↓KLn, Nat.reduceAdd, ltT hi, decide_true, if_true, sc10, idx_pats _ hx, idx_pats _ hy, pat_fptr, c76 x y (ha.cells x (List.mem_of_getElem? hx)), hx, hy, fin_bool, succ63 (show i < 9223372036854775807 by omega), trim2]
  have stpS : ∀ (i : Nat) (K : List PV → PHeap → Pt) (j : List PV → PHeap → Pt), i < a.smps.length → s34_L1 Γ0 N h (.ptr h.length 0) (.ptr (h.length + 1) 0) (h ++ [.box a.cs 27 .rw, .box b.cs 27 .rw]) (.int .i64 a.smps.length) j K [.int .i64 i] (h ++ [.box a.cs 27 .rw, .box b.cs 27 .rw]) = if badAt smpE a.smps b.smps i = true then some (.bool false, h) else K [.int .i64 ((i + 1 : Nat) : Int)] (h ++ [.box a.cs 27 .rw, .box b.cs 27 .rw]) := fun i K j hi => by
    obtain ⟨x, hx⟩ := lt_l hi
    obtain ⟨y, hy⟩ := lt_l (show i < b.smps.length by omega)
    unfold s34_L1 badAt
    simp only [words, ↓KLn, Nat.reduceAdd, ltT hi, decide_true, if_true, sc11, idx_smps _ hx, idx_smps _ hy, smp_whole, c77 x y (ha.smp x (List.mem_of_getElem? hx)).2, hx, hy, fin_bool, succ63 (show i < 9223372036854775807 by omega), trim2]
  have stpI : ∀ (i : Nat) (K : List PV → PHeap → Pt) (j : List PV → PHeap → Pt), i < a.inss.length → s34_L0 Γ0 N h (.ptr h.length 0) (.ptr (h.length + 1) 0) (h ++ [.box a.cs 27 .rw, .box b.cs 27 .rw]) (.int .i64 a.inss.length) j K [.int .i64 i] (h ++ [.box a.cs 27 .rw, .box b.cs 27 .rw]) = if badAt insE a.inss b.inss i = true then some (.bool false, h) else K [.int .i64 ((i + 1 : Nat) : Int)] (h ++ [.box a.cs 27 .rw, .box b.cs 27 .rw]) := fun i K j hi => by
    obtain ⟨x, hx⟩ := lt_l hi
    obtain ⟨y, hy⟩ := lt_l (show i < b.inss.length by omega)
    unfold s34_L0 badAt
    simp only [words, ↓KLn, Nat.reduceAdd, ltT hi, decide_true, if_true, sc12, idx_inss _ hx, idx_inss _ hy, ins_fptr, c78 x y (ha.ins x (List.mem_of_getElem? hx)), hx, hy, fin_bool, succ63 (show i < 9223372036854775807 by omega), trim2]
  refine loop_until (badAt patE a.pats b.pats) (fun i => [.int .i64 (i : Int)]) (fun _ => h ++ [.box a.cs 27 .rw, .box b.cs 27 .rw]) a.pats.length h1 rfl rfl (fun i hi hb K => ?_) (fun i hi hb hj K => ?_) (fun hj K => ?_)
  · rw [stpP i K _ hi, if_neg (by rw [hb]; decide)]
  · rw [stpP i K _ hi, if_pos hb, all2_false hi hb, Bool.false_and, Bool.false_and]
  unfold s34_L2
  simp only [words, ↓KLn, Nat.reduceAdd, ltF, decide_false, Bool.false_eq_true, if_false, sc11, len_smps, all2_true hj, Bool.true_and]
  refine loop_until (badAt smpE a.smps b.smps) (fun i => [.int .i64 (i : Int)]) (fun _ => h ++ [.box a.cs 27 .rw, .box b.cs 27 .rw]) a.smps.length h2 rfl rfl (fun i hi hb K => ?_) (fun i hi hb hj K => ?_) (fun hj K => ?_)
  · rw [stpS i K _ hi, if_neg (by rw [hb]; decide)]
  · rw [stpS i K _ hi, if_pos hb, all2_false hi hb, Bool.false_and]
  unfold s34_L1
  simp only [words, ↓KLn, Nat.reduceAdd, ltF, decide_false, Bool.false_eq_true, if_false, sc12, len_inss, all2_true hj, Bool.true_and]
  refine loop_until (badAt insE a.inss b.inss) (fun i => [.int .i64 (i : Int)]) (fun _ => h ++ [.box a.cs 27 .rw, .box b.cs 27 .rw]) a.inss.length h3 rfl rfl (fun i hi hb K => ?_) (fun i hi hb hj K => ?_) (fun hj K => ?_)
  · rw [stpI i K _ hi, if_neg (by rw [hb]; decide)]
  · rw [stpI i K _ hi, if_pos hb, all2_false hi hb]
  unfold s34_L0
  simp only [words, ↓KLn, Nat.reduceAdd, ltF, decide_false, Bool.false_eq_true, if_false, all2_true hj, fin_bool]
def sngE (a b : Sng) : Bool := strE a.name b.name && (a.dia == b.dia) && (a.ch == b.ch) && decide (a.ords = b.ords) && (a.rest == b.rest) && (a.spd == b.spd) && (a.tem == b.tem) && (a.glb == b.glb) && (a.lin == b.lin) && decide (a.pans = b.pans) && partsE a b
theorem c12 (a b : Sng) (ha : SngLen a) (h : PHeap) : Γ0 12 [.agg a.cs, .agg b.cs] h = some (.bool (sngE a b), h) := by
  refine gbody (F := A12) (by kernel_rfl) 1 ?_
  rw [s12_eq]; unfold s12 sngE
  simp only [words, ↓KLn, Nat.reduceAdd, sc0, sc1, sc2, sc3, sc4, sc5, sc6, sc7, sc8, sc9, s_whole, c33 a.ords b.ords ha.ords, c33 a.pans b.pans ha.pans, c34 a b ha, eqBool_bool, beq_b, st_seq, K1_and, fin_bool]
end Go.Vm.X


namespace Go.Proofs
open Go.Shelf
def Tryz.lays189_ren : Go.Shelf.Ren := ⟨fun | 189 => 144 | 125 => 169 | 257 => 168 | 128 => 186 | 129 => 187 | 294 => 177 | 295 => 178 | 296 => 179 | 297 => 180 | 298 => 181 | 299 => 182 | 216 => 183 | 300 => 184 | 301 => 185 | 328 => 196 | 329 => 197 | 330 => 198 | 331 => 199 | 332 => 200 | 215 => 201 | 343 => 202 | n => n, fun | 28 => 22 | 3 => 3 | 46 => 150 | 0 => 0 | 51 => 172 | 53 => 175 | 4 => 4 | 183 => 190 | 182 => 189 | 131 => 194 | 5 => 5 | 9 => 9 | 218 => 199 | 222 => 203 | 228 => 205 | 229 => 48 | n => n, fun | n => n⟩
theorem Tryz.lays189 : Go.Proofs.Lays.n189 Tryz.prog Tryz.lays189_ren := {
  mixed := by kernel_rfl
  f125 := Tryz.func169.trans (congrArg some (by kernel_rfl))
  f128 := Tryz.func186.trans (congrArg some (by kernel_rfl))
  f129 := Tryz.func187.trans (congrArg some (by kernel_rfl))
  f189 := Tryz.func144.trans (congrArg some (by kernel_rfl))
  f215 := Tryz.func201.trans (congrArg some (by kernel_rfl))
  f216 := Tryz.func183.trans (congrArg some (by kernel_rfl))
  f257 := Tryz.func168.trans (congrArg some (by kernel_rfl))
  f294 := Tryz.func177.trans (congrArg some (by kernel_rfl))
  f295 := Tryz.func178.trans (congrArg some (by kernel_rfl))
  f296 := Tryz.func179.trans (congrArg some (by kernel_rfl))
  f297 := Tryz.func180.trans (congrArg some (by kernel_rfl))
  f298 := Tryz.func181.trans (congrArg some (by kernel_rfl))
  f299 := Tryz.func182.trans (congrArg some (by kernel_rfl))
  f300 := Tryz.func184.trans (congrArg some (by kernel_rfl))
  f301 := Tryz.func185.trans (congrArg some (by kernel_rfl))
  f328 := Tryz.func196.trans (congrArg some (by kernel_rfl))
  f329 := Tryz.func197.trans (congrArg some (by kernel_rfl))
  f330 := Tryz.func198.trans (congrArg some (by kernel_rfl))
  f331 := Tryz.func199.trans (congrArg some (by kernel_rfl))
  f332 := Tryz.func200.trans (congrArg some (by kernel_rfl))
  f343 := Tryz.func202.trans (congrArg some (by kernel_rfl))
  t0 := Tryz.underlying0
  a0 := Tryz.isAgg0
  z0 := Tryz.sizeOf0
  v0 := Tryz.zeroValue0
  t3 := Tryz.underlying3
  a3 := Tryz.isAgg3
  z3 := Tryz.sizeOf3
  v3 := Tryz.zeroValue3
  t4 := Tryz.underlying4
  a4 := Tryz.isAgg4
  z4 := Tryz.sizeOf4
  v4 := Tryz.zeroValue4
  t5 := Tryz.underlying5
  a5 := Tryz.isAgg5
  z5 := Tryz.sizeOf5
  v5 := Tryz.zeroValue5
  t9 := Tryz.underlying9
  a9 := Tryz.isAgg9
  z9 := Tryz.sizeOf9
  v9 := Tryz.zeroValue9
  t28 := Tryz.underlying22
  a28 := Tryz.isAgg22
  z28 := Tryz.sizeOf22
  v28 := Tryz.zeroValue22
  t46 := Tryz.underlying150
  a46 := Tryz.isAgg150
  z46 := Tryz.sizeOf150
  v46 := Tryz.zeroValue150
  t51 := Tryz.underlying172
  a51 := Tryz.isAgg172
  z51 := Tryz.sizeOf172
  v51 := Tryz.zeroValue172
  t53 := Tryz.underlying175
  a53 := Tryz.isAgg175
  z53 := Tryz.sizeOf175
  v53 := Tryz.zeroValue175
  t131 := Tryz.underlying194
  a131 := Tryz.isAgg194
  z131 := Tryz.sizeOf194
  v131 := Tryz.zeroValue194
  t182 := Tryz.underlying189
  a182 := Tryz.isAgg189
  z182 := Tryz.sizeOf189
  v182 := Tryz.zeroValue189
  t183 := Tryz.underlying190
  a183 := Tryz.isAgg190
  z183 := Tryz.sizeOf190
  v183 := Tryz.zeroValue190
  t218 := Tryz.underlying199
  a218 := Tryz.isAgg199
  z218 := Tryz.sizeOf199
  v218 := Tryz.zeroValue199
  t222 := Tryz.underlying203
  a222 := Tryz.isAgg203
  z222 := Tryz.sizeOf203
  v222 := Tryz.zeroValue203
  t228 := Tryz.underlying205
  a228 := Tryz.isAgg205
  z228 := Tryz.sizeOf205
  v228 := Tryz.zeroValue205
  t229 := Tryz.underlying48
  a229 := Tryz.isAgg48
  z229 := Tryz.sizeOf48
  v229 := Tryz.zeroValue48 }
end Go.Proofs
namespace Go.Vm.X
open Go.Am Go.Vm Go.Proofs
theorem sort_enters : ∀ (xs : Array Value) (w : World), (callFunc 144 xs).run Tryz.prog w = .ok (.enter 144 xs) w := fun xs w => enter_run Tryz.func144 rfl (by kernel_rfl)
theorem sort_ok : CallOk Tryz.prog (sortA 144) := sortA_ok (L := [144, Tryz.lays189_ren.f 191, 168, 169, 177, 178, 179, 180, 181, 182, 183, 184, 185, 187, 196, 197, 198, 199, 200, 201, 202]) sort_enters (fun D blk off cap zs w hH hb hl => AnyS.slices_Sort_int_in Tryz.lays189 D blk off cap zs w hH hb hl) (fun D p cap w => AnyS.slices_Sort_int_none_in Tryz.lays189 D p cap w) rfl
theorem both_ok : CallOk Tryz.prog (orA (idxA 171) (sortA 144)) := orA_ok idx_ok sort_ok
end Go.Vm.X

