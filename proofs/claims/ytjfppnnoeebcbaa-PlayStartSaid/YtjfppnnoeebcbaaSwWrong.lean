/- Songs: what is wrong with a song (the program). -/
import Derived.Test.YtjfppnnoeebcbaaSwAsk
set_option linter.unusedSimpArgs false
set_option linter.unusedVariables false
namespace Go.Vm.X
open Go.Am Go.Vm
attribute [local congr] bind_c ifP_c loop_c K1_c ite_c fork_c guard_c

def asks (s : Sng) : List (Nat × Flt × Bool) := [(24, headA s), (25, patA s), (26, ordA s), (27, numA s), (28, sndA s)]
def okF : Flt := (⟨#[]⟩, -1, 0)
def wrongP (s : Sng) : Flt := match (asks s).find? (fun a => a.2.2) with | some a => a.2.1 | none => okF
def wrongV (f : Flt) : PV := .tuple [.str f.1, .int .i64 f.2.1, .int .i64 f.2.2]
theorem asks_call {s : Sng} (hl : SngLen s) {a : Nat × Flt × Bool} (ha : a ∈ asks s) (h : PHeap) : callVP Γ0 (.func a.1 [.agg s.ck] []) [] h = some (resA a.2, h) := by
  unfold asks at ha
  simp only [List.mem_cons, List.not_mem_nil, or_false] at ha
  rcases ha with rfl | rfl | rfl | rfl | rfl
  · rw [callV_func Γ0 24]; exact c24 s hl h
  · rw [callV_func Γ0 25]; exact c25 s hl h
  · rw [callV_func Γ0 26]; exact c26 s hl h
  · rw [callV_func Γ0 27]; exact c27 s hl h
  · rw [callV_func Γ0 28]; exact c28 s hl h
def sng0 : List PV := [.str ⟨#[]⟩, .int .i64 0, .int .i64 0, .nilS, .int .i64 0, .int .i64 0, .int .i64 0, .int .i64 0, .bool false, .nilS, .nilS, .nilS, .nilS]
def chk0 : List PV := [.str ⟨#[]⟩, .int .i64 0, .int .i64 0, .nilS, .int .i64 0, .int .i64 0, .int .i64 0, .int .i64 0, .bool false, .nilS, .nilS, .nilS, .nilS, .str ⟨#[]⟩, .int .i64 0, .int .i64 0, .int .i64 0, .int .i64 0, .int .i64 0, .bool false, .bool false, .bool false, .int .i64 0, .int .i64 0, .int .i64 0, .bool false, .bool false, .bool false, .bool false, .int .i64 0, .bool false, .int .i64 0, .bool false, .bool false, .int .i64 0, .bool false, .bool false, .bool false, .bool false, .bool false, .bool false, .bool false]
theorem fill_ck (s : Sng) : fillP Z42 [(0, 13, .agg s.cs), (13, 29, .agg (qOf s.dia))] = some s.ck := by
  rw [fill_step (size := 13) (v := .agg s.cs) rfl (by decide) (Nat.le_of_ble_eq_true rfl), fill_step (size := 29) (v := .agg (qOf s.dia)) (qOf_len _) (by decide) (Nat.le_of_ble_eq_true rfl), fill_none]
  show some (s.cs ++ qOf s.dia ++ []) = _
  rw [List.append_nil]; rfl
theorem ck_st (s : Sng) (vs : List PV) (t : TypeId) (l : PHeap) : storeP 42 (.ptr 0 0) (.agg s.ck) (.box vs t .rw :: l) = (putAt vs 0 s.ck).map fun vs' => .box vs' t .rw :: l := storeC0 (ck_len s) (by decide)
theorem ck_put (s : Sng) {vs : List PV} (hv : vs.length = 42) : putAt vs 0 s.ck = some s.ck := put_whole (by rw [hv, ck_len]) (by unfold Sng.ck; rw [List.all_append, qOf_one]; rfl)
theorem q_st (d : Int) (vs : List PV) (t : TypeId) (l : PHeap) : storeP 29 (.ptr 0 0) (.agg (qOf d)) (.box vs t .rw :: l) = (putAt vs 0 (qOf d)).map fun vs' => .box vs' t .rw :: l := storeC0 (qOf_len d) (by decide)
theorem q_put (d : Int) {vs : List PV} (hv : vs.length = 29) : putAt vs 0 (qOf d) = some (qOf d) := put_whole (by rw [hv, qOf_len]) (qOf_one d)
theorem q_whole (d : Int) : partP true 0 29 (qOf d) = some (.agg (qOf d)) := part_all (qOf_len d)
theorem fill5 (a b c d e : Nat) (xs : List PV) : fillP (repP [.nilF] 5) [(0, 1, .func a xs []), (1, 1, .func b xs []), (2, 1, .func c xs []), (3, 1, .func d xs []), (4, 1, .func e xs [])] = some [.func a xs [], .func b xs [], .func c xs [], .func d xs [], .func e xs []] := nr rfl
theorem chunk5 (a b c d e : PV) : chunk 1 5 [a, b, c, d, e] = [[a], [b], [c], [d], [e]] := nr rfl
theorem flt_st (f : Flt) (vs : List PV) (t : TypeId) (l : PHeap) : storeP 3 (.ptr 0 0) (.agg (fltC f)) (.box vs t .rw :: l) = (putAt vs 0 (fltC f)).map fun vs' => .box vs' t .rw :: l := storeC0 rfl (by decide)
theorem flt_put (f : Flt) (a b c : PV) : putAt [a, b, c] 0 (fltC f) = some (fltC f) := put_whole rfl rfl
theorem fc0 (f : Flt) : (fltC f)[0]? = some (.str f.1) := nr rfl
theorem fc1 (f : Flt) : (fltC f)[1]? = some (.int .i64 f.2.1) := nr rfl
theorem fc2 (f : Flt) : (fltC f)[2]? = some (.int .i64 f.2.2) := nr rfl
theorem fin_w (h l : PHeap) (a : ByteArray) (k k' : IntKind) (m n : Int) : finP [.keep, .keep, .keep] h (h ++ l) [.str a, .int k m, .int k' n] = some (.tuple [.str a, .int k m, .int k' n], h) := fin_k3 rfl rfl rfl
theorem ext0 (a b : PV) : extractP (.tuple [a, b]) 0 = some a := y20 a b
theorem c21 (s : Sng) (hl : SngLen s) (h : PHeap) : Γ0 21 [.agg s.cs] h = some (wrongV (wrongP s), h) := by
  obtain ⟨N, hN⟩ : ∃ N : Nat, 5 < N := ⟨_, Nat.lt_succ_self _⟩
  refine gbody (F := A21) (by kernel_rfl) N ?_
  rw [s21_eq]; unfold s21 wrongP
  have hq := q_put s.dia (vs := Z29) rfl
  have hf := fill_ck s
  have hp := ck_put s (vs := Z42) rfl
  simp only [words, ↓KLn, Nat.reduceAdd, sc1, c23, q_st, hq, s_whole, q_whole, hf, ck_st, hp, ck_whole, fill5, chunk5, len_ref]
  refine loop_find (asks s) (fun a => a.2.2) (fun i => [.int .i64 (i : Int)]) hN rfl (fun i a hi ha hb K => ?_) (fun i a hi ha hb h1 h2 K => ?_) (fun h1 h2 K => ?_)
  · have hrow : ([[PV.func 24 [.agg s.ck] []], [.func 25 [.agg s.ck] []], [.func 26 [.agg s.ck] []], [.func 27 [.agg s.ck] []], [.func 28 [.agg s.ck] []]] : List (List PV))[i]? = some [.func a.1 [.agg s.ck] []] := by
      have : ((asks s).map fun a => [PV.func a.1 [.agg s.ck] []])[i]? = some [.func a.1 [.agg s.ck] []] := by rw [List.getElem?_map, ha]; rfl
      exact this
    have hi5 : ((i : Int) < ((5 : Nat) : Int)) = True := eq_true (by have : i < 5 := hi; omega)
    unfold s21_L0
    simp only [words, ↓KLn, Nat.reduceAdd, hi5, decide_true, if_true, idx_ref (sz := 1) .i64 (show i < 5 from hi), loadLNk, loadLCk, loadLC0 5 rfl hrow, List.getElem?_cons_zero, asks_call hl (List.mem_of_getElem? ha), resA, flt_st, flt_put, hb, Bool.false_eq_true, if_false, succ63 (show i < 9223372036854775807 by have : i < 5 := hi; omega), trim_i4']
  · have hrow : ([[PV.func 24 [.agg s.ck] []], [.func 25 [.agg s.ck] []], [.func 26 [.agg s.ck] []], [.func 27 [.agg s.ck] []], [.func 28 [.agg s.ck] []]] : List (List PV))[i]? = some [.func a.1 [.agg s.ck] []] := by
      have : ((asks s).map fun a => [PV.func a.1 [.agg s.ck] []])[i]? = some [.func a.1 [.agg s.ck] []] := by rw [List.getElem?_map, ha]; rfl
      exact this
    have hi5 : ((i : Int) < ((5 : Nat) : Int)) = True := eq_true (by have : i < 5 := hi; omega)
    unfold s21_L0
    simp only [words, ↓KLn, Nat.reduceAdd, hi5, decide_true, if_true, idx_ref (sz := 1) .i64 (show i < 5 from hi), loadLNk, loadLCk, loadLC0 5 rfl hrow, List.getElem?_cons_zero, asks_call hl (List.mem_of_getElem? ha), resA, flt_st, flt_put, hb, fc0, fc1, fc2, fin_w, find_idx, h1, ha, Option.bind_some, wrongV]
  · unfold s21_L0
    have hi5 : (((asks s).length : Int) < ((5 : Nat) : Int)) = False := eq_false (by show ¬ (((5 : Nat) : Int) < ((5 : Nat) : Int)); omega)
    simp only [words, ↓KLn, Nat.reduceAdd, hi5, decide_false, Bool.false_eq_true, if_false, fin_w, find_idx, h1, Option.bind_none]
    rfl
theorem c16 (s : Sng) (hl : SngLen s) (h : PHeap) : Γ0 16 [.agg s.cs] h = some (.bool ((wrongP s).2.2 == 0), h) := by
  refine gbody (F := A16) (by kernel_rfl) 1 ?_
  rw [s16_eq]; unfold s16
  simp only [words, ↓KLn, Nat.reduceAdd, s_whole, c21 s hl, wrongV, y30, y31, y32, fin_bool]
end Go.Vm.X
