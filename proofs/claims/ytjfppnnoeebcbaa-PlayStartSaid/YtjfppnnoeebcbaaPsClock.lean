/- Where a song starts: the clock. -/
import Derived.Test.YtjfppnnoeebcbaaPsWalk
set_option linter.unusedSimpArgs false
set_option linter.unusedVariables false
set_option maxRecDepth 20000
namespace Go.Vm.X
open Go.Am Go.Vm
attribute [local congr] bind_c ifP_c loop_c K1_c ite_c fork_c guard_c unl_c

def okS (s : Sng) : Bool := (wrongP s).2.2 == 0
theorem c19 (s : Sng) (hl : SngLen s) (h : PHeap) : Γ0 19 [.agg s.cs] h = some (.bool (okS s), h) := by
  refine gbody (F := A19) (by kernel_rfl) 1 ?_
  rw [s19_eq]; unfold s19 okS
  simp only [words, ↓KLn, Nat.reduceAdd, s_whole, c22 s hl, ← wrong_same, wrongV, y30, y31, y32, fin_bool]
theorem c16' (s : Sng) (hl : SngLen s) (h : PHeap) : Γ0 16 [.agg s.cs] h = some (.bool (okS s), h) := c16 s hl h
def clkC (a b c d : Int) : List PV := [.int .i64 a, .int .i64 b, .int .i64 c, .int .i64 d] ++ Z37.drop 4
theorem fill_clk (a b c d : Int) : fillP Z37 [(0, 1, .int .i64 a), (1, 1, .int .i64 b), (2, 1, .int .i64 c), (3, 1, .int .i64 d)] = some (clkC a b c d) := nr (by kernel_rfl)
theorem clk_zero : Z37 = clkC 0 0 0 0 := nr rfl
theorem clk_st (a b c d : Int) (vs : List PV) (t : TypeId) (l : PHeap) : storeP 37 (.ptr 0 0) (.agg (clkC a b c d)) (.box vs t .rw :: l) = (putAt vs 0 (clkC a b c d)).map fun vs' => .box vs' t .rw :: l := storeC0 rfl (by decide)
theorem clk_put (a b c d : Int) : putAt Z37 0 (clkC a b c d) = some (clkC a b c d) := put_whole rfl rfl
theorem clk_whole (a b c d : Int) : partP true 0 37 (clkC a b c d) = some (.agg (clkC a b c d)) := part_all rfl
theorem fillZ37 : fillP Z37 [] = some (clkC 0 0 0 0) := nr rfl
theorem fin_ce (h l : PHeap) (a b c d e : Int) : finP [.keep, .keep] h (h ++ l) [.agg (clkC a b c d), .int .i64 e] = some (.tuple [.agg (clkC a b c d), .int .i64 e], h) := fin_k2 rfl rfl
theorem sng_fz (s : Sng) (h : PHeap) : fz (.agg SA13) (.agg s.cs) h = some (.agg s.cs, h) := fz_aggI _ rfl
/-- Where a song starts: order, row, speed, tempo, error. -/
def startR (s : Sng) (at_ : Int) : PV :=
  if (!okS s) = true then .tuple [.agg (clkC 0 0 0 0), .int .i64 1]
  else if (decide (at_ < 0) || decide (at_ ≥ (s.ords.length : Int))) = true then .tuple [.agg (clkC 0 0 0 0), .int .i64 5]
  else match walkO s.ords s.rest.toNat (2 * s.ords.length + 1) at_.toNat 0 with
    | some (o, i) => .tuple [.agg (clkC o (rowF s 0 o i) s.spd s.tem), .int .i64 0]
    | none => .tuple [.agg (clkC 0 0 0 0), .int .i64 7]
theorem findV_none (s : Sng) (r : Int) : findV s r none = .tuple [.int .i64 0, .int .i64 0, .bool false] := rfl
theorem c8 (s : Sng) (hl : SngLen s) (a : Int) (h : PHeap) : Γ0 8 [.agg s.cs, .int .i64 a] h = some (startR s a, h) := by
  refine gbody (F := A8) (by kernel_rfl) 1 ?_
  rw [s8_eq]; unfold s8 startR
  simp only [words, ↓KLn, Nat.reduceAdd, s_whole, sng_fz, c16' s hl, sc3, len_ints, fillZ37, clk_st, clk_put, clk_whole, fin_ce]
  cases hok : okS s with
  | false => rfl
  | true =>
    have ok := sng_ok hok
    simp only [Bool.not_true, Bool.false_eq_true, if_false]
    cases hr : (decide (a < 0) || decide (a ≥ (s.ords.length : Int))) with
    | true => rfl
    | false =>
      rw [Bool.or_eq_false_iff, decide_eq_false_iff_not, decide_eq_false_iff_not] at hr
      obtain ⟨o, ho⟩ : ∃ o : Nat, a = (o : Int) := ⟨a.toNat, by omega⟩
      subst ho
      have k17 := c17 ok (b := h.length) (h := h ++ [.box s.cs 27 .rw, .box Z37 31 .rw]) (fun k v hk => by rw [loadN0, partC]; exact hk) 0 o
      simp only [Bool.false_eq_true, if_false, k17, Int.toNat_natCast]
      cases walkO s.ords s.rest.toNat (2 * s.ords.length + 1) o 0 with
      | none =>
        simp only [words, ↓KLn, Nat.reduceAdd, findV_none, y30, y31, y32, Bool.not_false, if_true, fillZ37, clk_st, clk_put, clk_whole, fin_ce]
      | some w =>
        obtain ⟨p, i⟩ := w
        simp only [words, ↓KLn, Nat.reduceAdd, findV_some, y30, y31, y32, Bool.not_true, Bool.false_eq_true, if_false, sc5, sc6, fill_clk, clk_st, clk_put, clk_whole, fin_ce]
theorem c10 (s : Sng) (hl : SngLen s) (a : Int) (h : PHeap) : Γ0 10 [.agg s.cs, .int .i64 a] h = some (startR s a, h) := by
  refine gbody (F := A10) (by kernel_rfl) 1 ?_
  rw [s10_eq]; unfold s10 startR
  simp only [words, ↓KLn, Nat.reduceAdd, s_whole, c19 s hl, sc3, len_ints, fillZ37, clk_st, clk_put, clk_whole, fin_ce]
  cases hok : okS s with
  | false => rfl
  | true =>
    have ok := sng_ok hok
    simp only [Bool.not_true, Bool.false_eq_true, if_false]
    cases hr : (decide (a < 0) || decide (a ≥ (s.ords.length : Int))) with
    | true => rfl
    | false =>
      rw [Bool.or_eq_false_iff, decide_eq_false_iff_not, decide_eq_false_iff_not] at hr
      obtain ⟨o, ho⟩ : ∃ o : Nat, a = (o : Int) := ⟨a.toNat, by omega⟩
      subst ho
      have k20 := fun h => c20 ok h 0 o (by omega)
      simp only [words, ↓KLn, Nat.reduceAdd, s_whole, Bool.false_eq_true, if_false, k20, Int.toNat_natCast]
      cases walkO s.ords s.rest.toNat (2 * s.ords.length + 1) o 0 with
      | none =>
        simp only [words, ↓KLn, Nat.reduceAdd, findV_none, y30, y31, y32, Bool.not_false, if_true, fillZ37, clk_st, clk_put, clk_whole, fin_ce]
      | some w =>
        obtain ⟨p, i⟩ := w
        simp only [words, ↓KLn, Nat.reduceAdd, findV_some, y30, y31, y32, Bool.not_true, Bool.false_eq_true, if_false, sc5, sc6, fill_clk, clk_st, clk_put, clk_whole, fin_ce]
end Go.Vm.X
