/- Songs: samples, the reference's walk. -/
import Derived.Test.YtjfppnnoeebcbaaSwLoop
set_option linter.unusedSimpArgs false
set_option linter.unusedVariables false
namespace Go.Vm.X
open Go.Am Go.Vm
attribute [local congr] bind_c ifP_c loop_c K1_c ite_c

structure Smp where
  name : ByteArray
  data : List Int
  (bits rate vol pan fine lo st en su sst sen : Int)
def Smp.cs (s : Smp) : List PV := [.str s.name, ints s.data, .int .i64 s.bits, .int .i64 s.rate, .int .i64 s.vol, .int .i64 s.pan, .int .i64 s.fine, .int .i64 s.lo, .int .i64 s.st, .int .i64 s.en, .int .i64 s.su, .int .i64 s.sst, .int .i64 s.sen]
def smpR (s : Smp) : Bool := decide (1 ≤ s.rate ∧ s.rate ≤ 65535 ∧ 0 ≤ s.vol ∧ s.vol ≤ 64 ∧ -1 ≤ s.pan ∧ s.pan ≤ 256 ∧ -64 ≤ s.fine ∧ s.fine ≤ 63)
def smpB (s : Smp) : Bool := decide ((s.bits = 8 ∨ s.bits = 16) ∧ s.data.length ≤ 4096)
def smpL (s : Smp) : Bool := loopV s.lo s.st s.en s.data.length && loopV s.su s.sst s.sen s.data.length
def smpOK (s : Smp) : Bool := nameOK s.name && smpB s && s.data.all (fun x => fitV x s.bits) && (smpR s && smpL s)
section
variable {h : PHeap} {s : Smp} {t : TypeId}
theorem sl0 : loadP false 1 (.ptr h.length 0) (h ++ [.box s.cs t .rw]) = some (.str s.name) := load_new rfl
theorem sl1 : loadP false 1 (.ptr h.length 1) (h ++ [.box s.cs t .rw]) = some (ints s.data) := load_new rfl
theorem sl2 : loadP false 1 (.ptr h.length 2) (h ++ [.box s.cs t .rw]) = some (.int .i64 s.bits) := load_new rfl
theorem sl3 : loadP false 1 (.ptr h.length 3) (h ++ [.box s.cs t .rw]) = some (.int .i64 s.rate) := load_new rfl
theorem sl4 : loadP false 1 (.ptr h.length 4) (h ++ [.box s.cs t .rw]) = some (.int .i64 s.vol) := load_new rfl
theorem sl5 : loadP false 1 (.ptr h.length 5) (h ++ [.box s.cs t .rw]) = some (.int .i64 s.pan) := load_new rfl
theorem sl6 : loadP false 1 (.ptr h.length 6) (h ++ [.box s.cs t .rw]) = some (.int .i64 s.fine) := load_new rfl
theorem sl7 : loadP false 1 (.ptr h.length 7) (h ++ [.box s.cs t .rw]) = some (.int .i64 s.lo) := load_new rfl
theorem sl8 : loadP false 1 (.ptr h.length 8) (h ++ [.box s.cs t .rw]) = some (.int .i64 s.st) := load_new rfl
theorem sl9 : loadP false 1 (.ptr h.length 9) (h ++ [.box s.cs t .rw]) = some (.int .i64 s.en) := load_new rfl
theorem sl10 : loadP false 1 (.ptr h.length 10) (h ++ [.box s.cs t .rw]) = some (.int .i64 s.su) := load_new rfl
theorem sl11 : loadP false 1 (.ptr h.length 11) (h ++ [.box s.cs t .rw]) = some (.int .i64 s.sst) := load_new rfl
theorem sl12 : loadP false 1 (.ptr h.length 12) (h ++ [.box s.cs t .rw]) = some (.int .i64 s.sen) := load_new rfl
end
theorem forkN {R : Type} (v : PV) (h : PHeap) (k : PV → PHeap → Option R) : forkP v h k = k v h := Eq.trans (fork_def v h k) (Eq.refl _)
theorem K1oneN {R : Type} (k : PV → PHeap → Option R) (v : PV) (h : PHeap) : K1 k (fun j => j v h) = k v h := Eq.trans (K1_one k v h) (Eq.refl _)
theorem ifbN (t : Bool) {R : Type} (a b : Option R) : ifP (.bool t) a b = if t = true then a else b := Eq.trans (if_bool t a b) (Eq.refl _)
theorem cellsN (l : List PV) : cellsP (.agg l) = l := Eq.trans (cells_agg l) (Eq.refl _)
theorem unN (b : Bool) : unP .not (.bool b) = some (.bool !b) := Eq.trans (un_not b) (Eq.refl _)
theorem c61 (s : Smp) (hn : s.name.size < 9223372036854775808) (hm : s.data.length < 9223372036854775808) (h : PHeap) : Γ0 61 [.agg s.cs] h = some (.bool (smpOK s), h) := by
  refine gbody (F := A61) (by kernel_rfl) (s.data.length + 1) ?_
  rw [s61_eq]
  unfold s61 smpOK
  simp only [forkN, cellsN, field_new, sl0, sl1, sl2, sl3, sl4, sl5, sl6, len_ints, c32 hn, bS, unN, bin_neq, bin_gtr, bin_lss, K1_and, K1_or, K1oneN, ↓KLn, ifbN]
  generalize hN : nameOK s.name = N
  have hcond : ((((((((((!N || ((s.bits != 8) && (s.bits != 16))) || decide ((s.data.length : Int) > 4096)) || decide (s.rate < 1)) || decide (s.rate > 65535)) || decide (s.vol < 0)) || decide (s.vol > 64)) || decide (s.pan < -1)) || decide (s.pan > 256)) || decide (s.fine < -64)) || decide (s.fine > 63)) = !(N && smpB s && smpR s) := by
    unfold smpB smpR
    cases N with
    | false => simp
    | true =>
      rw [Bool.eq_iff_iff]
      simp only [Bool.or_eq_true, Bool.and_eq_true, Bool.not_eq_true', Bool.true_and, Bool.and_eq_false_iff, decide_eq_true_eq, decide_eq_false_iff_not, bne_iff_ne, ne_eq, Bool.not_true, Bool.false_eq_true, false_or]
      omega
  rw [hcond]
  cases hc : (N && smpB s && smpR s) with
  | false =>
    have : (N && smpB s && s.data.all (fun x => fitV x s.bits) && (smpR s && smpL s)) = false := by
      revert hc
      cases N <;> cases smpB s <;> cases smpR s <;> cases s.data.all (fun x => fitV x s.bits) <;> cases smpL s <;> simp
    simp only [Bool.not_false, if_true, this, fin_bool]
  | true =>
    rw [Bool.and_eq_true, Bool.and_eq_true] at hc
    obtain ⟨⟨c1, c2⟩, c9003⟩ := hc
    rw [c1, c2, c9003]
    have hb : (s.bits = 8 ∨ s.bits = 16) := by
      unfold smpB at c2
      exact (of_decide_eq_true c2).1
    simp only [Bool.not_true, Bool.false_eq_true, if_false, Bool.true_and, Bool.and_true]
    obtain ⟨k, h1, h2, h3⟩ := first_not (fun x => fitV x s.bits) s.data
    refine loop_pure (fun i => [.int .i64 (i : Int)]) k (by omega) rfl (fun i hi K => ?_) fun K => ?_
    · obtain ⟨a, ha⟩ := lt_l (show i < s.data.length by omega)
      have hp := h2 i a hi ha
      unfold s61_L0
      simp only [nth_zero, field_new, sl1, sl2, bin_lss, ltT (show i < s.data.length by omega), decide_true, bS, ↓KLn, ifbN, if_true, idx_ints _ ha, load_iV, c83 hb, hp, unN, Bool.not_true, Bool.false_eq_true, if_false, bin_add, succ63 (show i < 9223372036854775807 by omega), trim_self]
    · rcases h3 with ⟨rfl, h4⟩ | ⟨a, h3, h4, h5⟩
      · unfold s61_L0
        simp only [nth_zero, field_new, sl1, sl2, sl7, sl8, sl9, sl10, sl11, sl12, bin_lss, ltF, decide_false, bS, ↓KLn, ifbN, Bool.false_eq_true, if_false, h4, Bool.true_and, c84, K1_and, smpL, fin_bool]
      · have hk : k < s.data.length := by
          obtain ⟨hh, _⟩ := List.getElem?_eq_some_iff.1 h3
          exact hh
        unfold s61_L0
        simp only [nth_zero, field_new, sl1, sl2, bin_lss, ltT hk, decide_true, bS, ↓KLn, ifbN, if_true, idx_ints _ h3, load_iV, c83 hb, h4, unN, Bool.not_false, h5, Bool.false_and, fin_bool]
end Go.Vm.X
