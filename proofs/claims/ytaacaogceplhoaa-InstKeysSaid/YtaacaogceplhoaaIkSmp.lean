
/- Songs: samples, the reference's walk. -/
import Derived.Test.YtaacaogceplhoaaIkLoop
set_option linter.unusedSimpArgs false
set_option linter.unusedVariables false
namespace Go.Vm.X
open Go.Am Go.Vm
attribute [local congr] bind_c ifP_c loop_c K1_c ite_c

structure Smp where
  name : ByteArray
  data : List Int
  (bits rate vol pan fine lo st en su sst sen : Int)
def Smp.cs (s : Smp) : List PV := [.str s.name, ints s.data, .int .i64 s.bits, .int .i64 s.rate, .int .i64 s.vol, .int .i64 s.pan, .int .i64 s.fine, .int .i64 s.lo, .int .i64 s.st, .int .i64 s.en, .int .i64 s.su, .int .i64 s.sst, .int .i64 s.sen]
def smpR (s : Smp) : Bool := decide (1 ≤ s.rate ∧ s.rate ≤ 65535 ∧ 0 ≤ s.vol ∧ s.vol ≤ 64 ∧ -1 ≤ s.pan ∧ s.pan ≤ 256 ∧ -64 ≤ s.fine ∧ s.fine ≤ 63)
def smpB (s : Smp) : Bool := decide ((s.bits = 8 ∨ s.bits = 16) ∧ s.data.length ≤ 4096)
def smpL (s : Smp) : Bool := loopV s.lo s.st s.en s.data.length && loopV s.su s.sst s.sen s.data.length
def smpOK (s : Smp) : Bool := nameOK s.name && smpB s && s.data.all (fun x => fitV x s.bits) && (smpR s && smpL s)
section
variable {h : PHeap} {s : Smp} {t : TypeId}
theorem sl0 : loadP false 1 (.ptr h.length 0) (h ++ [.box s.cs t .rw]) = some (.str s.name) := load_new rfl
theorem sl1 : loadP false 1 (.ptr h.length 1) (h ++ [.box s.cs t .rw]) = some (ints s.data) := load_new rfl
theorem sl2 : loadP false 1 (.ptr h.length 2) (h ++ [.box s.cs t .rw]) = some (.int .i64 s.bits) := load_new rfl
theorem sl3 : loadP false 1 (.ptr h.length 3) (h ++ [.box s.cs t .rw]) = some (.int .i64 s.rate) := load_new rfl
theorem sl4 : loadP false 1 (.ptr h.length 4) (h ++ [.box s.cs t .rw]) = some (.int .i64 s.vol) := load_new rfl
theorem sl5 : loadP false 1 (.ptr h.length 5) (h ++ [.box s.cs t .rw]) = some (.int .i64 s.pan) := load_new rfl
theorem sl6 : loadP false 1 (.ptr h.length 6) (h ++ [.box s.cs t .rw]) = some (.int .i64 s.fine) := load_new rfl
theorem sl7 : loadP false 1 (.ptr h.length 7) (h ++ [.box s.cs t .rw]) = some (.int .i64 s.lo) := load_new rfl
theorem sl8 : loadP false 1 (.ptr h.length 8) (h ++ [.box s.cs t .rw]) = some (.int .i64 s.st) := load_new rfl
theorem sl9 : loadP false 1 (.ptr h.length 9) (h ++ [.box s.cs t .rw]) = some (.int .i64 s.en) := load_new rfl
theorem sl10 : loadP false 1 (.ptr h.length 10) (h ++ [.box s.cs t .rw]) = some (.int .i64 s.su) := load_new rfl
theorem sl11 : loadP false 1 (.ptr h.length 11) (h ++ [.box s.cs t .rw]) = some (.int .i64 s.sst) := load_new rfl
theorem sl12 : loadP false 1 (.ptr h.length 12) (h ++ [.box s.cs t .rw]) = some (.int .i64 s.sen) := load_new rfl
end
theorem forkN {R : Type} (v : PV) (h : PHeap) (k : PV → PHeap → Option R) : forkP v h k = k v h := Eq.trans (fork_def v h k) (Eq.refl _)
theorem K1oneN {R : Type} (k : PV → PHeap → Option R) (v : PV) (h : PHeap) : K1 k (fun j => j v h) = k v h := Eq.trans (K1_one k v h) (Eq.refl _)
theorem ifbN (t : Bool) {R : Type} (a b : Option R) : ifP (.bool t) a b = if t = true then a else b := Eq.trans (if_bool t a b) (Eq.refl _)
theorem cellsN (l : List PV) : cellsP (.agg l) = l := Eq.trans (cells_agg l) (Eq.refl _)
theorem unN (b : Bool) : unP .not (.bool b) = some (.bool !b) := Eq.trans (un_not b) (Eq.refl _)
end Go.Vm.X
