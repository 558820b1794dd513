/- strings' IndexByte as a base of the machine: SongWrong's seat. -/
import Derived.Test.YtjfppnnoeebcbaaMvE
import Derived.Test.YtjfppnnoeebcbaaChecked
import Derived.TacticsInMore
import Derived.Lib.Walk
import Derived.WalkKit
import Derived.BigCall
import Derived.OwnWalkIn
set_option linter.unusedVariables false
namespace Go.Vm.X
open Go.Am Go.Vm Go.Proofs Go.RowKit

theorem idx_enters : ∀ (xs : Array Value) (w : World), (callFunc 86 xs).run Try.prog w = .ok (.enter 86 xs) w := fun xs w => enter_run Try.func86 rfl (by kernel_rfl)
set_option maxHeartbeats 1000000 in
set_option maxRecDepth 100000 in
theorem idx_calls (F : Fence) (n : Nat) (hF : WideF F) (s : ByteArray) (c : Int) (w : World) : CallsIn F.plain n Try.prog 86 #[.string s, .int .u8 c] w fun e w' => e = .returned (.int .i64 (Lib.indexByte s.data.toList c.toNat.toUInt8)) ∧ w' = w := by
  have mixed : Try.prog.follows .mixedOrders = true := by kernel_rfl
  have u3 := Try.underlying3
  have u5 := Try.underlying5
  have u9 := Try.underlying9
  refine callsIn_of_wp Try.func86 rfl (hF.1 86) ?_ rfl
  simp only [show Try.f86.ntmps = 8 from rfl, List.size_toArray, List.length_cons, List.length_nil, Nat.reduceAdd, Nat.reduceSub, Array.replicate_succ, Array.replicate_zero, List.push_toArray, List.append_toArray, List.nil_append, List.cons_append]
  gi_wp2
  refine ⟨hF.1 97, ?_⟩
  rw [run_callFunc_extern Try.func97 (by kernel_rfl) (by kernel_rfl) (by kernel_rfl) (e := Extern.BytealgIndexByte.indexByte) (by kernel_rfl), Lib.run_indexByteString]
  simp only [Result.andThen]
  rw [Oper.uponIn_value]
  gi_wp2
  go_ret
  exact ⟨rfl, rfl⟩
theorem idx_ok : CallOk Try.prog (idxA 86) := idxA_ok idx_enters idx_calls rfl
end Go.Vm.X
