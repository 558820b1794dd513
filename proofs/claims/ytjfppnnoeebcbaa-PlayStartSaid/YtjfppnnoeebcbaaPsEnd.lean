/- Where a song starts: the law, of what is read at the start. -/
import Derived.Test.YtjfppnnoeebcbaaSwConv
import Derived.Test.YtjfppnnoeebcbaaPsLaw
namespace Go.Vm.X
open Go.Am Go.Vm

theorem c3d {t : DSong} (h : t.ok) (x : Int) (hp : PHeap) : Γ0 3 [.agg t.pv, .int .i64 x] hp = some (.bool true, hp) := by
  rw [← t.to_cs]
  exact c3 t.to (DSong.to_len h) x hp
end Go.Vm.X
