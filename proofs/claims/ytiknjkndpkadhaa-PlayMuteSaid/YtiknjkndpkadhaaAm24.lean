/- Words for the printed forms. -/
import Derived.Test.YtiknjkndpkadhaaAm23
set_option linter.unusedVariables false
namespace Go.Am
abbrev Rt := Option (Value × AHeap)
/-- A value and a heap, and what follows. -/
def fork {R : Type} (v : Value) (h : AHeap) (k : Value → AHeap → Option R) : Option R := k v h
/-- How a function ends. -/
noncomputable def fin (h0 h : AHeap) (vs : List Value) : Rt := some (single vs, gc (single vs) h0 h)
end Go.Am
