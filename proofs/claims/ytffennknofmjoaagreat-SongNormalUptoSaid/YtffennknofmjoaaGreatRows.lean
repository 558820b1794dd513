/-
  No cell of these rows narrows 'for every input' (looked for: loops, veiled, ifaces, maps, wideKeys, modest, calm, conditions, laid).
  DERIVED. THE GIVEN ROWS OF THIS SEAT. 4 by the template 'for every input the law returns true; each argument reads behind the call as it read before'; 0 by the template 'total and deterministic' (their statements: YtffennknofmjoaaGreatTotals.lean).
  GIVEN WITH THE SEED: the statements are not yours to turn. If you find one false, say at which input.
  Laid BY PROGRAM, IN A SANDBOX (cutbox-rows.mjs): the forced cells as the released guide's own fill.sh prints them over the translation 87016e6860969631… (all of the seat's roots in one cut). By AI agents, Wed Nov 11 2026. No macro, syntax, notation, axiom, sorry.
-/
import Derived.Test.YtffennknofmjoaaGreatChecked
import GoSem.Claim
import GoSem.ClaimJoined
import GoSem.ClaimMapViews
import Derived.JoinedTies
import Derived.KernelRfl
namespace Go.Proofs.YtffennknofmjoaaGreat
/- THE CELL 'sum', in the pinned program and in every row, IS THE sha256 OF THE DUMP (.gsa) THAT YtffennknofmjoaaGreatProg.lean LOADS. Nothing in Lean hashes anything: it is a label: what it is worth is what the hold of that sum in a sandbox is worth. -/
noncomputable def Tryz.pinned : Pinned := { name := "ytffennknofmjoaagreat", sum := "87016e6860969631e15ff4f41bc00cb2a863c2e4023f892f8eebb27fffa4b9c6", checked := Tryz.checked }
namespace Rows
def none {H : Type} : Left H := { results := [], args := [] }

/-- 'orchestrionlaw07.SongEquals': WHATEVER THE INPUT: true; the input reads as it did. -/
def songEqualsSpec : ChangeSpec := { name := "songEquals", fn := fun _ => fun
  | [d1, d2] => { results := [.lit (.bool true)], args := [d1, d2] }
  | _ => none }
def songEqualsRow : OpenClaim := { program := "ytffennknofmjoaagreat", sum := "87016e6860969631e15ff4f41bc00cb2a863c2e4023f892f8eebb27fffa4b9c6", func := "orchestrion/orchestrionlaw07.SongEquals", spec := "songEquals", inPlace := ["internal/bytealg.IndexByteString"], unfollowed := true, recurses := true, apart := false }
def SongEqualsSaid : Prop := songEqualsRow.holds Tryz.pinned (OpenSpec.ofChange songEqualsSpec)

/-- ITS FALSE NEIGHBOUR: 'it returns false'. Refute it at one input. -/
def songEqualsWrong : ChangeSpec := { name := "songEquals", fn := fun _ => fun
  | [d1, d2] => { results := [.lit (.bool false)], args := [d1, d2] }
  | _ => none }
def SongEqualsWrongFalsely : Prop := songEqualsRow.holds Tryz.pinned (OpenSpec.ofChange songEqualsWrong)

/-- 'orchestrionlaw07.SongNormal': WHATEVER THE INPUT: true; the input reads as it did. -/
def songNormalSpec : ChangeSpec := { name := "songNormal", fn := fun _ => fun
  | [d] => { results := [.lit (.bool true)], args := [d] }
  | _ => none }
def songNormalRow : OpenClaim := { program := "ytffennknofmjoaagreat", sum := "87016e6860969631e15ff4f41bc00cb2a863c2e4023f892f8eebb27fffa4b9c6", func := "orchestrion/orchestrionlaw07.SongNormal", spec := "songNormal", inPlace := ["internal/bytealg.IndexByteString"], unfollowed := true, recurses := true, apart := false }
def SongNormalSaid : Prop := songNormalRow.holds Tryz.pinned (OpenSpec.ofChange songNormalSpec)

/-- ITS FALSE NEIGHBOUR: 'it returns false'. Refute it at one input. -/
def songNormalWrong : ChangeSpec := { name := "songNormal", fn := fun _ => fun
  | [d] => { results := [.lit (.bool false)], args := [d] }
  | _ => none }
def SongNormalWrongFalsely : Prop := songNormalRow.holds Tryz.pinned (OpenSpec.ofChange songNormalWrong)

/-- 'orchestrionlaw07.SongBlanks': WHATEVER THE INPUT: true; the input reads as it did. -/
def songBlanksSpec : ChangeSpec := { name := "songBlanks", fn := fun _ => fun
  | [d1, d2, d3] => { results := [.lit (.bool true)], args := [d1, d2, d3] }
  | _ => none }
def songBlanksRow : OpenClaim := { program := "ytffennknofmjoaagreat", sum := "87016e6860969631e15ff4f41bc00cb2a863c2e4023f892f8eebb27fffa4b9c6", func := "orchestrion/orchestrionlaw07.SongBlanks", spec := "songBlanks", inPlace := ["internal/bytealg.IndexByteString"], unfollowed := true, recurses := true, apart := false }
def SongBlanksSaid : Prop := songBlanksRow.holds Tryz.pinned (OpenSpec.ofChange songBlanksSpec)

/-- ITS FALSE NEIGHBOUR: 'it returns false'. Refute it at one input. -/
def songBlanksWrong : ChangeSpec := { name := "songBlanks", fn := fun _ => fun
  | [d1, d2, d3] => { results := [.lit (.bool false)], args := [d1, d2, d3] }
  | _ => none }
def SongBlanksWrongFalsely : Prop := songBlanksRow.holds Tryz.pinned (OpenSpec.ofChange songBlanksWrong)

/-- 'orchestrionlaw07.SongUses': WHATEVER THE INPUT: true; the input reads as it did. -/
def songUsesSpec : ChangeSpec := { name := "songUses", fn := fun _ => fun
  | [d1, d2, d3] => { results := [.lit (.bool true)], args := [d1, d2, d3] }
  | _ => none }
def songUsesRow : OpenClaim := { program := "ytffennknofmjoaagreat", sum := "87016e6860969631e15ff4f41bc00cb2a863c2e4023f892f8eebb27fffa4b9c6", func := "orchestrion/orchestrionlaw07.SongUses", spec := "songUses", inPlace := ["internal/bytealg.IndexByteString"], unfollowed := true, recurses := true, apart := false }
def SongUsesSaid : Prop := songUsesRow.holds Tryz.pinned (OpenSpec.ofChange songUsesSpec)

/-- ITS FALSE NEIGHBOUR: 'it returns false'. Refute it at one input. -/
def songUsesWrong : ChangeSpec := { name := "songUses", fn := fun _ => fun
  | [d1, d2, d3] => { results := [.lit (.bool false)], args := [d1, d2, d3] }
  | _ => none }
def SongUsesWrongFalsely : Prop := songUsesRow.holds Tryz.pinned (OpenSpec.ofChange songUsesWrong)

/- THE SECOND FORM. 'bulk': how many values and letters a reading holds, each counted each time it is reached (what is shared counts as often as it is met; a slice's spare places count too). A statement '..UptoSaid' is the law's where the arguments, and the package variables that the reading takes, are together of bulk at most 1048576: NARROWER than '..Said'. Prove '..Said' where nothing that the law and all that it calls make is longer than what came in: it says more and counts as full. Else prove '..UptoSaid'. A law counts once. -/
mutual
def uptoBulk {H : Type} : DataW H → Nat
  | .lit (.string bytes) => bytes.length + 1
  | .lit _ => 1
  | .nil => 1
  | .ptr d => uptoBulk d + 1
  | .slice elems spare => uptoBulkAll elems + uptoBulkAll spare + 1
  | .agg parts => uptoBulkAll parts + 1
  | .iface _ d => uptoBulk d + 1
  | .map entries => uptoBulkEntries entries + 1
  | .held _ => 1
def uptoBulkAll {H : Type} : List (DataW H) → Nat
  | [] => 0
  | d :: r => uptoBulk d + uptoBulkAll r
def uptoBulkEntries {H : Type} : List (Lit × DataW H) → Nat
  | [] => 0
  | x :: r => uptoBulkEntry x + uptoBulkEntries r
def uptoBulkEntry {H : Type} : Lit × DataW H → Nat
  | (.string bytes, d) => bytes.length + uptoBulk d + 1
  | (_, d) => uptoBulk d + 1
 end
def uptoSmall : (H : Type) → List (DataW H) → Bool := fun _ ds => decide (uptoBulkAll ds ≤ 1048576)
def OpenSpec.upto (s : _root_.Go.ChangeSpec) : _root_.Go.OpenSpec := { _root_.Go.OpenSpec.ofChange s with cond := some uptoSmall }

/-- 'orchestrionlaw07.SongEquals', WHERE WHAT IT READS IS OF BULK AT MOST 1048576: true; the input reads as it did. -/
def songEqualsUptoRow : OpenClaim := { program := "ytffennknofmjoaagreat", sum := "87016e6860969631e15ff4f41bc00cb2a863c2e4023f892f8eebb27fffa4b9c6", func := "orchestrion/orchestrionlaw07.SongEquals", spec := "songEquals", inPlace := ["internal/bytealg.IndexByteString"], unfollowed := true, recurses := true, apart := false, narrowed := true }
def SongEqualsUptoSaid : Prop := songEqualsUptoRow.holds Tryz.pinned (OpenSpec.upto songEqualsSpec)

/-- 'orchestrionlaw07.SongNormal', WHERE WHAT IT READS IS OF BULK AT MOST 1048576: true; the input reads as it did. -/
def songNormalUptoRow : OpenClaim := { program := "ytffennknofmjoaagreat", sum := "87016e6860969631e15ff4f41bc00cb2a863c2e4023f892f8eebb27fffa4b9c6", func := "orchestrion/orchestrionlaw07.SongNormal", spec := "songNormal", inPlace := ["internal/bytealg.IndexByteString"], unfollowed := true, recurses := true, apart := false, narrowed := true }
def SongNormalUptoSaid : Prop := songNormalUptoRow.holds Tryz.pinned (OpenSpec.upto songNormalSpec)

/-- 'orchestrionlaw07.SongBlanks', WHERE WHAT IT READS IS OF BULK AT MOST 1048576: true; the input reads as it did. -/
def songBlanksUptoRow : OpenClaim := { program := "ytffennknofmjoaagreat", sum := "87016e6860969631e15ff4f41bc00cb2a863c2e4023f892f8eebb27fffa4b9c6", func := "orchestrion/orchestrionlaw07.SongBlanks", spec := "songBlanks", inPlace := ["internal/bytealg.IndexByteString"], unfollowed := true, recurses := true, apart := false, narrowed := true }
def SongBlanksUptoSaid : Prop := songBlanksUptoRow.holds Tryz.pinned (OpenSpec.upto songBlanksSpec)

/-- 'orchestrionlaw07.SongUses', WHERE WHAT IT READS IS OF BULK AT MOST 1048576: true; the input reads as it did. -/
def songUsesUptoRow : OpenClaim := { program := "ytffennknofmjoaagreat", sum := "87016e6860969631e15ff4f41bc00cb2a863c2e4023f892f8eebb27fffa4b9c6", func := "orchestrion/orchestrionlaw07.SongUses", spec := "songUses", inPlace := ["internal/bytealg.IndexByteString"], unfollowed := true, recurses := true, apart := false, narrowed := true }
def SongUsesUptoSaid : Prop := songUsesUptoRow.holds Tryz.pinned (OpenSpec.upto songUsesSpec)

end Rows
end Go.Proofs.YtffennknofmjoaaGreat
