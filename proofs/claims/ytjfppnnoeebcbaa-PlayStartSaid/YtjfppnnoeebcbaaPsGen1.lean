/- Printed by a program of mine from the dump: the value machine's form of the program's functions. -/
import Derived.Test.YtjfppnnoeebcbaaMvE
import Derived.Test.YtjfppnnoeebcbaaChecked
set_option linter.unusedVariables false
set_option maxRecDepth 100000
namespace Go.Vm.X
open Go.Proofs Go.Am Go.Vm
def Z84 : List PV := [.int .i64 0, .int .i64 0, .int .i64 0, .int .i64 0, .int .i64 0, .int .i64 0, .int .i64 0, .int .i64 0, .int .i64 0, .int .i64 0, .int .i64 0, .int .i64 0, .int .i64 0, .int .i64 0, .int .i64 0, .int .i64 0, .int .i64 0, .int .i64 0, .int .i64 0, .int .i64 0, .int .i64 0, .int .i64 0, .int .i64 0, .int .i64 0, .int .i64 0, .int .i64 0, .int .i64 0, .int .i64 0, .int .i64 0, .int .i64 0, .int .i64 0, .int .i64 0, .int .i64 0, .int .i64 0, .int .i64 0, .int .i64 0, .bool false, .int .i64 0, .int .i64 0, .int .i64 0, .int .i64 0, .int .i64 0, .int .i64 0, .int .i64 0, .int .i64 0, .int .i64 0, .int .i64 0, .int .i64 0, .int .i64 0, .int .i64 0, .int .i64 0, .int .i64 0, .int .i64 0, .int .i64 0, .int .i64 0, .int .i64 0, .int .i64 0, .int .i64 0, .int .i64 0, .int .i64 0, .int .i64 0, .int .i64 0, .int .i64 0, .int .i64 0, .int .i64 0, .int .i64 0, .int .i64 0, .int .i64 0, .int .i64 0, .int .i64 0, .int .i64 0, .int .i64 0, .int .i64 0, .bool false, .int .i64 0, .int .i64 0, .int .i64 0, .int .i64 0, .int .i64 0, .int .i64 0, .nilS, .nilS, .nilS, .int .i64 0]
def Z33 : List PV := [.str ⟨#[]⟩, .nilS, .bool false, .nilS, .bool false, .int .i64 0, .int .i64 0, .bool false, .int .i64 0, .int .i64 0, .bool false, .nilS, .bool false, .int .i64 0, .int .i64 0, .bool false, .int .i64 0, .int .i64 0, .bool false, .nilS, .bool false, .int .i64 0, .int .i64 0, .bool false, .int .i64 0, .int .i64 0, .int .i64 0, .int .i64 0, .int .i64 0, .int .i64 0, .int .i64 0, .int .i64 0, .int .i64 0]
def Z37 : List PV := [.int .i64 0, .int .i64 0, .int .i64 0, .int .i64 0, .int .i64 0, .int .i64 0, .int .i64 0, .int .i64 0, .int .i64 0, .int .i64 0, .int .i64 0, .int .i64 0, .int .i64 0, .int .i64 0, .int .i64 0, .int .i64 0, .int .i64 0, .int .i64 0, .int .i64 0, .int .i64 0, .int .i64 0, .int .i64 0, .int .i64 0, .int .i64 0, .int .i64 0, .int .i64 0, .int .i64 0, .int .i64 0, .int .i64 0, .int .i64 0, .int .i64 0, .int .i64 0, .int .i64 0, .int .i64 0, .int .i64 0, .int .i64 0, .bool false]
def Z51 : List PV := [.int .i64 0, .int .i64 0, .int .i64 0, .int .i64 0, .int .i64 0, .int .i64 0, .int .i64 0, .int .i64 0, .int .i64 0, .int .i64 0, .int .i64 0, .int .i64 0, .int .i64 0, .int .i64 0, .int .i64 0, .int .i64 0, .int .i64 0, .int .i64 0, .int .i64 0, .int .i64 0, .int .i64 0, .int .i64 0, .int .i64 0, .int .i64 0, .int .i64 0, .int .i64 0, .int .i64 0, .int .i64 0, .int .i64 0, .int .i64 0, .int .i64 0, .int .i64 0, .int .i64 0, .int .i64 0, .bool false, .int .i64 0, .int .i64 0, .int .i64 0, .int .i64 0, .int .i64 0, .int .i64 0, .int .i64 0, .int .i64 0, .int .i64 0, .int .i64 0, .int .i64 0, .int .i64 0, .int .i64 0, .int .i64 0, .int .i64 0, .bool false]
def Z21 : List PV := [.bool false, .bool false, .int .i64 0, .int .i64 0, .int .i64 0, .int .i64 0, .int .i64 0, .bool false, .bool false, .int .i64 0, .int .i64 0, .int .i64 0, .int .i64 0, .int .i64 0, .int .i64 0, .int .i64 0, .int .i64 0, .bool false, .int .i64 0, .int .i64 0, .int .i64 0]
def Z29 : List PV := [.str ⟨#[]⟩, .int .i64 0, .int .i64 0, .int .i64 0, .int .i64 0, .int .i64 0, .bool false, .bool false, .bool false, .int .i64 0, .int .i64 0, .int .i64 0, .bool false, .bool false, .bool false, .bool false, .int .i64 0, .bool false, .int .i64 0, .bool false, .bool false, .int .i64 0, .bool false, .bool false, .bool false, .bool false, .bool false, .bool false, .bool false]
def Z42 : List PV := [.str ⟨#[]⟩, .int .i64 0, .int .i64 0, .nilS, .int .i64 0, .int .i64 0, .int .i64 0, .int .i64 0, .bool false, .nilS, .nilS, .nilS, .nilS, .str ⟨#[]⟩, .int .i64 0, .int .i64 0, .int .i64 0, .int .i64 0, .int .i64 0, .bool false, .bool false, .bool false, .int .i64 0, .int .i64 0, .int .i64 0, .bool false, .bool false, .bool false, .bool false, .int .i64 0, .bool false, .int .i64 0, .bool false, .bool false, .int .i64 0, .bool false, .bool false, .bool false, .bool false, .bool false, .bool false, .bool false]
def Z203 : List PV := [.str ⟨#[]⟩, .int .i64 0, .int .i64 0, .int .i64 0, .int .i64 0, .int .i64 0, .bool false, .bool false, .bool false, .int .i64 0, .int .i64 0, .int .i64 0, .bool false, .bool false, .bool false, .bool false, .int .i64 0, .bool false, .int .i64 0, .bool false, .bool false, .int .i64 0, .bool false, .bool false, .bool false, .bool false, .bool false, .bool false, .bool false, .str ⟨#[]⟩, .int .i64 0, .int .i64 0, .int .i64 0, .int .i64 0, .int .i64 0, .bool false, .bool false, .bool false, .int .i64 0, .int .i64 0, .int .i64 0, .bool false, .bool false, .bool false, .bool false, .int .i64 0, .bool false, .int .i64 0, .bool false, .bool false, .int .i64 0, .bool false, .bool false, .bool false, .bool false, .bool false, .bool false, .bool false, .str ⟨#[]⟩, .int .i64 0, .int .i64 0, .int .i64 0, .int .i64 0, .int .i64 0, .bool false, .bool false, .bool false, .int .i64 0, .int .i64 0, .int .i64 0, .bool false, .bool false, .bool false, .bool false, .int .i64 0, .bool false, .int .i64 0, .bool false, .bool false, .int .i64 0, .bool false, .bool false, .bool false, .bool false, .bool false, .bool false, .bool false, .str ⟨#[]⟩, .int .i64 0, .int .i64 0, .int .i64 0, .int .i64 0, .int .i64 0, .bool false, .bool false, .bool false, .int .i64 0, .int .i64 0, .int .i64 0, .bool false, .bool false, .bool false, .bool false, .int .i64 0, .bool false, .int .i64 0, .bool false, .bool false, .int .i64 0, .bool false, .bool false, .bool false, .bool false, .bool false, .bool false, .bool false, .str ⟨#[]⟩, .int .i64 0, .int .i64 0, .int .i64 0, .int .i64 0, .int .i64 0, .bool false, .bool false, .bool false, .int .i64 0, .int .i64 0, .int .i64 0, .bool false, .bool false, .bool false, .bool false, .int .i64 0, .bool false, .int .i64 0, .bool false, .bool false, .int .i64 0, .bool false, .bool false, .bool false, .bool false, .bool false, .bool false, .bool false, .str ⟨#[]⟩, .int .i64 0, .int .i64 0, .int .i64 0, .int .i64 0, .int .i64 0, .bool false, .bool false, .bool false, .int .i64 0, .int .i64 0, .int .i64 0, .bool false, .bool false, .bool false, .bool false, .int .i64 0, .bool false, .int .i64 0, .bool false, .bool false, .int .i64 0, .bool false, .bool false, .bool false, .bool false, .bool false, .bool false, .bool false, .str ⟨#[]⟩, .int .i64 0, .int .i64 0, .int .i64 0, .int .i64 0, .int .i64 0, .bool false, .bool false, .bool false, .int .i64 0, .int .i64 0, .int .i64 0, .bool false, .bool false, .bool false, .bool false, .int .i64 0, .bool false, .int .i64 0, .bool false, .bool false, .int .i64 0, .bool false, .bool false, .bool false, .bool false, .bool false, .bool false, .bool false]
def V84 : List Value := [(.int .i64 0), (.int .i64 0), (.int .i64 0), (.int .i64 0), (.int .i64 0), (.int .i64 0), (.int .i64 0), (.int .i64 0), (.int .i64 0), (.int .i64 0), (.int .i64 0), (.int .i64 0), (.int .i64 0), (.int .i64 0), (.int .i64 0), (.int .i64 0), (.int .i64 0), (.int .i64 0), (.int .i64 0), (.int .i64 0), (.int .i64 0), (.int .i64 0), (.int .i64 0), (.int .i64 0), (.int .i64 0), (.int .i64 0), (.int .i64 0), (.int .i64 0), (.int .i64 0), (.int .i64 0), (.int .i64 0), (.int .i64 0), (.int .i64 0), (.int .i64 0), (.int .i64 0), (.int .i64 0), (.bool false), (.int .i64 0), (.int .i64 0), (.int .i64 0), (.int .i64 0), (.int .i64 0), (.int .i64 0), (.int .i64 0), (.int .i64 0), (.int .i64 0), (.int .i64 0), (.int .i64 0), (.int .i64 0), (.int .i64 0), (.int .i64 0), (.int .i64 0), (.int .i64 0), (.int .i64 0), (.int .i64 0), (.int .i64 0), (.int .i64 0), (.int .i64 0), (.int .i64 0), (.int .i64 0), (.int .i64 0), (.int .i64 0), (.int .i64 0), (.int .i64 0), (.int .i64 0), (.int .i64 0), (.int .i64 0), (.int .i64 0), (.int .i64 0), (.int .i64 0), (.int .i64 0), (.int .i64 0), (.int .i64 0), (.bool false), (.int .i64 0), (.int .i64 0), (.int .i64 0), (.int .i64 0), (.int .i64 0), (.int .i64 0), (.slice none 0 0), (.slice none 0 0), (.slice none 0 0), (.int .i64 0)]
def V33 : List Value := [(.string ⟨#[]⟩), (.slice none 0 0), (.bool false), (.slice none 0 0), (.bool false), (.int .i64 0), (.int .i64 0), (.bool false), (.int .i64 0), (.int .i64 0), (.bool false), (.slice none 0 0), (.bool false), (.int .i64 0), (.int .i64 0), (.bool false), (.int .i64 0), (.int .i64 0), (.bool false), (.slice none 0 0), (.bool false), (.int .i64 0), (.int .i64 0), (.bool false), (.int .i64 0), (.int .i64 0), (.int .i64 0), (.int .i64 0), (.int .i64 0), (.int .i64 0), (.int .i64 0), (.int .i64 0), (.int .i64 0)]
def V37 : List Value := [(.int .i64 0), (.int .i64 0), (.int .i64 0), (.int .i64 0), (.int .i64 0), (.int .i64 0), (.int .i64 0), (.int .i64 0), (.int .i64 0), (.int .i64 0), (.int .i64 0), (.int .i64 0), (.int .i64 0), (.int .i64 0), (.int .i64 0), (.int .i64 0), (.int .i64 0), (.int .i64 0), (.int .i64 0), (.int .i64 0), (.int .i64 0), (.int .i64 0), (.int .i64 0), (.int .i64 0), (.int .i64 0), (.int .i64 0), (.int .i64 0), (.int .i64 0), (.int .i64 0), (.int .i64 0), (.int .i64 0), (.int .i64 0), (.int .i64 0), (.int .i64 0), (.int .i64 0), (.int .i64 0), (.bool false)]
def V51 : List Value := [(.int .i64 0), (.int .i64 0), (.int .i64 0), (.int .i64 0), (.int .i64 0), (.int .i64 0), (.int .i64 0), (.int .i64 0), (.int .i64 0), (.int .i64 0), (.int .i64 0), (.int .i64 0), (.int .i64 0), (.int .i64 0), (.int .i64 0), (.int .i64 0), (.int .i64 0), (.int .i64 0), (.int .i64 0), (.int .i64 0), (.int .i64 0), (.int .i64 0), (.int .i64 0), (.int .i64 0), (.int .i64 0), (.int .i64 0), (.int .i64 0), (.int .i64 0), (.int .i64 0), (.int .i64 0), (.int .i64 0), (.int .i64 0), (.int .i64 0), (.int .i64 0), (.bool false), (.int .i64 0), (.int .i64 0), (.int .i64 0), (.int .i64 0), (.int .i64 0), (.int .i64 0), (.int .i64 0), (.int .i64 0), (.int .i64 0), (.int .i64 0), (.int .i64 0), (.int .i64 0), (.int .i64 0), (.int .i64 0), (.int .i64 0), (.bool false)]
def V21 : List Value := [(.bool false), (.bool false), (.int .i64 0), (.int .i64 0), (.int .i64 0), (.int .i64 0), (.int .i64 0), (.bool false), (.bool false), (.int .i64 0), (.int .i64 0), (.int .i64 0), (.int .i64 0), (.int .i64 0), (.int .i64 0), (.int .i64 0), (.int .i64 0), (.bool false), (.int .i64 0), (.int .i64 0), (.int .i64 0)]
def V29 : List Value := [(.string ⟨#[]⟩), (.int .i64 0), (.int .i64 0), (.int .i64 0), (.int .i64 0), (.int .i64 0), (.bool false), (.bool false), (.bool false), (.int .i64 0), (.int .i64 0), (.int .i64 0), (.bool false), (.bool false), (.bool false), (.bool false), (.int .i64 0), (.bool false), (.int .i64 0), (.bool false), (.bool false), (.int .i64 0), (.bool false), (.bool false), (.bool false), (.bool false), (.bool false), (.bool false), (.bool false)]
def V42 : List Value := [(.string ⟨#[]⟩), (.int .i64 0), (.int .i64 0), (.slice none 0 0), (.int .i64 0), (.int .i64 0), (.int .i64 0), (.int .i64 0), (.bool false), (.slice none 0 0), (.slice none 0 0), (.slice none 0 0), (.slice none 0 0), (.string ⟨#[]⟩), (.int .i64 0), (.int .i64 0), (.int .i64 0), (.int .i64 0), (.int .i64 0), (.bool false), (.bool false), (.bool false), (.int .i64 0), (.int .i64 0), (.int .i64 0), (.bool false), (.bool false), (.bool false), (.bool false), (.int .i64 0), (.bool false), (.int .i64 0), (.bool false), (.bool false), (.int .i64 0), (.bool false), (.bool false), (.bool false), (.bool false), (.bool false), (.bool false), (.bool false)]
def V203 : List Value := [(.string ⟨#[]⟩), (.int .i64 0), (.int .i64 0), (.int .i64 0), (.int .i64 0), (.int .i64 0), (.bool false), (.bool false), (.bool false), (.int .i64 0), (.int .i64 0), (.int .i64 0), (.bool false), (.bool false), (.bool false), (.bool false), (.int .i64 0), (.bool false), (.int .i64 0), (.bool false), (.bool false), (.int .i64 0), (.bool false), (.bool false), (.bool false), (.bool false), (.bool false), (.bool false), (.bool false), (.string ⟨#[]⟩), (.int .i64 0), (.int .i64 0), (.int .i64 0), (.int .i64 0), (.int .i64 0), (.bool false), (.bool false), (.bool false), (.int .i64 0), (.int .i64 0), (.int .i64 0), (.bool false), (.bool false), (.bool false), (.bool false), (.int .i64 0), (.bool false), (.int .i64 0), (.bool false), (.bool false), (.int .i64 0), (.bool false), (.bool false), (.bool false), (.bool false), (.bool false), (.bool false), (.bool false), (.string ⟨#[]⟩), (.int .i64 0), (.int .i64 0), (.int .i64 0), (.int .i64 0), (.int .i64 0), (.bool false), (.bool false), (.bool false), (.int .i64 0), (.int .i64 0), (.int .i64 0), (.bool false), (.bool false), (.bool false), (.bool false), (.int .i64 0), (.bool false), (.int .i64 0), (.bool false), (.bool false), (.int .i64 0), (.bool false), (.bool false), (.bool false), (.bool false), (.bool false), (.bool false), (.bool false), (.string ⟨#[]⟩), (.int .i64 0), (.int .i64 0), (.int .i64 0), (.int .i64 0), (.int .i64 0), (.bool false), (.bool false), (.bool false), (.int .i64 0), (.int .i64 0), (.int .i64 0), (.bool false), (.bool false), (.bool false), (.bool false), (.int .i64 0), (.bool false), (.int .i64 0), (.bool false), (.bool false), (.int .i64 0), (.bool false), (.bool false), (.bool false), (.bool false), (.bool false), (.bool false), (.bool false), (.string ⟨#[]⟩), (.int .i64 0), (.int .i64 0), (.int .i64 0), (.int .i64 0), (.int .i64 0), (.bool false), (.bool false), (.bool false), (.int .i64 0), (.int .i64 0), (.int .i64 0), (.bool false), (.bool false), (.bool false), (.bool false), (.int .i64 0), (.bool false), (.int .i64 0), (.bool false), (.bool false), (.int .i64 0), (.bool false), (.bool false), (.bool false), (.bool false), (.bool false), (.bool false), (.bool false), (.string ⟨#[]⟩), (.int .i64 0), (.int .i64 0), (.int .i64 0), (.int .i64 0), (.int .i64 0), (.bool false), (.bool false), (.bool false), (.int .i64 0), (.int .i64 0), (.int .i64 0), (.bool false), (.bool false), (.bool false), (.bool false), (.int .i64 0), (.bool false), (.int .i64 0), (.bool false), (.bool false), (.int .i64 0), (.bool false), (.bool false), (.bool false), (.bool false), (.bool false), (.bool false), (.bool false), (.string ⟨#[]⟩), (.int .i64 0), (.int .i64 0), (.int .i64 0), (.int .i64 0), (.int .i64 0), (.bool false), (.bool false), (.bool false), (.int .i64 0), (.int .i64 0), (.int .i64 0), (.bool false), (.bool false), (.bool false), (.bool false), (.int .i64 0), (.bool false), (.int .i64 0), (.bool false), (.bool false), (.int .i64 0), (.bool false), (.bool false), (.bool false), (.bool false), (.bool false), (.bool false), (.bool false)]
def BK37 : List BK := [.int, .int, .int, .int, .int, .int, .int, .int, .int, .int, .int, .int, .int, .int, .int, .int, .int, .int, .int, .int, .int, .int, .int, .int, .int, .int, .int, .int, .int, .int, .int, .int, .int, .int, .int, .int, .bool]
def BK51 : List BK := [.int, .int, .int, .int, .int, .int, .int, .int, .int, .int, .int, .int, .int, .int, .int, .int, .int, .int, .int, .int, .int, .int, .int, .int, .int, .int, .int, .int, .int, .int, .int, .int, .int, .int, .bool, .int, .int, .int, .int, .int, .int, .int, .int, .int, .int, .int, .int, .int, .int, .int, .bool]
def BK21 : List BK := [.bool, .bool, .int, .int, .int, .int, .int, .bool, .bool, .int, .int, .int, .int, .int, .int, .int, .int, .bool, .int, .int, .int]
def SA13 : List FS := [.keep, .keep, .keep, (.flat 1), .keep, .keep, .keep, .keep, .keep, (.flat 1), (.sl 2 [.keep, (.flat 6)]), (.sl 13 [.keep, (.flat 1), .keep, .keep, .keep, .keep, .keep, .keep, .keep, .keep, .keep, .keep, .keep]), (.sl 33 [.keep, (.flat 2), .keep, (.flat 2), .keep, .keep, .keep, .keep, .keep, .keep, .keep, (.flat 2), .keep, .keep, .keep, .keep, .keep, .keep, .keep, (.flat 2), .keep, .keep, .keep, .keep, .keep, .keep, .keep, .keep, .keep, .keep, .keep, .keep, .keep])]
def SA84 : List FS := [.keep, .keep, .keep, .keep, .keep, .keep, .keep, .keep, .keep, .keep, .keep, .keep, .keep, .keep, .keep, .keep, .keep, .keep, .keep, .keep, .keep, .keep, .keep, .keep, .keep, .keep, .keep, .keep, .keep, .keep, .keep, .keep, .keep, .keep, .keep, .keep, .keep, .keep, .keep, .keep, .keep, .keep, .keep, .keep, .keep, .keep, .keep, .keep, .keep, .keep, .keep, .keep, .keep, .keep, .keep, .keep, .keep, .keep, .keep, .keep, .keep, .keep, .keep, .keep, .keep, .keep, .keep, .keep, .keep, .keep, .keep, .keep, .keep, .keep, .keep, .keep, .keep, .keep, .keep, .keep, (.sl 1 [(.flat 3)]), (.flat 51), (.flat 21), .keep]
def SS13 : List FS := [.keep, (.flat 1), .keep, .keep, .keep, .keep, .keep, .keep, .keep, .keep, .keep, .keep, .keep]
def SA33 : List FS := [.keep, (.flat 2), .keep, (.flat 2), .keep, .keep, .keep, .keep, .keep, .keep, .keep, (.flat 2), .keep, .keep, .keep, .keep, .keep, .keep, .keep, (.flat 2), .keep, .keep, .keep, .keep, .keep, .keep, .keep, .keep, .keep, .keep, .keep, .keep, .keep]
def SA42 : List FS := [.keep, .keep, .keep, (.flat 1), .keep, .keep, .keep, .keep, .keep, (.flat 1), (.sl 2 [.keep, (.flat 6)]), (.sl 13 [.keep, (.flat 1), .keep, .keep, .keep, .keep, .keep, .keep, .keep, .keep, .keep, .keep, .keep]), (.sl 33 [.keep, (.flat 2), .keep, (.flat 2), .keep, .keep, .keep, .keep, .keep, .keep, .keep, (.flat 2), .keep, .keep, .keep, .keep, .keep, .keep, .keep, (.flat 2), .keep, .keep, .keep, .keep, .keep, .keep, .keep, .keep, .keep, .keep, .keep, .keep, .keep]), .keep, .keep, .keep, .keep, .keep, .keep, .keep, .keep, .keep, .keep, .keep, .keep, .keep, .keep, .keep, .keep, .keep, .keep, .keep, .keep, .keep, .keep, .keep, .keep, .keep, .keep, .keep, .keep, .keep]
open Go.Vm.G in
/-- orchestrion/orchestrionlaw12.PlayStart -/
def A3 : PFun := ⟨2, 32,
 (S (R <| o 2 (.box 27 (t 0)) <| o 4 (.move (.const (.bool false))) <| z) <|
  (S (S (R <| o 9 (.load true 13 (t 2)) <| o 10 (.call 4 [(t 9)]) <| o 11 (.un .not (t 10)) <| z) <|
  (.cond (t 11) [] [4]
  (S (R <| o 4 (.move (.const (.bool true))) <| z) <|
  .ret)
  .skip)) <|
  (S (R <| o 13 (.load true 13 (t 2)) <| m 14 1 <| o 15 (.call 5 [(t 13), (t 14)]) <| m 12 15 <| o 16 (.extract (t 12) 0) <| o 17 (.extract (t 12) 1) <| o 5 (.new 38 V84) <| n (.store 84 (t 5) (t 16)) <| m 6 17 <| z) <|
  (S (R <| o 19 (.load true 13 (t 2)) <| m 20 1 <| o 21 (.call 6 [(t 19), (t 20)]) <| m 18 21 <| o 22 (.extract (t 18) 0) <| o 23 (.extract (t 18) 1) <| o 7 (.new 38 V84) <| n (.store 84 (t 7) (t 22)) <| m 8 23 <| z) <|
  (S (R <| m 24 6 <| m 25 8 <| b 26 .eql (t 24) (t 25) <| m 27 26 <| q 31 27 true [28, 29, 30] (o 28 (.load true 84 (t 5)) <| o 29 (.load true 84 (t 7)) <| o 30 (.call 7 [(t 28), (t 29)]) <| z) (t 30) <|
  m 4 31 <| z) <|
  .ret))))),
 [.tmp 4], [.keep]⟩
theorem ok3 : ∃ fn c, FunOk Try.prog 3 fn c A3.erase := ⟨Try.f3, _, ⟨Try.func3, rfl, by kernel_rfl, by kernel_rfl, by kernel_rfl, of_decide_eq_true (by kernel_rfl), by kernel_rfl⟩⟩
noncomputable def s3 (Γ : PCallee) (n : Nat) (x0 : PV) (x1 : PV) (h : PHeap) : Pt :=
 forkP (.ptr h.length 0) (h ++ [.box (cellsP x0) 27 .rw]) fun v0 h1 =>
 (loadP true 13 v0 h1).bind fun v2 =>
 (Γ 4 [v2] h1).bind fun p3 =>
 (unP .not p3.1).bind fun v4 =>
 KL (fun w6 h7 =>
 (loadP true 13 v0 h7).bind fun v8 =>
 (Γ 5 [v8, x1] h7).bind fun p9 =>
 (extractP p9.1 0).bind fun v10 =>
 (extractP p9.1 1).bind fun v11 =>
 forkP (.ptr p9.2.length 0) (p9.2 ++ [.box Z84 38 .rw]) fun v12 h13 =>
 (storeP 84 v12 v10 h13).bind fun h14 =>
 (loadP true 13 v0 h14).bind fun v15 =>
 (Γ 6 [v15, x1] h14).bind fun p16 =>
 (extractP p16.1 0).bind fun v17 =>
 (extractP p16.1 1).bind fun v18 =>
 forkP (.ptr p16.2.length 0) (p16.2 ++ [.box Z84 38 .rw]) fun v19 h20 =>
 (storeP 84 v19 v17 h20).bind fun h21 =>
 (binP .eql v11 v18).bind fun v22 =>
 K1 (fun v24 h25 =>
 finP [.keep] h h25 [v24]) fun j23 =>
 scP v22 true (
 (loadP true 84 v12 h21).bind fun v26 =>
 (loadP true 84 v19 h21).bind fun v27 =>
 (Γ 7 [v26, v27] h21).bind fun p28 =>
 j23 p28.1 p28.2)
 (j23 (.bool false) h21)) fun j5 =>
 ifP v4 (
 finP [.keep] h p3.2 [(.bool true : PV)]) (
 j5 [] p3.2)

theorem s3_eq (Γ : PCallee) (n : Nat) (x0 : PV) (x1 : PV) (h : PHeap) : pfunK Γ n A3 [x0, x1] h = s3 Γ n x0 x1 h := by kernel_rfl


open Go.Vm.G in
/-- orchestrion/orchestrionref09.Tame -/
def A4 : PFun := ⟨1, 112,
 (S (R <| o 1 (.box 27 (t 0)) <| o 2 (.move (.const (.bool false))) <| z) <|
  (S (S (R <| f 9 10 1 <| l 10 9 <| o 11 (.len false (t 10)) <| b 12 .gtr (t 11) (i 40) <| m 13 12 <| q 18 13 false (g 14 4) (f 14 3 1 <| l 15 14 <| o 16 (.len false (t 15)) <| b 17 .gtr (t 16) (i 100) <| z) (t 17) <|
  m 19 18 <| q 24 19 false (g 20 4) (f 20 9 1 <| l 21 20 <| o 22 (.len false (t 21)) <| b 23 .gtr (t 22) (i 40) <| z) (t 23) <|
  m 25 24 <| q 30 25 false (g 26 4) (f 26 11 1 <| l 27 26 <| o 28 (.len false (t 27)) <| b 29 .gtr (t 28) (i 40) <| z) (t 29) <|
  m 31 30 <| q 36 31 false (g 32 4) (f 32 12 1 <| l 33 32 <| o 34 (.len false (t 33)) <| b 35 .gtr (t 34) (i 40) <| z) (t 35) <|
  m 37 36 <| q 42 37 false (g 38 4) (f 38 0 1 <| l 39 38 <| o 40 (.len true (t 39)) <| b 41 .gtr (t 40) (i 100) <| z) (t 41) <|
  z) <|
  (.cond (t 42) [] [2]
  (S (R <| o 2 (.move (.const (.bool false))) <| z) <|
  .ret)
  .skip)) <|
  (S (S (R <| f 43 10 1 <| l 44 43 <| o 45 (.len false (t 44)) <| o 46 (.move (i 0)) <| z) <|
  (.block 0 [] ([2, 4] ++ g 46 9)
  (.loop [46] ([2, 4] ++ g 47 8)
  (S (R <| b 47 .lss (t 46) (t 45) <| z) <|
  (S (.cond (t 47) [] []
  .skip
  (.exit 0)) <|
  (S (.block 1 [] ([2, 4] ++ g 48 6)
  (S (R <| o 48 (.indexAddr 2 (t 44) (t 46)) <| o 49 (.load true 2 (t 48)) <| o 4 (.new 46 [(.int .i64 0), (.slice none 0 0)]) <| n (.store 2 (t 4) (t 49)) <| z) <|
  (S (R <| f 50 1 4 <| l 51 50 <| o 52 (.len false (t 51)) <| b 53 .gtr (t 52) (i 2000) <| z) <|
  (.cond (t 53) [] [2]
  (S (R <| o 2 (.move (.const (.bool false))) <| z) <|
  .ret)
  .skip)))) <|
  (R <| b 54 .add (t 46) (i 1) <| m 46 54 <| z))))))) <|
  (S (S (R <| f 55 11 1 <| l 56 55 <| o 57 (.len false (t 56)) <| o 58 (.move (i 0)) <| z) <|
  (.block 2 [] ([2, 6] ++ g 58 15)
  (.loop [58] ([2, 6] ++ g 59 14)
  (S (R <| b 59 .lss (t 58) (t 57) <| z) <|
  (S (.cond (t 59) [] []
  .skip
  (.exit 2)) <|
  (S (.block 3 [] ([2, 6] ++ g 60 12)
  (S (R <| o 60 (.indexAddr 13 (t 56) (t 58)) <| o 61 (.load true 13 (t 60)) <| o 6 (.new 48 [(.string ⟨#[]⟩), (.slice none 0 0), (.int .i64 0), (.int .i64 0), (.int .i64 0), (.int .i64 0), (.int .i64 0), (.int .i64 0), (.int .i64 0), (.int .i64 0), (.int .i64 0), (.int .i64 0), (.int .i64 0)]) <| n (.store 13 (t 6) (t 61)) <| z) <|
  (S (R <| f 62 1 6 <| l 63 62 <| o 64 (.len false (t 63)) <| b 65 .gtr (t 64) (i 5000) <| m 66 65 <| q 71 66 false (g 67 4) (f 67 0 6 <| l 68 67 <| o 69 (.len true (t 68)) <| b 70 .gtr (t 69) (i 100) <| z) (t 70) <|
  z) <|
  (.cond (t 71) [] [2]
  (S (R <| o 2 (.move (.const (.bool false))) <| z) <|
  .ret)
  .skip)))) <|
  (R <| b 72 .add (t 58) (i 1) <| m 58 72 <| z))))))) <|
  (S (S (R <| f 73 12 1 <| l 74 73 <| o 75 (.len false (t 74)) <| o 76 (.move (i 0)) <| z) <|
  (.block 4 [] ([2, 8] ++ g 76 36)
  (.loop [76] ([2, 8] ++ g 77 35)
  (S (R <| b 77 .lss (t 76) (t 75) <| z) <|
  (S (.cond (t 77) [] []
  .skip
  (.exit 4)) <|
  (S (.block 5 [] ([2, 8] ++ g 78 33)
  (S (R <| o 78 (.indexAddr 33 (t 74) (t 76)) <| o 79 (.load true 33 (t 78)) <| o 8 (.new 54 V33) <| n (.store 33 (t 8) (t 79)) <| z) <|
  (S (R <| f 80 1 8 <| l 81 80 <| o 82 (.len false (t 81)) <| b 83 .gtr (t 82) (i 200) <| m 84 83 <| q 89 84 false (g 85 4) (f 85 0 8 <| l 86 85 <| o 87 (.len true (t 86)) <| b 88 .gtr (t 87) (i 100) <| z) (t 88) <|
  m 90 89 <| q 96 90 false (g 91 5) (f 91 2 8 <| f 92 1 91 <| l 93 92 <| o 94 (.len false (t 93)) <| b 95 .gtr (t 94) (i 40) <| z) (t 95) <|
  m 97 96 <| q 103 97 false (g 98 5) (f 98 10 8 <| f 99 1 98 <| l 100 99 <| o 101 (.len false (t 100)) <| b 102 .gtr (t 101) (i 40) <| z) (t 102) <|
  m 104 103 <| q 110 104 false (g 105 5) (f 105 18 8 <| f 106 1 105 <| l 107 106 <| o 108 (.len false (t 107)) <| b 109 .gtr (t 108) (i 40) <| z) (t 109) <|
  z) <|
  (.cond (t 110) [] [2]
  (S (R <| o 2 (.move (.const (.bool false))) <| z) <|
  .ret)
  .skip)))) <|
  (R <| b 111 .add (t 76) (i 1) <| m 76 111 <| z))))))) <|
  (S (R <| o 2 (.move (.const (.bool true))) <| z) <|
  .ret)))))),
 [.tmp 2], [.keep]⟩
theorem ok4 : ∃ fn c, FunOk Try.prog 4 fn c A4.erase := ⟨Try.f4, _, ⟨Try.func4, rfl, by kernel_rfl, by kernel_rfl, by kernel_rfl, of_decide_eq_true (by kernel_rfl), by kernel_rfl⟩⟩
noncomputable def s4_L0 (Γ : PCallee) (n : Nat) (h : PHeap) (h35 : PHeap) (v37 : PV) (v38 : PV) (j39 : List PV → PHeap → Pt) : (List PV → PHeap → Pt) → List PV → PHeap → Pt := fun c42 w43 h44 =>
 (binP .lss (nthP w43 0) v38).bind fun v45 =>
 KL (fun w47 h48 =>
 KL (fun w50 h51 =>
 (binP .add (nthP w43 0) (.int .i64 1 : PV)).bind fun v52 =>
 c42 [v52] (trim h35 [v52] h51)) fun j49 =>
 (indexAddrP 33 v37 (nthP w43 0)).bind fun v53 =>
 (loadP true 33 v53 h48).bind fun v54 =>
 forkP (.ptr h48.length 0) (h48 ++ [.box Z33 54 .rw]) fun v55 h56 =>
 (storeP 33 v55 v54 h56).bind fun h57 =>
 (fieldAddrP 1 v55).bind fun v58 =>
 (loadP false 1 v58 h57).bind fun v59 =>
 (lenP false v59).bind fun v60 =>
 (binP .gtr v60 (.int .i64 200 : PV)).bind fun v61 =>
 K1 (fun v63 h64 =>
 K1 (fun v66 h67 =>
 K1 (fun v69 h70 =>
 K1 (fun v72 h73 =>
 KL (fun w75 h76 =>
 j49 [] h76) fun j74 =>
 ifP v72 (
 finP [.keep] h h73 [(.bool false : PV)]) (
 j74 [] h73)) fun j71 =>
 scP v69 false (
 (fieldAddrP 18 v55).bind fun v77 =>
 (fieldAddrP 1 v77).bind fun v78 =>
 (loadP false 1 v78 h70).bind fun v79 =>
 (lenP false v79).bind fun v80 =>
 (binP .gtr v80 (.int .i64 40 : PV)).bind fun v81 =>
 j71 v81 h70)
 (j71 (.bool true) h70)) fun j68 =>
 scP v66 false (
 (fieldAddrP 10 v55).bind fun v82 =>
 (fieldAddrP 1 v82).bind fun v83 =>
 (loadP false 1 v83 h67).bind fun v84 =>
 (lenP false v84).bind fun v85 =>
 (binP .gtr v85 (.int .i64 40 : PV)).bind fun v86 =>
 j68 v86 h67)
 (j68 (.bool true) h67)) fun j65 =>
 scP v63 false (
 (fieldAddrP 2 v55).bind fun v87 =>
 (fieldAddrP 1 v87).bind fun v88 =>
 (loadP false 1 v88 h64).bind fun v89 =>
 (lenP false v89).bind fun v90 =>
 (binP .gtr v90 (.int .i64 40 : PV)).bind fun v91 =>
 j65 v91 h64)
 (j65 (.bool true) h64)) fun j62 =>
 scP v61 false (
 (fieldAddrP 0 v55).bind fun v92 =>
 (loadP false 1 v92 h57).bind fun v93 =>
 (lenP true v93).bind fun v94 =>
 (binP .gtr v94 (.int .i64 100 : PV)).bind fun v95 =>
 j62 v95 h57)
 (j62 (.bool true) h57)) fun j46 =>
 ifP v45 (
 j46 [] h44) (
 j39 [] h44)
noncomputable def s4_L1 (Γ : PCallee) (n : Nat) (h : PHeap) (h29 : PHeap) (v31 : PV) (v32 : PV) (j33 : List PV → PHeap → Pt) : (List PV → PHeap → Pt) → List PV → PHeap → Pt := fun c96 w97 h98 =>
 (binP .lss (nthP w97 0) v32).bind fun v99 =>
 KL (fun w101 h102 =>
 KL (fun w104 h105 =>
 (binP .add (nthP w97 0) (.int .i64 1 : PV)).bind fun v106 =>
 c96 [v106] (trim h29 [v106] h105)) fun j103 =>
 (indexAddrP 13 v31 (nthP w97 0)).bind fun v107 =>
 (loadP true 13 v107 h102).bind fun v108 =>
 forkP (.ptr h102.length 0) (h102 ++ [.box [.str ⟨#[]⟩, .nilS, .int .i64 0, .int .i64 0, .int .i64 0, .int .i64 0, .int .i64 0, .int .i64 0, .int .i64 0, .int .i64 0, .int .i64 0, .int .i64 0, .int .i64 0] 48 .rw]) fun v109 h110 =>
 (storeP 13 v109 v108 h110).bind fun h111 =>
 (fieldAddrP 1 v109).bind fun v112 =>
 (loadP false 1 v112 h111).bind fun v113 =>
 (lenP false v113).bind fun v114 =>
 (binP .gtr v114 (.int .i64 5000 : PV)).bind fun v115 =>
 K1 (fun v117 h118 =>
 KL (fun w120 h121 =>
 j103 [] h121) fun j119 =>
 ifP v117 (
 finP [.keep] h h118 [(.bool false : PV)]) (
 j119 [] h118)) fun j116 =>
 scP v115 false (
 (fieldAddrP 0 v109).bind fun v122 =>
 (loadP false 1 v122 h111).bind fun v123 =>
 (lenP true v123).bind fun v124 =>
 (binP .gtr v124 (.int .i64 100 : PV)).bind fun v125 =>
 j116 v125 h111)
 (j116 (.bool true) h111)) fun j100 =>
 ifP v99 (
 j100 [] h98) (
 j33 [] h98)
noncomputable def s4_L2 (Γ : PCallee) (n : Nat) (h : PHeap) (h23 : PHeap) (v25 : PV) (v26 : PV) (j27 : List PV → PHeap → Pt) : (List PV → PHeap → Pt) → List PV → PHeap → Pt := fun c126 w127 h128 =>
 (binP .lss (nthP w127 0) v26).bind fun v129 =>
 KL (fun w131 h132 =>
 KL (fun w134 h135 =>
 (binP .add (nthP w127 0) (.int .i64 1 : PV)).bind fun v136 =>
 c126 [v136] (trim h23 [v136] h135)) fun j133 =>
 (indexAddrP 2 v25 (nthP w127 0)).bind fun v137 =>
 (loadP true 2 v137 h132).bind fun v138 =>
 forkP (.ptr h132.length 0) (h132 ++ [.box [.int .i64 0, .nilS] 46 .rw]) fun v139 h140 =>
 (storeP 2 v139 v138 h140).bind fun h141 =>
 (fieldAddrP 1 v139).bind fun v142 =>
 (loadP false 1 v142 h141).bind fun v143 =>
 (lenP false v143).bind fun v144 =>
 (binP .gtr v144 (.int .i64 2000 : PV)).bind fun v145 =>
 KL (fun w147 h148 =>
 j133 [] h148) fun j146 =>
 ifP v145 (
 finP [.keep] h h141 [(.bool false : PV)]) (
 j146 [] h141)) fun j130 =>
 ifP v129 (
 j130 [] h128) (
 j27 [] h128)
noncomputable def s4 (Γ : PCallee) (n : Nat) (x0 : PV) (h : PHeap) : Pt :=
 forkP (.ptr h.length 0) (h ++ [.box (cellsP x0) 27 .rw]) fun v0 h1 =>
 (fieldAddrP 10 v0).bind fun v2 =>
 (loadP false 1 v2 h1).bind fun v3 =>
 (lenP false v3).bind fun v4 =>
 (binP .gtr v4 (.int .i64 40 : PV)).bind fun v5 =>
 K1 (fun v7 h8 =>
 K1 (fun v10 h11 =>
 K1 (fun v13 h14 =>
 K1 (fun v16 h17 =>
 K1 (fun v19 h20 =>
 KL (fun w22 h23 =>
 (fieldAddrP 10 v0).bind fun v24 =>
 (loadP false 1 v24 h23).bind fun v25 =>
 (lenP false v25).bind fun v26 =>
 KL (fun w28 h29 =>
 (fieldAddrP 11 v0).bind fun v30 =>
 (loadP false 1 v30 h29).bind fun v31 =>
 (lenP false v31).bind fun v32 =>
 KL (fun w34 h35 =>
 (fieldAddrP 12 v0).bind fun v36 =>
 (loadP false 1 v36 h35).bind fun v37 =>
 (lenP false v37).bind fun v38 =>
 KL (fun w40 h41 =>
 finP [.keep] h h41 [(.bool true : PV)]) fun j39 =>
 loopP (s4_L0 Γ n h h35 v37 v38 j39) n [(.int .i64 0 : PV)] h35) fun j33 =>
 loopP (s4_L1 Γ n h h29 v31 v32 j33) n [(.int .i64 0 : PV)] h29) fun j27 =>
 loopP (s4_L2 Γ n h h23 v25 v26 j27) n [(.int .i64 0 : PV)] h23) fun j21 =>
 ifP v19 (
 finP [.keep] h h20 [(.bool false : PV)]) (
 j21 [] h20)) fun j18 =>
 scP v16 false (
 (fieldAddrP 0 v0).bind fun v149 =>
 (loadP false 1 v149 h17).bind fun v150 =>
 (lenP true v150).bind fun v151 =>
 (binP .gtr v151 (.int .i64 100 : PV)).bind fun v152 =>
 j18 v152 h17)
 (j18 (.bool true) h17)) fun j15 =>
 scP v13 false (
 (fieldAddrP 12 v0).bind fun v153 =>
 (loadP false 1 v153 h14).bind fun v154 =>
 (lenP false v154).bind fun v155 =>
 (binP .gtr v155 (.int .i64 40 : PV)).bind fun v156 =>
 j15 v156 h14)
 (j15 (.bool true) h14)) fun j12 =>
 scP v10 false (
 (fieldAddrP 11 v0).bind fun v157 =>
 (loadP false 1 v157 h11).bind fun v158 =>
 (lenP false v158).bind fun v159 =>
 (binP .gtr v159 (.int .i64 40 : PV)).bind fun v160 =>
 j12 v160 h11)
 (j12 (.bool true) h11)) fun j9 =>
 scP v7 false (
 (fieldAddrP 9 v0).bind fun v161 =>
 (loadP false 1 v161 h8).bind fun v162 =>
 (lenP false v162).bind fun v163 =>
 (binP .gtr v163 (.int .i64 40 : PV)).bind fun v164 =>
 j9 v164 h8)
 (j9 (.bool true) h8)) fun j6 =>
 scP v5 false (
 (fieldAddrP 3 v0).bind fun v165 =>
 (loadP false 1 v165 h1).bind fun v166 =>
 (lenP false v166).bind fun v167 =>
 (binP .gtr v167 (.int .i64 100 : PV)).bind fun v168 =>
 j6 v168 h1)
 (j6 (.bool true) h1)

theorem s4_eq (Γ : PCallee) (n : Nat) (x0 : PV) (h : PHeap) : pfunK Γ n A4 [x0] h = s4 Γ n x0 h := by kernel_rfl


open Go.Vm.G in
/-- orchestrion/play.Start -/
def A5 : PFun := ⟨2, 20,
 (S (R <| o 2 (.box 27 (t 0)) <| o 4 (.new 38 V84) <| o 5 (.move (i 0)) <| z) <|
  (S (R <| o 9 (.load true 13 (t 2)) <| m 10 1 <| F 9 (.agg SA13) <| o 11 (.call 8 [(t 9), (t 10)]) <| m 8 11 <| o 12 (.extract (t 8) 0) <| o 13 (.extract (t 8) 1) <| o 6 (.new 31 V37) <| n (.store 37 (t 6) (t 12)) <| m 7 13 <| z) <|
  (S (S (R <| m 14 7 <| b 15 .neq (t 14) (i 0) <| z) <|
  (.cond (t 15) [] [5, 16, 17]
  (S (R <| o 16 (.build V84 []) <| m 17 7 <| n (.store 84 (t 4) (t 16)) <| m 5 17 <| z) <|
  .ret)
  .skip)) <|
  (S (R <| o 18 (.load true 37 (t 6)) <| o 19 (.call 9 [(t 2), (t 18)]) <| n (.store 84 (t 4) (t 19)) <| o 5 (.move (i 0)) <| z) <|
  .ret)))),
 [.cell 4 true 84, .tmp 5], [(.agg SA84), .keep]⟩
theorem ok5 : ∃ fn c, FunOk Try.prog 5 fn c A5.erase := ⟨Try.f5, _, ⟨Try.func5, rfl, by kernel_rfl, by kernel_rfl, by kernel_rfl, of_decide_eq_true (by kernel_rfl), by kernel_rfl⟩⟩
noncomputable def s5 (Γ : PCallee) (n : Nat) (x0 : PV) (x1 : PV) (h : PHeap) : Pt :=
 forkP (.ptr h.length 0) (h ++ [.box (cellsP x0) 27 .rw]) fun v0 h1 =>
 forkP (.ptr h1.length 0) (h1 ++ [.box Z84 38 .rw]) fun v2 h3 =>
 (loadP true 13 v0 h3).bind fun v4 =>
 (fz (.agg SA13) v4 h3).bind fun q5 =>
 (Γ 8 [q5.1, x1] q5.2).bind fun p6 =>
 (extractP p6.1 0).bind fun v7 =>
 (extractP p6.1 1).bind fun v8 =>
 forkP (.ptr p6.2.length 0) (p6.2 ++ [.box Z37 31 .rw]) fun v9 h10 =>
 (storeP 37 v9 v7 h10).bind fun h11 =>
 (binP .neq v8 (.int .i64 0 : PV)).bind fun v12 =>
 KL (fun w14 h15 =>
 (loadP true 37 v9 h15).bind fun v16 =>
 (Γ 9 [v0, v16] h15).bind fun p17 =>
 (storeP 84 v2 p17.1 p17.2).bind fun h18 =>
 (loadP true 84 v2 h18).bind fun v19 =>
 finP [(.agg SA84), .keep] h h18 [v19, (.int .i64 0 : PV)]) fun j13 =>
 ifP v12 (
 (fillP Z84 []).bind fun l20 =>
 (storeP 84 v2 (PV.agg l20) h11).bind fun h21 =>
 (loadP true 84 v2 h21).bind fun v22 =>
 finP [(.agg SA84), .keep] h h21 [v22, v8]) (
 j13 [] h11)

theorem s5_eq (Γ : PCallee) (n : Nat) (x0 : PV) (x1 : PV) (h : PHeap) : pfunK Γ n A5 [x0, x1] h = s5 Γ n x0 x1 h := by kernel_rfl


open Go.Vm.G in
/-- orchestrion/orchestrionref12.Start -/
def A6 : PFun := ⟨2, 46,
 (S (R <| o 2 (.box 27 (t 0)) <| o 4 (.new 38 V84) <| o 5 (.move (i 0)) <| z) <|
  (S (R <| o 13 (.load true 13 (t 2)) <| m 14 1 <| o 15 (.call 10 [(t 13), (t 14)]) <| m 12 15 <| o 16 (.extract (t 12) 0) <| o 17 (.extract (t 12) 1) <| o 6 (.new 31 V37) <| n (.store 37 (t 6) (t 16)) <| m 7 17 <| z) <|
  (S (S (R <| m 18 7 <| b 19 .neq (t 18) (i 0) <| z) <|
  (.cond (t 19) [] [5, 20, 21]
  (S (R <| o 20 (.build V84 []) <| m 21 7 <| n (.store 84 (t 4) (t 20)) <| m 5 21 <| z) <|
  .ret)
  .skip)) <|
  (S (D <| o 22 (.load true 37 (t 6)) <| O 23 (.call 11 []) <| f 24 7 2 <| l 25 24 <| o 26 (.build V84 [(0, 37, (t 22)), (82, 1, (t 23)), (83, 1, (t 25))]) <| o 8 (.new 38 V84) <| n (.store 84 (t 8) (t 26)) <| z) <|
  (S (S (R <| o 9 (.move (i 0)) <| z) <|
  (.block 0 [] ([9, 10, 11] ++ g 27 18)
  (.loop [9] ([10, 11] ++ g 27 18)
  (S (S (R <| m 27 9 <| f 28 2 2 <| l 29 28 <| b 30 .lss (t 27) (t 29) <| z) <|
  (.cond (t 30) [] []
  .skip
  (.exit 0))) <|
  (S (.block 1 [] ([10, 11] ++ g 33 12)
  (S (R <| o 34 (.load true 13 (t 2)) <| m 35 9 <| o 36 (.call 12 [(t 34), (t 35)]) <| m 33 36 <| o 37 (.extract (t 33) 0) <| o 38 (.extract (t 33) 1) <| o 10 (.new 64 V51) <| n (.store 51 (t 10) (t 37)) <| m 11 38 <| z) <|
  (R <| f 39 81 8 <| l 40 39 <| o 41 (.load true 51 (t 10)) <| (.op (some 42) (.buildF 64 V51 1 [(0, 51, (t 41))]) false <| o 43 (.append 64 51 (t 40) (t 42)) <| f 44 81 8 <| n (.store 1 (t 44) (t 43)) <| z)))) <|
  (R <| m 31 9 <| b 32 .add (t 31) (i 1) <| m 9 32 <| z)))))) <|
  (S (R <| o 45 (.load true 84 (t 8)) <| n (.store 84 (t 4) (t 45)) <| o 5 (.move (i 0)) <| z) <|
  .ret)))))),
 [.cell 4 true 84, .tmp 5], [(.agg SA84), .keep]⟩
theorem ok6 : ∃ fn c, FunOk Try.prog 6 fn c A6.erase := ⟨Try.f6, _, ⟨Try.func6, rfl, by kernel_rfl, by kernel_rfl, by kernel_rfl, of_decide_eq_true (by kernel_rfl), by kernel_rfl⟩⟩
noncomputable def s6_L0 (Γ : PCallee) (n : Nat) (v0 : PV) (v21 : PV) (h23 : PHeap) (j24 : List PV → PHeap → Pt) : (List PV → PHeap → Pt) → List PV → PHeap → Pt := fun c30 w31 h32 =>
 (fieldAddrP 2 v0).bind fun v33 =>
 (loadP false 1 v33 h32).bind fun v34 =>
 (binP .lss (nthP w31 0) v34).bind fun v35 =>
 KL (fun w37 h38 =>
 KL (fun w40 h41 =>
 (binP .add (nthP w31 0) (.int .i64 1 : PV)).bind fun v42 =>
 c30 [v42] (trim h23 [v42] h41)) fun j39 =>
 (loadP true 13 v0 h38).bind fun v43 =>
 (Γ 12 [v43, (nthP w31 0)] h38).bind fun p44 =>
 (extractP p44.1 0).bind fun v45 =>
 (extractP p44.1 1).bind fun v46 =>
 forkP (.ptr p44.2.length 0) (p44.2 ++ [.box Z51 64 .rw]) fun v47 h48 =>
 (storeP 51 v47 v45 h48).bind fun h49 =>
 (fieldAddrP 81 v21).bind fun v50 =>
 (loadP false 1 v50 h49).bind fun v51 =>
 (loadP true 51 v47 h49).bind fun v52 =>
 (fillP (repP Z51 1) [(0, 51, v52)]).bind fun l53 =>
 guardP (l53.all pure1) (
 forkP (.frz 51 (chunk 51 1 l53)) (h49) fun v54 h55 =>
 (appendP 64 51 v51 v54 h55).bind fun p56 =>
 (fieldAddrP 81 v21).bind fun v57 =>
 (storeP 1 v57 p56.1 p56.2).bind fun h58 =>
 j39 [] h58)) fun j36 =>
 ifP v35 (
 j36 [] h32) (
 j24 [] h32)
noncomputable def s6 (Γ : PCallee) (n : Nat) (x0 : PV) (x1 : PV) (h : PHeap) : Pt :=
 forkP (.ptr h.length 0) (h ++ [.box (cellsP x0) 27 .rw]) fun v0 h1 =>
 forkP (.ptr h1.length 0) (h1 ++ [.box Z84 38 .rw]) fun v2 h3 =>
 (loadP true 13 v0 h3).bind fun v4 =>
 (Γ 10 [v4, x1] h3).bind fun p5 =>
 (extractP p5.1 0).bind fun v6 =>
 (extractP p5.1 1).bind fun v7 =>
 forkP (.ptr p5.2.length 0) (p5.2 ++ [.box Z37 31 .rw]) fun v8 h9 =>
 (storeP 37 v8 v6 h9).bind fun h10 =>
 (binP .neq v7 (.int .i64 0 : PV)).bind fun v11 =>
 KL (fun w13 h14 =>
 (loadP true 37 v8 h14).bind fun v15 =>
 (Γ 11 [] (lock h14)).bind fun p16 =>
 unl h14 p16.2 fun h17 =>
 (fieldAddrP 7 v0).bind fun v18 =>
 (loadP false 1 v18 h17).bind fun v19 =>
 (fillP Z84 [(0, 37, v15), (82, 1, p16.1), (83, 1, v19)]).bind fun l20 =>
 forkP (.ptr h17.length 0) (h17 ++ [.box Z84 38 .rw]) fun v21 h22 =>
 (storeP 84 v21 (PV.agg l20) h22).bind fun h23 =>
 KL (fun w25 h26 =>
 (loadP true 84 v21 h26).bind fun v27 =>
 (storeP 84 v2 v27 h26).bind fun h28 =>
 (loadP true 84 v2 h28).bind fun v29 =>
 finP [(.agg SA84), .keep] h h28 [v29, (.int .i64 0 : PV)]) fun j24 =>
 loopP (s6_L0 Γ n v0 v21 h23 j24) n [(.int .i64 0 : PV)] h23) fun j12 =>
 ifP v11 (
 (fillP Z84 []).bind fun l59 =>
 (storeP 84 v2 (PV.agg l59) h10).bind fun h60 =>
 (loadP true 84 v2 h60).bind fun v61 =>
 finP [(.agg SA84), .keep] h h60 [v61, v7]) (
 j12 [] h10)

theorem s6_eq (Γ : PCallee) (n : Nat) (x0 : PV) (x1 : PV) (h : PHeap) : pfunK Γ n A6 [x0, x1] h = s6 Γ n x0 x1 h := by kernel_rfl


open Go.Vm.G in
/-- orchestrion/orchestrionref12.SameState -/
def A7 : PFun := ⟨2, 77,
 (S (R <| o 2 (.box 38 (t 0)) <| o 3 (.box 38 (t 1)) <| o 4 (.move (.const (.bool false))) <| z) <|
  (S (S (R <| f 6 0 2 <| o 7 (.load true 37 (t 6)) <| f 8 0 3 <| o 9 (.load true 37 (t 8)) <| o 10 (.eqAgg BK37 true (t 7) (t 9)) <| m 11 10 <| q 17 11 false (g 12 5) (f 12 37 2 <| o 13 (.load true 37 (t 12)) <| f 14 37 3 <| o 15 (.load true 37 (t 14)) <| o 16 (.eqAgg BK37 true (t 13) (t 15)) <| z) (t 16) <|
  m 18 17 <| q 24 18 false (g 19 5) (f 19 74 2 <| o 20 (.load true 5 (t 19)) <| f 21 74 3 <| o 22 (.load true 5 (t 21)) <| o 23 (.eqAgg [.int, .int, .int, .int, .int] true (t 20) (t 22)) <| z) (t 23) <|
  m 25 24 <| q 31 25 false (g 26 5) (f 26 79 2 <| l 27 26 <| f 28 79 3 <| l 29 28 <| b 30 .neq (t 27) (t 29) <| z) (t 30) <|
  m 32 31 <| q 38 32 false (g 33 5) (f 33 83 2 <| l 34 33 <| f 35 83 3 <| l 36 35 <| b 37 .neq (t 34) (t 36) <| z) (t 37) <|
  z) <|
  (.cond (t 38) [] [4]
  (S (R <| o 4 (.move (.const (.bool false))) <| z) <|
  .ret)
  .skip)) <|
  (S (S (R <| f 39 80 2 <| l 40 39 <| o 41 (.len false (t 40)) <| f 42 80 3 <| l 43 42 <| o 44 (.len false (t 43)) <| b 45 .neq (t 41) (t 44) <| z) <|
  (.cond (t 45) [] [4]
  (S (R <| o 4 (.move (.const (.bool false))) <| z) <|
  .ret)
  .skip)) <|
  (S (S (R <| f 46 80 2 <| l 47 46 <| o 48 (.len false (t 47)) <| o 49 (.move (i 0)) <| z) <|
  (.block 0 [] ([4, 5] ++ g 49 16)
  (.loop [49] ([4, 5] ++ g 50 15)
  (S (R <| b 50 .lss (t 49) (t 48) <| z) <|
  (S (.cond (t 50) [] []
  .skip
  (.exit 0)) <|
  (S (.block 1 [] ([4, 5] ++ g 51 13)
  (S (R <| m 51 49 <| m 5 51 <| z) <|
  (S (D <| f 52 80 2 <| l 53 52 <| m 54 5 <| o 55 (.indexAddr 1 (t 53) (t 54)) <| l 56 55 <| f 57 80 3 <| l 58 57 <| m 59 5 <| o 60 (.indexAddr 1 (t 58) (t 59)) <| l 61 60 <| o 62 (.call 13 [(t 56), (t 61)]) <| o 63 (.un .not (t 62)) <| z) <|
  (.cond (t 63) [] [4]
  (S (R <| o 4 (.move (.const (.bool false))) <| z) <|
  .ret)
  .skip)))) <|
  (R <| b 64 .add (t 49) (i 1) <| m 49 64 <| z))))))) <|
  (S (R <| f 65 81 2 <| l 66 65 <| f 67 81 3 <| l 68 67 <| o 69 (.call 14 [(t 66), (t 68)]) <| m 70 69 <| q 76 70 true (g 71 5) (f 71 82 2 <| l 72 71 <| f 73 82 3 <| l 74 73 <| o 75 (.call 15 [(t 72), (t 74)]) <| z) (t 75) <|
  m 4 76 <| z) <|
  .ret))))),
 [.tmp 4], [.keep]⟩
theorem ok7 : ∃ fn c, FunOk Try.prog 7 fn c A7.erase := ⟨Try.f7, _, ⟨Try.func7, rfl, by kernel_rfl, by kernel_rfl, by kernel_rfl, of_decide_eq_true (by kernel_rfl), by kernel_rfl⟩⟩
noncomputable def s7_L0 (Γ : PCallee) (n : Nat) (h : PHeap) (v0 : PV) (v2 : PV) (h33 : PHeap) (v36 : PV) (j37 : List PV → PHeap → Pt) : (List PV → PHeap → Pt) → List PV → PHeap → Pt := fun c53 w54 h55 =>
 (binP .lss (nthP w54 0) v36).bind fun v56 =>
 KL (fun w58 h59 =>
 KL (fun w61 h62 =>
 (binP .add (nthP w54 0) (.int .i64 1 : PV)).bind fun v63 =>
 c53 [v63] (trim h33 [v63] h62)) fun j60 =>
 (fieldAddrP 80 v0).bind fun v64 =>
 (loadP false 1 v64 h59).bind fun v65 =>
 (indexAddrP 1 v65 (nthP w54 0)).bind fun v66 =>
 (loadP false 1 v66 h59).bind fun v67 =>
 (fieldAddrP 80 v2).bind fun v68 =>
 (loadP false 1 v68 h59).bind fun v69 =>
 (indexAddrP 1 v69 (nthP w54 0)).bind fun v70 =>
 (loadP false 1 v70 h59).bind fun v71 =>
 (Γ 13 [v67, v71] h59).bind fun p72 =>
 (unP .not p72.1).bind fun v73 =>
 KL (fun w75 h76 =>
 j60 [] h76) fun j74 =>
 ifP v73 (
 finP [.keep] h p72.2 [(.bool false : PV)]) (
 j74 [] p72.2)) fun j57 =>
 ifP v56 (
 j57 [] h55) (
 j37 [] h55)
noncomputable def s7 (Γ : PCallee) (n : Nat) (x0 : PV) (x1 : PV) (h : PHeap) : Pt :=
 forkP (.ptr h.length 0) (h ++ [.box (cellsP x0) 38 .rw]) fun v0 h1 =>
 forkP (.ptr h1.length 0) (h1 ++ [.box (cellsP x1) 38 .rw]) fun v2 h3 =>
 (fieldAddrP 0 v0).bind fun v4 =>
 (loadP true 37 v4 h3).bind fun v5 =>
 (fieldAddrP 0 v2).bind fun v6 =>
 (loadP true 37 v6 h3).bind fun v7 =>
 (eqAggP BK37 true v5 v7).bind fun v8 =>
 K1 (fun v10 h11 =>
 K1 (fun v13 h14 =>
 K1 (fun v16 h17 =>
 K1 (fun v19 h20 =>
 KL (fun w22 h23 =>
 (fieldAddrP 80 v0).bind fun v24 =>
 (loadP false 1 v24 h23).bind fun v25 =>
 (lenP false v25).bind fun v26 =>
 (fieldAddrP 80 v2).bind fun v27 =>
 (loadP false 1 v27 h23).bind fun v28 =>
 (lenP false v28).bind fun v29 =>
 (binP .neq v26 v29).bind fun v30 =>
 KL (fun w32 h33 =>
 (fieldAddrP 80 v0).bind fun v34 =>
 (loadP false 1 v34 h33).bind fun v35 =>
 (lenP false v35).bind fun v36 =>
 KL (fun w38 h39 =>
 (fieldAddrP 81 v0).bind fun v40 =>
 (loadP false 1 v40 h39).bind fun v41 =>
 (fieldAddrP 81 v2).bind fun v42 =>
 (loadP false 1 v42 h39).bind fun v43 =>
 (Γ 14 [v41, v43] h39).bind fun p44 =>
 K1 (fun v46 h47 =>
 finP [.keep] h h47 [v46]) fun j45 =>
 scP p44.1 true (
 (fieldAddrP 82 v0).bind fun v48 =>
 (loadP false 1 v48 p44.2).bind fun v49 =>
 (fieldAddrP 82 v2).bind fun v50 =>
 (loadP false 1 v50 p44.2).bind fun v51 =>
 (Γ 15 [v49, v51] p44.2).bind fun p52 =>
 j45 p52.1 p52.2)
 (j45 (.bool false) p44.2)) fun j37 =>
 loopP (s7_L0 Γ n h v0 v2 h33 v36 j37) n [(.int .i64 0 : PV)] h33) fun j31 =>
 ifP v30 (
 finP [.keep] h h23 [(.bool false : PV)]) (
 j31 [] h23)) fun j21 =>
 ifP v19 (
 finP [.keep] h h20 [(.bool false : PV)]) (
 j21 [] h20)) fun j18 =>
 scP v16 false (
 (fieldAddrP 83 v0).bind fun v77 =>
 (loadP false 1 v77 h17).bind fun v78 =>
 (fieldAddrP 83 v2).bind fun v79 =>
 (loadP false 1 v79 h17).bind fun v80 =>
 (binP .neq v78 v80).bind fun v81 =>
 j18 v81 h17)
 (j18 (.bool true) h17)) fun j15 =>
 scP v13 false (
 (fieldAddrP 79 v0).bind fun v82 =>
 (loadP false 1 v82 h14).bind fun v83 =>
 (fieldAddrP 79 v2).bind fun v84 =>
 (loadP false 1 v84 h14).bind fun v85 =>
 (binP .neq v83 v85).bind fun v86 =>
 j15 v86 h14)
 (j15 (.bool true) h14)) fun j12 =>
 scP v10 false (
 (fieldAddrP 74 v0).bind fun v87 =>
 (loadP true 5 v87 h11).bind fun v88 =>
 (fieldAddrP 74 v2).bind fun v89 =>
 (loadP true 5 v89 h11).bind fun v90 =>
 (eqAggP [.int, .int, .int, .int, .int] true v88 v90).bind fun v91 =>
 j12 v91 h11)
 (j12 (.bool true) h11)) fun j9 =>
 scP v8 false (
 (fieldAddrP 37 v0).bind fun v92 =>
 (loadP true 37 v92 h3).bind fun v93 =>
 (fieldAddrP 37 v2).bind fun v94 =>
 (loadP true 37 v94 h3).bind fun v95 =>
 (eqAggP BK37 true v93 v95).bind fun v96 =>
 j9 v96 h3)
 (j9 (.bool true) h3)

theorem s7_eq (Γ : PCallee) (n : Nat) (x0 : PV) (x1 : PV) (h : PHeap) : pfunK Γ n A7 [x0, x1] h = s7 Γ n x0 x1 h := by kernel_rfl


open Go.Vm.G in
/-- orchestrion/order.Start -/
def A8 : PFun := ⟨2, 39,
 (S (R <| o 2 (.box 27 (t 0)) <| o 4 (.new 31 V37) <| o 5 (.move (i 0)) <| z) <|
  (S (S (R <| o 9 (.load true 13 (t 2)) <| F 9 (.agg SA13) <| o 10 (.call 16 [(t 9)]) <| o 11 (.un .not (t 10)) <| z) <|
  (.cond (t 11) [] [5, 12]
  (S (R <| o 12 (.build V37 []) <| n (.store 37 (t 4) (t 12)) <| o 5 (.move (i 1)) <| z) <|
  .ret)
  .skip)) <|
  (S (S (R <| m 13 1 <| b 14 .lss (t 13) (i 0) <| m 15 14 <| q 21 15 false (g 16 5) (m 16 1 <| f 17 3 2 <| l 18 17 <| o 19 (.len false (t 18)) <| b 20 .geq (t 16) (t 19) <| z) (t 20) <|
  z) <|
  (.cond (t 21) [] [5, 22]
  (S (R <| o 22 (.build V37 []) <| n (.store 37 (t 4) (t 22)) <| o 5 (.move (i 5)) <| z) <|
  .ret)
  .skip)) <|
  (S (R <| m 24 1 <| o 25 (.call 17 [(t 2), (t 24), (i 0)]) <| m 23 25 <| o 26 (.extract (t 23) 0) <| o 27 (.extract (t 23) 1) <| o 28 (.extract (t 23) 2) <| m 6 26 <| m 7 27 <| m 8 28 <| z) <|
  (S (S (R <| m 29 8 <| o 30 (.un .not (t 29)) <| z) <|
  (.cond (t 30) [] [5, 31]
  (S (R <| o 31 (.build V37 []) <| n (.store 37 (t 4) (t 31)) <| o 5 (.move (i 7)) <| z) <|
  .ret)
  .skip)) <|
  (S (R <| m 32 6 <| m 33 7 <| f 34 5 2 <| l 35 34 <| f 36 6 2 <| l 37 36 <| o 38 (.build V37 [(0, 1, (t 32)), (1, 1, (t 33)), (2, 1, (t 35)), (3, 1, (t 37))]) <| n (.store 37 (t 4) (t 38)) <| o 5 (.move (i 0)) <| z) <|
  .ret)))))),
 [.cell 4 true 37, .tmp 5], [.keep, .keep]⟩
theorem ok8 : ∃ fn c, FunOk Try.prog 8 fn c A8.erase := ⟨Try.f8, _, ⟨Try.func8, rfl, by kernel_rfl, by kernel_rfl, by kernel_rfl, of_decide_eq_true (by kernel_rfl), by kernel_rfl⟩⟩
noncomputable def s8 (Γ : PCallee) (n : Nat) (x0 : PV) (x1 : PV) (h : PHeap) : Pt :=
 forkP (.ptr h.length 0) (h ++ [.box (cellsP x0) 27 .rw]) fun v0 h1 =>
 forkP (.ptr h1.length 0) (h1 ++ [.box Z37 31 .rw]) fun v2 h3 =>
 (loadP true 13 v0 h3).bind fun v4 =>
 (fz (.agg SA13) v4 h3).bind fun q5 =>
 (Γ 16 [q5.1] q5.2).bind fun p6 =>
 (unP .not p6.1).bind fun v7 =>
 KL (fun w9 h10 =>
 (binP .lss x1 (.int .i64 0 : PV)).bind fun v11 =>
 K1 (fun v13 h14 =>
 KL (fun w16 h17 =>
 (Γ 17 [v0, x1, (.int .i64 0 : PV)] h17).bind fun p18 =>
 (extractP p18.1 0).bind fun v19 =>
 (extractP p18.1 1).bind fun v20 =>
 (extractP p18.1 2).bind fun v21 =>
 (unP .not v21).bind fun v22 =>
 KL (fun w24 h25 =>
 (fieldAddrP 5 v0).bind fun v26 =>
 (loadP false 1 v26 h25).bind fun v27 =>
 (fieldAddrP 6 v0).bind fun v28 =>
 (loadP false 1 v28 h25).bind fun v29 =>
 (fillP Z37 [(0, 1, v19), (1, 1, v20), (2, 1, v27), (3, 1, v29)]).bind fun l30 =>
 (storeP 37 v2 (PV.agg l30) h25).bind fun h31 =>
 (loadP true 37 v2 h31).bind fun v32 =>
 finP [.keep, .keep] h h31 [v32, (.int .i64 0 : PV)]) fun j23 =>
 ifP v22 (
 (fillP Z37 []).bind fun l33 =>
 (storeP 37 v2 (PV.agg l33) p18.2).bind fun h34 =>
 (loadP true 37 v2 h34).bind fun v35 =>
 finP [.keep, .keep] h h34 [v35, (.int .i64 7 : PV)]) (
 j23 [] p18.2)) fun j15 =>
 ifP v13 (
 (fillP Z37 []).bind fun l36 =>
 (storeP 37 v2 (PV.agg l36) h14).bind fun h37 =>
 (loadP true 37 v2 h37).bind fun v38 =>
 finP [.keep, .keep] h h37 [v38, (.int .i64 5 : PV)]) (
 j15 [] h14)) fun j12 =>
 scP v11 false (
 (fieldAddrP 3 v0).bind fun v39 =>
 (loadP false 1 v39 h10).bind fun v40 =>
 (lenP false v40).bind fun v41 =>
 (binP .geq x1 v41).bind fun v42 =>
 j12 v42 h10)
 (j12 (.bool true) h10)) fun j8 =>
 ifP v7 (
 (fillP Z37 []).bind fun l43 =>
 (storeP 37 v2 (PV.agg l43) p6.2).bind fun h44 =>
 (loadP true 37 v2 h44).bind fun v45 =>
 finP [.keep, .keep] h h44 [v45, (.int .i64 1 : PV)]) (
 j8 [] p6.2)

theorem s8_eq (Γ : PCallee) (n : Nat) (x0 : PV) (x1 : PV) (h : PHeap) : pfunK Γ n A8 [x0, x1] h = s8 Γ n x0 x1 h := by kernel_rfl


open Go.Vm.G in
/-- orchestrion/gear.NewState -/
def A9 : PFun := ⟨2, 31,
 (S (R <| o 3 (.box 31 (t 1)) <| o 4 (.new 38 V84) <| z) <|
  (S (D <| o 7 (.load true 37 (t 3)) <| o 8 (.mkSlice 74 V21 (i 32) (i 32)) <| m 9 0 <| o 10 (.nilCheck (t 9)) <| f 11 7 10 <| l 12 11 <| o 13 (.build V84 [(0, 37, (t 7)), (82, 1, (t 8)), (83, 1, (t 12))]) <| o 5 (.new 38 V84) <| n (.store 84 (t 5) (t 13)) <| z) <|
  (S (S (R <| m 14 0 <| o 15 (.nilCheck (t 14)) <| f 16 2 15 <| l 17 16 <| o 18 (.move (i 0)) <| z) <|
  (.block 0 [] ([6] ++ g 18 12)
  (.loop [18] ([6] ++ g 19 11)
  (S (R <| b 19 .lss (t 18) (t 17) <| z) <|
  (S (.cond (t 19) [] []
  .skip
  (.exit 0)) <|
  (S (.block 1 [] ([6] ++ g 20 9)
  (S (R <| m 20 18 <| m 6 20 <| z) <|
  (D <| f 21 81 5 <| l 22 21 <| m 23 0 <| m 24 6 <| O 25 (.call 18 [(t 23), (t 24)]) <| (.op (some 26) (.buildF 64 V51 1 [(0, 51, (t 25))]) false <| o 27 (.append 64 51 (t 22) (t 26)) <| f 28 81 5 <| n (.store 1 (t 28) (t 27)) <| z)))) <|
  (R <| b 29 .add (t 18) (i 1) <| m 18 29 <| z))))))) <|
  (S (R <| o 30 (.load true 84 (t 5)) <| n (.store 84 (t 4) (t 30)) <| z) <|
  .ret)))),
 [.cell 4 true 84], [(.agg SA84)]⟩
theorem ok9 : ∃ fn c, FunOk Try.prog 9 fn c A9.erase := ⟨Try.f9, _, ⟨Try.func9, rfl, by kernel_rfl, by kernel_rfl, by kernel_rfl, of_decide_eq_true (by kernel_rfl), by kernel_rfl⟩⟩
noncomputable def s9_L0 (Γ : PCallee) (n : Nat) (x0 : PV) (v10 : PV) (h12 : PHeap) (v15 : PV) (j16 : List PV → PHeap → Pt) : (List PV → PHeap → Pt) → List PV → PHeap → Pt := fun c22 w23 h24 =>
 (binP .lss (nthP w23 0) v15).bind fun v25 =>
 KL (fun w27 h28 =>
 KL (fun w30 h31 =>
 (binP .add (nthP w23 0) (.int .i64 1 : PV)).bind fun v32 =>
 c22 [v32] (trim h12 [v32] h31)) fun j29 =>
 (fieldAddrP 81 v10).bind fun v33 =>
 (loadP false 1 v33 h28).bind fun v34 =>
 (Γ 18 [x0, (nthP w23 0)] (lock h28)).bind fun p35 =>
 unl h28 p35.2 fun h36 =>
 (fillP (repP Z51 1) [(0, 51, p35.1)]).bind fun l37 =>
 guardP (l37.all pure1) (
 forkP (.frz 51 (chunk 51 1 l37)) (h36) fun v38 h39 =>
 (appendP 64 51 v34 v38 h39).bind fun p40 =>
 (fieldAddrP 81 v10).bind fun v41 =>
 (storeP 1 v41 p40.1 p40.2).bind fun h42 =>
 j29 [] h42)) fun j26 =>
 ifP v25 (
 j26 [] h24) (
 j16 [] h24)
noncomputable def s9 (Γ : PCallee) (n : Nat) (x0 : PV) (x1 : PV) (h : PHeap) : Pt :=
 forkP (.ptr h.length 0) (h ++ [.box (cellsP x1) 31 .rw]) fun v0 h1 =>
 forkP (.ptr h1.length 0) (h1 ++ [.box Z84 38 .rw]) fun v2 h3 =>
 (loadP true 37 v0 h3).bind fun v4 =>
 (mkSliceP 74 Z21 (.int .i64 32 : PV) (.int .i64 32 : PV) h3).bind fun p5 =>
 (nilCheckP x0).bind fun v6 =>
 (fieldAddrP 7 v6).bind fun v7 =>
 (loadP false 1 v7 p5.2).bind fun v8 =>
 (fillP Z84 [(0, 37, v4), (82, 1, p5.1), (83, 1, v8)]).bind fun l9 =>
 forkP (.ptr p5.2.length 0) (p5.2 ++ [.box Z84 38 .rw]) fun v10 h11 =>
 (storeP 84 v10 (PV.agg l9) h11).bind fun h12 =>
 (nilCheckP x0).bind fun v13 =>
 (fieldAddrP 2 v13).bind fun v14 =>
 (loadP false 1 v14 h12).bind fun v15 =>
 KL (fun w17 h18 =>
 (loadP true 84 v10 h18).bind fun v19 =>
 (storeP 84 v2 v19 h18).bind fun h20 =>
 (loadP true 84 v2 h20).bind fun v21 =>
 finP [(.agg SA84)] h h20 [v21]) fun j16 =>
 loopP (s9_L0 Γ n x0 v10 h12 v15 j16) n [(.int .i64 0 : PV)] h12

theorem s9_eq (Γ : PCallee) (n : Nat) (x0 : PV) (x1 : PV) (h : PHeap) : pfunK Γ n A9 [x0, x1] h = s9 Γ n x0 x1 h := by kernel_rfl


open Go.Vm.G in
/-- orchestrion/orchestrionref09.Start -/
def A10 : PFun := ⟨2, 40,
 (S (R <| o 2 (.box 27 (t 0)) <| o 4 (.new 31 V37) <| o 5 (.move (i 0)) <| z) <|
  (S (S (R <| o 9 (.load true 13 (t 2)) <| o 10 (.call 19 [(t 9)]) <| o 11 (.un .not (t 10)) <| z) <|
  (.cond (t 11) [] [5, 12]
  (S (R <| o 12 (.build V37 []) <| n (.store 37 (t 4) (t 12)) <| o 5 (.move (i 1)) <| z) <|
  .ret)
  .skip)) <|
  (S (S (R <| m 13 1 <| b 14 .lss (t 13) (i 0) <| m 15 14 <| q 21 15 false (g 16 5) (m 16 1 <| f 17 3 2 <| l 18 17 <| o 19 (.len false (t 18)) <| b 20 .geq (t 16) (t 19) <| z) (t 20) <|
  z) <|
  (.cond (t 21) [] [5, 22]
  (S (R <| o 22 (.build V37 []) <| n (.store 37 (t 4) (t 22)) <| o 5 (.move (i 5)) <| z) <|
  .ret)
  .skip)) <|
  (S (R <| o 24 (.load true 13 (t 2)) <| m 25 1 <| o 26 (.call 20 [(t 24), (t 25), (i 0)]) <| m 23 26 <| o 27 (.extract (t 23) 0) <| o 28 (.extract (t 23) 1) <| o 29 (.extract (t 23) 2) <| m 6 27 <| m 7 28 <| m 8 29 <| z) <|
  (S (S (R <| m 30 8 <| o 31 (.un .not (t 30)) <| z) <|
  (.cond (t 31) [] [5, 32]
  (S (R <| o 32 (.build V37 []) <| n (.store 37 (t 4) (t 32)) <| o 5 (.move (i 7)) <| z) <|
  .ret)
  .skip)) <|
  (S (R <| m 33 6 <| m 34 7 <| f 35 5 2 <| l 36 35 <| f 37 6 2 <| l 38 37 <| o 39 (.build V37 [(0, 1, (t 33)), (1, 1, (t 34)), (2, 1, (t 36)), (3, 1, (t 38))]) <| n (.store 37 (t 4) (t 39)) <| o 5 (.move (i 0)) <| z) <|
  .ret)))))),
 [.cell 4 true 37, .tmp 5], [.keep, .keep]⟩
theorem ok10 : ∃ fn c, FunOk Try.prog 10 fn c A10.erase := ⟨Try.f10, _, ⟨Try.func10, rfl, by kernel_rfl, by kernel_rfl, by kernel_rfl, of_decide_eq_true (by kernel_rfl), by kernel_rfl⟩⟩
noncomputable def s10 (Γ : PCallee) (n : Nat) (x0 : PV) (x1 : PV) (h : PHeap) : Pt :=
 forkP (.ptr h.length 0) (h ++ [.box (cellsP x0) 27 .rw]) fun v0 h1 =>
 forkP (.ptr h1.length 0) (h1 ++ [.box Z37 31 .rw]) fun v2 h3 =>
 (loadP true 13 v0 h3).bind fun v4 =>
 (Γ 19 [v4] h3).bind fun p5 =>
 (unP .not p5.1).bind fun v6 =>
 KL (fun w8 h9 =>
 (binP .lss x1 (.int .i64 0 : PV)).bind fun v10 =>
 K1 (fun v12 h13 =>
 KL (fun w15 h16 =>
 (loadP true 13 v0 h16).bind fun v17 =>
 (Γ 20 [v17, x1, (.int .i64 0 : PV)] h16).bind fun p18 =>
 (extractP p18.1 0).bind fun v19 =>
 (extractP p18.1 1).bind fun v20 =>
 (extractP p18.1 2).bind fun v21 =>
 (unP .not v21).bind fun v22 =>
 KL (fun w24 h25 =>
 (fieldAddrP 5 v0).bind fun v26 =>
 (loadP false 1 v26 h25).bind fun v27 =>
 (fieldAddrP 6 v0).bind fun v28 =>
 (loadP false 1 v28 h25).bind fun v29 =>
 (fillP Z37 [(0, 1, v19), (1, 1, v20), (2, 1, v27), (3, 1, v29)]).bind fun l30 =>
 (storeP 37 v2 (PV.agg l30) h25).bind fun h31 =>
 (loadP true 37 v2 h31).bind fun v32 =>
 finP [.keep, .keep] h h31 [v32, (.int .i64 0 : PV)]) fun j23 =>
 ifP v22 (
 (fillP Z37 []).bind fun l33 =>
 (storeP 37 v2 (PV.agg l33) p18.2).bind fun h34 =>
 (loadP true 37 v2 h34).bind fun v35 =>
 finP [.keep, .keep] h h34 [v35, (.int .i64 7 : PV)]) (
 j23 [] p18.2)) fun j14 =>
 ifP v12 (
 (fillP Z37 []).bind fun l36 =>
 (storeP 37 v2 (PV.agg l36) h13).bind fun h37 =>
 (loadP true 37 v2 h37).bind fun v38 =>
 finP [.keep, .keep] h h37 [v38, (.int .i64 5 : PV)]) (
 j14 [] h13)) fun j11 =>
 scP v10 false (
 (fieldAddrP 3 v0).bind fun v39 =>
 (loadP false 1 v39 h9).bind fun v40 =>
 (lenP false v40).bind fun v41 =>
 (binP .geq x1 v41).bind fun v42 =>
 j11 v42 h9)
 (j11 (.bool true) h9)) fun j7 =>
 ifP v6 (
 (fillP Z37 []).bind fun l43 =>
 (storeP 37 v2 (PV.agg l43) p5.2).bind fun h44 =>
 (loadP true 37 v2 h44).bind fun v45 =>
 finP [.keep, .keep] h h44 [v45, (.int .i64 1 : PV)]) (
 j7 [] p5.2)

theorem s10_eq (Γ : PCallee) (n : Nat) (x0 : PV) (x1 : PV) (h : PHeap) : pfunK Γ n A10 [x0, x1] h = s10 Γ n x0 x1 h := by kernel_rfl


open Go.Vm.G in
/-- orchestrion/orchestrionref11.New -/
def A11 : PFun := ⟨0, 2,
 (S (R <| o 0 (.move (.const (.slice none 0 0))) <| z) <|
  (S (R <| o 1 (.mkSlice 74 V21 (i 32) (i 32)) <| m 0 1 <| z) <|
  .ret)),
 [.tmp 0], [(.flat 21)]⟩
theorem ok11 : ∃ fn c, FunOk Try.prog 11 fn c A11.erase := ⟨Try.f11, _, ⟨Try.func11, rfl, by kernel_rfl, by kernel_rfl, by kernel_rfl, of_decide_eq_true (by kernel_rfl), by kernel_rfl⟩⟩
noncomputable def s11 (Γ : PCallee) (n : Nat) (h : PHeap) : Pt :=
 (mkSliceP 74 Z21 (.int .i64 32 : PV) (.int .i64 32 : PV) h).bind fun p0 =>
 finP [(.flat 21)] h p0.2 [p0.1]

theorem s11_eq (Γ : PCallee) (n : Nat) (h : PHeap) : pfunK Γ n A11 [] h = s11 Γ n h := by kernel_rfl


open Go.Vm.G in
/-- orchestrion/orchestrionref10.New -/
def A12 : PFun := ⟨2, 25,
 (S (R <| o 2 (.box 27 (t 0)) <| o 4 (.new 64 V51) <| o 5 (.move (i 0)) <| z) <|
  (S (S (R <| o 6 (.load true 13 (t 2)) <| o 7 (.call 19 [(t 6)]) <| o 8 (.un .not (t 7)) <| z) <|
  (.cond (t 8) [] [5, 9]
  (S (R <| o 9 (.build V51 []) <| n (.store 51 (t 4) (t 9)) <| o 5 (.move (i 1)) <| z) <|
  .ret)
  .skip)) <|
  (S (S (R <| m 10 1 <| b 11 .lss (t 10) (i 0) <| m 12 11 <| q 17 12 false (g 13 4) (m 13 1 <| f 14 2 2 <| l 15 14 <| b 16 .geq (t 13) (t 15) <| z) (t 16) <|
  z) <|
  (.cond (t 17) [] [5, 18]
  (S (R <| o 18 (.build V51 []) <| n (.store 51 (t 4) (t 18)) <| o 5 (.move (i 5)) <| z) <|
  .ret)
  .skip)) <|
  (S (R <| f 19 9 2 <| l 20 19 <| m 21 1 <| o 22 (.indexAddr 1 (t 20) (t 21)) <| l 23 22 <| o 24 (.build V51 [(32, 1, (i 64)), (33, 1, (t 23)), (45, 1, (i (-1))), (46, 1, (i (-1))), (47, 1, (i (-1)))]) <| n (.store 51 (t 4) (t 24)) <| o 5 (.move (i 0)) <| z) <|
  .ret)))),
 [.cell 4 true 51, .tmp 5], [.keep, .keep]⟩
theorem ok12 : ∃ fn c, FunOk Try.prog 12 fn c A12.erase := ⟨Try.f12, _, ⟨Try.func12, rfl, by kernel_rfl, by kernel_rfl, by kernel_rfl, of_decide_eq_true (by kernel_rfl), by kernel_rfl⟩⟩
noncomputable def s12 (Γ : PCallee) (n : Nat) (x0 : PV) (x1 : PV) (h : PHeap) : Pt :=
 forkP (.ptr h.length 0) (h ++ [.box (cellsP x0) 27 .rw]) fun v0 h1 =>
 forkP (.ptr h1.length 0) (h1 ++ [.box Z51 64 .rw]) fun v2 h3 =>
 (loadP true 13 v0 h3).bind fun v4 =>
 (Γ 19 [v4] h3).bind fun p5 =>
 (unP .not p5.1).bind fun v6 =>
 KL (fun w8 h9 =>
 (binP .lss x1 (.int .i64 0 : PV)).bind fun v10 =>
 K1 (fun v12 h13 =>
 KL (fun w15 h16 =>
 (fieldAddrP 9 v0).bind fun v17 =>
 (loadP false 1 v17 h16).bind fun v18 =>
 (indexAddrP 1 v18 x1).bind fun v19 =>
 (loadP false 1 v19 h16).bind fun v20 =>
 (fillP Z51 [(32, 1, (.int .i64 64 : PV)), (33, 1, v20), (45, 1, (.int .i64 (-1) : PV)), (46, 1, (.int .i64 (-1) : PV)), (47, 1, (.int .i64 (-1) : PV))]).bind fun l21 =>
 (storeP 51 v2 (PV.agg l21) h16).bind fun h22 =>
 (loadP true 51 v2 h22).bind fun v23 =>
 finP [.keep, .keep] h h22 [v23, (.int .i64 0 : PV)]) fun j14 =>
 ifP v12 (
 (fillP Z51 []).bind fun l24 =>
 (storeP 51 v2 (PV.agg l24) h13).bind fun h25 =>
 (loadP true 51 v2 h25).bind fun v26 =>
 finP [.keep, .keep] h h25 [v26, (.int .i64 5 : PV)]) (
 j14 [] h13)) fun j11 =>
 scP v10 false (
 (fieldAddrP 2 v0).bind fun v27 =>
 (loadP false 1 v27 h9).bind fun v28 =>
 (binP .geq x1 v28).bind fun v29 =>
 j11 v29 h9)
 (j11 (.bool true) h9)) fun j7 =>
 ifP v6 (
 (fillP Z51 []).bind fun l30 =>
 (storeP 51 v2 (PV.agg l30) p5.2).bind fun h31 =>
 (loadP true 51 v2 h31).bind fun v32 =>
 finP [.keep, .keep] h h31 [v32, (.int .i64 1 : PV)]) (
 j7 [] p5.2)

theorem s12_eq (Γ : PCallee) (n : Nat) (x0 : PV) (x1 : PV) (h : PHeap) : pfunK Γ n A12 [x0, x1] h = s12 Γ n x0 x1 h := by kernel_rfl


open Go.Vm.G in
/-- slices.Equal[[]orchestrion/api.Op,orchestrion/api.Op] -/
def A13 : PFun := ⟨2, 26,
 (S (R <| o 4 (.move (.const (.bool false))) <| z) <|
  (S (S (R <| m 6 0 <| o 7 (.len false (t 6)) <| m 8 1 <| o 9 (.len false (t 8)) <| b 10 .neq (t 7) (t 9) <| z) <|
  (.cond (t 10) [] [4]
  (S (R <| o 4 (.move (.const (.bool false))) <| z) <|
  .ret)
  .skip)) <|
  (S (S (R <| m 11 0 <| o 12 (.len false (t 11)) <| o 13 (.move (i 0)) <| z) <|
  (.block 0 [] ([4, 5] ++ g 13 13)
  (.loop [13] ([4, 5] ++ g 14 12)
  (S (R <| b 14 .lss (t 13) (t 12) <| z) <|
  (S (.cond (t 14) [] []
  .skip
  (.exit 0)) <|
  (S (.block 1 [] ([4, 5] ++ g 15 10)
  (S (R <| m 15 13 <| m 5 15 <| z) <|
  (S (D <| m 16 0 <| m 17 5 <| o 18 (.indexAddr 3 (t 16) (t 17)) <| o 19 (.load true 3 (t 18)) <| m 20 1 <| m 21 5 <| o 22 (.indexAddr 3 (t 20) (t 21)) <| o 23 (.load true 3 (t 22)) <| o 24 (.eqAgg [.int, .int, .int] true (t 19) (t 23)) <| z) <|
  (.cond (t 24) [] [4]
  (S (R <| o 4 (.move (.const (.bool false))) <| z) <|
  .ret)
  .skip)))) <|
  (R <| b 25 .add (t 13) (i 1) <| m 13 25 <| z))))))) <|
  (S (R <| o 4 (.move (.const (.bool true))) <| z) <|
  .ret)))),
 [.tmp 4], [.keep]⟩
theorem ok13 : ∃ fn c, FunOk Try.prog 13 fn c A13.erase := ⟨Try.f13, _, ⟨Try.func13, rfl, by kernel_rfl, by kernel_rfl, by kernel_rfl, of_decide_eq_true (by kernel_rfl), by kernel_rfl⟩⟩
noncomputable def s13_L0 (Γ : PCallee) (n : Nat) (x0 : PV) (x1 : PV) (h : PHeap) (h5 : PHeap) (v6 : PV) (j7 : List PV → PHeap → Pt) : (List PV → PHeap → Pt) → List PV → PHeap → Pt := fun c10 w11 h12 =>
 (binP .lss (nthP w11 0) v6).bind fun v13 =>
 KL (fun w15 h16 =>
 KL (fun w18 h19 =>
 (binP .add (nthP w11 0) (.int .i64 1 : PV)).bind fun v20 =>
 c10 [v20] (trim h5 [v20] h19)) fun j17 =>
 (indexAddrP 3 x0 (nthP w11 0)).bind fun v21 =>
 (loadP true 3 v21 h16).bind fun v22 =>
 (indexAddrP 3 x1 (nthP w11 0)).bind fun v23 =>
 (loadP true 3 v23 h16).bind fun v24 =>
 (eqAggP [.int, .int, .int] true v22 v24).bind fun v25 =>
 KL (fun w27 h28 =>
 j17 [] h28) fun j26 =>
 ifP v25 (
 finP [.keep] h h16 [(.bool false : PV)]) (
 j26 [] h16)) fun j14 =>
 ifP v13 (
 j14 [] h12) (
 j7 [] h12)
noncomputable def s13 (Γ : PCallee) (n : Nat) (x0 : PV) (x1 : PV) (h : PHeap) : Pt :=
 (lenP false x0).bind fun v0 =>
 (lenP false x1).bind fun v1 =>
 (binP .neq v0 v1).bind fun v2 =>
 KL (fun w4 h5 =>
 (lenP false x0).bind fun v6 =>
 KL (fun w8 h9 =>
 finP [.keep] h h9 [(.bool true : PV)]) fun j7 =>
 loopP (s13_L0 Γ n x0 x1 h h5 v6 j7) n [(.int .i64 0 : PV)] h5) fun j3 =>
 ifP v2 (
 finP [.keep] h h [(.bool false : PV)]) (
 j3 [] h)

theorem s13_eq (Γ : PCallee) (n : Nat) (x0 : PV) (x1 : PV) (h : PHeap) : pfunK Γ n A13 [x0, x1] h = s13 Γ n x0 x1 h := by kernel_rfl


open Go.Vm.G in
/-- slices.Equal[[]orchestrion/api.Chan,orchestrion/api.Chan] -/
def A14 : PFun := ⟨2, 26,
 (S (R <| o 4 (.move (.const (.bool false))) <| z) <|
  (S (S (R <| m 6 0 <| o 7 (.len false (t 6)) <| m 8 1 <| o 9 (.len false (t 8)) <| b 10 .neq (t 7) (t 9) <| z) <|
  (.cond (t 10) [] [4]
  (S (R <| o 4 (.move (.const (.bool false))) <| z) <|
  .ret)
  .skip)) <|
  (S (S (R <| m 11 0 <| o 12 (.len false (t 11)) <| o 13 (.move (i 0)) <| z) <|
  (.block 0 [] ([4, 5] ++ g 13 13)
  (.loop [13] ([4, 5] ++ g 14 12)
  (S (R <| b 14 .lss (t 13) (t 12) <| z) <|
  (S (.cond (t 14) [] []
  .skip
  (.exit 0)) <|
  (S (.block 1 [] ([4, 5] ++ g 15 10)
  (S (R <| m 15 13 <| m 5 15 <| z) <|
  (S (D <| m 16 0 <| m 17 5 <| o 18 (.indexAddr 51 (t 16) (t 17)) <| o 19 (.load true 51 (t 18)) <| m 20 1 <| m 21 5 <| o 22 (.indexAddr 51 (t 20) (t 21)) <| o 23 (.load true 51 (t 22)) <| o 24 (.eqAgg BK51 true (t 19) (t 23)) <| z) <|
  (.cond (t 24) [] [4]
  (S (R <| o 4 (.move (.const (.bool false))) <| z) <|
  .ret)
  .skip)))) <|
  (R <| b 25 .add (t 13) (i 1) <| m 13 25 <| z))))))) <|
  (S (R <| o 4 (.move (.const (.bool true))) <| z) <|
  .ret)))),
 [.tmp 4], [.keep]⟩
theorem ok14 : ∃ fn c, FunOk Try.prog 14 fn c A14.erase := ⟨Try.f14, _, ⟨Try.func14, rfl, by kernel_rfl, by kernel_rfl, by kernel_rfl, of_decide_eq_true (by kernel_rfl), by kernel_rfl⟩⟩
noncomputable def s14_L0 (Γ : PCallee) (n : Nat) (x0 : PV) (x1 : PV) (h : PHeap) (h5 : PHeap) (v6 : PV) (j7 : List PV → PHeap → Pt) : (List PV → PHeap → Pt) → List PV → PHeap → Pt := fun c10 w11 h12 =>
 (binP .lss (nthP w11 0) v6).bind fun v13 =>
 KL (fun w15 h16 =>
 KL (fun w18 h19 =>
 (binP .add (nthP w11 0) (.int .i64 1 : PV)).bind fun v20 =>
 c10 [v20] (trim h5 [v20] h19)) fun j17 =>
 (indexAddrP 51 x0 (nthP w11 0)).bind fun v21 =>
 (loadP true 51 v21 h16).bind fun v22 =>
 (indexAddrP 51 x1 (nthP w11 0)).bind fun v23 =>
 (loadP true 51 v23 h16).bind fun v24 =>
 (eqAggP BK51 true v22 v24).bind fun v25 =>
 KL (fun w27 h28 =>
 j17 [] h28) fun j26 =>
 ifP v25 (
 finP [.keep] h h16 [(.bool false : PV)]) (
 j26 [] h16)) fun j14 =>
 ifP v13 (
 j14 [] h12) (
 j7 [] h12)
noncomputable def s14 (Γ : PCallee) (n : Nat) (x0 : PV) (x1 : PV) (h : PHeap) : Pt :=
 (lenP false x0).bind fun v0 =>
 (lenP false x1).bind fun v1 =>
 (binP .neq v0 v1).bind fun v2 =>
 KL (fun w4 h5 =>
 (lenP false x0).bind fun v6 =>
 KL (fun w8 h9 =>
 finP [.keep] h h9 [(.bool true : PV)]) fun j7 =>
 loopP (s14_L0 Γ n x0 x1 h h5 v6 j7) n [(.int .i64 0 : PV)] h5) fun j3 =>
 ifP v2 (
 finP [.keep] h h [(.bool false : PV)]) (
 j3 [] h)

theorem s14_eq (Γ : PCallee) (n : Nat) (x0 : PV) (x1 : PV) (h : PHeap) : pfunK Γ n A14 [x0, x1] h = s14 Γ n x0 x1 h := by kernel_rfl


open Go.Vm.G in
/-- slices.Equal[[]orchestrion/api.Voice,orchestrion/api.Voice] -/
def A15 : PFun := ⟨2, 26,
 (S (R <| o 4 (.move (.const (.bool false))) <| z) <|
  (S (S (R <| m 6 0 <| o 7 (.len false (t 6)) <| m 8 1 <| o 9 (.len false (t 8)) <| b 10 .neq (t 7) (t 9) <| z) <|
  (.cond (t 10) [] [4]
  (S (R <| o 4 (.move (.const (.bool false))) <| z) <|
  .ret)
  .skip)) <|
  (S (S (R <| m 11 0 <| o 12 (.len false (t 11)) <| o 13 (.move (i 0)) <| z) <|
  (.block 0 [] ([4, 5] ++ g 13 13)
  (.loop [13] ([4, 5] ++ g 14 12)
  (S (R <| b 14 .lss (t 13) (t 12) <| z) <|
  (S (.cond (t 14) [] []
  .skip
  (.exit 0)) <|
  (S (.block 1 [] ([4, 5] ++ g 15 10)
  (S (R <| m 15 13 <| m 5 15 <| z) <|
  (S (D <| m 16 0 <| m 17 5 <| o 18 (.indexAddr 21 (t 16) (t 17)) <| o 19 (.load true 21 (t 18)) <| m 20 1 <| m 21 5 <| o 22 (.indexAddr 21 (t 20) (t 21)) <| o 23 (.load true 21 (t 22)) <| o 24 (.eqAgg BK21 true (t 19) (t 23)) <| z) <|
  (.cond (t 24) [] [4]
  (S (R <| o 4 (.move (.const (.bool false))) <| z) <|
  .ret)
  .skip)))) <|
  (R <| b 25 .add (t 13) (i 1) <| m 13 25 <| z))))))) <|
  (S (R <| o 4 (.move (.const (.bool true))) <| z) <|
  .ret)))),
 [.tmp 4], [.keep]⟩
theorem ok15 : ∃ fn c, FunOk Try.prog 15 fn c A15.erase := ⟨Try.f15, _, ⟨Try.func15, rfl, by kernel_rfl, by kernel_rfl, by kernel_rfl, of_decide_eq_true (by kernel_rfl), by kernel_rfl⟩⟩
noncomputable def s15_L0 (Γ : PCallee) (n : Nat) (x0 : PV) (x1 : PV) (h : PHeap) (h5 : PHeap) (v6 : PV) (j7 : List PV → PHeap → Pt) : (List PV → PHeap → Pt) → List PV → PHeap → Pt := fun c10 w11 h12 =>
 (binP .lss (nthP w11 0) v6).bind fun v13 =>
 KL (fun w15 h16 =>
 KL (fun w18 h19 =>
 (binP .add (nthP w11 0) (.int .i64 1 : PV)).bind fun v20 =>
 c10 [v20] (trim h5 [v20] h19)) fun j17 =>
 (indexAddrP 21 x0 (nthP w11 0)).bind fun v21 =>
 (loadP true 21 v21 h16).bind fun v22 =>
 (indexAddrP 21 x1 (nthP w11 0)).bind fun v23 =>
 (loadP true 21 v23 h16).bind fun v24 =>
 (eqAggP BK21 true v22 v24).bind fun v25 =>
 KL (fun w27 h28 =>
 j17 [] h28) fun j26 =>
 ifP v25 (
 finP [.keep] h h16 [(.bool false : PV)]) (
 j26 [] h16)) fun j14 =>
 ifP v13 (
 j14 [] h12) (
 j7 [] h12)
noncomputable def s15 (Γ : PCallee) (n : Nat) (x0 : PV) (x1 : PV) (h : PHeap) : Pt :=
 (lenP false x0).bind fun v0 =>
 (lenP false x1).bind fun v1 =>
 (binP .neq v0 v1).bind fun v2 =>
 KL (fun w4 h5 =>
 (lenP false x0).bind fun v6 =>
 KL (fun w8 h9 =>
 finP [.keep] h h9 [(.bool true : PV)]) fun j7 =>
 loopP (s15_L0 Γ n x0 x1 h h5 v6 j7) n [(.int .i64 0 : PV)] h5) fun j3 =>
 ifP v2 (
 finP [.keep] h h [(.bool false : PV)]) (
 j3 [] h)

theorem s15_eq (Γ : PCallee) (n : Nat) (x0 : PV) (x1 : PV) (h : PHeap) : pfunK Γ n A15 [x0, x1] h = s15 Γ n x0 x1 h := by kernel_rfl


open Go.Vm.G in
/-- orchestrion/song.Valid -/
def A16 : PFun := ⟨1, 14,
 (S (R <| o 1 (.box 27 (t 0)) <| o 2 (.move (.const (.bool false))) <| z) <|
  (S (R <| o 7 (.load true 13 (t 1)) <| o 8 (.call 21 [(t 7)]) <| m 6 8 <| o 9 (.extract (t 6) 0) <| o 10 (.extract (t 6) 1) <| o 11 (.extract (t 6) 2) <| m 3 9 <| m 4 10 <| m 5 11 <| z) <|
  (S (R <| m 12 5 <| b 13 .eql (t 12) (i 0) <| m 2 13 <| z) <|
  .ret))),
 [.tmp 2], [.keep]⟩
theorem ok16 : ∃ fn c, FunOk Try.prog 16 fn c A16.erase := ⟨Try.f16, _, ⟨Try.func16, rfl, by kernel_rfl, by kernel_rfl, by kernel_rfl, of_decide_eq_true (by kernel_rfl), by kernel_rfl⟩⟩
noncomputable def s16 (Γ : PCallee) (n : Nat) (x0 : PV) (h : PHeap) : Pt :=
 forkP (.ptr h.length 0) (h ++ [.box (cellsP x0) 27 .rw]) fun v0 h1 =>
 (loadP true 13 v0 h1).bind fun v2 =>
 (Γ 21 [v2] h1).bind fun p3 =>
 (extractP p3.1 0).bind fun v4 =>
 (extractP p3.1 1).bind fun v5 =>
 (extractP p3.1 2).bind fun v6 =>
 (binP .eql v6 (.int .i64 0 : PV)).bind fun v7 =>
 finP [.keep] h p3.2 [v7]

theorem s16_eq (Γ : PCallee) (n : Nat) (x0 : PV) (h : PHeap) : pfunK Γ n A16 [x0] h = s16 Γ n x0 h := by kernel_rfl


open Go.Vm.G in
/-- orchestrion/gear.Find -/
def A17 : PFun := ⟨3, 80,
 (S (R <| o 6 (.move (i 0)) <| o 7 (.move (i 0)) <| o 8 (.move (.const (.bool false))) <| z) <|
  (S (R <| m 10 1 <| m 6 10 <| z) <|
  (S (S (R <| o 9 (.move (i 0)) <| z) <|
  (.block 0 [] ([2] ++ g 6 4 ++ g 11 69)
  (.loop [2, 6, 9] ([7, 8] ++ g 11 69)
  (S (S (R <| m 11 9 <| m 12 0 <| o 13 (.nilCheck (t 12)) <| f 14 3 13 <| l 15 14 <| o 16 (.len false (t 15)) <| b 17 .mul (i 2) (t 16) <| b 18 .leq (t 11) (t 17) <| z) <|
  (.cond (t 18) [] []
  .skip
  (.exit 0))) <|
  (S (.block 1 [2, 6] ([7, 8] ++ g 21 59)
  (.block 2 [2, 6] ([7, 8] ++ g 21 59)
  (S (R <| m 48 6 <| m 49 0 <| o 50 (.nilCheck (t 49)) <| f 51 3 50 <| l 52 51 <| o 53 (.len false (t 52)) <| b 54 .geq (t 48) (t 53) <| m 55 54 <| q 64 55 false (g 56 8) (m 56 0 <| o 57 (.nilCheck (t 56)) <| f 58 3 57 <| l 59 58 <| m 60 6 <| o 61 (.indexAddr 1 (t 59) (t 60)) <| l 62 61 <| b 63 .eql (t 62) (i 255) <| z) (t 63) <|
  m 47 64 <| z) <|
  (.cond (t 47) [2, 6] ([7, 8] ++ g 21 26 ++ g 65 15)
  (R <| m 65 0 <| o 66 (.nilCheck (t 65)) <| f 67 4 66 <| l 68 67 <| m 6 68 <| z)
  (S (R <| m 70 0 <| o 71 (.nilCheck (t 70)) <| f 72 3 71 <| l 73 72 <| m 74 6 <| o 75 (.indexAddr 1 (t 73) (t 74)) <| l 76 75 <| b 77 .eql (t 76) (i 254) <| m 69 77 <| z) <|
  (.cond (t 69) [2, 6] ([7, 8] ++ g 21 26 ++ [78, 79])
  (R <| m 78 6 <| b 79 .add (t 78) (i 1) <| m 6 79 <| z)
  (S (S (D <| m 21 9 <| b 22 .gtr (t 21) (i 0) <| m 23 22 <| q 26 23 false [24, 25] (m 24 2 <| b 25 .lss (t 24) (i 0) <| z) (t 25) <|
  m 27 26 <| q 44 27 false (g 28 16) (m 28 2 <| m 29 0 <| o 30 (.nilCheck (t 29)) <| f 31 10 30 <| l 32 31 <| m 33 0 <| o 34 (.nilCheck (t 33)) <| f 35 3 34 <| l 36 35 <| m 37 6 <| o 38 (.indexAddr 1 (t 36) (t 37)) <| l 39 38 <| o 40 (.indexAddr 2 (t 32) (t 39)) <| f 41 0 40 <| l 42 41 <| b 43 .geq (t 28) (t 42) <| z) (t 43) <|
  z) <|
  (.cond (t 44) [2] []
  (R <| o 2 (.move (i 0)) <| z)
  .skip)) <|
  (S (R <| m 45 6 <| m 46 2 <| m 6 45 <| m 7 46 <| o 8 (.move (.const (.bool true))) <| z) <|
  .ret)))))))) <|
  (R <| m 19 9 <| b 20 .add (t 19) (i 1) <| m 9 20 <| z)))))) <|
  (S (R <| o 6 (.move (i 0)) <| o 7 (.move (i 0)) <| o 8 (.move (.const (.bool false))) <| z) <|
  .ret)))),
 [.tmp 6, .tmp 7, .tmp 8], [.keep, .keep, .keep]⟩
theorem ok17 : ∃ fn c, FunOk Try.prog 17 fn c A17.erase := ⟨Try.f17, _, ⟨Try.func17, rfl, by kernel_rfl, by kernel_rfl, by kernel_rfl, of_decide_eq_true (by kernel_rfl), by kernel_rfl⟩⟩
noncomputable def s17_L0 (Γ : PCallee) (n : Nat) (x0 : PV) (h : PHeap) (j0 : List PV → PHeap → Pt) : (List PV → PHeap → Pt) → List PV → PHeap → Pt := fun c3 w4 h5 =>
 (nilCheckP x0).bind fun v6 =>
 (fieldAddrP 3 v6).bind fun v7 =>
 (loadP false 1 v7 h5).bind fun v8 =>
 (lenP false v8).bind fun v9 =>
 (binP .mul (.int .i64 2 : PV) v9).bind fun v10 =>
 (binP .leq (nthP w4 2) v10).bind fun v11 =>
 KL (fun w13 h14 =>
 KL (fun w16 h17 =>
 (binP .add (nthP w4 2) (.int .i64 1 : PV)).bind fun v18 =>
 c3 [(nthP w16 0), (nthP w16 1), v18] (trim h [(nthP w16 0), (nthP w16 1), v18] h17)) fun j15 =>
 KL (fun w20 h21 =>
 j15 [(nthP w20 0), (nthP w20 1)] h21) fun j19 =>
 (nilCheckP x0).bind fun v22 =>
 (fieldAddrP 3 v22).bind fun v23 =>
 (loadP false 1 v23 h14).bind fun v24 =>
 (lenP false v24).bind fun v25 =>
 (binP .geq (nthP w4 1) v25).bind fun v26 =>
 K1 (fun v28 h29 =>
 KL (fun w31 h32 =>
 j19 [(nthP w31 0), (nthP w31 1)] h32) fun j30 =>
 ifP v28 (
 (nilCheckP x0).bind fun v33 =>
 (fieldAddrP 4 v33).bind fun v34 =>
 (loadP false 1 v34 h29).bind fun v35 =>
 j30 [(nthP w4 0), v35] h29) (
 (nilCheckP x0).bind fun v36 =>
 (fieldAddrP 3 v36).bind fun v37 =>
 (loadP false 1 v37 h29).bind fun v38 =>
 (indexAddrP 1 v38 (nthP w4 1)).bind fun v39 =>
 (loadP false 1 v39 h29).bind fun v40 =>
 (binP .eql v40 (.int .i64 254 : PV)).bind fun v41 =>
 KL (fun w43 h44 =>
 j30 [(nthP w43 0), (nthP w43 1)] h44) fun j42 =>
 ifP v41 (
 (binP .add (nthP w4 1) (.int .i64 1 : PV)).bind fun v45 =>
 j42 [(nthP w4 0), v45] h29) (
 (binP .gtr (nthP w4 2) (.int .i64 0 : PV)).bind fun v46 =>
 K1 (fun v48 h49 =>
 K1 (fun v51 h52 =>
 KL (fun w54 h55 =>
 finP [.keep, .keep, .keep] h h55 [(nthP w4 1), (nthP w54 0), (.bool true : PV)]) fun j53 =>
 ifP v51 (
 j53 [(.int .i64 0 : PV)] h52) (
 j53 [(nthP w4 0)] h52)) fun j50 =>
 scP v48 false (
 (nilCheckP x0).bind fun v56 =>
 (fieldAddrP 10 v56).bind fun v57 =>
 (loadP false 1 v57 h49).bind fun v58 =>
 (nilCheckP x0).bind fun v59 =>
 (fieldAddrP 3 v59).bind fun v60 =>
 (loadP false 1 v60 h49).bind fun v61 =>
 (indexAddrP 1 v61 (nthP w4 1)).bind fun v62 =>
 (loadP false 1 v62 h49).bind fun v63 =>
 (indexAddrP 2 v58 v63).bind fun v64 =>
 (fieldAddrP 0 v64).bind fun v65 =>
 (loadP false 1 v65 h49).bind fun v66 =>
 (binP .geq (nthP w4 0) v66).bind fun v67 =>
 j50 v67 h49)
 (j50 (.bool true) h49)) fun j47 =>
 scP v46 false (
 (binP .lss (nthP w4 0) (.int .i64 0 : PV)).bind fun v68 =>
 j47 v68 h29)
 (j47 (.bool true) h29)))) fun j27 =>
 scP v26 false (
 (nilCheckP x0).bind fun v69 =>
 (fieldAddrP 3 v69).bind fun v70 =>
 (loadP false 1 v70 h14).bind fun v71 =>
 (indexAddrP 1 v71 (nthP w4 1)).bind fun v72 =>
 (loadP false 1 v72 h14).bind fun v73 =>
 (binP .eql v73 (.int .i64 255 : PV)).bind fun v74 =>
 j27 v74 h14)
 (j27 (.bool true) h14)) fun j12 =>
 ifP v11 (
 j12 [] h5) (
 j0 [] h5)
noncomputable def s17 (Γ : PCallee) (n : Nat) (x0 : PV) (x1 : PV) (x2 : PV) (h : PHeap) : Pt :=
 KL (fun w1 h2 =>
 finP [.keep, .keep, .keep] h h2 [(.int .i64 0 : PV), (.int .i64 0 : PV), (.bool false : PV)]) fun j0 =>
 loopP (s17_L0 Γ n x0 h j0) n [x2, x1, (.int .i64 0 : PV)] h

theorem s17_eq (Γ : PCallee) (n : Nat) (x0 : PV) (x1 : PV) (x2 : PV) (h : PHeap) : pfunK Γ n A17 [x0, x1, x2] h = s17 Γ n x0 x1 x2 h := by kernel_rfl


open Go.Vm.G in
/-- orchestrion/gear.NewChan -/
def A18 : PFun := ⟨2, 13,
 (S (R <| o 4 (.new 64 V51) <| z) <|
  (S (R <| m 5 0 <| o 6 (.nilCheck (t 5)) <| f 7 9 6 <| l 8 7 <| m 9 1 <| o 10 (.indexAddr 1 (t 8) (t 9)) <| l 11 10 <| o 12 (.build V51 [(32, 1, (i 64)), (33, 1, (t 11)), (45, 1, (i (-1))), (46, 1, (i (-1))), (47, 1, (i (-1)))]) <| n (.store 51 (t 4) (t 12)) <| z) <|
  .ret)),
 [.cell 4 true 51], [.keep]⟩
theorem ok18 : ∃ fn c, FunOk Try.prog 18 fn c A18.erase := ⟨Try.f18, _, ⟨Try.func18, rfl, by kernel_rfl, by kernel_rfl, by kernel_rfl, of_decide_eq_true (by kernel_rfl), by kernel_rfl⟩⟩
noncomputable def s18 (Γ : PCallee) (n : Nat) (x0 : PV) (x1 : PV) (h : PHeap) : Pt :=
 forkP (.ptr h.length 0) (h ++ [.box Z51 64 .rw]) fun v0 h1 =>
 (nilCheckP x0).bind fun v2 =>
 (fieldAddrP 9 v2).bind fun v3 =>
 (loadP false 1 v3 h1).bind fun v4 =>
 (indexAddrP 1 v4 x1).bind fun v5 =>
 (loadP false 1 v5 h1).bind fun v6 =>
 (fillP Z51 [(32, 1, (.int .i64 64 : PV)), (33, 1, v6), (45, 1, (.int .i64 (-1) : PV)), (46, 1, (.int .i64 (-1) : PV)), (47, 1, (.int .i64 (-1) : PV))]).bind fun l7 =>
 (storeP 51 v0 (PV.agg l7) h1).bind fun h8 =>
 (loadP true 51 v0 h8).bind fun v9 =>
 finP [.keep] h h8 [v9]

theorem s18_eq (Γ : PCallee) (n : Nat) (x0 : PV) (x1 : PV) (h : PHeap) : pfunK Γ n A18 [x0, x1] h = s18 Γ n x0 x1 h := by kernel_rfl


open Go.Vm.G in
/-- orchestrion/orchestrionref07.Valid -/
def A19 : PFun := ⟨1, 14,
 (S (R <| o 1 (.box 27 (t 0)) <| o 2 (.move (.const (.bool false))) <| z) <|
  (S (R <| o 7 (.load true 13 (t 1)) <| o 8 (.call 22 [(t 7)]) <| m 6 8 <| o 9 (.extract (t 6) 0) <| o 10 (.extract (t 6) 1) <| o 11 (.extract (t 6) 2) <| m 3 9 <| m 4 10 <| m 5 11 <| z) <|
  (S (R <| m 12 5 <| b 13 .eql (t 12) (i 0) <| m 2 13 <| z) <|
  .ret))),
 [.tmp 2], [.keep]⟩
theorem ok19 : ∃ fn c, FunOk Try.prog 19 fn c A19.erase := ⟨Try.f19, _, ⟨Try.func19, rfl, by kernel_rfl, by kernel_rfl, by kernel_rfl, of_decide_eq_true (by kernel_rfl), by kernel_rfl⟩⟩
noncomputable def s19 (Γ : PCallee) (n : Nat) (x0 : PV) (h : PHeap) : Pt :=
 forkP (.ptr h.length 0) (h ++ [.box (cellsP x0) 27 .rw]) fun v0 h1 =>
 (loadP true 13 v0 h1).bind fun v2 =>
 (Γ 22 [v2] h1).bind fun p3 =>
 (extractP p3.1 0).bind fun v4 =>
 (extractP p3.1 1).bind fun v5 =>
 (extractP p3.1 2).bind fun v6 =>
 (binP .eql v6 (.int .i64 0 : PV)).bind fun v7 =>
 finP [.keep] h p3.2 [v7]

theorem s19_eq (Γ : PCallee) (n : Nat) (x0 : PV) (h : PHeap) : pfunK Γ n A19 [x0] h = s19 Γ n x0 h := by kernel_rfl


open Go.Vm.G in
/-- orchestrion/orchestrionref09.Find -/
def A20 : PFun := ⟨3, 68,
 (S (R <| o 3 (.box 27 (t 0)) <| o 6 (.move (i 0)) <| o 7 (.move (i 0)) <| o 8 (.move (.const (.bool false))) <| z) <|
  (S (R <| o 9 (.move (.const (.bool false))) <| z) <|
  (S (S (R <| f 11 3 3 <| l 12 11 <| o 13 (.len false (t 12)) <| b 14 .mul (i 2) (t 13) <| b 15 .add (t 14) (i 2) <| m 10 15 <| z) <|
  (.block 0 [] ([1, 2] ++ g 6 5 ++ g 16 52)
  (.loop [1, 2, 9, 10] ([6, 7, 8] ++ g 16 52)
  (S (S (R <| m 16 10 <| b 17 .gtr (t 16) (i 0) <| z) <|
  (.cond (t 17) [] []
  .skip
  (.exit 0))) <|
  (S (.block 1 [1, 2, 9] ([6, 7, 8] ++ g 20 48)
  (S (S (R <| m 20 1 <| b 21 .lss (t 20) (i 0) <| m 22 21 <| q 28 22 false (g 23 5) (m 23 1 <| f 24 3 3 <| l 25 24 <| o 26 (.len false (t 25)) <| b 27 .geq (t 23) (t 26) <| z) (t 27) <|
  m 29 28 <| q 36 29 false (g 30 6) (f 30 3 3 <| l 31 30 <| m 32 1 <| o 33 (.indexAddr 1 (t 31) (t 32)) <| l 34 33 <| b 35 .eql (t 34) (i 255) <| z) (t 35) <|
  z) <|
  (.cond (t 36) [1, 9] [37, 38]
  (S (R <| f 37 4 3 <| l 38 37 <| m 1 38 <| o 9 (.move (.const (.bool true))) <| z) <|
  (.exit 1))
  .skip)) <|
  (S (S (R <| f 39 3 3 <| l 40 39 <| m 41 1 <| o 42 (.indexAddr 1 (t 40) (t 41)) <| l 43 42 <| b 44 .eql (t 43) (i 254) <| z) <|
  (.cond (t 44) [1, 9] [45, 46]
  (S (R <| m 45 1 <| b 46 .add (t 45) (i 1) <| m 1 46 <| o 9 (.move (.const (.bool true))) <| z) <|
  (.exit 1))
  .skip)) <|
  (S (S (D <| m 47 9 <| m 48 47 <| q 51 48 false [49, 50] (m 49 2 <| b 50 .lss (t 49) (i 0) <| z) (t 50) <|
  m 52 51 <| q 65 52 false (g 53 12) (m 53 2 <| f 54 10 3 <| l 55 54 <| f 56 3 3 <| l 57 56 <| m 58 1 <| o 59 (.indexAddr 1 (t 57) (t 58)) <| l 60 59 <| o 61 (.indexAddr 2 (t 55) (t 60)) <| f 62 0 61 <| l 63 62 <| b 64 .geq (t 53) (t 63) <| z) (t 64) <|
  z) <|
  (.cond (t 65) [2] []
  (R <| o 2 (.move (i 0)) <| z)
  .skip)) <|
  (S (R <| m 66 1 <| m 67 2 <| m 6 66 <| m 7 67 <| o 8 (.move (.const (.bool true))) <| z) <|
  .ret))))) <|
  (R <| m 18 10 <| b 19 .sub (t 18) (i 1) <| m 10 19 <| z)))))) <|
  (S (R <| o 6 (.move (i 0)) <| o 7 (.move (i 0)) <| o 8 (.move (.const (.bool false))) <| z) <|
  .ret)))),
 [.tmp 6, .tmp 7, .tmp 8], [.keep, .keep, .keep]⟩
theorem ok20 : ∃ fn c, FunOk Try.prog 20 fn c A20.erase := ⟨Try.f20, _, ⟨Try.func20, rfl, by kernel_rfl, by kernel_rfl, by kernel_rfl, of_decide_eq_true (by kernel_rfl), by kernel_rfl⟩⟩
noncomputable def s20_L0 (Γ : PCallee) (n : Nat) (h : PHeap) (v0 : PV) (h1 : PHeap) (j7 : List PV → PHeap → Pt) : (List PV → PHeap → Pt) → List PV → PHeap → Pt := fun c10 w11 h12 =>
 (binP .gtr (nthP w11 3) (.int .i64 0 : PV)).bind fun v13 =>
 KL (fun w15 h16 =>
 KL (fun w18 h19 =>
 (binP .sub (nthP w11 3) (.int .i64 1 : PV)).bind fun v20 =>
 c10 [(nthP w18 0), (nthP w18 1), (nthP w18 2), v20] (trim h1 [(nthP w18 0), (nthP w18 1), (nthP w18 2), v20] h19)) fun j17 =>
 (binP .lss (nthP w11 0) (.int .i64 0 : PV)).bind fun v21 =>
 K1 (fun v23 h24 =>
 K1 (fun v26 h27 =>
 KL (fun w29 h30 =>
 (fieldAddrP 3 v0).bind fun v31 =>
 (loadP false 1 v31 h30).bind fun v32 =>
 (indexAddrP 1 v32 (nthP w29 0)).bind fun v33 =>
 (loadP false 1 v33 h30).bind fun v34 =>
 (binP .eql v34 (.int .i64 254 : PV)).bind fun v35 =>
 KL (fun w37 h38 =>
 K1 (fun v40 h41 =>
 K1 (fun v43 h44 =>
 KL (fun w46 h47 =>
 finP [.keep, .keep, .keep] h h47 [(nthP w37 0), (nthP w46 0), (.bool true : PV)]) fun j45 =>
 ifP v43 (
 j45 [(.int .i64 0 : PV)] h44) (
 j45 [(nthP w11 1)] h44)) fun j42 =>
 scP v40 false (
 (fieldAddrP 10 v0).bind fun v48 =>
 (loadP false 1 v48 h41).bind fun v49 =>
 (fieldAddrP 3 v0).bind fun v50 =>
 (loadP false 1 v50 h41).bind fun v51 =>
 (indexAddrP 1 v51 (nthP w37 0)).bind fun v52 =>
 (loadP false 1 v52 h41).bind fun v53 =>
 (indexAddrP 2 v49 v53).bind fun v54 =>
 (fieldAddrP 0 v54).bind fun v55 =>
 (loadP false 1 v55 h41).bind fun v56 =>
 (binP .geq (nthP w11 1) v56).bind fun v57 =>
 j42 v57 h41)
 (j42 (.bool true) h41)) fun j39 =>
 scP (nthP w37 1) false (
 (binP .lss (nthP w11 1) (.int .i64 0 : PV)).bind fun v58 =>
 j39 v58 h38)
 (j39 (.bool true) h38)) fun j36 =>
 ifP v35 (
 (binP .add (nthP w29 0) (.int .i64 1 : PV)).bind fun v59 =>
 j17 [v59, (nthP w11 1), (.bool true : PV)] h30) (
 j36 [(nthP w29 0), (nthP w29 1)] h30)) fun j28 =>
 ifP v26 (
 (fieldAddrP 4 v0).bind fun v60 =>
 (loadP false 1 v60 h27).bind fun v61 =>
 j17 [v61, (nthP w11 1), (.bool true : PV)] h27) (
 j28 [(nthP w11 0), (nthP w11 2)] h27)) fun j25 =>
 scP v23 false (
 (fieldAddrP 3 v0).bind fun v62 =>
 (loadP false 1 v62 h24).bind fun v63 =>
 (indexAddrP 1 v63 (nthP w11 0)).bind fun v64 =>
 (loadP false 1 v64 h24).bind fun v65 =>
 (binP .eql v65 (.int .i64 255 : PV)).bind fun v66 =>
 j25 v66 h24)
 (j25 (.bool true) h24)) fun j22 =>
 scP v21 false (
 (fieldAddrP 3 v0).bind fun v67 =>
 (loadP false 1 v67 h16).bind fun v68 =>
 (lenP false v68).bind fun v69 =>
 (binP .geq (nthP w11 0) v69).bind fun v70 =>
 j22 v70 h16)
 (j22 (.bool true) h16)) fun j14 =>
 ifP v13 (
 j14 [] h12) (
 j7 [] h12)
noncomputable def s20 (Γ : PCallee) (n : Nat) (x0 : PV) (x1 : PV) (x2 : PV) (h : PHeap) : Pt :=
 forkP (.ptr h.length 0) (h ++ [.box (cellsP x0) 27 .rw]) fun v0 h1 =>
 (fieldAddrP 3 v0).bind fun v2 =>
 (loadP false 1 v2 h1).bind fun v3 =>
 (lenP false v3).bind fun v4 =>
 (binP .mul (.int .i64 2 : PV) v4).bind fun v5 =>
 (binP .add v5 (.int .i64 2 : PV)).bind fun v6 =>
 KL (fun w8 h9 =>
 finP [.keep, .keep, .keep] h h9 [(.int .i64 0 : PV), (.int .i64 0 : PV), (.bool false : PV)]) fun j7 =>
 loopP (s20_L0 Γ n h v0 h1 j7) n [x1, x2, (.bool false : PV), v6] h1

theorem s20_eq (Γ : PCallee) (n : Nat) (x0 : PV) (x1 : PV) (x2 : PV) (h : PHeap) : pfunK Γ n A20 [x0, x1, x2] h = s20 Γ n x0 x1 x2 h := by kernel_rfl


open Go.Vm.G in
/-- orchestrion/song.Wrong -/
def A21 : PFun := ⟨1, 50,
 (S (R <| o 1 (.box 27 (t 0)) <| o 2 (.move (.const (.string ⟨#[]⟩))) <| o 3 (.move (i 0)) <| o 4 (.move (i 0)) <| z) <|
  (S (R <| f 13 1 1 <| l 14 13 <| o 15 (.call 23 [(t 14)]) <| m 12 15 <| o 16 (.extract (t 12) 0) <| o 17 (.extract (t 12) 1) <| o 5 (.new 82 V29) <| n (.store 29 (t 5) (t 16)) <| m 6 17 <| z) <|
  (S (R <| o 18 (.load true 13 (t 1)) <| o 19 (.load true 29 (t 5)) <| o 20 (.build V42 [(0, 13, (t 18)), (13, 29, (t 19))]) <| o 7 (.new 86 V42) <| n (.store 42 (t 7) (t 20)) <| z) <|
  (S (S (R <| o 21 (.load true 42 (t 7)) <| o 22 (.mkFunc 24 [(t 21)] []) <| o 23 (.load true 42 (t 7)) <| o 24 (.mkFunc 25 [(t 23)] []) <| o 25 (.load true 42 (t 7)) <| o 26 (.mkFunc 26 [(t 25)] []) <| o 27 (.load true 42 (t 7)) <| o 28 (.mkFunc 27 [(t 27)] []) <| o 29 (.load true 42 (t 7)) <| o 30 (.mkFunc 28 [(t 29)] []) <| o 31 (.buildSlice 87 [.nilFunc] 5 [(0, 1, (t 22)), (1, 1, (t 24)), (2, 1, (t 26)), (3, 1, (t 28)), (4, 1, (t 30))]) <| o 32 (.len false (t 31)) <| o 33 (.move (i 0)) <| z) <|
  (.block 0 [] ([2, 3, 4, 9, 10, 11] ++ g 33 17)
  (.loop [33] ([2, 3, 4, 9, 10, 11] ++ g 34 16)
  (S (R <| b 34 .lss (t 33) (t 32) <| z) <|
  (S (.cond (t 34) [] []
  .skip
  (.exit 0)) <|
  (S (.block 1 [] ([2, 3, 4, 9, 10, 11] ++ g 35 14)
  (S (R <| o 35 (.indexAddr 1 (t 31) (t 33)) <| l 36 35 <| m 9 36 <| z) <|
  (S (R <| m 38 9 <| o 39 (.callV (t 38) []) <| m 37 39 <| o 40 (.extract (t 37) 0) <| o 41 (.extract (t 37) 1) <| o 10 (.new 90 [(.string ⟨#[]⟩), (.int .i64 0), (.int .i64 0)]) <| n (.store 3 (t 10) (t 40)) <| m 11 41 <| z) <|
  (S (R <| m 42 11 <| z) <|
  (.cond (t 42) [] ([2, 3, 4] ++ g 43 6)
  (S (D <| f 43 0 10 <| l 44 43 <| f 45 1 10 <| l 46 45 <| f 47 2 10 <| l 48 47 <| m 2 44 <| m 3 46 <| m 4 48 <| z) <|
  .ret)
  .skip))))) <|
  (R <| b 49 .add (t 33) (i 1) <| m 33 49 <| z))))))) <|
  (S (R <| o 2 (.move (.const (.string ⟨#[]⟩))) <| o 3 (.move (i (-1))) <| o 4 (.move (i 0)) <| z) <|
  .ret))))),
 [.tmp 2, .tmp 3, .tmp 4], [.keep, .keep, .keep]⟩
theorem ok21 : ∃ fn c, FunOk Try.prog 21 fn c A21.erase := ⟨Try.f21, _, ⟨Try.func21, rfl, by kernel_rfl, by kernel_rfl, by kernel_rfl, of_decide_eq_true (by kernel_rfl), by kernel_rfl⟩⟩
noncomputable def s21_L0 (Γ : PCallee) (n : Nat) (h : PHeap) (v22 : PV) (h23 : PHeap) (v24 : PV) (j25 : List PV → PHeap → Pt) : (List PV → PHeap → Pt) → List PV → PHeap → Pt := fun c28 w29 h30 =>
 (binP .lss (nthP w29 0) v24).bind fun v31 =>
 KL (fun w33 h34 =>
 KL (fun w36 h37 =>
 (binP .add (nthP w29 0) (.int .i64 1 : PV)).bind fun v38 =>
 c28 [v38] (trim h23 [v38] h37)) fun j35 =>
 (indexAddrP 1 v22 (nthP w29 0)).bind fun v39 =>
 (loadP false 1 v39 h34).bind fun v40 =>
 (callVP Γ v40 [] h34).bind fun p41 =>
 (extractP p41.1 0).bind fun v42 =>
 (extractP p41.1 1).bind fun v43 =>
 forkP (.ptr p41.2.length 0) (p41.2 ++ [.box [.str ⟨#[]⟩, .int .i64 0, .int .i64 0] 90 .rw]) fun v44 h45 =>
 (storeP 3 v44 v42 h45).bind fun h46 =>
 KL (fun w48 h49 =>
 j35 [] h49) fun j47 =>
 ifP v43 (
 (fieldAddrP 0 v44).bind fun v50 =>
 (loadP false 1 v50 h46).bind fun v51 =>
 (fieldAddrP 1 v44).bind fun v52 =>
 (loadP false 1 v52 h46).bind fun v53 =>
 (fieldAddrP 2 v44).bind fun v54 =>
 (loadP false 1 v54 h46).bind fun v55 =>
 finP [.keep, .keep, .keep] h h46 [v51, v53, v55]) (
 j47 [] h46)) fun j32 =>
 ifP v31 (
 j32 [] h30) (
 j25 [] h30)
noncomputable def s21 (Γ : PCallee) (n : Nat) (x0 : PV) (h : PHeap) : Pt :=
 forkP (.ptr h.length 0) (h ++ [.box (cellsP x0) 27 .rw]) fun v0 h1 =>
 (fieldAddrP 1 v0).bind fun v2 =>
 (loadP false 1 v2 h1).bind fun v3 =>
 (Γ 23 [v3] h1).bind fun p4 =>
 (extractP p4.1 0).bind fun v5 =>
 (extractP p4.1 1).bind fun v6 =>
 forkP (.ptr p4.2.length 0) (p4.2 ++ [.box Z29 82 .rw]) fun v7 h8 =>
 (storeP 29 v7 v5 h8).bind fun h9 =>
 (loadP true 13 v0 h9).bind fun v10 =>
 (loadP true 29 v7 h9).bind fun v11 =>
 (fillP Z42 [(0, 13, v10), (13, 29, v11)]).bind fun l12 =>
 forkP (.ptr h9.length 0) (h9 ++ [.box Z42 86 .rw]) fun v13 h14 =>
 (storeP 42 v13 (PV.agg l12) h14).bind fun h15 =>
 (loadP true 42 v13 h15).bind fun v16 =>
 (loadP true 42 v13 h15).bind fun v17 =>
 (loadP true 42 v13 h15).bind fun v18 =>
 (loadP true 42 v13 h15).bind fun v19 =>
 (loadP true 42 v13 h15).bind fun v20 =>
 (fillP (repP [.nilF] 5) [(0, 1, (PV.func 24 [v16] [])), (1, 1, (PV.func 25 [v17] [])), (2, 1, (PV.func 26 [v18] [])), (3, 1, (PV.func 27 [v19] [])), (4, 1, (PV.func 28 [v20] []))]).bind fun l21 =>
 forkP (.ref h15.length 0 5 5 1) (h15 ++ [.log (chunk 1 5 l21) 1 87 .rw]) fun v22 h23 =>
 (lenP false v22).bind fun v24 =>
 KL (fun w26 h27 =>
 finP [.keep, .keep, .keep] h h27 [(.str ⟨#[]⟩ : PV), (.int .i64 (-1) : PV), (.int .i64 0 : PV)]) fun j25 =>
 loopP (s21_L0 Γ n h v22 h23 v24 j25) n [(.int .i64 0 : PV)] h23

theorem s21_eq (Γ : PCallee) (n : Nat) (x0 : PV) (h : PHeap) : pfunK Γ n A21 [x0] h = s21 Γ n x0 h := by kernel_rfl


open Go.Vm.G in
/-- orchestrion/orchestrionref07.Wrong -/
def A22 : PFun := ⟨1, 142,
 (S (R <| o 1 (.box 27 (t 0)) <| o 2 (.move (.const (.string ⟨#[]⟩))) <| o 3 (.move (i 0)) <| o 4 (.move (i 0)) <| z) <|
  (S (R <| f 10 1 1 <| l 11 10 <| o 12 (.call 29 [(t 11)]) <| m 9 12 <| o 13 (.extract (t 9) 0) <| o 14 (.extract (t 9) 1) <| o 5 (.new 82 V29) <| n (.store 29 (t 5) (t 13)) <| m 6 14 <| z) <|
  (S (D <| f 16 0 1 <| l 17 16 <| O 18 (.call 32 [(t 17)]) <| O 19 (.call 31 [(t 18), (.const (.string ⟨#[110, 97, 109, 101]⟩)), (i 1)]) <| m 20 6 <| b 21 .eql (t 20) (i 0) <| O 22 (.call 31 [(t 21), (.const (.string ⟨#[100, 105, 97, 108, 101, 99, 116]⟩)), (i 6)]) <| f 23 2 1 <| l 24 23 <| f 25 1 5 <| l 26 25 <| O 27 (.call 33 [(t 24), (i 1), (t 26)]) <| O 28 (.call 31 [(t 27), (.const (.string ⟨#[99, 104, 97, 110, 110, 101, 108, 115]⟩)), (i 5)]) <| (.op (some 29) (.buildF 93 [(.string ⟨#[]⟩), (.int .i64 0), (.int .i64 0)] 3 [(0, 3, (t 19)), (3, 3, (t 22)), (6, 3, (t 28))]) false <| O 30 (.call 30 [(t 29)]) <| m 15 30 <| o 31 (.extract (t 15) 0) <| o 32 (.extract (t 15) 1) <| o 7 (.new 93 [(.string ⟨#[]⟩), (.int .i64 0), (.int .i64 0)]) <| n (.store 3 (t 7) (t 31)) <| m 8 32 <| z)) <|
  (S (S (R <| m 33 8 <| z) <|
  (.cond (t 33) [] ([2, 3, 4] ++ g 34 6)
  (S (D <| f 34 0 7 <| l 35 34 <| f 36 1 7 <| l 37 36 <| f 38 2 7 <| l 39 38 <| m 2 35 <| m 3 37 <| m 4 39 <| z) <|
  .ret)
  .skip)) <|
  (S (D <| f 41 10 1 <| l 42 41 <| o 43 (.len false (t 42)) <| f 44 2 5 <| l 45 44 <| O 46 (.call 33 [(t 43), (i 1), (t 45)]) <| O 47 (.call 31 [(t 46), (.const (.string ⟨#[112, 97, 116, 116, 101, 114, 110, 115]⟩)), (i 4)]) <| o 48 (.load true 13 (t 1)) <| f 49 3 5 <| l 50 49 <| O 51 (.call 34 [(t 48), (t 50)]) <| f 52 3 1 <| l 53 52 <| o 54 (.len false (t 53)) <| O 55 (.call 33 [(t 54), (i 1), (i 64)]) <| O 56 (.call 31 [(t 55), (.const (.string ⟨#[111, 114, 100, 101, 114, 115]⟩)), (i 4)]) <| o 57 (.load true 13 (t 1)) <| O 58 (.call 35 [(t 57)]) <| f 59 4 1 <| l 60 59 <| f 61 3 1 <| l 62 61 <| o 63 (.len false (t 62)) <| b 64 .sub (t 63) (i 1) <| O 65 (.call 33 [(t 60), (i 0), (t 64)]) <| O 66 (.call 31 [(t 65), (.const (.string ⟨#[114, 101, 115, 116, 97, 114, 116]⟩)), (i 5)]) <| f 67 5 1 <| l 68 67 <| O 69 (.call 33 [(t 68), (i 1), (i 31)]) <| O 70 (.call 31 [(t 69), (.const (.string ⟨#[115, 112, 101, 101, 100]⟩)), (i 5)]) <| f 71 6 1 <| l 72 71 <| O 73 (.call 33 [(t 72), (i 32), (i 255)]) <| O 74 (.call 31 [(t 73), (.const (.string ⟨#[116, 101, 109, 112, 111]⟩)), (i 5)]) <| f 75 7 1 <| l 76 75 <| O 77 (.call 33 [(t 76), (i 0), (i 128)]) <| O 78 (.call 31 [(t 77), (.const (.string ⟨#[103, 108, 111, 98, 97, 108]⟩)), (i 5)]) <| f 79 8 1 <| l 80 79 <| o 81 (.un .not (t 80)) <| m 82 81 <| q 85 82 false [83, 84] (f 83 8 5 <| l 84 83 <| z) (t 84) <|
  O 86 (.call 31 [(t 85), (.const (.string ⟨#[108, 105, 110, 101, 97, 114]⟩)), (i 6)]) <| f 87 9 1 <| l 88 87 <| o 89 (.len false (t 88)) <| f 90 2 1 <| l 91 90 <| b 92 .eql (t 89) (t 91) <| O 93 (.call 31 [(t 92), (.const (.string ⟨#[112, 97, 110, 115]⟩)), (i 4)]) <| o 94 (.load true 13 (t 1)) <| O 95 (.call 36 [(t 94)]) <| f 96 11 1 <| l 97 96 <| o 98 (.len false (t 97)) <| b 99 .leq (t 98) (i 31) <| m 100 99 <| q 110 100 true (g 101 4 ++ [109] ++ g 105 4) (f 101 1 1 <| l 102 101 <| b 103 .neq (t 102) (i 6) <| m 104 103 <| q 109 104 false (g 105 4) (f 105 11 1 <| l 106 105 <| o 107 (.len false (t 106)) <| b 108 .eql (t 107) (i 0) <| z) (t 108) <|
  z) (t 109) <|
  O 111 (.call 31 [(t 110), (.const (.string ⟨#[115, 97, 109, 112, 108, 101, 115]⟩)), (i 4)]) <| o 112 (.load true 13 (t 1)) <| O 113 (.call 37 [(t 112)]) <| f 114 12 1 <| l 115 114 <| o 116 (.len false (t 115)) <| b 117 .leq (t 116) (i 31) <| m 118 117 <| q 127 118 true ([119, 120, 121, 126] ++ g 122 4) (f 119 6 5 <| l 120 119 <| m 121 120 <| q 126 121 false (g 122 4) (f 122 12 1 <| l 123 122 <| o 124 (.len false (t 123)) <| b 125 .eql (t 124) (i 0) <| z) (t 125) <|
  z) (t 126) <|
  O 128 (.call 31 [(t 127), (.const (.string ⟨#[105, 110, 115, 116, 115]⟩)), (i 4)]) <| o 129 (.load true 13 (t 1)) <| o 130 (.call 38 [(t 129)]) <| (.op (some 131) (.buildF 93 [(.string ⟨#[]⟩), (.int .i64 0), (.int .i64 0)] 15 [(0, 3, (t 47)), (3, 3, (t 51)), (6, 3, (t 56)), (9, 3, (t 58)), (12, 3, (t 66)), (15, 3, (t 70)), (18, 3, (t 74)), (21, 3, (t 78)), (24, 3, (t 86)), (27, 3, (t 93)), (30, 3, (t 95)), (33, 3, (t 111)), (36, 3, (t 113)), (39, 3, (t 128)), (42, 3, (t 130))]) false <| o 132 (.call 30 [(t 131)]) <| m 40 132 <| o 133 (.extract (t 40) 0) <| o 134 (.extract (t 40) 1) <| n (.store 3 (t 7) (t 133)) <| m 8 134 <| z)) <|
  (S (S (R <| m 135 8 <| z) <|
  (.cond (t 135) [] ([2, 3, 4] ++ g 136 6)
  (S (D <| f 136 0 7 <| l 137 136 <| f 138 1 7 <| l 139 138 <| f 140 2 7 <| l 141 140 <| m 2 137 <| m 3 139 <| m 4 141 <| z) <|
  .ret)
  .skip)) <|
  (S (R <| o 2 (.move (.const (.string ⟨#[]⟩))) <| o 3 (.move (i (-1))) <| o 4 (.move (i 0)) <| z) <|
  .ret))))))),
 [.tmp 2, .tmp 3, .tmp 4], [.keep, .keep, .keep]⟩
theorem ok22 : ∃ fn c, FunOk Try.prog 22 fn c A22.erase := ⟨Try.f22, _, ⟨Try.func22, rfl, by kernel_rfl, by kernel_rfl, by kernel_rfl, of_decide_eq_true (by kernel_rfl), by kernel_rfl⟩⟩
noncomputable def s22 (Γ : PCallee) (n : Nat) (x0 : PV) (h : PHeap) : Pt :=
 forkP (.ptr h.length 0) (h ++ [.box (cellsP x0) 27 .rw]) fun v0 h1 =>
 (fieldAddrP 1 v0).bind fun v2 =>
 (loadP false 1 v2 h1).bind fun v3 =>
 (Γ 29 [v3] h1).bind fun p4 =>
 (extractP p4.1 0).bind fun v5 =>
 (extractP p4.1 1).bind fun v6 =>
 forkP (.ptr p4.2.length 0) (p4.2 ++ [.box Z29 82 .rw]) fun v7 h8 =>
 (storeP 29 v7 v5 h8).bind fun h9 =>
 (fieldAddrP 0 v0).bind fun v10 =>
 (loadP false 1 v10 h9).bind fun v11 =>
 (Γ 32 [v11] (lock h9)).bind fun p12 =>
 unl h9 p12.2 fun h13 =>
 (Γ 31 [p12.1, (.str ⟨#[110, 97, 109, 101]⟩ : PV), (.int .i64 1 : PV)] (lock h13)).bind fun p14 =>
 unl h13 p14.2 fun h15 =>
 (binP .eql v6 (.int .i64 0 : PV)).bind fun v16 =>
 (Γ 31 [v16, (.str ⟨#[100, 105, 97, 108, 101, 99, 116]⟩ : PV), (.int .i64 6 : PV)] (lock h15)).bind fun p17 =>
 unl h15 p17.2 fun h18 =>
 (fieldAddrP 2 v0).bind fun v19 =>
 (loadP false 1 v19 h18).bind fun v20 =>
 (fieldAddrP 1 v7).bind fun v21 =>
 (loadP false 1 v21 h18).bind fun v22 =>
 (Γ 33 [v20, (.int .i64 1 : PV), v22] (lock h18)).bind fun p23 =>
 unl h18 p23.2 fun h24 =>
 (Γ 31 [p23.1, (.str ⟨#[99, 104, 97, 110, 110, 101, 108, 115]⟩ : PV), (.int .i64 5 : PV)] (lock h24)).bind fun p25 =>
 unl h24 p25.2 fun h26 =>
 (fillP (repP [.str ⟨#[]⟩, .int .i64 0, .int .i64 0] 3) [(0, 3, p14.1), (3, 3, p17.1), (6, 3, p25.1)]).bind fun l27 =>
 guardP (l27.all pure1) (
 forkP (.frz 3 (chunk 3 3 l27)) (h26) fun v28 h29 =>
 (Γ 30 [v28] (lock h29)).bind fun p30 =>
 unl h29 p30.2 fun h31 =>
 (extractP p30.1 0).bind fun v32 =>
 (extractP p30.1 1).bind fun v33 =>
 forkP (.ptr h31.length 0) (h31 ++ [.box [.str ⟨#[]⟩, .int .i64 0, .int .i64 0] 93 .rw]) fun v34 h35 =>
 (storeP 3 v34 v32 h35).bind fun h36 =>
 KL (fun w38 h39 =>
 (fieldAddrP 10 v0).bind fun v40 =>
 (loadP false 1 v40 h39).bind fun v41 =>
 (lenP false v41).bind fun v42 =>
 (fieldAddrP 2 v7).bind fun v43 =>
 (loadP false 1 v43 h39).bind fun v44 =>
 (Γ 33 [v42, (.int .i64 1 : PV), v44] (lock h39)).bind fun p45 =>
 unl h39 p45.2 fun h46 =>
 (Γ 31 [p45.1, (.str ⟨#[112, 97, 116, 116, 101, 114, 110, 115]⟩ : PV), (.int .i64 4 : PV)] (lock h46)).bind fun p47 =>
 unl h46 p47.2 fun h48 =>
 (loadP true 13 v0 h48).bind fun v49 =>
 (fieldAddrP 3 v7).bind fun v50 =>
 (loadP false 1 v50 h48).bind fun v51 =>
 (Γ 34 [v49, v51] (lock h48)).bind fun p52 =>
 unl h48 p52.2 fun h53 =>
 (fieldAddrP 3 v0).bind fun v54 =>
 (loadP false 1 v54 h53).bind fun v55 =>
 (lenP false v55).bind fun v56 =>
 (Γ 33 [v56, (.int .i64 1 : PV), (.int .i64 64 : PV)] (lock h53)).bind fun p57 =>
 unl h53 p57.2 fun h58 =>
 (Γ 31 [p57.1, (.str ⟨#[111, 114, 100, 101, 114, 115]⟩ : PV), (.int .i64 4 : PV)] (lock h58)).bind fun p59 =>
 unl h58 p59.2 fun h60 =>
 (loadP true 13 v0 h60).bind fun v61 =>
 (Γ 35 [v61] (lock h60)).bind fun p62 =>
 unl h60 p62.2 fun h63 =>
 (fieldAddrP 4 v0).bind fun v64 =>
 (loadP false 1 v64 h63).bind fun v65 =>
 (fieldAddrP 3 v0).bind fun v66 =>
 (loadP false 1 v66 h63).bind fun v67 =>
 (lenP false v67).bind fun v68 =>
 (binP .sub v68 (.int .i64 1 : PV)).bind fun v69 =>
 (Γ 33 [v65, (.int .i64 0 : PV), v69] (lock h63)).bind fun p70 =>
 unl h63 p70.2 fun h71 =>
 (Γ 31 [p70.1, (.str ⟨#[114, 101, 115, 116, 97, 114, 116]⟩ : PV), (.int .i64 5 : PV)] (lock h71)).bind fun p72 =>
 unl h71 p72.2 fun h73 =>
 (fieldAddrP 5 v0).bind fun v74 =>
 (loadP false 1 v74 h73).bind fun v75 =>
 (Γ 33 [v75, (.int .i64 1 : PV), (.int .i64 31 : PV)] (lock h73)).bind fun p76 =>
 unl h73 p76.2 fun h77 =>
 (Γ 31 [p76.1, (.str ⟨#[115, 112, 101, 101, 100]⟩ : PV), (.int .i64 5 : PV)] (lock h77)).bind fun p78 =>
 unl h77 p78.2 fun h79 =>
 (fieldAddrP 6 v0).bind fun v80 =>
 (loadP false 1 v80 h79).bind fun v81 =>
 (Γ 33 [v81, (.int .i64 32 : PV), (.int .i64 255 : PV)] (lock h79)).bind fun p82 =>
 unl h79 p82.2 fun h83 =>
 (Γ 31 [p82.1, (.str ⟨#[116, 101, 109, 112, 111]⟩ : PV), (.int .i64 5 : PV)] (lock h83)).bind fun p84 =>
 unl h83 p84.2 fun h85 =>
 (fieldAddrP 7 v0).bind fun v86 =>
 (loadP false 1 v86 h85).bind fun v87 =>
 (Γ 33 [v87, (.int .i64 0 : PV), (.int .i64 128 : PV)] (lock h85)).bind fun p88 =>
 unl h85 p88.2 fun h89 =>
 (Γ 31 [p88.1, (.str ⟨#[103, 108, 111, 98, 97, 108]⟩ : PV), (.int .i64 5 : PV)] (lock h89)).bind fun p90 =>
 unl h89 p90.2 fun h91 =>
 (fieldAddrP 8 v0).bind fun v92 =>
 (loadP false 1 v92 h91).bind fun v93 =>
 (unP .not v93).bind fun v94 =>
 K1 (fun v96 h97 =>
 (Γ 31 [v96, (.str ⟨#[108, 105, 110, 101, 97, 114]⟩ : PV), (.int .i64 6 : PV)] (lock h97)).bind fun p98 =>
 unl h97 p98.2 fun h99 =>
 (fieldAddrP 9 v0).bind fun v100 =>
 (loadP false 1 v100 h99).bind fun v101 =>
 (lenP false v101).bind fun v102 =>
 (fieldAddrP 2 v0).bind fun v103 =>
 (loadP false 1 v103 h99).bind fun v104 =>
 (binP .eql v102 v104).bind fun v105 =>
 (Γ 31 [v105, (.str ⟨#[112, 97, 110, 115]⟩ : PV), (.int .i64 4 : PV)] (lock h99)).bind fun p106 =>
 unl h99 p106.2 fun h107 =>
 (loadP true 13 v0 h107).bind fun v108 =>
 (Γ 36 [v108] (lock h107)).bind fun p109 =>
 unl h107 p109.2 fun h110 =>
 (fieldAddrP 11 v0).bind fun v111 =>
 (loadP false 1 v111 h110).bind fun v112 =>
 (lenP false v112).bind fun v113 =>
 (binP .leq v113 (.int .i64 31 : PV)).bind fun v114 =>
 K1 (fun v116 h117 =>
 (Γ 31 [v116, (.str ⟨#[115, 97, 109, 112, 108, 101, 115]⟩ : PV), (.int .i64 4 : PV)] (lock h117)).bind fun p118 =>
 unl h117 p118.2 fun h119 =>
 (loadP true 13 v0 h119).bind fun v120 =>
 (Γ 37 [v120] (lock h119)).bind fun p121 =>
 unl h119 p121.2 fun h122 =>
 (fieldAddrP 12 v0).bind fun v123 =>
 (loadP false 1 v123 h122).bind fun v124 =>
 (lenP false v124).bind fun v125 =>
 (binP .leq v125 (.int .i64 31 : PV)).bind fun v126 =>
 K1 (fun v128 h129 =>
 (Γ 31 [v128, (.str ⟨#[105, 110, 115, 116, 115]⟩ : PV), (.int .i64 4 : PV)] (lock h129)).bind fun p130 =>
 unl h129 p130.2 fun h131 =>
 (loadP true 13 v0 h131).bind fun v132 =>
 (Γ 38 [v132] h131).bind fun p133 =>
 (fillP (repP [.str ⟨#[]⟩, .int .i64 0, .int .i64 0] 15) [(0, 3, p47.1), (3, 3, p52.1), (6, 3, p59.1), (9, 3, p62.1), (12, 3, p72.1), (15, 3, p78.1), (18, 3, p84.1), (21, 3, p90.1), (24, 3, p98.1), (27, 3, p106.1), (30, 3, p109.1), (33, 3, p118.1), (36, 3, p121.1), (39, 3, p130.1), (42, 3, p133.1)]).bind fun l134 =>
 guardP (l134.all pure1) (
 forkP (.frz 3 (chunk 3 15 l134)) (p133.2) fun v135 h136 =>
 (Γ 30 [v135] h136).bind fun p137 =>
 (extractP p137.1 0).bind fun v138 =>
 (extractP p137.1 1).bind fun v139 =>
 (storeP 3 v34 v138 p137.2).bind fun h140 =>
 KL (fun w142 h143 =>
 finP [.keep, .keep, .keep] h h143 [(.str ⟨#[]⟩ : PV), (.int .i64 (-1) : PV), (.int .i64 0 : PV)]) fun j141 =>
 ifP v139 (
 (fieldAddrP 0 v34).bind fun v144 =>
 (loadP false 1 v144 h140).bind fun v145 =>
 (fieldAddrP 1 v34).bind fun v146 =>
 (loadP false 1 v146 h140).bind fun v147 =>
 (fieldAddrP 2 v34).bind fun v148 =>
 (loadP false 1 v148 h140).bind fun v149 =>
 finP [.keep, .keep, .keep] h h140 [v145, v147, v149]) (
 j141 [] h140))) fun j127 =>
 scP v126 true (
 (fieldAddrP 6 v7).bind fun v150 =>
 (loadP false 1 v150 h122).bind fun v151 =>
 K1 (fun v153 h154 =>
 j127 v153 h154) fun j152 =>
 scP v151 false (
 (fieldAddrP 12 v0).bind fun v155 =>
 (loadP false 1 v155 h122).bind fun v156 =>
 (lenP false v156).bind fun v157 =>
 (binP .eql v157 (.int .i64 0 : PV)).bind fun v158 =>
 j152 v158 h122)
 (j152 (.bool true) h122))
 (j127 (.bool false) h122)) fun j115 =>
 scP v114 true (
 (fieldAddrP 1 v0).bind fun v159 =>
 (loadP false 1 v159 h110).bind fun v160 =>
 (binP .neq v160 (.int .i64 6 : PV)).bind fun v161 =>
 K1 (fun v163 h164 =>
 j115 v163 h164) fun j162 =>
 scP v161 false (
 (fieldAddrP 11 v0).bind fun v165 =>
 (loadP false 1 v165 h110).bind fun v166 =>
 (lenP false v166).bind fun v167 =>
 (binP .eql v167 (.int .i64 0 : PV)).bind fun v168 =>
 j162 v168 h110)
 (j162 (.bool true) h110))
 (j115 (.bool false) h110)) fun j95 =>
 scP v94 false (
 (fieldAddrP 8 v7).bind fun v169 =>
 (loadP false 1 v169 h91).bind fun v170 =>
 j95 v170 h91)
 (j95 (.bool true) h91)) fun j37 =>
 ifP v33 (
 (fieldAddrP 0 v34).bind fun v171 =>
 (loadP false 1 v171 h36).bind fun v172 =>
 (fieldAddrP 1 v34).bind fun v173 =>
 (loadP false 1 v173 h36).bind fun v174 =>
 (fieldAddrP 2 v34).bind fun v175 =>
 (loadP false 1 v175 h36).bind fun v176 =>
 finP [.keep, .keep, .keep] h h36 [v172, v174, v176]) (
 j37 [] h36))

theorem s22_eq (Γ : PCallee) (n : Nat) (x0 : PV) (h : PHeap) : pfunK Γ n A22 [x0] h = s22 Γ n x0 h := by kernel_rfl


open Go.Vm.G in
/-- orchestrion/dialect.Quirks -/
def A23 : PFun := ⟨1, 11,
 (S (R <| o 2 (.new 82 V29) <| o 3 (.move (i 0)) <| z) <|
  (S (S (R <| m 4 0 <| o 5 (.call 39 [(t 4)]) <| o 6 (.un .not (t 5)) <| z) <|
  (.cond (t 6) [] [3, 7]
  (S (R <| o 7 (.build V29 []) <| n (.store 29 (t 2) (t 7)) <| o 3 (.move (i 6)) <| z) <|
  .ret)
  .skip)) <|
  (S (R <| o 8 (.call 40 []) <| m 9 0 <| o 10 (.indexArr 7 true 29 (t 8) (t 9)) <| n (.store 29 (t 2) (t 10)) <| o 3 (.move (i 0)) <| z) <|
  .ret))),
 [.cell 2 true 29, .tmp 3], [.keep, .keep]⟩
theorem ok23 : ∃ fn c, FunOk Try.prog 23 fn c A23.erase := ⟨Try.f23, _, ⟨Try.func23, rfl, by kernel_rfl, by kernel_rfl, by kernel_rfl, of_decide_eq_true (by kernel_rfl), by kernel_rfl⟩⟩
noncomputable def s23 (Γ : PCallee) (n : Nat) (x0 : PV) (h : PHeap) : Pt :=
 forkP (.ptr h.length 0) (h ++ [.box Z29 82 .rw]) fun v0 h1 =>
 (Γ 39 [x0] h1).bind fun p2 =>
 (unP .not p2.1).bind fun v3 =>
 KL (fun w5 h6 =>
 (Γ 40 [] h6).bind fun p7 =>
 (indexArrP 7 true 29 p7.1 x0).bind fun v8 =>
 (storeP 29 v0 v8 p7.2).bind fun h9 =>
 (loadP true 29 v0 h9).bind fun v10 =>
 finP [.keep, .keep] h h9 [v10, (.int .i64 0 : PV)]) fun j4 =>
 ifP v3 (
 (fillP Z29 []).bind fun l11 =>
 (storeP 29 v0 (PV.agg l11) p2.2).bind fun h12 =>
 (loadP true 29 v0 h12).bind fun v13 =>
 finP [.keep, .keep] h h12 [v13, (.int .i64 6 : PV)]) (
 j4 [] p2.2)

theorem s23_eq (Γ : PCallee) (n : Nat) (x0 : PV) (h : PHeap) : pfunK Γ n A23 [x0] h = s23 Γ n x0 h := by kernel_rfl


open Go.Vm.G in
/-- (orchestrion/song.checked).head -/
def A24 : PFun := ⟨1, 28,
 (S (R <| o 1 (.box 86 (t 0)) <| o 2 (.new 90 [(.string ⟨#[]⟩), (.int .i64 0), (.int .i64 0)]) <| o 3 (.move (.const (.bool false))) <| z) <|
  (S (.block 0 [] (g 3 24)
  (S (R <| f 5 0 1 <| f 6 0 5 <| l 7 6 <| o 8 (.call 41 [(t 7)]) <| o 9 (.un .not (t 8)) <| m 4 9 <| z) <|
  (.cond (t 4) [] ([3] ++ g 10 17)
  (S (R <| o 10 (.build [(.string ⟨#[]⟩), (.int .i64 0), (.int .i64 0)] [(0, 1, (.const (.string ⟨#[110, 97, 109, 101]⟩))), (1, 1, (i 0)), (2, 1, (i 1))]) <| n (.store 3 (t 2) (t 10)) <| o 3 (.move (.const (.bool true))) <| z) <|
  .ret)
  (S (R <| f 12 13 1 <| f 13 1 12 <| l 14 13 <| b 15 .eql (t 14) (i 0) <| m 11 15 <| z) <|
  (.cond (t 11) [] ([3] ++ g 16 11)
  (S (R <| o 16 (.build [(.string ⟨#[]⟩), (.int .i64 0), (.int .i64 0)] [(0, 1, (.const (.string ⟨#[100, 105, 97, 108, 101, 99, 116]⟩))), (1, 1, (i 0)), (2, 1, (i 6))]) <| n (.store 3 (t 2) (t 16)) <| o 3 (.move (.const (.bool true))) <| z) <|
  .ret)
  (S (R <| f 18 0 1 <| f 19 2 18 <| l 20 19 <| f 21 13 1 <| f 22 1 21 <| l 23 22 <| o 24 (.call 42 [(t 20), (i 1), (t 23)]) <| o 25 (.un .not (t 24)) <| m 17 25 <| z) <|
  (.cond (t 17) [] [3, 26]
  (S (R <| o 26 (.build [(.string ⟨#[]⟩), (.int .i64 0), (.int .i64 0)] [(0, 1, (.const (.string ⟨#[99, 104, 97, 110, 110, 101, 108, 115]⟩))), (1, 1, (i 0)), (2, 1, (i 5))]) <| n (.store 3 (t 2) (t 26)) <| o 3 (.move (.const (.bool true))) <| z) <|
  .ret)
  .skip))))))) <|
  (S (R <| o 27 (.build [(.string ⟨#[]⟩), (.int .i64 0), (.int .i64 0)] []) <| n (.store 3 (t 2) (t 27)) <| o 3 (.move (.const (.bool false))) <| z) <|
  .ret))),
 [.cell 2 true 3, .tmp 3], [.keep, .keep]⟩
theorem ok24 : ∃ fn c, FunOk Try.prog 24 fn c A24.erase := ⟨Try.f24, _, ⟨Try.func24, rfl, by kernel_rfl, by kernel_rfl, by kernel_rfl, of_decide_eq_true (by kernel_rfl), by kernel_rfl⟩⟩
noncomputable def s24 (Γ : PCallee) (n : Nat) (x0 : PV) (h : PHeap) : Pt :=
 forkP (.ptr h.length 0) (h ++ [.box (cellsP x0) 86 .rw]) fun v0 h1 =>
 forkP (.ptr h1.length 0) (h1 ++ [.box [.str ⟨#[]⟩, .int .i64 0, .int .i64 0] 90 .rw]) fun v2 h3 =>
 KL (fun w5 h6 =>
 (fillP [.str ⟨#[]⟩, .int .i64 0, .int .i64 0] []).bind fun l7 =>
 (storeP 3 v2 (PV.agg l7) h6).bind fun h8 =>
 (loadP true 3 v2 h8).bind fun v9 =>
 finP [.keep, .keep] h h8 [v9, (.bool false : PV)]) fun j4 =>
 (fieldAddrP 0 v0).bind fun v10 =>
 (fieldAddrP 0 v10).bind fun v11 =>
 (loadP false 1 v11 h3).bind fun v12 =>
 (Γ 41 [v12] h3).bind fun p13 =>
 (unP .not p13.1).bind fun v14 =>
 KL (fun w16 h17 =>
 j4 [] h17) fun j15 =>
 ifP v14 (
 (fillP [.str ⟨#[]⟩, .int .i64 0, .int .i64 0] [(0, 1, (.str ⟨#[110, 97, 109, 101]⟩ : PV)), (1, 1, (.int .i64 0 : PV)), (2, 1, (.int .i64 1 : PV))]).bind fun l18 =>
 (storeP 3 v2 (PV.agg l18) p13.2).bind fun h19 =>
 (loadP true 3 v2 h19).bind fun v20 =>
 finP [.keep, .keep] h h19 [v20, (.bool true : PV)]) (
 (fieldAddrP 13 v0).bind fun v21 =>
 (fieldAddrP 1 v21).bind fun v22 =>
 (loadP false 1 v22 p13.2).bind fun v23 =>
 (binP .eql v23 (.int .i64 0 : PV)).bind fun v24 =>
 KL (fun w26 h27 =>
 j15 [] h27) fun j25 =>
 ifP v24 (
 (fillP [.str ⟨#[]⟩, .int .i64 0, .int .i64 0] [(0, 1, (.str ⟨#[100, 105, 97, 108, 101, 99, 116]⟩ : PV)), (1, 1, (.int .i64 0 : PV)), (2, 1, (.int .i64 6 : PV))]).bind fun l28 =>
 (storeP 3 v2 (PV.agg l28) p13.2).bind fun h29 =>
 (loadP true 3 v2 h29).bind fun v30 =>
 finP [.keep, .keep] h h29 [v30, (.bool true : PV)]) (
 (fieldAddrP 0 v0).bind fun v31 =>
 (fieldAddrP 2 v31).bind fun v32 =>
 (loadP false 1 v32 p13.2).bind fun v33 =>
 (fieldAddrP 13 v0).bind fun v34 =>
 (fieldAddrP 1 v34).bind fun v35 =>
 (loadP false 1 v35 p13.2).bind fun v36 =>
 (Γ 42 [v33, (.int .i64 1 : PV), v36] p13.2).bind fun p37 =>
 (unP .not p37.1).bind fun v38 =>
 KL (fun w40 h41 =>
 j25 [] h41) fun j39 =>
 ifP v38 (
 (fillP [.str ⟨#[]⟩, .int .i64 0, .int .i64 0] [(0, 1, (.str ⟨#[99, 104, 97, 110, 110, 101, 108, 115]⟩ : PV)), (1, 1, (.int .i64 0 : PV)), (2, 1, (.int .i64 5 : PV))]).bind fun l42 =>
 (storeP 3 v2 (PV.agg l42) p37.2).bind fun h43 =>
 (loadP true 3 v2 h43).bind fun v44 =>
 finP [.keep, .keep] h h43 [v44, (.bool true : PV)]) (
 j39 [] p37.2)))

theorem s24_eq (Γ : PCallee) (n : Nat) (x0 : PV) (h : PHeap) : pfunK Γ n A24 [x0] h = s24 Γ n x0 h := by kernel_rfl


open Go.Vm.G in
/-- (orchestrion/song.checked).patterns -/
def A25 : PFun := ⟨1, 61,
 (S (R <| o 1 (.box 86 (t 0)) <| o 2 (.new 90 [(.string ⟨#[]⟩), (.int .i64 0), (.int .i64 0)]) <| o 3 (.move (.const (.bool false))) <| z) <|
  (S (S (R <| f 6 0 1 <| f 7 10 6 <| l 8 7 <| o 9 (.len false (t 8)) <| f 10 13 1 <| f 11 2 10 <| l 12 11 <| o 13 (.call 42 [(t 9), (i 1), (t 12)]) <| o 14 (.un .not (t 13)) <| z) <|
  (.cond (t 14) [] [3, 15]
  (S (R <| o 15 (.build [(.string ⟨#[]⟩), (.int .i64 0), (.int .i64 0)] [(0, 1, (.const (.string ⟨#[112, 97, 116, 116, 101, 114, 110, 115]⟩))), (1, 1, (i 0)), (2, 1, (i 4))]) <| n (.store 3 (t 2) (t 15)) <| o 3 (.move (.const (.bool true))) <| z) <|
  .ret)
  .skip)) <|
  (S (S (R <| f 16 0 1 <| f 17 10 16 <| l 18 17 <| o 19 (.len false (t 18)) <| o 20 (.move (i 0)) <| z) <|
  (.block 0 [] ([3, 4, 5] ++ g 20 40)
  (.loop [20] ([3, 4, 5] ++ g 21 39)
  (S (R <| b 21 .lss (t 20) (t 19) <| z) <|
  (S (.cond (t 21) [] []
  .skip
  (.exit 0)) <|
  (S (.block 1 [] ([3, 4, 5] ++ g 22 37)
  (S (R <| m 22 20 <| o 23 (.indexAddr 2 (t 18) (t 20)) <| o 24 (.load true 2 (t 23)) <| o 5 (.new 46 [(.int .i64 0), (.slice none 0 0)]) <| m 4 22 <| n (.store 2 (t 5) (t 24)) <| z) <|
  (S (S (R <| f 25 13 1 <| f 26 3 25 <| l 27 26 <| b 28 .neq (t 27) (i 0) <| m 29 28 <| q 36 29 true (g 30 6) (f 30 0 5 <| l 31 30 <| f 32 13 1 <| f 33 3 32 <| l 34 33 <| b 35 .neq (t 31) (t 34) <| z) (t 35) <|
  m 37 36 <| q 44 37 false (g 38 6) (o 38 (.load true 2 (t 5)) <| f 39 0 1 <| f 40 2 39 <| l 41 40 <| F 38 (.agg [.keep, (.flat 6)]) <| o 42 (.call 43 [(t 38), (t 41)]) <| o 43 (.un .not (t 42)) <| z) (t 43) <|
  m 45 44 <| q 50 45 false (g 46 4) (f 46 1 5 <| l 47 46 <| o 48 (.mkFunc 45 [] [(t 1)]) <| F 47 (.flat 6) <| o 49 (.call 44 [(t 47), (t 48)]) <| z) (t 49) <|
  z) <|
  (.cond (t 50) [] [3, 51, 52]
  (S (R <| m 51 4 <| o 52 (.build [(.string ⟨#[]⟩), (.int .i64 0), (.int .i64 0)] [(0, 1, (.const (.string ⟨#[112, 97, 116, 116, 101, 114, 110, 115]⟩))), (1, 1, (t 51)), (2, 1, (i 1))]) <| n (.store 3 (t 2) (t 52)) <| o 3 (.move (.const (.bool true))) <| z) <|
  .ret)
  .skip)) <|
  (S (R <| f 53 1 5 <| l 54 53 <| o 55 (.mkFunc 47 [] [(t 1)]) <| F 54 (.flat 6) <| o 56 (.call 44 [(t 54), (t 55)]) <| z) <|
  (.cond (t 56) [] [3, 57, 58]
  (S (R <| m 57 4 <| o 58 (.build [(.string ⟨#[]⟩), (.int .i64 0), (.int .i64 0)] [(0, 1, (.const (.string ⟨#[112, 97, 116, 116, 101, 114, 110, 115]⟩))), (1, 1, (t 57)), (2, 1, (i 10))]) <| n (.store 3 (t 2) (t 58)) <| o 3 (.move (.const (.bool true))) <| z) <|
  .ret)
  .skip))))) <|
  (R <| b 59 .add (t 20) (i 1) <| m 20 59 <| z))))))) <|
  (S (R <| o 60 (.build [(.string ⟨#[]⟩), (.int .i64 0), (.int .i64 0)] []) <| n (.store 3 (t 2) (t 60)) <| o 3 (.move (.const (.bool false))) <| z) <|
  .ret)))),
 [.cell 2 true 3, .tmp 3], [.keep, .keep]⟩
theorem ok25 : ∃ fn c, FunOk Try.prog 25 fn c A25.erase := ⟨Try.f25, _, ⟨Try.func25, rfl, by kernel_rfl, by kernel_rfl, by kernel_rfl, of_decide_eq_true (by kernel_rfl), by kernel_rfl⟩⟩
noncomputable def s25_L0 (Γ : PCallee) (n : Nat) (h : PHeap) (v0 : PV) (v2 : PV) (h15 : PHeap) (v18 : PV) (v19 : PV) (j20 : List PV → PHeap → Pt) : (List PV → PHeap → Pt) → List PV → PHeap → Pt := fun c26 w27 h28 =>
 (binP .lss (nthP w27 0) v19).bind fun v29 =>
 KL (fun w31 h32 =>
 KL (fun w34 h35 =>
 (binP .add (nthP w27 0) (.int .i64 1 : PV)).bind fun v36 =>
 c26 [v36] (trim h15 [v36] h35)) fun j33 =>
 (indexAddrP 2 v18 (nthP w27 0)).bind fun v37 =>
 (loadP true 2 v37 h32).bind fun v38 =>
 forkP (.ptr h32.length 0) (h32 ++ [.box [.int .i64 0, .nilS] 46 .rw]) fun v39 h40 =>
 (storeP 2 v39 v38 h40).bind fun h41 =>
 (fieldAddrP 13 v0).bind fun v42 =>
 (fieldAddrP 3 v42).bind fun v43 =>
 (loadP false 1 v43 h41).bind fun v44 =>
 (binP .neq v44 (.int .i64 0 : PV)).bind fun v45 =>
 K1 (fun v47 h48 =>
 K1 (fun v50 h51 =>
 K1 (fun v53 h54 =>
 KL (fun w56 h57 =>
 (fieldAddrP 1 v39).bind fun v58 =>
 (loadP false 1 v58 h57).bind fun v59 =>
 (fz (.flat 6) v59 h57).bind fun q60 =>
 (Γ 44 [q60.1, (PV.func 47 [] [v0])] q60.2).bind fun p61 =>
 KL (fun w63 h64 =>
 j33 [] h64) fun j62 =>
 ifP p61.1 (
 (fillP [.str ⟨#[]⟩, .int .i64 0, .int .i64 0] [(0, 1, (.str ⟨#[112, 97, 116, 116, 101, 114, 110, 115]⟩ : PV)), (1, 1, (nthP w27 0)), (2, 1, (.int .i64 10 : PV))]).bind fun l65 =>
 (storeP 3 v2 (PV.agg l65) p61.2).bind fun h66 =>
 (loadP true 3 v2 h66).bind fun v67 =>
 finP [.keep, .keep] h h66 [v67, (.bool true : PV)]) (
 j62 [] p61.2)) fun j55 =>
 ifP v53 (
 (fillP [.str ⟨#[]⟩, .int .i64 0, .int .i64 0] [(0, 1, (.str ⟨#[112, 97, 116, 116, 101, 114, 110, 115]⟩ : PV)), (1, 1, (nthP w27 0)), (2, 1, (.int .i64 1 : PV))]).bind fun l68 =>
 (storeP 3 v2 (PV.agg l68) h54).bind fun h69 =>
 (loadP true 3 v2 h69).bind fun v70 =>
 finP [.keep, .keep] h h69 [v70, (.bool true : PV)]) (
 j55 [] h54)) fun j52 =>
 scP v50 false (
 (fieldAddrP 1 v39).bind fun v71 =>
 (loadP false 1 v71 h51).bind fun v72 =>
 (fz (.flat 6) v72 h51).bind fun q73 =>
 (Γ 44 [q73.1, (PV.func 45 [] [v0])] q73.2).bind fun p74 =>
 j52 p74.1 p74.2)
 (j52 (.bool true) h51)) fun j49 =>
 scP v47 false (
 (loadP true 2 v39 h48).bind fun v75 =>
 (fieldAddrP 0 v0).bind fun v76 =>
 (fieldAddrP 2 v76).bind fun v77 =>
 (loadP false 1 v77 h48).bind fun v78 =>
 (fz (.agg [.keep, (.flat 6)]) v75 h48).bind fun q79 =>
 (Γ 43 [q79.1, v78] q79.2).bind fun p80 =>
 (unP .not p80.1).bind fun v81 =>
 j49 v81 p80.2)
 (j49 (.bool true) h48)) fun j46 =>
 scP v45 true (
 (fieldAddrP 0 v39).bind fun v82 =>
 (loadP false 1 v82 h41).bind fun v83 =>
 (fieldAddrP 13 v0).bind fun v84 =>
 (fieldAddrP 3 v84).bind fun v85 =>
 (loadP false 1 v85 h41).bind fun v86 =>
 (binP .neq v83 v86).bind fun v87 =>
 j46 v87 h41)
 (j46 (.bool false) h41)) fun j30 =>
 ifP v29 (
 j30 [] h28) (
 j20 [] h28)
noncomputable def s25 (Γ : PCallee) (n : Nat) (x0 : PV) (h : PHeap) : Pt :=
 forkP (.ptr h.length 0) (h ++ [.box (cellsP x0) 86 .rw]) fun v0 h1 =>
 forkP (.ptr h1.length 0) (h1 ++ [.box [.str ⟨#[]⟩, .int .i64 0, .int .i64 0] 90 .rw]) fun v2 h3 =>
 (fieldAddrP 0 v0).bind fun v4 =>
 (fieldAddrP 10 v4).bind fun v5 =>
 (loadP false 1 v5 h3).bind fun v6 =>
 (lenP false v6).bind fun v7 =>
 (fieldAddrP 13 v0).bind fun v8 =>
 (fieldAddrP 2 v8).bind fun v9 =>
 (loadP false 1 v9 h3).bind fun v10 =>
 (Γ 42 [v7, (.int .i64 1 : PV), v10] h3).bind fun p11 =>
 (unP .not p11.1).bind fun v12 =>
 KL (fun w14 h15 =>
 (fieldAddrP 0 v0).bind fun v16 =>
 (fieldAddrP 10 v16).bind fun v17 =>
 (loadP false 1 v17 h15).bind fun v18 =>
 (lenP false v18).bind fun v19 =>
 KL (fun w21 h22 =>
 (fillP [.str ⟨#[]⟩, .int .i64 0, .int .i64 0] []).bind fun l23 =>
 (storeP 3 v2 (PV.agg l23) h22).bind fun h24 =>
 (loadP true 3 v2 h24).bind fun v25 =>
 finP [.keep, .keep] h h24 [v25, (.bool false : PV)]) fun j20 =>
 loopP (s25_L0 Γ n h v0 v2 h15 v18 v19 j20) n [(.int .i64 0 : PV)] h15) fun j13 =>
 ifP v12 (
 (fillP [.str ⟨#[]⟩, .int .i64 0, .int .i64 0] [(0, 1, (.str ⟨#[112, 97, 116, 116, 101, 114, 110, 115]⟩ : PV)), (1, 1, (.int .i64 0 : PV)), (2, 1, (.int .i64 4 : PV))]).bind fun l88 =>
 (storeP 3 v2 (PV.agg l88) p11.2).bind fun h89 =>
 (loadP true 3 v2 h89).bind fun v90 =>
 finP [.keep, .keep] h h89 [v90, (.bool true : PV)]) (
 j13 [] p11.2)

theorem s25_eq (Γ : PCallee) (n : Nat) (x0 : PV) (h : PHeap) : pfunK Γ n A25 [x0] h = s25 Γ n x0 h := by kernel_rfl


open Go.Vm.G in
/-- (orchestrion/song.checked).orders -/
def A26 : PFun := ⟨1, 32,
 (S (R <| o 1 (.box 86 (t 0)) <| o 2 (.new 90 [(.string ⟨#[]⟩), (.int .i64 0), (.int .i64 0)]) <| o 3 (.move (.const (.bool false))) <| z) <|
  (S (S (R <| f 5 0 1 <| f 6 3 5 <| l 7 6 <| o 8 (.len false (t 7)) <| o 9 (.call 42 [(t 8), (i 1), (i 64)]) <| o 10 (.un .not (t 9)) <| z) <|
  (.cond (t 10) [] [3, 11]
  (S (R <| o 11 (.build [(.string ⟨#[]⟩), (.int .i64 0), (.int .i64 0)] [(0, 1, (.const (.string ⟨#[111, 114, 100, 101, 114, 115]⟩))), (1, 1, (i 0)), (2, 1, (i 4))]) <| n (.store 3 (t 2) (t 11)) <| o 3 (.move (.const (.bool true))) <| z) <|
  .ret)
  .skip)) <|
  (S (S (R <| f 12 0 1 <| f 13 3 12 <| l 14 13 <| o 15 (.mkFunc 50 [] [(t 1)]) <| F 14 (.flat 1) <| o 16 (.call 49 [(t 14), (t 15)]) <| m 4 16 <| z) <|
  (S (R <| m 17 4 <| b 18 .geq (t 17) (i 0) <| z) <|
  (.cond (t 18) [] [3, 19, 20]
  (S (R <| m 19 4 <| o 20 (.build [(.string ⟨#[]⟩), (.int .i64 0), (.int .i64 0)] [(0, 1, (.const (.string ⟨#[111, 114, 100, 101, 114, 115]⟩))), (1, 1, (t 19)), (2, 1, (i 10))]) <| n (.store 3 (t 2) (t 20)) <| o 3 (.move (.const (.bool true))) <| z) <|
  .ret)
  .skip))) <|
  (S (R <| o 21 (.build [(.string ⟨#[]⟩), (.int .i64 0), (.int .i64 0)] [(0, 1, (.const (.string ⟨#[114, 101, 115, 116, 97, 114, 116]⟩))), (1, 1, (i 0)), (2, 1, (i 5))]) <| f 22 0 1 <| f 23 4 22 <| l 24 23 <| f 25 0 1 <| f 26 3 25 <| l 27 26 <| o 28 (.len false (t 27)) <| b 29 .sub (t 28) (i 1) <| o 30 (.call 42 [(t 24), (i 0), (t 29)]) <| o 31 (.un .not (t 30)) <| n (.store 3 (t 2) (t 21)) <| m 3 31 <| z) <|
  .ret)))),
 [.cell 2 true 3, .tmp 3], [.keep, .keep]⟩
theorem ok26 : ∃ fn c, FunOk Try.prog 26 fn c A26.erase := ⟨Try.f26, _, ⟨Try.func26, rfl, by kernel_rfl, by kernel_rfl, by kernel_rfl, of_decide_eq_true (by kernel_rfl), by kernel_rfl⟩⟩
noncomputable def s26 (Γ : PCallee) (n : Nat) (x0 : PV) (h : PHeap) : Pt :=
 forkP (.ptr h.length 0) (h ++ [.box (cellsP x0) 86 .rw]) fun v0 h1 =>
 forkP (.ptr h1.length 0) (h1 ++ [.box [.str ⟨#[]⟩, .int .i64 0, .int .i64 0] 90 .rw]) fun v2 h3 =>
 (fieldAddrP 0 v0).bind fun v4 =>
 (fieldAddrP 3 v4).bind fun v5 =>
 (loadP false 1 v5 h3).bind fun v6 =>
 (lenP false v6).bind fun v7 =>
 (Γ 42 [v7, (.int .i64 1 : PV), (.int .i64 64 : PV)] h3).bind fun p8 =>
 (unP .not p8.1).bind fun v9 =>
 KL (fun w11 h12 =>
 (fieldAddrP 0 v0).bind fun v13 =>
 (fieldAddrP 3 v13).bind fun v14 =>
 (loadP false 1 v14 h12).bind fun v15 =>
 (fz (.flat 1) v15 h12).bind fun q16 =>
 (Γ 49 [q16.1, (PV.func 50 [] [v0])] q16.2).bind fun p17 =>
 (binP .geq p17.1 (.int .i64 0 : PV)).bind fun v18 =>
 KL (fun w20 h21 =>
 (fillP [.str ⟨#[]⟩, .int .i64 0, .int .i64 0] [(0, 1, (.str ⟨#[114, 101, 115, 116, 97, 114, 116]⟩ : PV)), (1, 1, (.int .i64 0 : PV)), (2, 1, (.int .i64 5 : PV))]).bind fun l22 =>
 (fieldAddrP 0 v0).bind fun v23 =>
 (fieldAddrP 4 v23).bind fun v24 =>
 (loadP false 1 v24 h21).bind fun v25 =>
 (fieldAddrP 0 v0).bind fun v26 =>
 (fieldAddrP 3 v26).bind fun v27 =>
 (loadP false 1 v27 h21).bind fun v28 =>
 (lenP false v28).bind fun v29 =>
 (binP .sub v29 (.int .i64 1 : PV)).bind fun v30 =>
 (Γ 42 [v25, (.int .i64 0 : PV), v30] h21).bind fun p31 =>
 (unP .not p31.1).bind fun v32 =>
 (storeP 3 v2 (PV.agg l22) p31.2).bind fun h33 =>
 (loadP true 3 v2 h33).bind fun v34 =>
 finP [.keep, .keep] h h33 [v34, v32]) fun j19 =>
 ifP v18 (
 (fillP [.str ⟨#[]⟩, .int .i64 0, .int .i64 0] [(0, 1, (.str ⟨#[111, 114, 100, 101, 114, 115]⟩ : PV)), (1, 1, p17.1), (2, 1, (.int .i64 10 : PV))]).bind fun l35 =>
 (storeP 3 v2 (PV.agg l35) p17.2).bind fun h36 =>
 (loadP true 3 v2 h36).bind fun v37 =>
 finP [.keep, .keep] h h36 [v37, (.bool true : PV)]) (
 j19 [] p17.2)) fun j10 =>
 ifP v9 (
 (fillP [.str ⟨#[]⟩, .int .i64 0, .int .i64 0] [(0, 1, (.str ⟨#[111, 114, 100, 101, 114, 115]⟩ : PV)), (1, 1, (.int .i64 0 : PV)), (2, 1, (.int .i64 4 : PV))]).bind fun l38 =>
 (storeP 3 v2 (PV.agg l38) p8.2).bind fun h39 =>
 (loadP true 3 v2 h39).bind fun v40 =>
 finP [.keep, .keep] h h39 [v40, (.bool true : PV)]) (
 j10 [] p8.2)

theorem s26_eq (Γ : PCallee) (n : Nat) (x0 : PV) (h : PHeap) : pfunK Γ n A26 [x0] h = s26 Γ n x0 h := by kernel_rfl


open Go.Vm.G in
/-- (orchestrion/song.checked).numbers -/
def A27 : PFun := ⟨1, 55,
 (S (R <| o 1 (.box 86 (t 0)) <| o 2 (.new 90 [(.string ⟨#[]⟩), (.int .i64 0), (.int .i64 0)]) <| o 3 (.move (.const (.bool false))) <| z) <|
  (S (.block 0 [] ([3] ++ g 5 42)
  (S (R <| f 6 0 1 <| f 7 5 6 <| l 8 7 <| o 9 (.call 42 [(t 8), (i 1), (i 31)]) <| o 10 (.un .not (t 9)) <| m 5 10 <| z) <|
  (.cond (t 5) [] ([3] ++ g 11 36)
  (S (R <| o 11 (.build [(.string ⟨#[]⟩), (.int .i64 0), (.int .i64 0)] [(0, 1, (.const (.string ⟨#[115, 112, 101, 101, 100]⟩))), (1, 1, (i 0)), (2, 1, (i 5))]) <| n (.store 3 (t 2) (t 11)) <| o 3 (.move (.const (.bool true))) <| z) <|
  .ret)
  (S (R <| f 13 0 1 <| f 14 6 13 <| l 15 14 <| o 16 (.call 42 [(t 15), (i 32), (i 255)]) <| o 17 (.un .not (t 16)) <| m 12 17 <| z) <|
  (.cond (t 12) [] ([3] ++ g 18 29)
  (S (R <| o 18 (.build [(.string ⟨#[]⟩), (.int .i64 0), (.int .i64 0)] [(0, 1, (.const (.string ⟨#[116, 101, 109, 112, 111]⟩))), (1, 1, (i 0)), (2, 1, (i 5))]) <| n (.store 3 (t 2) (t 18)) <| o 3 (.move (.const (.bool true))) <| z) <|
  .ret)
  (S (R <| f 20 0 1 <| f 21 7 20 <| l 22 21 <| o 23 (.call 42 [(t 22), (i 0), (i 128)]) <| o 24 (.un .not (t 23)) <| m 19 24 <| z) <|
  (.cond (t 19) [] ([3] ++ g 25 22)
  (S (R <| o 25 (.build [(.string ⟨#[]⟩), (.int .i64 0), (.int .i64 0)] [(0, 1, (.const (.string ⟨#[103, 108, 111, 98, 97, 108]⟩))), (1, 1, (i 0)), (2, 1, (i 5))]) <| n (.store 3 (t 2) (t 25)) <| o 3 (.move (.const (.bool true))) <| z) <|
  .ret)
  (S (R <| f 27 0 1 <| f 28 8 27 <| l 29 28 <| m 30 29 <| q 35 30 true (g 31 4) (f 31 13 1 <| f 32 8 31 <| l 33 32 <| o 34 (.un .not (t 33)) <| z) (t 34) <|
  m 26 35 <| z) <|
  (.cond (t 26) [] ([3] ++ g 36 11)
  (S (R <| o 36 (.build [(.string ⟨#[]⟩), (.int .i64 0), (.int .i64 0)] [(0, 1, (.const (.string ⟨#[108, 105, 110, 101, 97, 114]⟩))), (1, 1, (i 0)), (2, 1, (i 6))]) <| n (.store 3 (t 2) (t 36)) <| o 3 (.move (.const (.bool true))) <| z) <|
  .ret)
  (S (R <| f 38 0 1 <| f 39 9 38 <| l 40 39 <| o 41 (.len false (t 40)) <| f 42 0 1 <| f 43 2 42 <| l 44 43 <| b 45 .neq (t 41) (t 44) <| m 37 45 <| z) <|
  (.cond (t 37) [] [3, 46]
  (S (R <| o 46 (.build [(.string ⟨#[]⟩), (.int .i64 0), (.int .i64 0)] [(0, 1, (.const (.string ⟨#[112, 97, 110, 115]⟩))), (1, 1, (i 0)), (2, 1, (i 4))]) <| n (.store 3 (t 2) (t 46)) <| o 3 (.move (.const (.bool true))) <| z) <|
  .ret)
  .skip))))))))))) <|
  (S (R <| f 47 0 1 <| f 48 9 47 <| l 49 48 <| o 50 (.call 49 [(t 49), (.func 52)]) <| m 4 50 <| z) <|
  (S (R <| m 51 4 <| o 52 (.build [(.string ⟨#[]⟩), (.int .i64 0), (.int .i64 0)] [(0, 1, (.const (.string ⟨#[112, 97, 110, 115]⟩))), (1, 1, (t 51)), (2, 1, (i 5))]) <| m 53 4 <| b 54 .geq (t 53) (i 0) <| n (.store 3 (t 2) (t 52)) <| m 3 54 <| z) <|
  .ret)))),
 [.cell 2 true 3, .tmp 3], [.keep, .keep]⟩
theorem ok27 : ∃ fn c, FunOk Try.prog 27 fn c A27.erase := ⟨Try.f27, _, ⟨Try.func27, rfl, by kernel_rfl, by kernel_rfl, by kernel_rfl, of_decide_eq_true (by kernel_rfl), by kernel_rfl⟩⟩
noncomputable def s27 (Γ : PCallee) (n : Nat) (x0 : PV) (h : PHeap) : Pt :=
 forkP (.ptr h.length 0) (h ++ [.box (cellsP x0) 86 .rw]) fun v0 h1 =>
 forkP (.ptr h1.length 0) (h1 ++ [.box [.str ⟨#[]⟩, .int .i64 0, .int .i64 0] 90 .rw]) fun v2 h3 =>
 KL (fun w5 h6 =>
 (fieldAddrP 0 v0).bind fun v7 =>
 (fieldAddrP 9 v7).bind fun v8 =>
 (loadP false 1 v8 h6).bind fun v9 =>
 (Γ 49 [v9, (PV.func 52 [] [])] h6).bind fun p10 =>
 (fillP [.str ⟨#[]⟩, .int .i64 0, .int .i64 0] [(0, 1, (.str ⟨#[112, 97, 110, 115]⟩ : PV)), (1, 1, p10.1), (2, 1, (.int .i64 5 : PV))]).bind fun l11 =>
 (binP .geq p10.1 (.int .i64 0 : PV)).bind fun v12 =>
 (storeP 3 v2 (PV.agg l11) p10.2).bind fun h13 =>
 (loadP true 3 v2 h13).bind fun v14 =>
 finP [.keep, .keep] h h13 [v14, v12]) fun j4 =>
 (fieldAddrP 0 v0).bind fun v15 =>
 (fieldAddrP 5 v15).bind fun v16 =>
 (loadP false 1 v16 h3).bind fun v17 =>
 (Γ 42 [v17, (.int .i64 1 : PV), (.int .i64 31 : PV)] h3).bind fun p18 =>
 (unP .not p18.1).bind fun v19 =>
 KL (fun w21 h22 =>
 j4 [] h22) fun j20 =>
 ifP v19 (
 (fillP [.str ⟨#[]⟩, .int .i64 0, .int .i64 0] [(0, 1, (.str ⟨#[115, 112, 101, 101, 100]⟩ : PV)), (1, 1, (.int .i64 0 : PV)), (2, 1, (.int .i64 5 : PV))]).bind fun l23 =>
 (storeP 3 v2 (PV.agg l23) p18.2).bind fun h24 =>
 (loadP true 3 v2 h24).bind fun v25 =>
 finP [.keep, .keep] h h24 [v25, (.bool true : PV)]) (
 (fieldAddrP 0 v0).bind fun v26 =>
 (fieldAddrP 6 v26).bind fun v27 =>
 (loadP false 1 v27 p18.2).bind fun v28 =>
 (Γ 42 [v28, (.int .i64 32 : PV), (.int .i64 255 : PV)] p18.2).bind fun p29 =>
 (unP .not p29.1).bind fun v30 =>
 KL (fun w32 h33 =>
 j20 [] h33) fun j31 =>
 ifP v30 (
 (fillP [.str ⟨#[]⟩, .int .i64 0, .int .i64 0] [(0, 1, (.str ⟨#[116, 101, 109, 112, 111]⟩ : PV)), (1, 1, (.int .i64 0 : PV)), (2, 1, (.int .i64 5 : PV))]).bind fun l34 =>
 (storeP 3 v2 (PV.agg l34) p29.2).bind fun h35 =>
 (loadP true 3 v2 h35).bind fun v36 =>
 finP [.keep, .keep] h h35 [v36, (.bool true : PV)]) (
 (fieldAddrP 0 v0).bind fun v37 =>
 (fieldAddrP 7 v37).bind fun v38 =>
 (loadP false 1 v38 p29.2).bind fun v39 =>
 (Γ 42 [v39, (.int .i64 0 : PV), (.int .i64 128 : PV)] p29.2).bind fun p40 =>
 (unP .not p40.1).bind fun v41 =>
 KL (fun w43 h44 =>
 j31 [] h44) fun j42 =>
 ifP v41 (
 (fillP [.str ⟨#[]⟩, .int .i64 0, .int .i64 0] [(0, 1, (.str ⟨#[103, 108, 111, 98, 97, 108]⟩ : PV)), (1, 1, (.int .i64 0 : PV)), (2, 1, (.int .i64 5 : PV))]).bind fun l45 =>
 (storeP 3 v2 (PV.agg l45) p40.2).bind fun h46 =>
 (loadP true 3 v2 h46).bind fun v47 =>
 finP [.keep, .keep] h h46 [v47, (.bool true : PV)]) (
 (fieldAddrP 0 v0).bind fun v48 =>
 (fieldAddrP 8 v48).bind fun v49 =>
 (loadP false 1 v49 p40.2).bind fun v50 =>
 K1 (fun v52 h53 =>
 KL (fun w55 h56 =>
 j42 [] h56) fun j54 =>
 ifP v52 (
 (fillP [.str ⟨#[]⟩, .int .i64 0, .int .i64 0] [(0, 1, (.str ⟨#[108, 105, 110, 101, 97, 114]⟩ : PV)), (1, 1, (.int .i64 0 : PV)), (2, 1, (.int .i64 6 : PV))]).bind fun l57 =>
 (storeP 3 v2 (PV.agg l57) h53).bind fun h58 =>
 (loadP true 3 v2 h58).bind fun v59 =>
 finP [.keep, .keep] h h58 [v59, (.bool true : PV)]) (
 (fieldAddrP 0 v0).bind fun v60 =>
 (fieldAddrP 9 v60).bind fun v61 =>
 (loadP false 1 v61 h53).bind fun v62 =>
 (lenP false v62).bind fun v63 =>
 (fieldAddrP 0 v0).bind fun v64 =>
 (fieldAddrP 2 v64).bind fun v65 =>
 (loadP false 1 v65 h53).bind fun v66 =>
 (binP .neq v63 v66).bind fun v67 =>
 KL (fun w69 h70 =>
 j54 [] h70) fun j68 =>
 ifP v67 (
 (fillP [.str ⟨#[]⟩, .int .i64 0, .int .i64 0] [(0, 1, (.str ⟨#[112, 97, 110, 115]⟩ : PV)), (1, 1, (.int .i64 0 : PV)), (2, 1, (.int .i64 4 : PV))]).bind fun l71 =>
 (storeP 3 v2 (PV.agg l71) h53).bind fun h72 =>
 (loadP true 3 v2 h72).bind fun v73 =>
 finP [.keep, .keep] h h72 [v73, (.bool true : PV)]) (
 j68 [] h53))) fun j51 =>
 scP v50 true (
 (fieldAddrP 13 v0).bind fun v74 =>
 (fieldAddrP 8 v74).bind fun v75 =>
 (loadP false 1 v75 p40.2).bind fun v76 =>
 (unP .not v76).bind fun v77 =>
 j51 v77 p40.2)
 (j51 (.bool false) p40.2))))

theorem s27_eq (Γ : PCallee) (n : Nat) (x0 : PV) (h : PHeap) : pfunK Γ n A27 [x0] h = s27 Γ n x0 h := by kernel_rfl


open Go.Vm.G in
/-- (orchestrion/song.checked).sounds -/
def A28 : PFun := ⟨1, 75,
 (S (R <| o 1 (.box 86 (t 0)) <| o 2 (.new 90 [(.string ⟨#[]⟩), (.int .i64 0), (.int .i64 0)]) <| o 3 (.move (.const (.bool false))) <| z) <|
  (S (S (R <| f 7 0 1 <| f 8 11 7 <| l 9 8 <| o 10 (.len false (t 9)) <| b 11 .gtr (t 10) (i 31) <| m 12 11 <| q 24 12 false (g 13 5 ++ [23] ++ g 18 5) (f 13 0 1 <| f 14 1 13 <| l 15 14 <| b 16 .eql (t 15) (i 6) <| m 17 16 <| q 23 17 true (g 18 5) (f 18 0 1 <| f 19 11 18 <| l 20 19 <| o 21 (.len false (t 20)) <| b 22 .gtr (t 21) (i 0) <| z) (t 22) <|
  z) (t 23) <|
  z) <|
  (.cond (t 24) [] [3, 25]
  (S (R <| o 25 (.build [(.string ⟨#[]⟩), (.int .i64 0), (.int .i64 0)] [(0, 1, (.const (.string ⟨#[115, 97, 109, 112, 108, 101, 115]⟩))), (1, 1, (i 0)), (2, 1, (i 4))]) <| n (.store 3 (t 2) (t 25)) <| o 3 (.move (.const (.bool true))) <| z) <|
  .ret)
  .skip)) <|
  (S (S (R <| f 26 0 1 <| f 27 11 26 <| l 28 27 <| F 28 (.sl 13 SS13) <| o 29 (.call 53 [(t 28), (.func 54)]) <| m 4 29 <| z) <|
  (S (R <| m 30 4 <| b 31 .geq (t 30) (i 0) <| z) <|
  (.cond (t 31) [] [3, 32, 33]
  (S (R <| m 32 4 <| o 33 (.build [(.string ⟨#[]⟩), (.int .i64 0), (.int .i64 0)] [(0, 1, (.const (.string ⟨#[115, 97, 109, 112, 108, 101, 115]⟩))), (1, 1, (t 32)), (2, 1, (i 1))]) <| n (.store 3 (t 2) (t 33)) <| o 3 (.move (.const (.bool true))) <| z) <|
  .ret)
  .skip))) <|
  (S (S (R <| f 34 0 1 <| f 35 12 34 <| l 36 35 <| o 37 (.len false (t 36)) <| b 38 .gtr (t 37) (i 31) <| m 39 38 <| q 51 39 false (g 40 5 ++ [50] ++ g 45 5) (f 40 13 1 <| f 41 6 40 <| l 42 41 <| o 43 (.un .not (t 42)) <| m 44 43 <| q 50 44 true (g 45 5) (f 45 0 1 <| f 46 12 45 <| l 47 46 <| o 48 (.len false (t 47)) <| b 49 .gtr (t 48) (i 0) <| z) (t 49) <|
  z) (t 50) <|
  z) <|
  (.cond (t 51) [] [3, 52]
  (S (R <| o 52 (.build [(.string ⟨#[]⟩), (.int .i64 0), (.int .i64 0)] [(0, 1, (.const (.string ⟨#[105, 110, 115, 116, 115]⟩))), (1, 1, (i 0)), (2, 1, (i 4))]) <| n (.store 3 (t 2) (t 52)) <| o 3 (.move (.const (.bool true))) <| z) <|
  .ret)
  .skip)) <|
  (S (S (R <| f 53 0 1 <| f 54 12 53 <| l 55 54 <| o 56 (.len false (t 55)) <| o 57 (.move (i 0)) <| z) <|
  (.block 0 [] ([3, 5, 6] ++ g 57 17)
  (.loop [57] ([3, 5, 6] ++ g 58 16)
  (S (R <| b 58 .lss (t 57) (t 56) <| z) <|
  (S (.cond (t 58) [] []
  .skip
  (.exit 0)) <|
  (S (.block 1 [] ([3, 5, 6] ++ g 59 14)
  (S (R <| m 59 57 <| o 60 (.indexAddr 33 (t 55) (t 57)) <| o 61 (.load true 33 (t 60)) <| o 6 (.new 54 V33) <| m 5 59 <| n (.store 33 (t 6) (t 61)) <| z) <|
  (S (S (R <| o 62 (.load true 33 (t 6)) <| F 62 (.agg SA33) <| o 63 (.call 56 [(t 62)]) <| o 64 (.un .not (t 63)) <| z) <|
  (.cond (t 64) [] [3, 65, 66]
  (S (R <| m 65 5 <| o 66 (.build [(.string ⟨#[]⟩), (.int .i64 0), (.int .i64 0)] [(0, 1, (.const (.string ⟨#[105, 110, 115, 116, 115]⟩))), (1, 1, (t 65)), (2, 1, (i 1))]) <| n (.store 3 (t 2) (t 66)) <| o 3 (.move (.const (.bool true))) <| z) <|
  .ret)
  .skip)) <|
  (S (R <| f 67 1 6 <| l 68 67 <| o 69 (.mkFunc 58 [] [(t 1)]) <| F 68 (.flat 2) <| o 70 (.call 57 [(t 68), (t 69)]) <| z) <|
  (.cond (t 70) [] [3, 71, 72]
  (S (R <| m 71 5 <| o 72 (.build [(.string ⟨#[]⟩), (.int .i64 0), (.int .i64 0)] [(0, 1, (.const (.string ⟨#[105, 110, 115, 116, 115]⟩))), (1, 1, (t 71)), (2, 1, (i 10))]) <| n (.store 3 (t 2) (t 72)) <| o 3 (.move (.const (.bool true))) <| z) <|
  .ret)
  .skip))))) <|
  (R <| b 73 .add (t 57) (i 1) <| m 57 73 <| z))))))) <|
  (S (R <| o 74 (.build [(.string ⟨#[]⟩), (.int .i64 0), (.int .i64 0)] []) <| n (.store 3 (t 2) (t 74)) <| o 3 (.move (.const (.bool false))) <| z) <|
  .ret)))))),
 [.cell 2 true 3, .tmp 3], [.keep, .keep]⟩
theorem ok28 : ∃ fn c, FunOk Try.prog 28 fn c A28.erase := ⟨Try.f28, _, ⟨Try.func28, rfl, by kernel_rfl, by kernel_rfl, by kernel_rfl, of_decide_eq_true (by kernel_rfl), by kernel_rfl⟩⟩
noncomputable def s28_L0 (Γ : PCallee) (n : Nat) (h : PHeap) (v0 : PV) (v2 : PV) (h34 : PHeap) (v37 : PV) (v38 : PV) (j39 : List PV → PHeap → Pt) : (List PV → PHeap → Pt) → List PV → PHeap → Pt := fun c45 w46 h47 =>
 (binP .lss (nthP w46 0) v38).bind fun v48 =>
 KL (fun w50 h51 =>
 KL (fun w53 h54 =>
 (binP .add (nthP w46 0) (.int .i64 1 : PV)).bind fun v55 =>
 c45 [v55] (trim h34 [v55] h54)) fun j52 =>
 (indexAddrP 33 v37 (nthP w46 0)).bind fun v56 =>
 (loadP true 33 v56 h51).bind fun v57 =>
 forkP (.ptr h51.length 0) (h51 ++ [.box Z33 54 .rw]) fun v58 h59 =>
 (storeP 33 v58 v57 h59).bind fun h60 =>
 (loadP true 33 v58 h60).bind fun v61 =>
 (fz (.agg SA33) v61 h60).bind fun q62 =>
 (Γ 56 [q62.1] q62.2).bind fun p63 =>
 (unP .not p63.1).bind fun v64 =>
 KL (fun w66 h67 =>
 (fieldAddrP 1 v58).bind fun v68 =>
 (loadP false 1 v68 h67).bind fun v69 =>
 (fz (.flat 2) v69 h67).bind fun q70 =>
 (Γ 57 [q70.1, (PV.func 58 [] [v0])] q70.2).bind fun p71 =>
 KL (fun w73 h74 =>
 j52 [] h74) fun j72 =>
 ifP p71.1 (
 (fillP [.str ⟨#[]⟩, .int .i64 0, .int .i64 0] [(0, 1, (.str ⟨#[105, 110, 115, 116, 115]⟩ : PV)), (1, 1, (nthP w46 0)), (2, 1, (.int .i64 10 : PV))]).bind fun l75 =>
 (storeP 3 v2 (PV.agg l75) p71.2).bind fun h76 =>
 (loadP true 3 v2 h76).bind fun v77 =>
 finP [.keep, .keep] h h76 [v77, (.bool true : PV)]) (
 j72 [] p71.2)) fun j65 =>
 ifP v64 (
 (fillP [.str ⟨#[]⟩, .int .i64 0, .int .i64 0] [(0, 1, (.str ⟨#[105, 110, 115, 116, 115]⟩ : PV)), (1, 1, (nthP w46 0)), (2, 1, (.int .i64 1 : PV))]).bind fun l78 =>
 (storeP 3 v2 (PV.agg l78) p63.2).bind fun h79 =>
 (loadP true 3 v2 h79).bind fun v80 =>
 finP [.keep, .keep] h h79 [v80, (.bool true : PV)]) (
 j65 [] p63.2)) fun j49 =>
 ifP v48 (
 j49 [] h47) (
 j39 [] h47)
noncomputable def s28 (Γ : PCallee) (n : Nat) (x0 : PV) (h : PHeap) : Pt :=
 forkP (.ptr h.length 0) (h ++ [.box (cellsP x0) 86 .rw]) fun v0 h1 =>
 forkP (.ptr h1.length 0) (h1 ++ [.box [.str ⟨#[]⟩, .int .i64 0, .int .i64 0] 90 .rw]) fun v2 h3 =>
 (fieldAddrP 0 v0).bind fun v4 =>
 (fieldAddrP 11 v4).bind fun v5 =>
 (loadP false 1 v5 h3).bind fun v6 =>
 (lenP false v6).bind fun v7 =>
 (binP .gtr v7 (.int .i64 31 : PV)).bind fun v8 =>
 K1 (fun v10 h11 =>
 KL (fun w13 h14 =>
 (fieldAddrP 0 v0).bind fun v15 =>
 (fieldAddrP 11 v15).bind fun v16 =>
 (loadP false 1 v16 h14).bind fun v17 =>
 (fz (.sl 13 SS13) v17 h14).bind fun q18 =>
 (Γ 53 [q18.1, (PV.func 54 [] [])] q18.2).bind fun p19 =>
 (binP .geq p19.1 (.int .i64 0 : PV)).bind fun v20 =>
 KL (fun w22 h23 =>
 (fieldAddrP 0 v0).bind fun v24 =>
 (fieldAddrP 12 v24).bind fun v25 =>
 (loadP false 1 v25 h23).bind fun v26 =>
 (lenP false v26).bind fun v27 =>
 (binP .gtr v27 (.int .i64 31 : PV)).bind fun v28 =>
 K1 (fun v30 h31 =>
 KL (fun w33 h34 =>
 (fieldAddrP 0 v0).bind fun v35 =>
 (fieldAddrP 12 v35).bind fun v36 =>
 (loadP false 1 v36 h34).bind fun v37 =>
 (lenP false v37).bind fun v38 =>
 KL (fun w40 h41 =>
 (fillP [.str ⟨#[]⟩, .int .i64 0, .int .i64 0] []).bind fun l42 =>
 (storeP 3 v2 (PV.agg l42) h41).bind fun h43 =>
 (loadP true 3 v2 h43).bind fun v44 =>
 finP [.keep, .keep] h h43 [v44, (.bool false : PV)]) fun j39 =>
 loopP (s28_L0 Γ n h v0 v2 h34 v37 v38 j39) n [(.int .i64 0 : PV)] h34) fun j32 =>
 ifP v30 (
 (fillP [.str ⟨#[]⟩, .int .i64 0, .int .i64 0] [(0, 1, (.str ⟨#[105, 110, 115, 116, 115]⟩ : PV)), (1, 1, (.int .i64 0 : PV)), (2, 1, (.int .i64 4 : PV))]).bind fun l81 =>
 (storeP 3 v2 (PV.agg l81) h31).bind fun h82 =>
 (loadP true 3 v2 h82).bind fun v83 =>
 finP [.keep, .keep] h h82 [v83, (.bool true : PV)]) (
 j32 [] h31)) fun j29 =>
 scP v28 false (
 (fieldAddrP 13 v0).bind fun v84 =>
 (fieldAddrP 6 v84).bind fun v85 =>
 (loadP false 1 v85 h23).bind fun v86 =>
 (unP .not v86).bind fun v87 =>
 K1 (fun v89 h90 =>
 j29 v89 h90) fun j88 =>
 scP v87 true (
 (fieldAddrP 0 v0).bind fun v91 =>
 (fieldAddrP 12 v91).bind fun v92 =>
 (loadP false 1 v92 h23).bind fun v93 =>
 (lenP false v93).bind fun v94 =>
 (binP .gtr v94 (.int .i64 0 : PV)).bind fun v95 =>
 j88 v95 h23)
 (j88 (.bool false) h23))
 (j29 (.bool true) h23)) fun j21 =>
 ifP v20 (
 (fillP [.str ⟨#[]⟩, .int .i64 0, .int .i64 0] [(0, 1, (.str ⟨#[115, 97, 109, 112, 108, 101, 115]⟩ : PV)), (1, 1, p19.1), (2, 1, (.int .i64 1 : PV))]).bind fun l96 =>
 (storeP 3 v2 (PV.agg l96) p19.2).bind fun h97 =>
 (loadP true 3 v2 h97).bind fun v98 =>
 finP [.keep, .keep] h h97 [v98, (.bool true : PV)]) (
 j21 [] p19.2)) fun j12 =>
 ifP v10 (
 (fillP [.str ⟨#[]⟩, .int .i64 0, .int .i64 0] [(0, 1, (.str ⟨#[115, 97, 109, 112, 108, 101, 115]⟩ : PV)), (1, 1, (.int .i64 0 : PV)), (2, 1, (.int .i64 4 : PV))]).bind fun l99 =>
 (storeP 3 v2 (PV.agg l99) h11).bind fun h100 =>
 (loadP true 3 v2 h100).bind fun v101 =>
 finP [.keep, .keep] h h100 [v101, (.bool true : PV)]) (
 j12 [] h11)) fun j9 =>
 scP v8 false (
 (fieldAddrP 0 v0).bind fun v102 =>
 (fieldAddrP 1 v102).bind fun v103 =>
 (loadP false 1 v103 h3).bind fun v104 =>
 (binP .eql v104 (.int .i64 6 : PV)).bind fun v105 =>
 K1 (fun v107 h108 =>
 j9 v107 h108) fun j106 =>
 scP v105 true (
 (fieldAddrP 0 v0).bind fun v109 =>
 (fieldAddrP 11 v109).bind fun v110 =>
 (loadP false 1 v110 h3).bind fun v111 =>
 (lenP false v111).bind fun v112 =>
 (binP .gtr v112 (.int .i64 0 : PV)).bind fun v113 =>
 j106 v113 h3)
 (j106 (.bool false) h3))
 (j9 (.bool true) h3)

theorem s28_eq (Γ : PCallee) (n : Nat) (x0 : PV) (h : PHeap) : pfunK Γ n A28 [x0] h = s28 Γ n x0 h := by kernel_rfl


open Go.Vm.G in
/-- orchestrion/orchestrionref06.Quirks -/
def A29 : PFun := ⟨1, 24,
 (S (R <| o 2 (.new 82 V29) <| o 3 (.move (i 0)) <| z) <|
  (S (S (R <| m 4 0 <| z) <|
  (.block 0 [] ([3] ++ g 5 18)
  (S (R <| b 6 .eql (t 4) (i 1) <| m 5 6 <| z) <|
  (.cond (t 5) [] ([3] ++ g 7 16)
  (S (R <| o 7 (.build V29 [(0, 1, (.const (.string ⟨#[102, 111, 117, 114]⟩))), (1, 1, (i 4)), (2, 1, (i 32)), (3, 1, (i 64)), (4, 1, (i 49)), (5, 1, (i 84)), (9, 1, (i 1)), (10, 1, (i 453)), (11, 1, (i 3424)), (16, 1, (i 5)), (17, 1, (.const (.bool true))), (18, 1, (i 1)), (19, 1, (.const (.bool true))), (21, 1, (i 1)), (22, 1, (.const (.bool true))), (25, 1, (.const (.bool true)))]) <| n (.store 29 (t 2) (t 7)) <| o 3 (.move (i 0)) <| z) <|
  .ret)
  (S (R <| b 9 .eql (t 4) (i 2) <| m 8 9 <| z) <|
  (.cond (t 8) [] ([3] ++ g 10 13)
  (S (R <| o 10 (.build V29 [(0, 1, (.const (.string ⟨#[115, 99, 114, 101, 97, 109]⟩))), (1, 1, (i 16)), (2, 1, (i 32)), (3, 1, (i 64)), (4, 1, (i 13)), (5, 1, (i 108)), (7, 1, (.const (.bool true))), (9, 1, (i 1)), (10, 1, (i 64)), (11, 1, (i 32767)), (16, 1, (i 5))]) <| n (.store 29 (t 2) (t 10)) <| o 3 (.move (i 0)) <| z) <|
  .ret)
  (S (R <| b 12 .eql (t 4) (i 3) <| m 11 12 <| z) <|
  (.cond (t 11) [] ([3] ++ g 13 10)
  (S (R <| o 13 (.build V29 [(0, 1, (.const (.string ⟨#[102, 97, 115, 116]⟩))), (1, 1, (i 16)), (2, 1, (i 32)), (4, 1, (i 1)), (5, 1, (i 96)), (6, 1, (.const (.bool true))), (7, 1, (.const (.bool true))), (8, 1, (.const (.bool true))), (10, 1, (i 32)), (11, 1, (i 65535)), (12, 1, (.const (.bool true))), (16, 1, (i 6)), (17, 1, (.const (.bool true))), (19, 1, (.const (.bool true))), (20, 1, (.const (.bool true))), (21, 1, (i 1)), (23, 1, (.const (.bool true))), (24, 1, (.const (.bool true))), (25, 1, (.const (.bool true))), (26, 1, (.const (.bool true))), (27, 1, (.const (.bool true)))]) <| n (.store 29 (t 2) (t 13)) <| o 3 (.move (i 0)) <| z) <|
  .ret)
  (S (R <| b 15 .eql (t 4) (i 4) <| m 14 15 <| z) <|
  (.cond (t 14) [] ([3] ++ g 16 7)
  (S (R <| o 16 (.build V29 [(0, 1, (.const (.string ⟨#[105, 109, 112, 117, 108, 115, 101]⟩))), (1, 1, (i 16)), (2, 1, (i 32)), (4, 1, (i 1)), (5, 1, (i 120)), (6, 1, (.const (.bool true))), (7, 1, (.const (.bool true))), (8, 1, (.const (.bool true))), (10, 1, (i 16)), (11, 1, (i 65535)), (15, 1, (.const (.bool true))), (16, 1, (i 6)), (19, 1, (.const (.bool true))), (21, 1, (i 2)), (23, 1, (.const (.bool true))), (27, 1, (.const (.bool true)))]) <| n (.store 29 (t 2) (t 16)) <| o 3 (.move (i 0)) <| z) <|
  .ret)
  (S (R <| b 18 .eql (t 4) (i 5) <| m 17 18 <| z) <|
  (.cond (t 17) [] ([3] ++ g 19 4)
  (S (R <| o 19 (.build V29 [(0, 1, (.const (.string ⟨#[99, 111, 109, 112, 111, 115, 101]⟩))), (1, 1, (i 8)), (2, 1, (i 32)), (3, 1, (i 64)), (4, 1, (i 13)), (5, 1, (i 72)), (9, 1, (i 2)), (13, 1, (.const (.bool true))), (16, 1, (i 5)), (18, 1, (i 2)), (28, 1, (.const (.bool true)))]) <| n (.store 29 (t 2) (t 19)) <| o 3 (.move (i 0)) <| z) <|
  .ret)
  (S (R <| b 21 .eql (t 4) (i 6) <| m 20 21 <| z) <|
  (.cond (t 20) [] [3, 22]
  (S (R <| o 22 (.build V29 [(0, 1, (.const (.string ⟨#[99, 104, 105, 112]⟩))), (1, 1, (i 4)), (2, 1, (i 32)), (4, 1, (i 13)), (5, 1, (i 108)), (6, 1, (.const (.bool true))), (9, 1, (i 1)), (10, 1, (i 16)), (11, 1, (i 65535)), (14, 1, (.const (.bool true))), (16, 1, (i 5)), (17, 1, (.const (.bool true))), (18, 1, (i 2)), (23, 1, (.const (.bool true))), (27, 1, (.const (.bool true)))]) <| n (.store 29 (t 2) (t 22)) <| o 3 (.move (i 0)) <| z) <|
  .ret)
  .skip)))))))))))))) <|
  (S (R <| o 23 (.build V29 []) <| n (.store 29 (t 2) (t 23)) <| o 3 (.move (i 6)) <| z) <|
  .ret))),
 [.cell 2 true 29, .tmp 3], [.keep, .keep]⟩
theorem ok29 : ∃ fn c, FunOk Try.prog 29 fn c A29.erase := ⟨Try.f29, _, ⟨Try.func29, rfl, by kernel_rfl, by kernel_rfl, by kernel_rfl, of_decide_eq_true (by kernel_rfl), by kernel_rfl⟩⟩
noncomputable def s29 (Γ : PCallee) (n : Nat) (x0 : PV) (h : PHeap) : Pt :=
 forkP (.ptr h.length 0) (h ++ [.box Z29 82 .rw]) fun v0 h1 =>
 KL (fun w3 h4 =>
 (fillP Z29 []).bind fun l5 =>
 (storeP 29 v0 (PV.agg l5) h4).bind fun h6 =>
 (loadP true 29 v0 h6).bind fun v7 =>
 finP [.keep, .keep] h h6 [v7, (.int .i64 6 : PV)]) fun j2 =>
 (binP .eql x0 (.int .i64 1 : PV)).bind fun v8 =>
 KL (fun w10 h11 =>
 j2 [] h11) fun j9 =>
 ifP v8 (
 (fillP Z29 [(0, 1, (.str ⟨#[102, 111, 117, 114]⟩ : PV)), (1, 1, (.int .i64 4 : PV)), (2, 1, (.int .i64 32 : PV)), (3, 1, (.int .i64 64 : PV)), (4, 1, (.int .i64 49 : PV)), (5, 1, (.int .i64 84 : PV)), (9, 1, (.int .i64 1 : PV)), (10, 1, (.int .i64 453 : PV)), (11, 1, (.int .i64 3424 : PV)), (16, 1, (.int .i64 5 : PV)), (17, 1, (.bool true : PV)), (18, 1, (.int .i64 1 : PV)), (19, 1, (.bool true : PV)), (21, 1, (.int .i64 1 : PV)), (22, 1, (.bool true : PV)), (25, 1, (.bool true : PV))]).bind fun l12 =>
 (storeP 29 v0 (PV.agg l12) h1).bind fun h13 =>
 (loadP true 29 v0 h13).bind fun v14 =>
 finP [.keep, .keep] h h13 [v14, (.int .i64 0 : PV)]) (
 (binP .eql x0 (.int .i64 2 : PV)).bind fun v15 =>
 KL (fun w17 h18 =>
 j9 [] h18) fun j16 =>
 ifP v15 (
 (fillP Z29 [(0, 1, (.str ⟨#[115, 99, 114, 101, 97, 109]⟩ : PV)), (1, 1, (.int .i64 16 : PV)), (2, 1, (.int .i64 32 : PV)), (3, 1, (.int .i64 64 : PV)), (4, 1, (.int .i64 13 : PV)), (5, 1, (.int .i64 108 : PV)), (7, 1, (.bool true : PV)), (9, 1, (.int .i64 1 : PV)), (10, 1, (.int .i64 64 : PV)), (11, 1, (.int .i64 32767 : PV)), (16, 1, (.int .i64 5 : PV))]).bind fun l19 =>
 (storeP 29 v0 (PV.agg l19) h1).bind fun h20 =>
 (loadP true 29 v0 h20).bind fun v21 =>
 finP [.keep, .keep] h h20 [v21, (.int .i64 0 : PV)]) (
 (binP .eql x0 (.int .i64 3 : PV)).bind fun v22 =>
 KL (fun w24 h25 =>
 j16 [] h25) fun j23 =>
 ifP v22 (
 (fillP Z29 [(0, 1, (.str ⟨#[102, 97, 115, 116]⟩ : PV)), (1, 1, (.int .i64 16 : PV)), (2, 1, (.int .i64 32 : PV)), (4, 1, (.int .i64 1 : PV)), (5, 1, (.int .i64 96 : PV)), (6, 1, (.bool true : PV)), (7, 1, (.bool true : PV)), (8, 1, (.bool true : PV)), (10, 1, (.int .i64 32 : PV)), (11, 1, (.int .i64 65535 : PV)), (12, 1, (.bool true : PV)), (16, 1, (.int .i64 6 : PV)), (17, 1, (.bool true : PV)), (19, 1, (.bool true : PV)), (20, 1, (.bool true : PV)), (21, 1, (.int .i64 1 : PV)), (23, 1, (.bool true : PV)), (24, 1, (.bool true : PV)), (25, 1, (.bool true : PV)), (26, 1, (.bool true : PV)), (27, 1, (.bool true : PV))]).bind fun l26 =>
 (storeP 29 v0 (PV.agg l26) h1).bind fun h27 =>
 (loadP true 29 v0 h27).bind fun v28 =>
 finP [.keep, .keep] h h27 [v28, (.int .i64 0 : PV)]) (
 (binP .eql x0 (.int .i64 4 : PV)).bind fun v29 =>
 KL (fun w31 h32 =>
 j23 [] h32) fun j30 =>
 ifP v29 (
 (fillP Z29 [(0, 1, (.str ⟨#[105, 109, 112, 117, 108, 115, 101]⟩ : PV)), (1, 1, (.int .i64 16 : PV)), (2, 1, (.int .i64 32 : PV)), (4, 1, (.int .i64 1 : PV)), (5, 1, (.int .i64 120 : PV)), (6, 1, (.bool true : PV)), (7, 1, (.bool true : PV)), (8, 1, (.bool true : PV)), (10, 1, (.int .i64 16 : PV)), (11, 1, (.int .i64 65535 : PV)), (15, 1, (.bool true : PV)), (16, 1, (.int .i64 6 : PV)), (19, 1, (.bool true : PV)), (21, 1, (.int .i64 2 : PV)), (23, 1, (.bool true : PV)), (27, 1, (.bool true : PV))]).bind fun l33 =>
 (storeP 29 v0 (PV.agg l33) h1).bind fun h34 =>
 (loadP true 29 v0 h34).bind fun v35 =>
 finP [.keep, .keep] h h34 [v35, (.int .i64 0 : PV)]) (
 (binP .eql x0 (.int .i64 5 : PV)).bind fun v36 =>
 KL (fun w38 h39 =>
 j30 [] h39) fun j37 =>
 ifP v36 (
 (fillP Z29 [(0, 1, (.str ⟨#[99, 111, 109, 112, 111, 115, 101]⟩ : PV)), (1, 1, (.int .i64 8 : PV)), (2, 1, (.int .i64 32 : PV)), (3, 1, (.int .i64 64 : PV)), (4, 1, (.int .i64 13 : PV)), (5, 1, (.int .i64 72 : PV)), (9, 1, (.int .i64 2 : PV)), (13, 1, (.bool true : PV)), (16, 1, (.int .i64 5 : PV)), (18, 1, (.int .i64 2 : PV)), (28, 1, (.bool true : PV))]).bind fun l40 =>
 (storeP 29 v0 (PV.agg l40) h1).bind fun h41 =>
 (loadP true 29 v0 h41).bind fun v42 =>
 finP [.keep, .keep] h h41 [v42, (.int .i64 0 : PV)]) (
 (binP .eql x0 (.int .i64 6 : PV)).bind fun v43 =>
 KL (fun w45 h46 =>
 j37 [] h46) fun j44 =>
 ifP v43 (
 (fillP Z29 [(0, 1, (.str ⟨#[99, 104, 105, 112]⟩ : PV)), (1, 1, (.int .i64 4 : PV)), (2, 1, (.int .i64 32 : PV)), (4, 1, (.int .i64 13 : PV)), (5, 1, (.int .i64 108 : PV)), (6, 1, (.bool true : PV)), (9, 1, (.int .i64 1 : PV)), (10, 1, (.int .i64 16 : PV)), (11, 1, (.int .i64 65535 : PV)), (14, 1, (.bool true : PV)), (16, 1, (.int .i64 5 : PV)), (17, 1, (.bool true : PV)), (18, 1, (.int .i64 2 : PV)), (23, 1, (.bool true : PV)), (27, 1, (.bool true : PV))]).bind fun l47 =>
 (storeP 29 v0 (PV.agg l47) h1).bind fun h48 =>
 (loadP true 29 v0 h48).bind fun v49 =>
 finP [.keep, .keep] h h48 [v49, (.int .i64 0 : PV)]) (
 j44 [] h1))))))

theorem s29_eq (Γ : PCallee) (n : Nat) (x0 : PV) (h : PHeap) : pfunK Γ n A29 [x0] h = s29 Γ n x0 h := by kernel_rfl


open Go.Vm.G in
/-- orchestrion/orchestrionref07.first -/
def A30 : PFun := ⟨1, 18,
 (S (R <| o 2 (.new 93 [(.string ⟨#[]⟩), (.int .i64 0), (.int .i64 0)]) <| o 3 (.move (.const (.bool false))) <| z) <|
  (S (S (R <| m 6 0 <| o 7 (.len false (t 6)) <| o 8 (.move (i 0)) <| z) <|
  (.block 0 [] ([3, 5] ++ g 8 9)
  (.loop [8] ([3, 5] ++ g 9 8)
  (S (R <| b 9 .lss (t 8) (t 7) <| z) <|
  (S (.cond (t 9) [] []
  .skip
  (.exit 0)) <|
  (S (.block 1 [] ([3, 5] ++ g 10 6)
  (S (R <| o 10 (.indexAddr 3 (t 6) (t 8)) <| o 11 (.load true 3 (t 10)) <| o 5 (.new 93 [(.string ⟨#[]⟩), (.int .i64 0), (.int .i64 0)]) <| n (.store 3 (t 5) (t 11)) <| z) <|
  (S (R <| f 12 2 5 <| l 13 12 <| b 14 .neq (t 13) (i 0) <| z) <|
  (.cond (t 14) [] [3, 15]
  (S (R <| o 15 (.load true 3 (t 5)) <| n (.store 3 (t 2) (t 15)) <| o 3 (.move (.const (.bool true))) <| z) <|
  .ret)
  .skip)))) <|
  (R <| b 16 .add (t 8) (i 1) <| m 8 16 <| z))))))) <|
  (S (R <| o 17 (.build [(.string ⟨#[]⟩), (.int .i64 0), (.int .i64 0)] []) <| n (.store 3 (t 2) (t 17)) <| o 3 (.move (.const (.bool false))) <| z) <|
  .ret))),
 [.cell 2 true 3, .tmp 3], [.keep, .keep]⟩
theorem ok30 : ∃ fn c, FunOk Try.prog 30 fn c A30.erase := ⟨Try.f30, _, ⟨Try.func30, rfl, by kernel_rfl, by kernel_rfl, by kernel_rfl, of_decide_eq_true (by kernel_rfl), by kernel_rfl⟩⟩
noncomputable def s30_L0 (Γ : PCallee) (n : Nat) (x0 : PV) (h : PHeap) (v0 : PV) (h1 : PHeap) (v2 : PV) (j3 : List PV → PHeap → Pt) : (List PV → PHeap → Pt) → List PV → PHeap → Pt := fun c9 w10 h11 =>
 (binP .lss (nthP w10 0) v2).bind fun v12 =>
 KL (fun w14 h15 =>
 KL (fun w17 h18 =>
 (binP .add (nthP w10 0) (.int .i64 1 : PV)).bind fun v19 =>
 c9 [v19] (trim h1 [v19] h18)) fun j16 =>
 (indexAddrP 3 x0 (nthP w10 0)).bind fun v20 =>
 (loadP true 3 v20 h15).bind fun v21 =>
 forkP (.ptr h15.length 0) (h15 ++ [.box [.str ⟨#[]⟩, .int .i64 0, .int .i64 0] 93 .rw]) fun v22 h23 =>
 (storeP 3 v22 v21 h23).bind fun h24 =>
 (fieldAddrP 2 v22).bind fun v25 =>
 (loadP false 1 v25 h24).bind fun v26 =>
 (binP .neq v26 (.int .i64 0 : PV)).bind fun v27 =>
 KL (fun w29 h30 =>
 j16 [] h30) fun j28 =>
 ifP v27 (
 (loadP true 3 v22 h24).bind fun v31 =>
 (storeP 3 v0 v31 h24).bind fun h32 =>
 (loadP true 3 v0 h32).bind fun v33 =>
 finP [.keep, .keep] h h32 [v33, (.bool true : PV)]) (
 j28 [] h24)) fun j13 =>
 ifP v12 (
 j13 [] h11) (
 j3 [] h11)
noncomputable def s30 (Γ : PCallee) (n : Nat) (x0 : PV) (h : PHeap) : Pt :=
 forkP (.ptr h.length 0) (h ++ [.box [.str ⟨#[]⟩, .int .i64 0, .int .i64 0] 93 .rw]) fun v0 h1 =>
 (lenP false x0).bind fun v2 =>
 KL (fun w4 h5 =>
 (fillP [.str ⟨#[]⟩, .int .i64 0, .int .i64 0] []).bind fun l6 =>
 (storeP 3 v0 (PV.agg l6) h5).bind fun h7 =>
 (loadP true 3 v0 h7).bind fun v8 =>
 finP [.keep, .keep] h h7 [v8, (.bool false : PV)]) fun j3 =>
 loopP (s30_L0 Γ n x0 h v0 h1 v2 j3) n [(.int .i64 0 : PV)] h1

theorem s30_eq (Γ : PCallee) (n : Nat) (x0 : PV) (h : PHeap) : pfunK Γ n A30 [x0] h = s30 Γ n x0 h := by kernel_rfl


open Go.Vm.G in
/-- orchestrion/orchestrionref07.unless -/
def A31 : PFun := ⟨3, 12,
 (S (R <| o 6 (.new 93 [(.string ⟨#[]⟩), (.int .i64 0), (.int .i64 0)]) <| z) <|
  (S (S (R <| m 7 0 <| z) <|
  (.cond (t 7) [] [8]
  (S (R <| o 8 (.build [(.string ⟨#[]⟩), (.int .i64 0), (.int .i64 0)] []) <| n (.store 3 (t 6) (t 8)) <| z) <|
  .ret)
  .skip)) <|
  (S (R <| m 9 1 <| m 10 2 <| o 11 (.build [(.string ⟨#[]⟩), (.int .i64 0), (.int .i64 0)] [(0, 1, (t 9)), (1, 1, (i 0)), (2, 1, (t 10))]) <| n (.store 3 (t 6) (t 11)) <| z) <|
  .ret))),
 [.cell 6 true 3], [.keep]⟩
theorem ok31 : ∃ fn c, FunOk Try.prog 31 fn c A31.erase := ⟨Try.f31, _, ⟨Try.func31, rfl, by kernel_rfl, by kernel_rfl, by kernel_rfl, of_decide_eq_true (by kernel_rfl), by kernel_rfl⟩⟩
noncomputable def s31 (Γ : PCallee) (n : Nat) (x0 : PV) (x1 : PV) (x2 : PV) (h : PHeap) : Pt :=
 forkP (.ptr h.length 0) (h ++ [.box [.str ⟨#[]⟩, .int .i64 0, .int .i64 0] 93 .rw]) fun v0 h1 =>
 KL (fun w3 h4 =>
 (fillP [.str ⟨#[]⟩, .int .i64 0, .int .i64 0] [(0, 1, x1), (1, 1, (.int .i64 0 : PV)), (2, 1, x2)]).bind fun l5 =>
 (storeP 3 v0 (PV.agg l5) h4).bind fun h6 =>
 (loadP true 3 v0 h6).bind fun v7 =>
 finP [.keep] h h6 [v7]) fun j2 =>
 ifP x0 (
 (fillP [.str ⟨#[]⟩, .int .i64 0, .int .i64 0] []).bind fun l8 =>
 (storeP 3 v0 (PV.agg l8) h1).bind fun h9 =>
 (loadP true 3 v0 h9).bind fun v10 =>
 finP [.keep] h h9 [v10]) (
 j2 [] h1)

theorem s31_eq (Γ : PCallee) (n : Nat) (x0 : PV) (x1 : PV) (x2 : PV) (h : PHeap) : pfunK Γ n A31 [x0, x1, x2] h = s31 Γ n x0 x1 x2 h := by kernel_rfl


open Go.Vm.G in
/-- orchestrion/orchestrionref02.Named -/
def A32 : PFun := ⟨1, 23,
 (S (R <| o 2 (.move (.const (.bool false))) <| z) <|
  (S (S (R <| m 4 0 <| o 5 (.len true (t 4)) <| b 6 .gtr (t 5) (i 22) <| z) <|
  (.cond (t 6) [] [2]
  (S (R <| o 2 (.move (.const (.bool false))) <| z) <|
  .ret)
  .skip)) <|
  (S (S (R <| o 3 (.move (i 0)) <| z) <|
  (.block 0 [] ([2, 3] ++ g 7 16)
  (.loop [3] ([2] ++ g 7 16)
  (S (S (R <| m 7 3 <| m 8 0 <| o 9 (.len true (t 8)) <| b 10 .lss (t 7) (t 9) <| z) <|
  (.cond (t 10) [] []
  .skip
  (.exit 0))) <|
  (S (.block 1 [] ([2] ++ g 13 10)
  (S (R <| m 13 0 <| m 14 3 <| o 15 (.indexStr (t 13) (t 14)) <| b 16 .lss (t 15) (.const (.int .u8 32)) <| m 17 16 <| q 22 17 false (g 18 4) (m 18 0 <| m 19 3 <| o 20 (.indexStr (t 18) (t 19)) <| b 21 .gtr (t 20) (.const (.int .u8 126)) <| z) (t 21) <|
  z) <|
  (.cond (t 22) [] [2]
  (S (R <| o 2 (.move (.const (.bool false))) <| z) <|
  .ret)
  .skip))) <|
  (R <| m 11 3 <| b 12 .add (t 11) (i 1) <| m 3 12 <| z)))))) <|
  (S (R <| o 2 (.move (.const (.bool true))) <| z) <|
  .ret)))),
 [.tmp 2], [.keep]⟩
theorem ok32 : ∃ fn c, FunOk Try.prog 32 fn c A32.erase := ⟨Try.f32, _, ⟨Try.func32, rfl, by kernel_rfl, by kernel_rfl, by kernel_rfl, of_decide_eq_true (by kernel_rfl), by kernel_rfl⟩⟩
noncomputable def s32_L0 (Γ : PCallee) (n : Nat) (x0 : PV) (h : PHeap) (h4 : PHeap) (j5 : List PV → PHeap → Pt) : (List PV → PHeap → Pt) → List PV → PHeap → Pt := fun c8 w9 h10 =>
 (lenP true x0).bind fun v11 =>
 (binP .lss (nthP w9 0) v11).bind fun v12 =>
 KL (fun w14 h15 =>
 KL (fun w17 h18 =>
 (binP .add (nthP w9 0) (.int .i64 1 : PV)).bind fun v19 =>
 c8 [v19] (trim h4 [v19] h18)) fun j16 =>
 (indexStrP x0 (nthP w9 0)).bind fun v20 =>
 (binP .lss v20 (.int .u8 32 : PV)).bind fun v21 =>
 K1 (fun v23 h24 =>
 KL (fun w26 h27 =>
 j16 [] h27) fun j25 =>
 ifP v23 (
 finP [.keep] h h24 [(.bool false : PV)]) (
 j25 [] h24)) fun j22 =>
 scP v21 false (
 (indexStrP x0 (nthP w9 0)).bind fun v28 =>
 (binP .gtr v28 (.int .u8 126 : PV)).bind fun v29 =>
 j22 v29 h15)
 (j22 (.bool true) h15)) fun j13 =>
 ifP v12 (
 j13 [] h10) (
 j5 [] h10)
noncomputable def s32 (Γ : PCallee) (n : Nat) (x0 : PV) (h : PHeap) : Pt :=
 (lenP true x0).bind fun v0 =>
 (binP .gtr v0 (.int .i64 22 : PV)).bind fun v1 =>
 KL (fun w3 h4 =>
 KL (fun w6 h7 =>
 finP [.keep] h h7 [(.bool true : PV)]) fun j5 =>
 loopP (s32_L0 Γ n x0 h h4 j5) n [(.int .i64 0 : PV)] h4) fun j2 =>
 ifP v1 (
 finP [.keep] h h [(.bool false : PV)]) (
 j2 [] h)

theorem s32_eq (Γ : PCallee) (n : Nat) (x0 : PV) (h : PHeap) : pfunK Γ n A32 [x0] h = s32 Γ n x0 h := by kernel_rfl


open Go.Vm.G in
/-- orchestrion/orchestrionref07.within -/
def A33 : PFun := ⟨3, 15,
 (S (R <| o 6 (.move (.const (.bool false))) <| z) <|
  (S (R <| m 7 1 <| m 8 0 <| b 9 .leq (t 7) (t 8) <| m 10 9 <| q 14 10 true [11, 12, 13] (m 11 0 <| m 12 2 <| b 13 .leq (t 11) (t 12) <| z) (t 13) <|
  m 6 14 <| z) <|
  .ret)),
 [.tmp 6], [.keep]⟩
theorem ok33 : ∃ fn c, FunOk Try.prog 33 fn c A33.erase := ⟨Try.f33, _, ⟨Try.func33, rfl, by kernel_rfl, by kernel_rfl, by kernel_rfl, of_decide_eq_true (by kernel_rfl), by kernel_rfl⟩⟩
noncomputable def s33 (Γ : PCallee) (n : Nat) (x0 : PV) (x1 : PV) (x2 : PV) (h : PHeap) : Pt :=
 (binP .leq x1 x0).bind fun v0 =>
 K1 (fun v2 h3 =>
 finP [.keep] h h3 [v2]) fun j1 =>
 scP v0 true (
 (binP .leq x0 x2).bind fun v4 =>
 j1 v4 h)
 (j1 (.bool false) h)

theorem s33_eq (Γ : PCallee) (n : Nat) (x0 : PV) (x1 : PV) (x2 : PV) (h : PHeap) : pfunK Γ n A33 [x0, x1, x2] h = s33 Γ n x0 x1 x2 h := by kernel_rfl


open Go.Vm.G in
/-- orchestrion/orchestrionref07.patternFault -/
def A34 : PFun := ⟨2, 28,
 (S (R <| o 2 (.box 27 (t 0)) <| o 4 (.new 93 [(.string ⟨#[]⟩), (.int .i64 0), (.int .i64 0)]) <| z) <|
  (S (S (R <| f 7 10 2 <| l 8 7 <| o 9 (.len false (t 8)) <| o 10 (.move (i 0)) <| z) <|
  (.block 0 [] ([5, 6] ++ g 10 17)
  (.loop [10] ([5, 6] ++ g 11 16)
  (S (R <| b 11 .lss (t 10) (t 9) <| z) <|
  (S (.cond (t 11) [] []
  .skip
  (.exit 0)) <|
  (S (.block 1 [] ([5, 6] ++ g 12 14)
  (S (R <| m 12 10 <| m 5 12 <| z) <|
  (S (D <| o 13 (.load true 13 (t 2)) <| f 14 10 2 <| l 15 14 <| m 16 5 <| o 17 (.indexAddr 2 (t 15) (t 16)) <| o 18 (.load true 2 (t 17)) <| m 19 1 <| o 20 (.call 59 [(t 13), (t 18), (t 19)]) <| m 6 20 <| z) <|
  (S (R <| m 21 6 <| b 22 .neq (t 21) (i 0) <| z) <|
  (.cond (t 22) [] [23, 24, 25]
  (S (R <| m 23 5 <| m 24 6 <| o 25 (.build [(.string ⟨#[]⟩), (.int .i64 0), (.int .i64 0)] [(0, 1, (.const (.string ⟨#[112, 97, 116, 116, 101, 114, 110, 115]⟩))), (1, 1, (t 23)), (2, 1, (t 24))]) <| n (.store 3 (t 4) (t 25)) <| z) <|
  .ret)
  .skip))))) <|
  (R <| b 26 .add (t 10) (i 1) <| m 10 26 <| z))))))) <|
  (S (R <| o 27 (.build [(.string ⟨#[]⟩), (.int .i64 0), (.int .i64 0)] []) <| n (.store 3 (t 4) (t 27)) <| z) <|
  .ret))),
 [.cell 4 true 3], [.keep]⟩
theorem ok34 : ∃ fn c, FunOk Try.prog 34 fn c A34.erase := ⟨Try.f34, _, ⟨Try.func34, rfl, by kernel_rfl, by kernel_rfl, by kernel_rfl, of_decide_eq_true (by kernel_rfl), by kernel_rfl⟩⟩
noncomputable def s34_L0 (Γ : PCallee) (n : Nat) (x1 : PV) (h : PHeap) (v0 : PV) (v2 : PV) (h3 : PHeap) (v6 : PV) (j7 : List PV → PHeap → Pt) : (List PV → PHeap → Pt) → List PV → PHeap → Pt := fun c13 w14 h15 =>
 (binP .lss (nthP w14 0) v6).bind fun v16 =>
 KL (fun w18 h19 =>
 KL (fun w21 h22 =>
 (binP .add (nthP w14 0) (.int .i64 1 : PV)).bind fun v23 =>
 c13 [v23] (trim h3 [v23] h22)) fun j20 =>
 (loadP true 13 v0 h19).bind fun v24 =>
 (fieldAddrP 10 v0).bind fun v25 =>
 (loadP false 1 v25 h19).bind fun v26 =>
 (indexAddrP 2 v26 (nthP w14 0)).bind fun v27 =>
 (loadP true 2 v27 h19).bind fun v28 =>
 (Γ 59 [v24, v28, x1] h19).bind fun p29 =>
 (binP .neq p29.1 (.int .i64 0 : PV)).bind fun v30 =>
 KL (fun w32 h33 =>
 j20 [] h33) fun j31 =>
 ifP v30 (
 (fillP [.str ⟨#[]⟩, .int .i64 0, .int .i64 0] [(0, 1, (.str ⟨#[112, 97, 116, 116, 101, 114, 110, 115]⟩ : PV)), (1, 1, (nthP w14 0)), (2, 1, p29.1)]).bind fun l34 =>
 (storeP 3 v2 (PV.agg l34) p29.2).bind fun h35 =>
 (loadP true 3 v2 h35).bind fun v36 =>
 finP [.keep] h h35 [v36]) (
 j31 [] p29.2)) fun j17 =>
 ifP v16 (
 j17 [] h15) (
 j7 [] h15)
noncomputable def s34 (Γ : PCallee) (n : Nat) (x0 : PV) (x1 : PV) (h : PHeap) : Pt :=
 forkP (.ptr h.length 0) (h ++ [.box (cellsP x0) 27 .rw]) fun v0 h1 =>
 forkP (.ptr h1.length 0) (h1 ++ [.box [.str ⟨#[]⟩, .int .i64 0, .int .i64 0] 93 .rw]) fun v2 h3 =>
 (fieldAddrP 10 v0).bind fun v4 =>
 (loadP false 1 v4 h3).bind fun v5 =>
 (lenP false v5).bind fun v6 =>
 KL (fun w8 h9 =>
 (fillP [.str ⟨#[]⟩, .int .i64 0, .int .i64 0] []).bind fun l10 =>
 (storeP 3 v2 (PV.agg l10) h9).bind fun h11 =>
 (loadP true 3 v2 h11).bind fun v12 =>
 finP [.keep] h h11 [v12]) fun j7 =>
 loopP (s34_L0 Γ n x1 h v0 v2 h3 v6 j7) n [(.int .i64 0 : PV)] h3

theorem s34_eq (Γ : PCallee) (n : Nat) (x0 : PV) (x1 : PV) (h : PHeap) : pfunK Γ n A34 [x0, x1] h = s34 Γ n x0 x1 h := by kernel_rfl


open Go.Vm.G in
/-- orchestrion/orchestrionref07.orderFault -/
def A35 : PFun := ⟨1, 29,
 (S (R <| o 1 (.box 27 (t 0)) <| o 2 (.new 93 [(.string ⟨#[]⟩), (.int .i64 0), (.int .i64 0)]) <| z) <|
  (S (S (R <| f 5 3 1 <| l 6 5 <| o 7 (.len false (t 6)) <| o 8 (.move (i 0)) <| z) <|
  (.block 0 [] ([3, 4] ++ g 8 20)
  (.loop [8] ([3, 4] ++ g 9 19)
  (S (R <| b 9 .lss (t 8) (t 7) <| z) <|
  (S (.cond (t 9) [] []
  .skip
  (.exit 0)) <|
  (S (.block 1 [] ([3, 4] ++ g 10 17)
  (S (R <| m 10 8 <| o 11 (.indexAddr 1 (t 6) (t 8)) <| l 12 11 <| m 3 10 <| m 4 12 <| z) <|
  (S (R <| m 13 4 <| o 14 (.call 60 [(t 13)]) <| o 15 (.un .not (t 14)) <| m 16 15 <| q 24 16 true (g 17 7) (m 17 4 <| f 18 10 1 <| l 19 18 <| o 20 (.len false (t 19)) <| b 21 .sub (t 20) (i 1) <| o 22 (.call 33 [(t 17), (i 0), (t 21)]) <| o 23 (.un .not (t 22)) <| z) (t 23) <|
  z) <|
  (.cond (t 24) [] [25, 26]
  (S (R <| m 25 3 <| o 26 (.build [(.string ⟨#[]⟩), (.int .i64 0), (.int .i64 0)] [(0, 1, (.const (.string ⟨#[111, 114, 100, 101, 114, 115]⟩))), (1, 1, (t 25)), (2, 1, (i 10))]) <| n (.store 3 (t 2) (t 26)) <| z) <|
  .ret)
  .skip)))) <|
  (R <| b 27 .add (t 8) (i 1) <| m 8 27 <| z))))))) <|
  (S (R <| o 28 (.build [(.string ⟨#[]⟩), (.int .i64 0), (.int .i64 0)] []) <| n (.store 3 (t 2) (t 28)) <| z) <|
  .ret))),
 [.cell 2 true 3], [.keep]⟩
theorem ok35 : ∃ fn c, FunOk Try.prog 35 fn c A35.erase := ⟨Try.f35, _, ⟨Try.func35, rfl, by kernel_rfl, by kernel_rfl, by kernel_rfl, of_decide_eq_true (by kernel_rfl), by kernel_rfl⟩⟩
noncomputable def s35_L0 (Γ : PCallee) (n : Nat) (h : PHeap) (v0 : PV) (v2 : PV) (h3 : PHeap) (v5 : PV) (v6 : PV) (j7 : List PV → PHeap → Pt) : (List PV → PHeap → Pt) → List PV → PHeap → Pt := fun c13 w14 h15 =>
 (binP .lss (nthP w14 0) v6).bind fun v16 =>
 KL (fun w18 h19 =>
 KL (fun w21 h22 =>
 (binP .add (nthP w14 0) (.int .i64 1 : PV)).bind fun v23 =>
 c13 [v23] (trim h3 [v23] h22)) fun j20 =>
 (indexAddrP 1 v5 (nthP w14 0)).bind fun v24 =>
 (loadP false 1 v24 h19).bind fun v25 =>
 (Γ 60 [v25] h19).bind fun p26 =>
 (unP .not p26.1).bind fun v27 =>
 K1 (fun v29 h30 =>
 KL (fun w32 h33 =>
 j20 [] h33) fun j31 =>
 ifP v29 (
 (fillP [.str ⟨#[]⟩, .int .i64 0, .int .i64 0] [(0, 1, (.str ⟨#[111, 114, 100, 101, 114, 115]⟩ : PV)), (1, 1, (nthP w14 0)), (2, 1, (.int .i64 10 : PV))]).bind fun l34 =>
 (storeP 3 v2 (PV.agg l34) h30).bind fun h35 =>
 (loadP true 3 v2 h35).bind fun v36 =>
 finP [.keep] h h35 [v36]) (
 j31 [] h30)) fun j28 =>
 scP v27 true (
 (fieldAddrP 10 v0).bind fun v37 =>
 (loadP false 1 v37 p26.2).bind fun v38 =>
 (lenP false v38).bind fun v39 =>
 (binP .sub v39 (.int .i64 1 : PV)).bind fun v40 =>
 (Γ 33 [v25, (.int .i64 0 : PV), v40] p26.2).bind fun p41 =>
 (unP .not p41.1).bind fun v42 =>
 j28 v42 p41.2)
 (j28 (.bool false) p26.2)) fun j17 =>
 ifP v16 (
 j17 [] h15) (
 j7 [] h15)
noncomputable def s35 (Γ : PCallee) (n : Nat) (x0 : PV) (h : PHeap) : Pt :=
 forkP (.ptr h.length 0) (h ++ [.box (cellsP x0) 27 .rw]) fun v0 h1 =>
 forkP (.ptr h1.length 0) (h1 ++ [.box [.str ⟨#[]⟩, .int .i64 0, .int .i64 0] 93 .rw]) fun v2 h3 =>
 (fieldAddrP 3 v0).bind fun v4 =>
 (loadP false 1 v4 h3).bind fun v5 =>
 (lenP false v5).bind fun v6 =>
 KL (fun w8 h9 =>
 (fillP [.str ⟨#[]⟩, .int .i64 0, .int .i64 0] []).bind fun l10 =>
 (storeP 3 v2 (PV.agg l10) h9).bind fun h11 =>
 (loadP true 3 v2 h11).bind fun v12 =>
 finP [.keep] h h11 [v12]) fun j7 =>
 loopP (s35_L0 Γ n h v0 v2 h3 v5 v6 j7) n [(.int .i64 0 : PV)] h3

theorem s35_eq (Γ : PCallee) (n : Nat) (x0 : PV) (h : PHeap) : pfunK Γ n A35 [x0] h = s35 Γ n x0 h := by kernel_rfl


open Go.Vm.G in
/-- orchestrion/orchestrionref07.panFault -/
def A36 : PFun := ⟨1, 20,
 (S (R <| o 1 (.box 27 (t 0)) <| o 2 (.new 93 [(.string ⟨#[]⟩), (.int .i64 0), (.int .i64 0)]) <| z) <|
  (S (S (R <| f 5 9 1 <| l 6 5 <| o 7 (.len false (t 6)) <| o 8 (.move (i 0)) <| z) <|
  (.block 0 [] ([3, 4] ++ g 8 11)
  (.loop [8] ([3, 4] ++ g 9 10)
  (S (R <| b 9 .lss (t 8) (t 7) <| z) <|
  (S (.cond (t 9) [] []
  .skip
  (.exit 0)) <|
  (S (.block 1 [] ([3, 4] ++ g 10 8)
  (S (R <| m 10 8 <| o 11 (.indexAddr 1 (t 6) (t 8)) <| l 12 11 <| m 3 10 <| m 4 12 <| z) <|
  (S (R <| m 13 4 <| o 14 (.call 33 [(t 13), (i 0), (i 256)]) <| o 15 (.un .not (t 14)) <| z) <|
  (.cond (t 15) [] [16, 17]
  (S (R <| m 16 3 <| o 17 (.build [(.string ⟨#[]⟩), (.int .i64 0), (.int .i64 0)] [(0, 1, (.const (.string ⟨#[112, 97, 110, 115]⟩))), (1, 1, (t 16)), (2, 1, (i 5))]) <| n (.store 3 (t 2) (t 17)) <| z) <|
  .ret)
  .skip)))) <|
  (R <| b 18 .add (t 8) (i 1) <| m 8 18 <| z))))))) <|
  (S (R <| o 19 (.build [(.string ⟨#[]⟩), (.int .i64 0), (.int .i64 0)] []) <| n (.store 3 (t 2) (t 19)) <| z) <|
  .ret))),
 [.cell 2 true 3], [.keep]⟩
theorem ok36 : ∃ fn c, FunOk Try.prog 36 fn c A36.erase := ⟨Try.f36, _, ⟨Try.func36, rfl, by kernel_rfl, by kernel_rfl, by kernel_rfl, of_decide_eq_true (by kernel_rfl), by kernel_rfl⟩⟩
noncomputable def s36_L0 (Γ : PCallee) (n : Nat) (h : PHeap) (v2 : PV) (h3 : PHeap) (v5 : PV) (v6 : PV) (j7 : List PV → PHeap → Pt) : (List PV → PHeap → Pt) → List PV → PHeap → Pt := fun c13 w14 h15 =>
 (binP .lss (nthP w14 0) v6).bind fun v16 =>
 KL (fun w18 h19 =>
 KL (fun w21 h22 =>
 (binP .add (nthP w14 0) (.int .i64 1 : PV)).bind fun v23 =>
 c13 [v23] (trim h3 [v23] h22)) fun j20 =>
 (indexAddrP 1 v5 (nthP w14 0)).bind fun v24 =>
 (loadP false 1 v24 h19).bind fun v25 =>
 (Γ 33 [v25, (.int .i64 0 : PV), (.int .i64 256 : PV)] h19).bind fun p26 =>
 (unP .not p26.1).bind fun v27 =>
 KL (fun w29 h30 =>
 j20 [] h30) fun j28 =>
 ifP v27 (
 (fillP [.str ⟨#[]⟩, .int .i64 0, .int .i64 0] [(0, 1, (.str ⟨#[112, 97, 110, 115]⟩ : PV)), (1, 1, (nthP w14 0)), (2, 1, (.int .i64 5 : PV))]).bind fun l31 =>
 (storeP 3 v2 (PV.agg l31) p26.2).bind fun h32 =>
 (loadP true 3 v2 h32).bind fun v33 =>
 finP [.keep] h h32 [v33]) (
 j28 [] p26.2)) fun j17 =>
 ifP v16 (
 j17 [] h15) (
 j7 [] h15)
noncomputable def s36 (Γ : PCallee) (n : Nat) (x0 : PV) (h : PHeap) : Pt :=
 forkP (.ptr h.length 0) (h ++ [.box (cellsP x0) 27 .rw]) fun v0 h1 =>
 forkP (.ptr h1.length 0) (h1 ++ [.box [.str ⟨#[]⟩, .int .i64 0, .int .i64 0] 93 .rw]) fun v2 h3 =>
 (fieldAddrP 9 v0).bind fun v4 =>
 (loadP false 1 v4 h3).bind fun v5 =>
 (lenP false v5).bind fun v6 =>
 KL (fun w8 h9 =>
 (fillP [.str ⟨#[]⟩, .int .i64 0, .int .i64 0] []).bind fun l10 =>
 (storeP 3 v2 (PV.agg l10) h9).bind fun h11 =>
 (loadP true 3 v2 h11).bind fun v12 =>
 finP [.keep] h h11 [v12]) fun j7 =>
 loopP (s36_L0 Γ n h v2 h3 v5 v6 j7) n [(.int .i64 0 : PV)] h3

theorem s36_eq (Γ : PCallee) (n : Nat) (x0 : PV) (h : PHeap) : pfunK Γ n A36 [x0] h = s36 Γ n x0 h := by kernel_rfl


open Go.Vm.G in
/-- orchestrion/orchestrionref07.sampleFault -/
def A37 : PFun := ⟨1, 21,
 (S (R <| o 1 (.box 27 (t 0)) <| o 2 (.new 93 [(.string ⟨#[]⟩), (.int .i64 0), (.int .i64 0)]) <| z) <|
  (S (S (R <| f 4 11 1 <| l 5 4 <| o 6 (.len false (t 5)) <| o 7 (.move (i 0)) <| z) <|
  (.block 0 [] ([3] ++ g 7 13)
  (.loop [7] ([3] ++ g 8 12)
  (S (R <| b 8 .lss (t 7) (t 6) <| z) <|
  (S (.cond (t 8) [] []
  .skip
  (.exit 0)) <|
  (S (.block 1 [] ([3] ++ g 9 10)
  (S (R <| m 9 7 <| m 3 9 <| z) <|
  (S (R <| f 10 11 1 <| l 11 10 <| m 12 3 <| o 13 (.indexAddr 13 (t 11) (t 12)) <| o 14 (.load true 13 (t 13)) <| o 15 (.call 61 [(t 14)]) <| o 16 (.un .not (t 15)) <| z) <|
  (.cond (t 16) [] [17, 18]
  (S (R <| m 17 3 <| o 18 (.build [(.string ⟨#[]⟩), (.int .i64 0), (.int .i64 0)] [(0, 1, (.const (.string ⟨#[115, 97, 109, 112, 108, 101, 115]⟩))), (1, 1, (t 17)), (2, 1, (i 1))]) <| n (.store 3 (t 2) (t 18)) <| z) <|
  .ret)
  .skip)))) <|
  (R <| b 19 .add (t 7) (i 1) <| m 7 19 <| z))))))) <|
  (S (R <| o 20 (.build [(.string ⟨#[]⟩), (.int .i64 0), (.int .i64 0)] []) <| n (.store 3 (t 2) (t 20)) <| z) <|
  .ret))),
 [.cell 2 true 3], [.keep]⟩
theorem ok37 : ∃ fn c, FunOk Try.prog 37 fn c A37.erase := ⟨Try.f37, _, ⟨Try.func37, rfl, by kernel_rfl, by kernel_rfl, by kernel_rfl, of_decide_eq_true (by kernel_rfl), by kernel_rfl⟩⟩
noncomputable def s37_L0 (Γ : PCallee) (n : Nat) (h : PHeap) (v0 : PV) (v2 : PV) (h3 : PHeap) (v6 : PV) (j7 : List PV → PHeap → Pt) : (List PV → PHeap → Pt) → List PV → PHeap → Pt := fun c13 w14 h15 =>
 (binP .lss (nthP w14 0) v6).bind fun v16 =>
 KL (fun w18 h19 =>
 KL (fun w21 h22 =>
 (binP .add (nthP w14 0) (.int .i64 1 : PV)).bind fun v23 =>
 c13 [v23] (trim h3 [v23] h22)) fun j20 =>
 (fieldAddrP 11 v0).bind fun v24 =>
 (loadP false 1 v24 h19).bind fun v25 =>
 (indexAddrP 13 v25 (nthP w14 0)).bind fun v26 =>
 (loadP true 13 v26 h19).bind fun v27 =>
 (Γ 61 [v27] h19).bind fun p28 =>
 (unP .not p28.1).bind fun v29 =>
 KL (fun w31 h32 =>
 j20 [] h32) fun j30 =>
 ifP v29 (
 (fillP [.str ⟨#[]⟩, .int .i64 0, .int .i64 0] [(0, 1, (.str ⟨#[115, 97, 109, 112, 108, 101, 115]⟩ : PV)), (1, 1, (nthP w14 0)), (2, 1, (.int .i64 1 : PV))]).bind fun l33 =>
 (storeP 3 v2 (PV.agg l33) p28.2).bind fun h34 =>
 (loadP true 3 v2 h34).bind fun v35 =>
 finP [.keep] h h34 [v35]) (
 j30 [] p28.2)) fun j17 =>
 ifP v16 (
 j17 [] h15) (
 j7 [] h15)
noncomputable def s37 (Γ : PCallee) (n : Nat) (x0 : PV) (h : PHeap) : Pt :=
 forkP (.ptr h.length 0) (h ++ [.box (cellsP x0) 27 .rw]) fun v0 h1 =>
 forkP (.ptr h1.length 0) (h1 ++ [.box [.str ⟨#[]⟩, .int .i64 0, .int .i64 0] 93 .rw]) fun v2 h3 =>
 (fieldAddrP 11 v0).bind fun v4 =>
 (loadP false 1 v4 h3).bind fun v5 =>
 (lenP false v5).bind fun v6 =>
 KL (fun w8 h9 =>
 (fillP [.str ⟨#[]⟩, .int .i64 0, .int .i64 0] []).bind fun l10 =>
 (storeP 3 v2 (PV.agg l10) h9).bind fun h11 =>
 (loadP true 3 v2 h11).bind fun v12 =>
 finP [.keep] h h11 [v12]) fun j7 =>
 loopP (s37_L0 Γ n h v0 v2 h3 v6 j7) n [(.int .i64 0 : PV)] h3

theorem s37_eq (Γ : PCallee) (n : Nat) (x0 : PV) (h : PHeap) : pfunK Γ n A37 [x0] h = s37 Γ n x0 h := by kernel_rfl


open Go.Vm.G in
/-- orchestrion/orchestrionref07.instFault -/
def A38 : PFun := ⟨1, 25,
 (S (R <| o 1 (.box 27 (t 0)) <| o 2 (.new 93 [(.string ⟨#[]⟩), (.int .i64 0), (.int .i64 0)]) <| z) <|
  (S (S (R <| f 5 12 1 <| l 6 5 <| o 7 (.len false (t 6)) <| o 8 (.move (i 0)) <| z) <|
  (.block 0 [] ([3, 4] ++ g 8 16)
  (.loop [8] ([3, 4] ++ g 9 15)
  (S (R <| b 9 .lss (t 8) (t 7) <| z) <|
  (S (.cond (t 9) [] []
  .skip
  (.exit 0)) <|
  (S (.block 1 [] ([3, 4] ++ g 10 13)
  (S (R <| m 10 8 <| m 3 10 <| z) <|
  (S (D <| o 11 (.load true 13 (t 1)) <| f 12 12 1 <| l 13 12 <| m 14 3 <| o 15 (.indexAddr 33 (t 13) (t 14)) <| o 16 (.load true 33 (t 15)) <| o 17 (.call 62 [(t 11), (t 16)]) <| m 4 17 <| z) <|
  (S (R <| m 18 4 <| b 19 .neq (t 18) (i 0) <| z) <|
  (.cond (t 19) [] [20, 21, 22]
  (S (R <| m 20 3 <| m 21 4 <| o 22 (.build [(.string ⟨#[]⟩), (.int .i64 0), (.int .i64 0)] [(0, 1, (.const (.string ⟨#[105, 110, 115, 116, 115]⟩))), (1, 1, (t 20)), (2, 1, (t 21))]) <| n (.store 3 (t 2) (t 22)) <| z) <|
  .ret)
  .skip))))) <|
  (R <| b 23 .add (t 8) (i 1) <| m 8 23 <| z))))))) <|
  (S (R <| o 24 (.build [(.string ⟨#[]⟩), (.int .i64 0), (.int .i64 0)] []) <| n (.store 3 (t 2) (t 24)) <| z) <|
  .ret))),
 [.cell 2 true 3], [.keep]⟩
theorem ok38 : ∃ fn c, FunOk Try.prog 38 fn c A38.erase := ⟨Try.f38, _, ⟨Try.func38, rfl, by kernel_rfl, by kernel_rfl, by kernel_rfl, of_decide_eq_true (by kernel_rfl), by kernel_rfl⟩⟩
noncomputable def s38_L0 (Γ : PCallee) (n : Nat) (h : PHeap) (v0 : PV) (v2 : PV) (h3 : PHeap) (v6 : PV) (j7 : List PV → PHeap → Pt) : (List PV → PHeap → Pt) → List PV → PHeap → Pt := fun c13 w14 h15 =>
 (binP .lss (nthP w14 0) v6).bind fun v16 =>
 KL (fun w18 h19 =>
 KL (fun w21 h22 =>
 (binP .add (nthP w14 0) (.int .i64 1 : PV)).bind fun v23 =>
 c13 [v23] (trim h3 [v23] h22)) fun j20 =>
 (loadP true 13 v0 h19).bind fun v24 =>
 (fieldAddrP 12 v0).bind fun v25 =>
 (loadP false 1 v25 h19).bind fun v26 =>
 (indexAddrP 33 v26 (nthP w14 0)).bind fun v27 =>
 (loadP true 33 v27 h19).bind fun v28 =>
 (Γ 62 [v24, v28] h19).bind fun p29 =>
 (binP .neq p29.1 (.int .i64 0 : PV)).bind fun v30 =>
 KL (fun w32 h33 =>
 j20 [] h33) fun j31 =>
 ifP v30 (
 (fillP [.str ⟨#[]⟩, .int .i64 0, .int .i64 0] [(0, 1, (.str ⟨#[105, 110, 115, 116, 115]⟩ : PV)), (1, 1, (nthP w14 0)), (2, 1, p29.1)]).bind fun l34 =>
 (storeP 3 v2 (PV.agg l34) p29.2).bind fun h35 =>
 (loadP true 3 v2 h35).bind fun v36 =>
 finP [.keep] h h35 [v36]) (
 j31 [] p29.2)) fun j17 =>
 ifP v16 (
 j17 [] h15) (
 j7 [] h15)
noncomputable def s38 (Γ : PCallee) (n : Nat) (x0 : PV) (h : PHeap) : Pt :=
 forkP (.ptr h.length 0) (h ++ [.box (cellsP x0) 27 .rw]) fun v0 h1 =>
 forkP (.ptr h1.length 0) (h1 ++ [.box [.str ⟨#[]⟩, .int .i64 0, .int .i64 0] 93 .rw]) fun v2 h3 =>
 (fieldAddrP 12 v0).bind fun v4 =>
 (loadP false 1 v4 h3).bind fun v5 =>
 (lenP false v5).bind fun v6 =>
 KL (fun w8 h9 =>
 (fillP [.str ⟨#[]⟩, .int .i64 0, .int .i64 0] []).bind fun l10 =>
 (storeP 3 v2 (PV.agg l10) h9).bind fun h11 =>
 (loadP true 3 v2 h11).bind fun v12 =>
 finP [.keep] h h11 [v12]) fun j7 =>
 loopP (s38_L0 Γ n h v0 v2 h3 v6 j7) n [(.int .i64 0 : PV)] h3

theorem s38_eq (Γ : PCallee) (n : Nat) (x0 : PV) (h : PHeap) : pfunK Γ n A38 [x0] h = s38 Γ n x0 h := by kernel_rfl


open Go.Vm.G in
/-- orchestrion/dialect.is -/
def A39 : PFun := ⟨1, 9,
 (S (R <| o 2 (.move (.const (.bool false))) <| z) <|
  (S (R <| m 3 0 <| b 4 .geq (t 3) (i 1) <| m 5 4 <| q 8 5 true [6, 7] (m 6 0 <| b 7 .leq (t 6) (i 6) <| z) (t 7) <|
  m 2 8 <| z) <|
  .ret)),
 [.tmp 2], [.keep]⟩
theorem ok39 : ∃ fn c, FunOk Try.prog 39 fn c A39.erase := ⟨Try.f39, _, ⟨Try.func39, rfl, by kernel_rfl, by kernel_rfl, by kernel_rfl, of_decide_eq_true (by kernel_rfl), by kernel_rfl⟩⟩
noncomputable def s39 (Γ : PCallee) (n : Nat) (x0 : PV) (h : PHeap) : Pt :=
 (binP .geq x0 (.int .i64 1 : PV)).bind fun v0 =>
 K1 (fun v2 h3 =>
 finP [.keep] h h3 [v2]) fun j1 =>
 scP v0 true (
 (binP .leq x0 (.int .i64 6 : PV)).bind fun v4 =>
 j1 v4 h)
 (j1 (.bool false) h)

theorem s39_eq (Γ : PCallee) (n : Nat) (x0 : PV) (h : PHeap) : pfunK Γ n A39 [x0] h = s39 Γ n x0 h := by kernel_rfl


open Go.Vm.G in
/-- orchestrion/dialect.table -/
def A40 : PFun := ⟨0, 8,
 (S (R <| o 0 (.new 102 V203) <| z) <|
  (S (R <| o 1 (.build V29 [(0, 1, (.const (.string ⟨#[102, 111, 117, 114]⟩))), (1, 1, (i 4)), (2, 1, (i 32)), (3, 1, (i 64)), (4, 1, (i 49)), (5, 1, (i 84)), (9, 1, (i 1)), (10, 1, (i 453)), (11, 1, (i 3424)), (16, 1, (i 5)), (17, 1, (.const (.bool true))), (18, 1, (i 1)), (19, 1, (.const (.bool true))), (21, 1, (i 1)), (22, 1, (.const (.bool true))), (25, 1, (.const (.bool true)))]) <| o 2 (.build V29 [(0, 1, (.const (.string ⟨#[115, 99, 114, 101, 97, 109]⟩))), (1, 1, (i 16)), (2, 1, (i 32)), (3, 1, (i 64)), (4, 1, (i 13)), (5, 1, (i 108)), (7, 1, (.const (.bool true))), (9, 1, (i 1)), (10, 1, (i 64)), (11, 1, (i 32767)), (16, 1, (i 5))]) <| o 3 (.build V29 [(0, 1, (.const (.string ⟨#[102, 97, 115, 116]⟩))), (1, 1, (i 16)), (2, 1, (i 32)), (4, 1, (i 1)), (5, 1, (i 96)), (6, 1, (.const (.bool true))), (7, 1, (.const (.bool true))), (8, 1, (.const (.bool true))), (10, 1, (i 32)), (11, 1, (i 65535)), (12, 1, (.const (.bool true))), (16, 1, (i 6)), (17, 1, (.const (.bool true))), (19, 1, (.const (.bool true))), (20, 1, (.const (.bool true))), (21, 1, (i 1)), (23, 1, (.const (.bool true))), (24, 1, (.const (.bool true))), (25, 1, (.const (.bool true))), (26, 1, (.const (.bool true))), (27, 1, (.const (.bool true)))]) <| o 4 (.build V29 [(0, 1, (.const (.string ⟨#[105, 109, 112, 117, 108, 115, 101]⟩))), (1, 1, (i 16)), (2, 1, (i 32)), (4, 1, (i 1)), (5, 1, (i 120)), (6, 1, (.const (.bool true))), (7, 1, (.const (.bool true))), (8, 1, (.const (.bool true))), (10, 1, (i 16)), (11, 1, (i 65535)), (15, 1, (.const (.bool true))), (16, 1, (i 6)), (19, 1, (.const (.bool true))), (21, 1, (i 2)), (23, 1, (.const (.bool true))), (27, 1, (.const (.bool true)))]) <| o 5 (.build V29 [(0, 1, (.const (.string ⟨#[99, 111, 109, 112, 111, 115, 101]⟩))), (1, 1, (i 8)), (2, 1, (i 32)), (3, 1, (i 64)), (4, 1, (i 13)), (5, 1, (i 72)), (9, 1, (i 2)), (13, 1, (.const (.bool true))), (16, 1, (i 5)), (18, 1, (i 2)), (28, 1, (.const (.bool true)))]) <| o 6 (.build V29 [(0, 1, (.const (.string ⟨#[99, 104, 105, 112]⟩))), (1, 1, (i 4)), (2, 1, (i 32)), (4, 1, (i 13)), (5, 1, (i 108)), (6, 1, (.const (.bool true))), (9, 1, (i 1)), (10, 1, (i 16)), (11, 1, (i 65535)), (14, 1, (.const (.bool true))), (16, 1, (i 5)), (17, 1, (.const (.bool true))), (18, 1, (i 2)), (23, 1, (.const (.bool true))), (27, 1, (.const (.bool true)))]) <| o 7 (.build V203 [(29, 29, (t 1)), (58, 29, (t 2)), (87, 29, (t 3)), (116, 29, (t 4)), (145, 29, (t 5)), (174, 29, (t 6))]) <| n (.store 203 (t 0) (t 7)) <| z) <|
  .ret)),
 [.cell 0 true 203], [.keep]⟩
theorem ok40 : ∃ fn c, FunOk Try.prog 40 fn c A40.erase := ⟨Try.f40, _, ⟨Try.func40, rfl, by kernel_rfl, by kernel_rfl, by kernel_rfl, of_decide_eq_true (by kernel_rfl), by kernel_rfl⟩⟩
noncomputable def s40 (Γ : PCallee) (n : Nat) (h : PHeap) : Pt :=
 forkP (.ptr h.length 0) (h ++ [.box Z203 102 .rw]) fun v0 h1 =>
 (fillP Z29 [(0, 1, (.str ⟨#[102, 111, 117, 114]⟩ : PV)), (1, 1, (.int .i64 4 : PV)), (2, 1, (.int .i64 32 : PV)), (3, 1, (.int .i64 64 : PV)), (4, 1, (.int .i64 49 : PV)), (5, 1, (.int .i64 84 : PV)), (9, 1, (.int .i64 1 : PV)), (10, 1, (.int .i64 453 : PV)), (11, 1, (.int .i64 3424 : PV)), (16, 1, (.int .i64 5 : PV)), (17, 1, (.bool true : PV)), (18, 1, (.int .i64 1 : PV)), (19, 1, (.bool true : PV)), (21, 1, (.int .i64 1 : PV)), (22, 1, (.bool true : PV)), (25, 1, (.bool true : PV))]).bind fun l2 =>
 (fillP Z29 [(0, 1, (.str ⟨#[115, 99, 114, 101, 97, 109]⟩ : PV)), (1, 1, (.int .i64 16 : PV)), (2, 1, (.int .i64 32 : PV)), (3, 1, (.int .i64 64 : PV)), (4, 1, (.int .i64 13 : PV)), (5, 1, (.int .i64 108 : PV)), (7, 1, (.bool true : PV)), (9, 1, (.int .i64 1 : PV)), (10, 1, (.int .i64 64 : PV)), (11, 1, (.int .i64 32767 : PV)), (16, 1, (.int .i64 5 : PV))]).bind fun l3 =>
 (fillP Z29 [(0, 1, (.str ⟨#[102, 97, 115, 116]⟩ : PV)), (1, 1, (.int .i64 16 : PV)), (2, 1, (.int .i64 32 : PV)), (4, 1, (.int .i64 1 : PV)), (5, 1, (.int .i64 96 : PV)), (6, 1, (.bool true : PV)), (7, 1, (.bool true : PV)), (8, 1, (.bool true : PV)), (10, 1, (.int .i64 32 : PV)), (11, 1, (.int .i64 65535 : PV)), (12, 1, (.bool true : PV)), (16, 1, (.int .i64 6 : PV)), (17, 1, (.bool true : PV)), (19, 1, (.bool true : PV)), (20, 1, (.bool true : PV)), (21, 1, (.int .i64 1 : PV)), (23, 1, (.bool true : PV)), (24, 1, (.bool true : PV)), (25, 1, (.bool true : PV)), (26, 1, (.bool true : PV)), (27, 1, (.bool true : PV))]).bind fun l4 =>
 (fillP Z29 [(0, 1, (.str ⟨#[105, 109, 112, 117, 108, 115, 101]⟩ : PV)), (1, 1, (.int .i64 16 : PV)), (2, 1, (.int .i64 32 : PV)), (4, 1, (.int .i64 1 : PV)), (5, 1, (.int .i64 120 : PV)), (6, 1, (.bool true : PV)), (7, 1, (.bool true : PV)), (8, 1, (.bool true : PV)), (10, 1, (.int .i64 16 : PV)), (11, 1, (.int .i64 65535 : PV)), (15, 1, (.bool true : PV)), (16, 1, (.int .i64 6 : PV)), (19, 1, (.bool true : PV)), (21, 1, (.int .i64 2 : PV)), (23, 1, (.bool true : PV)), (27, 1, (.bool true : PV))]).bind fun l5 =>
 (fillP Z29 [(0, 1, (.str ⟨#[99, 111, 109, 112, 111, 115, 101]⟩ : PV)), (1, 1, (.int .i64 8 : PV)), (2, 1, (.int .i64 32 : PV)), (3, 1, (.int .i64 64 : PV)), (4, 1, (.int .i64 13 : PV)), (5, 1, (.int .i64 72 : PV)), (9, 1, (.int .i64 2 : PV)), (13, 1, (.bool true : PV)), (16, 1, (.int .i64 5 : PV)), (18, 1, (.int .i64 2 : PV)), (28, 1, (.bool true : PV))]).bind fun l6 =>
 (fillP Z29 [(0, 1, (.str ⟨#[99, 104, 105, 112]⟩ : PV)), (1, 1, (.int .i64 4 : PV)), (2, 1, (.int .i64 32 : PV)), (4, 1, (.int .i64 13 : PV)), (5, 1, (.int .i64 108 : PV)), (6, 1, (.bool true : PV)), (9, 1, (.int .i64 1 : PV)), (10, 1, (.int .i64 16 : PV)), (11, 1, (.int .i64 65535 : PV)), (14, 1, (.bool true : PV)), (16, 1, (.int .i64 5 : PV)), (17, 1, (.bool true : PV)), (18, 1, (.int .i64 2 : PV)), (23, 1, (.bool true : PV)), (27, 1, (.bool true : PV))]).bind fun l7 =>
 (fillP Z203 [(29, 29, (PV.agg l2)), (58, 29, (PV.agg l3)), (87, 29, (PV.agg l4)), (116, 29, (PV.agg l5)), (145, 29, (PV.agg l6)), (174, 29, (PV.agg l7))]).bind fun l8 =>
 (storeP 203 v0 (PV.agg l8) h1).bind fun h9 =>
 (loadP true 203 v0 h9).bind fun v10 =>
 finP [.keep] h h9 [v10]

theorem s40_eq (Γ : PCallee) (n : Nat) (h : PHeap) : pfunK Γ n A40 [] h = s40 Γ n h := by kernel_rfl


open Go.Vm.G in
/-- orchestrion/song.isName -/
def A41 : PFun := ⟨1, 19,
 (S (R <| o 2 (.move (.const (.bool false))) <| z) <|
  (S (S (R <| m 4 0 <| o 5 (.len true (t 4)) <| o 6 (.move (i 0)) <| z) <|
  (.block 0 [] ([2, 3] ++ g 6 10)
  (.loop [6] ([2, 3] ++ g 7 9)
  (S (R <| b 7 .lss (t 6) (t 5) <| z) <|
  (S (.cond (t 7) [] []
  .skip
  (.exit 0)) <|
  (S (.block 1 [] ([2, 3] ++ g 8 7)
  (S (R <| m 8 6 <| m 3 8 <| z) <|
  (S (R <| m 9 0 <| m 10 3 <| o 11 (.indexStr (t 9) (t 10)) <| o 12 (.conv .i64 (t 11)) <| o 13 (.call 42 [(t 12), (i 32), (i 126)]) <| o 14 (.un .not (t 13)) <| z) <|
  (.cond (t 14) [] [2]
  (S (R <| o 2 (.move (.const (.bool false))) <| z) <|
  .ret)
  .skip)))) <|
  (R <| b 15 .add (t 6) (i 1) <| m 6 15 <| z))))))) <|
  (S (R <| m 16 0 <| o 17 (.len true (t 16)) <| b 18 .leq (t 17) (i 22) <| m 2 18 <| z) <|
  .ret))),
 [.tmp 2], [.keep]⟩
theorem ok41 : ∃ fn c, FunOk Try.prog 41 fn c A41.erase := ⟨Try.f41, _, ⟨Try.func41, rfl, by kernel_rfl, by kernel_rfl, by kernel_rfl, of_decide_eq_true (by kernel_rfl), by kernel_rfl⟩⟩
noncomputable def s41_L0 (Γ : PCallee) (n : Nat) (x0 : PV) (h : PHeap) (v0 : PV) (j1 : List PV → PHeap → Pt) : (List PV → PHeap → Pt) → List PV → PHeap → Pt := fun c6 w7 h8 =>
 (binP .lss (nthP w7 0) v0).bind fun v9 =>
 KL (fun w11 h12 =>
 KL (fun w14 h15 =>
 (binP .add (nthP w7 0) (.int .i64 1 : PV)).bind fun v16 =>
 c6 [v16] (trim h [v16] h15)) fun j13 =>
 (indexStrP x0 (nthP w7 0)).bind fun v17 =>
 (convP .i64 v17).bind fun v18 =>
 (Γ 42 [v18, (.int .i64 32 : PV), (.int .i64 126 : PV)] h12).bind fun p19 =>
 (unP .not p19.1).bind fun v20 =>
 KL (fun w22 h23 =>
 j13 [] h23) fun j21 =>
 ifP v20 (
 finP [.keep] h p19.2 [(.bool false : PV)]) (
 j21 [] p19.2)) fun j10 =>
 ifP v9 (
 j10 [] h8) (
 j1 [] h8)
noncomputable def s41 (Γ : PCallee) (n : Nat) (x0 : PV) (h : PHeap) : Pt :=
 (lenP true x0).bind fun v0 =>
 KL (fun w2 h3 =>
 (lenP true x0).bind fun v4 =>
 (binP .leq v4 (.int .i64 22 : PV)).bind fun v5 =>
 finP [.keep] h h3 [v5]) fun j1 =>
 loopP (s41_L0 Γ n x0 h v0 j1) n [(.int .i64 0 : PV)] h

theorem s41_eq (Γ : PCallee) (n : Nat) (x0 : PV) (h : PHeap) : pfunK Γ n A41 [x0] h = s41 Γ n x0 h := by kernel_rfl


open Go.Vm.G in
/-- orchestrion/song.within -/
def A42 : PFun := ⟨3, 15,
 (S (R <| o 6 (.move (.const (.bool false))) <| z) <|
  (S (R <| m 7 0 <| m 8 1 <| b 9 .geq (t 7) (t 8) <| m 10 9 <| q 14 10 true [11, 12, 13] (m 11 0 <| m 12 2 <| b 13 .leq (t 11) (t 12) <| z) (t 13) <|
  m 6 14 <| z) <|
  .ret)),
 [.tmp 6], [.keep]⟩
theorem ok42 : ∃ fn c, FunOk Try.prog 42 fn c A42.erase := ⟨Try.f42, _, ⟨Try.func42, rfl, by kernel_rfl, by kernel_rfl, by kernel_rfl, of_decide_eq_true (by kernel_rfl), by kernel_rfl⟩⟩
noncomputable def s42 (Γ : PCallee) (n : Nat) (x0 : PV) (x1 : PV) (x2 : PV) (h : PHeap) : Pt :=
 (binP .geq x0 x1).bind fun v0 =>
 K1 (fun v2 h3 =>
 finP [.keep] h h3 [v2]) fun j1 =>
 scP v0 true (
 (binP .leq x0 x2).bind fun v4 =>
 j1 v4 h)
 (j1 (.bool false) h)

theorem s42_eq (Γ : PCallee) (n : Nat) (x0 : PV) (x1 : PV) (x2 : PV) (h : PHeap) : pfunK Γ n A42 [x0, x1, x2] h = s42 Γ n x0 x1 x2 h := by kernel_rfl


open Go.Vm.G in
/-- orchestrion/pattern.Valid -/
def A43 : PFun := ⟨2, 28,
 (S (R <| o 2 (.box 46 (t 0)) <| o 4 (.move (.const (.bool false))) <| z) <|
  (S (R <| m 5 1 <| o 6 (.call 63 [(t 5)]) <| m 7 6 <| q 11 7 true [8, 9, 10] (f 8 0 2 <| l 9 8 <| o 10 (.call 64 [(t 9), (i 1), (i 64)]) <| z) (t 10) <|
  m 12 11 <| q 21 12 true (g 13 8) (f 13 1 2 <| l 14 13 <| o 15 (.len false (t 14)) <| f 16 0 2 <| l 17 16 <| m 18 1 <| b 19 .mul (t 17) (t 18) <| b 20 .eql (t 15) (t 19) <| z) (t 20) <|
  m 22 21 <| q 27 22 true (g 23 4) (f 23 1 2 <| l 24 23 <| o 25 (.call 44 [(t 24), (.func 65)]) <| o 26 (.un .not (t 25)) <| z) (t 26) <|
  m 4 27 <| z) <|
  .ret)),
 [.tmp 4], [.keep]⟩
theorem ok43 : ∃ fn c, FunOk Try.prog 43 fn c A43.erase := ⟨Try.f43, _, ⟨Try.func43, rfl, by kernel_rfl, by kernel_rfl, by kernel_rfl, of_decide_eq_true (by kernel_rfl), by kernel_rfl⟩⟩
noncomputable def s43 (Γ : PCallee) (n : Nat) (x0 : PV) (x1 : PV) (h : PHeap) : Pt :=
 forkP (.ptr h.length 0) (h ++ [.box (cellsP x0) 46 .rw]) fun v0 h1 =>
 (Γ 63 [x1] h1).bind fun p2 =>
 K1 (fun v4 h5 =>
 K1 (fun v7 h8 =>
 K1 (fun v10 h11 =>
 finP [.keep] h h11 [v10]) fun j9 =>
 scP v7 true (
 (fieldAddrP 1 v0).bind fun v12 =>
 (loadP false 1 v12 h8).bind fun v13 =>
 (Γ 44 [v13, (PV.func 65 [] [])] h8).bind fun p14 =>
 (unP .not p14.1).bind fun v15 =>
 j9 v15 p14.2)
 (j9 (.bool false) h8)) fun j6 =>
 scP v4 true (
 (fieldAddrP 1 v0).bind fun v16 =>
 (loadP false 1 v16 h5).bind fun v17 =>
 (lenP false v17).bind fun v18 =>
 (fieldAddrP 0 v0).bind fun v19 =>
 (loadP false 1 v19 h5).bind fun v20 =>
 (binP .mul v20 x1).bind fun v21 =>
 (binP .eql v18 v21).bind fun v22 =>
 j6 v22 h5)
 (j6 (.bool false) h5)) fun j3 =>
 scP p2.1 true (
 (fieldAddrP 0 v0).bind fun v23 =>
 (loadP false 1 v23 p2.2).bind fun v24 =>
 (Γ 64 [v24, (.int .i64 1 : PV), (.int .i64 64 : PV)] p2.2).bind fun p25 =>
 j3 p25.1 p25.2)
 (j3 (.bool false) p2.2)

theorem s43_eq (Γ : PCallee) (n : Nat) (x0 : PV) (x1 : PV) (h : PHeap) : pfunK Γ n A43 [x0, x1] h = s43 Γ n x0 x1 h := by kernel_rfl


open Go.Vm.G in
/-- slices.ContainsFunc[[]orchestrion/api.Cell,orchestrion/api.Cell] -/
def A44 : PFun := ⟨2, 9,
 (S (R <| o 4 (.move (.const (.bool false))) <| z) <|
  (S (R <| m 5 0 <| m 6 1 <| o 7 (.call 67 [(t 5), (t 6)]) <| b 8 .geq (t 7) (i 0) <| m 4 8 <| z) <|
  .ret)),
 [.tmp 4], [.keep]⟩
theorem ok44 : ∃ fn c, FunOk Try.prog 44 fn c A44.erase := ⟨Try.f44, _, ⟨Try.func44, rfl, by kernel_rfl, by kernel_rfl, by kernel_rfl, of_decide_eq_true (by kernel_rfl), by kernel_rfl⟩⟩
noncomputable def s44 (Γ : PCallee) (n : Nat) (x0 : PV) (x1 : PV) (h : PHeap) : Pt :=
 (Γ 67 [x0, x1] h).bind fun p0 =>
 (binP .geq p0.1 (.int .i64 0 : PV)).bind fun v1 =>
 finP [.keep] h p0.2 [v1]

theorem s44_eq (Γ : PCallee) (n : Nat) (x0 : PV) (x1 : PV) (h : PHeap) : pfunK Γ n A44 [x0, x1] h = s44 Γ n x0 x1 h := by kernel_rfl


open Go.Vm.G in
/-- (orchestrion/song.checked).patterns$1 -/
def A45 : PFun := ⟨2, 10,
 (S (R <| o 2 (.box 107 (t 0)) <| o 3 (.move (.const (.bool false))) <| z) <|
  (S (R <| f 4 0 1 <| f 5 1 4 <| l 6 5 <| o 7 (.load true 6 (t 2)) <| o 8 (.call 46 [(t 6), (t 7)]) <| o 9 (.un .not (t 8)) <| m 3 9 <| z) <|
  .ret)),
 [.tmp 3], [.keep]⟩
theorem ok45 : ∃ fn c, FunOk Try.prog 45 fn c A45.erase := ⟨Try.f45, _, ⟨Try.func45, rfl, by kernel_rfl, by kernel_rfl, by kernel_rfl, of_decide_eq_true (by kernel_rfl), by kernel_rfl⟩⟩
noncomputable def s45 (Γ : PCallee) (n : Nat) (x0 : PV) (x1 : PV) (h : PHeap) : Pt :=
 forkP (.ptr h.length 0) (h ++ [.box (cellsP x0) 107 .rw]) fun v0 h1 =>
 (fieldAddrP 0 x1).bind fun v2 =>
 (fieldAddrP 1 v2).bind fun v3 =>
 (loadP false 1 v3 h1).bind fun v4 =>
 (loadP true 6 v0 h1).bind fun v5 =>
 (Γ 46 [v4, v5] h1).bind fun p6 =>
 (unP .not p6.1).bind fun v7 =>
 finP [.keep] h p6.2 [v7]

theorem s45_eq (Γ : PCallee) (n : Nat) (x0 : PV) (x1 : PV) (h : PHeap) : pfunK Γ n A45 [x0, x1] h = s45 Γ n x0 x1 h := by kernel_rfl


open Go.Vm.G in
/-- orchestrion/dialect.ValidCell -/
def A46 : PFun := ⟨2, 37,
 (S (R <| o 3 (.box 107 (t 1)) <| o 4 (.move (.const (.bool false))) <| z) <|
  (S (S (D <| m 5 0 <| o 6 (.call 39 [(t 5)]) <| o 7 (.un .not (t 6)) <| m 8 7 <| q 12 8 false [9, 10, 11] (o 9 (.load true 6 (t 3)) <| o 10 (.call 66 [(t 9)]) <| o 11 (.un .not (t 10)) <| z) (t 11) <|
  m 13 12 <| q 19 13 false (g 14 5) (m 14 0 <| f 15 0 3 <| l 16 15 <| o 17 (.call 68 [(t 14), (t 16)]) <| o 18 (.un .not (t 17)) <| z) (t 18) <|
  m 20 19 <| q 26 20 false (g 21 5) (f 21 2 3 <| l 22 21 <| m 23 0 <| O 24 (.call 69 [(t 23)]) <| b 25 .gtr (t 22) (t 24) <| z) (t 25) <|
  z) <|
  (.cond (t 26) [] [4]
  (S (R <| o 4 (.move (.const (.bool false))) <| z) <|
  .ret)
  .skip)) <|
  (S (S (R <| f 27 4 3 <| l 28 27 <| b 29 .eql (t 28) (i 0) <| z) <|
  (.cond (t 29) [] [4]
  (S (R <| o 4 (.move (.const (.bool true))) <| z) <|
  .ret)
  .skip)) <|
  (S (D <| m 30 0 <| O 31 (.call 71 [(t 30)]) <| f 32 4 3 <| l 33 32 <| o 34 (.call 72 [(t 33)]) <| o 35 (.call 70 [(t 31), (t 34)]) <| b 36 .geq (t 35) (i 0) <| m 4 36 <| z) <|
  .ret)))),
 [.tmp 4], [.keep]⟩
theorem ok46 : ∃ fn c, FunOk Try.prog 46 fn c A46.erase := ⟨Try.f46, _, ⟨Try.func46, rfl, by kernel_rfl, by kernel_rfl, by kernel_rfl, of_decide_eq_true (by kernel_rfl), by kernel_rfl⟩⟩
noncomputable def s46 (Γ : PCallee) (n : Nat) (x0 : PV) (x1 : PV) (h : PHeap) : Pt :=
 forkP (.ptr h.length 0) (h ++ [.box (cellsP x1) 107 .rw]) fun v0 h1 =>
 (Γ 39 [x0] h1).bind fun p2 =>
 (unP .not p2.1).bind fun v3 =>
 K1 (fun v5 h6 =>
 K1 (fun v8 h9 =>
 K1 (fun v11 h12 =>
 KL (fun w14 h15 =>
 (fieldAddrP 4 v0).bind fun v16 =>
 (loadP false 1 v16 h15).bind fun v17 =>
 (binP .eql v17 (.int .i64 0 : PV)).bind fun v18 =>
 KL (fun w20 h21 =>
 (Γ 71 [x0] (lock h21)).bind fun p22 =>
 unl h21 p22.2 fun h23 =>
 (fieldAddrP 4 v0).bind fun v24 =>
 (loadP false 1 v24 h23).bind fun v25 =>
 (Γ 72 [v25] h23).bind fun p26 =>
 (Γ 70 [p22.1, p26.1] p26.2).bind fun p27 =>
 (binP .geq p27.1 (.int .i64 0 : PV)).bind fun v28 =>
 finP [.keep] h p27.2 [v28]) fun j19 =>
 ifP v18 (
 finP [.keep] h h15 [(.bool true : PV)]) (
 j19 [] h15)) fun j13 =>
 ifP v11 (
 finP [.keep] h h12 [(.bool false : PV)]) (
 j13 [] h12)) fun j10 =>
 scP v8 false (
 (fieldAddrP 2 v0).bind fun v29 =>
 (loadP false 1 v29 h9).bind fun v30 =>
 (Γ 69 [x0] (lock h9)).bind fun p31 =>
 unl h9 p31.2 fun h32 =>
 (binP .gtr v30 p31.1).bind fun v33 =>
 j10 v33 h32)
 (j10 (.bool true) h9)) fun j7 =>
 scP v5 false (
 (fieldAddrP 0 v0).bind fun v34 =>
 (loadP false 1 v34 h6).bind fun v35 =>
 (Γ 68 [x0, v35] h6).bind fun p36 =>
 (unP .not p36.1).bind fun v37 =>
 j7 v37 p36.2)
 (j7 (.bool true) h6)) fun j4 =>
 scP v3 false (
 (loadP true 6 v0 p2.2).bind fun v38 =>
 (Γ 66 [v38] p2.2).bind fun p39 =>
 (unP .not p39.1).bind fun v40 =>
 j4 v40 p39.2)
 (j4 (.bool true) p2.2)

theorem s46_eq (Γ : PCallee) (n : Nat) (x0 : PV) (x1 : PV) (h : PHeap) : pfunK Γ n A46 [x0, x1] h = s46 Γ n x0 x1 h := by kernel_rfl


open Go.Vm.G in
/-- (orchestrion/song.checked).patterns$2 -/
def A47 : PFun := ⟨2, 9,
 (S (R <| o 2 (.box 107 (t 0)) <| o 3 (.move (.const (.bool false))) <| z) <|
  (S (D <| f 4 1 2 <| l 5 4 <| o 6 (.load true 42 (t 1)) <| F 6 (.agg SA42) <| O 7 (.call 48 [(t 6)]) <| b 8 .gtr (t 5) (t 7) <| m 3 8 <| z) <|
  .ret)),
 [.tmp 3], [.keep]⟩
theorem ok47 : ∃ fn c, FunOk Try.prog 47 fn c A47.erase := ⟨Try.f47, _, ⟨Try.func47, rfl, by kernel_rfl, by kernel_rfl, by kernel_rfl, of_decide_eq_true (by kernel_rfl), by kernel_rfl⟩⟩
noncomputable def s47 (Γ : PCallee) (n : Nat) (x0 : PV) (x1 : PV) (h : PHeap) : Pt :=
 forkP (.ptr h.length 0) (h ++ [.box (cellsP x0) 107 .rw]) fun v0 h1 =>
 (fieldAddrP 1 v0).bind fun v2 =>
 (loadP false 1 v2 h1).bind fun v3 =>
 (loadP true 42 x1 h1).bind fun v4 =>
 (fz (.agg SA42) v4 h1).bind fun q5 =>
 (Γ 48 [q5.1] (lock q5.2)).bind fun p6 =>
 unl q5.2 p6.2 fun h7 =>
 (binP .gtr v3 p6.1).bind fun v8 =>
 finP [.keep] h h7 [v8]

theorem s47_eq (Γ : PCallee) (n : Nat) (x0 : PV) (x1 : PV) (h : PHeap) : pfunK Γ n A47 [x0, x1] h = s47 Γ n x0 x1 h := by kernel_rfl


open Go.Vm.G in
/-- (orchestrion/song.checked).names -/
def A48 : PFun := ⟨1, 14,
 (S (R <| o 1 (.box 86 (t 0)) <| o 2 (.move (i 0)) <| z) <|
  (S (S (R <| f 3 13 1 <| f 4 6 3 <| l 5 4 <| z) <|
  (.cond (t 5) [] ([2] ++ g 6 4)
  (S (R <| f 6 0 1 <| f 7 12 6 <| l 8 7 <| o 9 (.len false (t 8)) <| m 2 9 <| z) <|
  .ret)
  .skip)) <|
  (S (R <| f 10 0 1 <| f 11 11 10 <| l 12 11 <| o 13 (.len false (t 12)) <| m 2 13 <| z) <|
  .ret))),
 [.tmp 2], [.keep]⟩
theorem ok48 : ∃ fn c, FunOk Try.prog 48 fn c A48.erase := ⟨Try.f48, _, ⟨Try.func48, rfl, by kernel_rfl, by kernel_rfl, by kernel_rfl, of_decide_eq_true (by kernel_rfl), by kernel_rfl⟩⟩
noncomputable def s48 (Γ : PCallee) (n : Nat) (x0 : PV) (h : PHeap) : Pt :=
 forkP (.ptr h.length 0) (h ++ [.box (cellsP x0) 86 .rw]) fun v0 h1 =>
 (fieldAddrP 13 v0).bind fun v2 =>
 (fieldAddrP 6 v2).bind fun v3 =>
 (loadP false 1 v3 h1).bind fun v4 =>
 KL (fun w6 h7 =>
 (fieldAddrP 0 v0).bind fun v8 =>
 (fieldAddrP 11 v8).bind fun v9 =>
 (loadP false 1 v9 h7).bind fun v10 =>
 (lenP false v10).bind fun v11 =>
 finP [.keep] h h7 [v11]) fun j5 =>
 ifP v4 (
 (fieldAddrP 0 v0).bind fun v12 =>
 (fieldAddrP 12 v12).bind fun v13 =>
 (loadP false 1 v13 h1).bind fun v14 =>
 (lenP false v14).bind fun v15 =>
 finP [.keep] h h1 [v15]) (
 j5 [] h1)

theorem s48_eq (Γ : PCallee) (n : Nat) (x0 : PV) (h : PHeap) : pfunK Γ n A48 [x0] h = s48 Γ n x0 h := by kernel_rfl


open Go.Vm.G in
/-- slices.IndexFunc[[]int,int] -/
def A49 : PFun := ⟨2, 19,
 (S (R <| o 4 (.move (i 0)) <| z) <|
  (S (S (R <| m 6 0 <| o 7 (.len false (t 6)) <| o 8 (.move (i 0)) <| z) <|
  (.block 0 [] ([4, 5] ++ g 8 11)
  (.loop [8] ([4, 5] ++ g 9 10)
  (S (R <| b 9 .lss (t 8) (t 7) <| z) <|
  (S (.cond (t 9) [] []
  .skip
  (.exit 0)) <|
  (S (.block 1 [] ([4, 5] ++ g 10 8)
  (S (R <| m 10 8 <| m 5 10 <| z) <|
  (S (R <| m 11 1 <| m 12 0 <| m 13 5 <| o 14 (.indexAddr 1 (t 12) (t 13)) <| l 15 14 <| o 16 (.callV (t 11) [(t 15)]) <| z) <|
  (.cond (t 16) [] [4, 17]
  (S (R <| m 17 5 <| m 4 17 <| z) <|
  .ret)
  .skip)))) <|
  (R <| b 18 .add (t 8) (i 1) <| m 8 18 <| z))))))) <|
  (S (R <| o 4 (.move (i (-1))) <| z) <|
  .ret))),
 [.tmp 4], [.keep]⟩
theorem ok49 : ∃ fn c, FunOk Try.prog 49 fn c A49.erase := ⟨Try.f49, _, ⟨Try.func49, rfl, by kernel_rfl, by kernel_rfl, by kernel_rfl, of_decide_eq_true (by kernel_rfl), by kernel_rfl⟩⟩
noncomputable def s49_L0 (Γ : PCallee) (n : Nat) (x0 : PV) (x1 : PV) (h : PHeap) (v0 : PV) (j1 : List PV → PHeap → Pt) : (List PV → PHeap → Pt) → List PV → PHeap → Pt := fun c4 w5 h6 =>
 (binP .lss (nthP w5 0) v0).bind fun v7 =>
 KL (fun w9 h10 =>
 KL (fun w12 h13 =>
 (binP .add (nthP w5 0) (.int .i64 1 : PV)).bind fun v14 =>
 c4 [v14] (trim h [v14] h13)) fun j11 =>
 (indexAddrP 1 x0 (nthP w5 0)).bind fun v15 =>
 (loadP false 1 v15 h10).bind fun v16 =>
 (callVP Γ x1 [v16] h10).bind fun p17 =>
 KL (fun w19 h20 =>
 j11 [] h20) fun j18 =>
 ifP p17.1 (
 finP [.keep] h p17.2 [(nthP w5 0)]) (
 j18 [] p17.2)) fun j8 =>
 ifP v7 (
 j8 [] h6) (
 j1 [] h6)
noncomputable def s49 (Γ : PCallee) (n : Nat) (x0 : PV) (x1 : PV) (h : PHeap) : Pt :=
 (lenP false x0).bind fun v0 =>
 KL (fun w2 h3 =>
 finP [.keep] h h3 [(.int .i64 (-1) : PV)]) fun j1 =>
 loopP (s49_L0 Γ n x0 x1 h v0 j1) n [(.int .i64 0 : PV)] h

theorem s49_eq (Γ : PCallee) (n : Nat) (x0 : PV) (x1 : PV) (h : PHeap) : pfunK Γ n A49 [x0, x1] h = s49 Γ n x0 x1 h := by kernel_rfl


open Go.Vm.G in
/-- (orchestrion/song.checked).orders$1 -/
def A50 : PFun := ⟨2, 17,
 (S (R <| o 3 (.move (.const (.bool false))) <| z) <|
  (S (R <| m 4 0 <| o 5 (.call 51 [(t 4)]) <| o 6 (.un .not (t 5)) <| m 7 6 <| q 16 7 true (g 8 8) (m 8 0 <| f 9 0 1 <| f 10 10 9 <| l 11 10 <| o 12 (.len false (t 11)) <| b 13 .sub (t 12) (i 1) <| o 14 (.call 42 [(t 8), (i 0), (t 13)]) <| o 15 (.un .not (t 14)) <| z) (t 15) <|
  m 3 16 <| z) <|
  .ret)),
 [.tmp 3], [.keep]⟩
theorem ok50 : ∃ fn c, FunOk Try.prog 50 fn c A50.erase := ⟨Try.f50, _, ⟨Try.func50, rfl, by kernel_rfl, by kernel_rfl, by kernel_rfl, of_decide_eq_true (by kernel_rfl), by kernel_rfl⟩⟩
noncomputable def s50 (Γ : PCallee) (n : Nat) (x0 : PV) (x1 : PV) (h : PHeap) : Pt :=
 (Γ 51 [x0] h).bind fun p0 =>
 (unP .not p0.1).bind fun v1 =>
 K1 (fun v3 h4 =>
 finP [.keep] h h4 [v3]) fun j2 =>
 scP v1 true (
 (fieldAddrP 0 x1).bind fun v5 =>
 (fieldAddrP 10 v5).bind fun v6 =>
 (loadP false 1 v6 p0.2).bind fun v7 =>
 (lenP false v7).bind fun v8 =>
 (binP .sub v8 (.int .i64 1 : PV)).bind fun v9 =>
 (Γ 42 [x0, (.int .i64 0 : PV), v9] p0.2).bind fun p10 =>
 (unP .not p10.1).bind fun v11 =>
 j2 v11 p10.2)
 (j2 (.bool false) p0.2)

theorem s50_eq (Γ : PCallee) (n : Nat) (x0 : PV) (x1 : PV) (h : PHeap) : pfunK Γ n A50 [x0, x1] h = s50 Γ n x0 x1 h := by kernel_rfl


open Go.Vm.G in
/-- orchestrion/song.isMark -/
def A51 : PFun := ⟨1, 9,
 (S (R <| o 2 (.move (.const (.bool false))) <| z) <|
  (S (R <| m 3 0 <| b 4 .eql (t 3) (i 254) <| m 5 4 <| q 8 5 false [6, 7] (m 6 0 <| b 7 .eql (t 6) (i 255) <| z) (t 7) <|
  m 2 8 <| z) <|
  .ret)),
 [.tmp 2], [.keep]⟩
theorem ok51 : ∃ fn c, FunOk Try.prog 51 fn c A51.erase := ⟨Try.f51, _, ⟨Try.func51, rfl, by kernel_rfl, by kernel_rfl, by kernel_rfl, of_decide_eq_true (by kernel_rfl), by kernel_rfl⟩⟩
noncomputable def s51 (Γ : PCallee) (n : Nat) (x0 : PV) (h : PHeap) : Pt :=
 (binP .eql x0 (.int .i64 254 : PV)).bind fun v0 =>
 K1 (fun v2 h3 =>
 finP [.keep] h h3 [v2]) fun j1 =>
 scP v0 false (
 (binP .eql x0 (.int .i64 255 : PV)).bind fun v4 =>
 j1 v4 h)
 (j1 (.bool true) h)

theorem s51_eq (Γ : PCallee) (n : Nat) (x0 : PV) (h : PHeap) : pfunK Γ n A51 [x0] h = s51 Γ n x0 h := by kernel_rfl


open Go.Vm.G in
/-- (orchestrion/song.checked).numbers$1 -/
def A52 : PFun := ⟨1, 6,
 (S (R <| o 2 (.move (.const (.bool false))) <| z) <|
  (S (R <| m 3 0 <| o 4 (.call 42 [(t 3), (i 0), (i 256)]) <| o 5 (.un .not (t 4)) <| m 2 5 <| z) <|
  .ret)),
 [.tmp 2], [.keep]⟩
theorem ok52 : ∃ fn c, FunOk Try.prog 52 fn c A52.erase := ⟨Try.f52, _, ⟨Try.func52, rfl, by kernel_rfl, by kernel_rfl, by kernel_rfl, of_decide_eq_true (by kernel_rfl), by kernel_rfl⟩⟩
noncomputable def s52 (Γ : PCallee) (n : Nat) (x0 : PV) (h : PHeap) : Pt :=
 (Γ 42 [x0, (.int .i64 0 : PV), (.int .i64 256 : PV)] h).bind fun p0 =>
 (unP .not p0.1).bind fun v1 =>
 finP [.keep] h p0.2 [v1]

theorem s52_eq (Γ : PCallee) (n : Nat) (x0 : PV) (h : PHeap) : pfunK Γ n A52 [x0] h = s52 Γ n x0 h := by kernel_rfl


open Go.Vm.G in
/-- slices.IndexFunc[[]orchestrion/api.Sample,orchestrion/api.Sample] -/
def A53 : PFun := ⟨2, 19,
 (S (R <| o 4 (.move (i 0)) <| z) <|
  (S (S (R <| m 6 0 <| o 7 (.len false (t 6)) <| o 8 (.move (i 0)) <| z) <|
  (.block 0 [] ([4, 5] ++ g 8 11)
  (.loop [8] ([4, 5] ++ g 9 10)
  (S (R <| b 9 .lss (t 8) (t 7) <| z) <|
  (S (.cond (t 9) [] []
  .skip
  (.exit 0)) <|
  (S (.block 1 [] ([4, 5] ++ g 10 8)
  (S (R <| m 10 8 <| m 5 10 <| z) <|
  (S (R <| m 11 1 <| m 12 0 <| m 13 5 <| o 14 (.indexAddr 13 (t 12) (t 13)) <| o 15 (.load true 13 (t 14)) <| o 16 (.callV (t 11) [(t 15)]) <| z) <|
  (.cond (t 16) [] [4, 17]
  (S (R <| m 17 5 <| m 4 17 <| z) <|
  .ret)
  .skip)))) <|
  (R <| b 18 .add (t 8) (i 1) <| m 8 18 <| z))))))) <|
  (S (R <| o 4 (.move (i (-1))) <| z) <|
  .ret))),
 [.tmp 4], [.keep]⟩
theorem ok53 : ∃ fn c, FunOk Try.prog 53 fn c A53.erase := ⟨Try.f53, _, ⟨Try.func53, rfl, by kernel_rfl, by kernel_rfl, by kernel_rfl, of_decide_eq_true (by kernel_rfl), by kernel_rfl⟩⟩
noncomputable def s53_L0 (Γ : PCallee) (n : Nat) (x0 : PV) (x1 : PV) (h : PHeap) (v0 : PV) (j1 : List PV → PHeap → Pt) : (List PV → PHeap → Pt) → List PV → PHeap → Pt := fun c4 w5 h6 =>
 (binP .lss (nthP w5 0) v0).bind fun v7 =>
 KL (fun w9 h10 =>
 KL (fun w12 h13 =>
 (binP .add (nthP w5 0) (.int .i64 1 : PV)).bind fun v14 =>
 c4 [v14] (trim h [v14] h13)) fun j11 =>
 (indexAddrP 13 x0 (nthP w5 0)).bind fun v15 =>
 (loadP true 13 v15 h10).bind fun v16 =>
 (callVP Γ x1 [v16] h10).bind fun p17 =>
 KL (fun w19 h20 =>
 j11 [] h20) fun j18 =>
 ifP p17.1 (
 finP [.keep] h p17.2 [(nthP w5 0)]) (
 j18 [] p17.2)) fun j8 =>
 ifP v7 (
 j8 [] h6) (
 j1 [] h6)
noncomputable def s53 (Γ : PCallee) (n : Nat) (x0 : PV) (x1 : PV) (h : PHeap) : Pt :=
 (lenP false x0).bind fun v0 =>
 KL (fun w2 h3 =>
 finP [.keep] h h3 [(.int .i64 (-1) : PV)]) fun j1 =>
 loopP (s53_L0 Γ n x0 x1 h v0 j1) n [(.int .i64 0 : PV)] h

theorem s53_eq (Γ : PCallee) (n : Nat) (x0 : PV) (x1 : PV) (h : PHeap) : pfunK Γ n A53 [x0, x1] h = s53 Γ n x0 x1 h := by kernel_rfl


open Go.Vm.G in
/-- (orchestrion/song.checked).sounds$1 -/
def A54 : PFun := ⟨1, 6,
 (S (R <| o 1 (.box 48 (t 0)) <| o 2 (.move (.const (.bool false))) <| z) <|
  (S (R <| o 3 (.load true 13 (t 1)) <| o 4 (.call 55 [(t 3)]) <| o 5 (.un .not (t 4)) <| m 2 5 <| z) <|
  .ret)),
 [.tmp 2], [.keep]⟩
theorem ok54 : ∃ fn c, FunOk Try.prog 54 fn c A54.erase := ⟨Try.f54, _, ⟨Try.func54, rfl, by kernel_rfl, by kernel_rfl, by kernel_rfl, of_decide_eq_true (by kernel_rfl), by kernel_rfl⟩⟩
noncomputable def s54 (Γ : PCallee) (n : Nat) (x0 : PV) (h : PHeap) : Pt :=
 forkP (.ptr h.length 0) (h ++ [.box (cellsP x0) 48 .rw]) fun v0 h1 =>
 (loadP true 13 v0 h1).bind fun v2 =>
 (Γ 55 [v2] h1).bind fun p3 =>
 (unP .not p3.1).bind fun v4 =>
 finP [.keep] h p3.2 [v4]

theorem s54_eq (Γ : PCallee) (n : Nat) (x0 : PV) (h : PHeap) : pfunK Γ n A54 [x0] h = s54 Γ n x0 h := by kernel_rfl


open Go.Vm.G in
/-- orchestrion/sample.Valid -/
def A55 : PFun := ⟨1, 129,
 (S (R <| o 1 (.box 48 (t 0)) <| o 2 (.move (.const (.bool false))) <| z) <|
  (S (S (R <| f 8 0 1 <| l 9 8 <| o 10 (.len true (t 9)) <| b 11 .gtr (t 10) (i 22) <| m 12 11 <| q 21 12 false (g 13 4 ++ [20, 17, 18, 19]) (f 13 2 1 <| l 14 13 <| b 15 .neq (t 14) (i 8) <| m 16 15 <| q 20 16 true [17, 18, 19] (f 17 2 1 <| l 18 17 <| b 19 .neq (t 18) (i 16) <| z) (t 19) <|
  z) (t 20) <|
  m 22 21 <| q 27 22 false (g 23 4) (f 23 1 1 <| l 24 23 <| o 25 (.len false (t 24)) <| b 26 .gtr (t 25) (i 4096) <| z) (t 26) <|
  z) <|
  (.cond (t 27) [] [2]
  (S (R <| o 2 (.move (.const (.bool false))) <| z) <|
  .ret)
  .skip)) <|
  (S (S (R <| f 28 0 1 <| l 29 28 <| o 30 (.len true (t 29)) <| o 31 (.move (i 0)) <| z) <|
  (.block 0 [] ([2, 3] ++ g 31 16)
  (.loop [31] ([2, 3] ++ g 32 15)
  (S (R <| b 32 .lss (t 31) (t 30) <| z) <|
  (S (.cond (t 32) [] []
  .skip
  (.exit 0)) <|
  (S (.block 1 [] ([2, 3] ++ g 33 13)
  (S (R <| m 33 31 <| m 3 33 <| z) <|
  (S (R <| f 34 0 1 <| l 35 34 <| m 36 3 <| o 37 (.indexStr (t 35) (t 36)) <| b 38 .lss (t 37) (.const (.int .u8 32)) <| m 39 38 <| q 45 39 false (g 40 5) (f 40 0 1 <| l 41 40 <| m 42 3 <| o 43 (.indexStr (t 41) (t 42)) <| b 44 .gtr (t 43) (.const (.int .u8 126)) <| z) (t 44) <|
  z) <|
  (.cond (t 45) [] [2]
  (S (R <| o 2 (.move (.const (.bool false))) <| z) <|
  .ret)
  .skip)))) <|
  (R <| b 46 .add (t 31) (i 1) <| m 31 46 <| z))))))) <|
  (S (R <| f 48 2 1 <| l 49 48 <| o 50 (.call 73 [(t 49)]) <| m 47 50 <| o 51 (.extract (t 47) 0) <| o 52 (.extract (t 47) 1) <| m 4 51 <| m 5 52 <| z) <|
  (S (S (R <| f 53 1 1 <| l 54 53 <| o 55 (.len false (t 54)) <| o 56 (.move (i 0)) <| z) <|
  (.block 2 [] ([2, 7] ++ g 56 13)
  (.loop [56] ([2, 7] ++ g 57 12)
  (S (R <| b 57 .lss (t 56) (t 55) <| z) <|
  (S (.cond (t 57) [] []
  .skip
  (.exit 2)) <|
  (S (.block 3 [] ([2, 7] ++ g 58 10)
  (S (R <| o 58 (.indexAddr 1 (t 54) (t 56)) <| l 59 58 <| m 7 59 <| z) <|
  (S (R <| m 60 7 <| m 61 4 <| b 62 .lss (t 60) (t 61) <| m 63 62 <| q 67 63 false [64, 65, 66] (m 64 7 <| m 65 5 <| b 66 .gtr (t 64) (t 65) <| z) (t 66) <|
  z) <|
  (.cond (t 67) [] [2]
  (S (R <| o 2 (.move (.const (.bool false))) <| z) <|
  .ret)
  .skip)))) <|
  (R <| b 68 .add (t 56) (i 1) <| m 56 68 <| z))))))) <|
  (S (S (R <| f 69 3 1 <| l 70 69 <| b 71 .lss (t 70) (i 1) <| m 72 71 <| q 76 72 false [73, 74, 75] (f 73 3 1 <| l 74 73 <| b 75 .gtr (t 74) (i 65535) <| z) (t 75) <|
  m 77 76 <| q 81 77 false [78, 79, 80] (f 78 4 1 <| l 79 78 <| b 80 .lss (t 79) (i 0) <| z) (t 80) <|
  m 82 81 <| q 86 82 false [83, 84, 85] (f 83 4 1 <| l 84 83 <| b 85 .gtr (t 84) (i 64) <| z) (t 85) <|
  m 87 86 <| q 91 87 false [88, 89, 90] (f 88 5 1 <| l 89 88 <| b 90 .lss (t 89) (i (-1)) <| z) (t 90) <|
  m 92 91 <| q 96 92 false [93, 94, 95] (f 93 5 1 <| l 94 93 <| b 95 .gtr (t 94) (i 256) <| z) (t 95) <|
  m 97 96 <| q 101 97 false [98, 99, 100] (f 98 6 1 <| l 99 98 <| b 100 .lss (t 99) (i (-64)) <| z) (t 100) <|
  m 102 101 <| q 106 102 false [103, 104, 105] (f 103 6 1 <| l 104 103 <| b 105 .gtr (t 104) (i 63) <| z) (t 105) <|
  z) <|
  (.cond (t 106) [] [2]
  (S (R <| o 2 (.move (.const (.bool false))) <| z) <|
  .ret)
  .skip)) <|
  (S (R <| f 107 7 1 <| l 108 107 <| f 109 8 1 <| l 110 109 <| f 111 9 1 <| l 112 111 <| f 113 1 1 <| l 114 113 <| o 115 (.len false (t 114)) <| o 116 (.call 74 [(t 108), (t 110), (t 112), (t 115)]) <| m 117 116 <| q 128 117 true (g 118 10) (f 118 10 1 <| l 119 118 <| f 120 11 1 <| l 121 120 <| f 122 12 1 <| l 123 122 <| f 124 1 1 <| l 125 124 <| o 126 (.len false (t 125)) <| o 127 (.call 74 [(t 119), (t 121), (t 123), (t 126)]) <| z) (t 127) <|
  m 2 128 <| z) <|
  .ret))))))),
 [.tmp 2], [.keep]⟩
theorem ok55 : ∃ fn c, FunOk Try.prog 55 fn c A55.erase := ⟨Try.f55, _, ⟨Try.func55, rfl, by kernel_rfl, by kernel_rfl, by kernel_rfl, of_decide_eq_true (by kernel_rfl), by kernel_rfl⟩⟩
noncomputable def s55_L0 (Γ : PCallee) (n : Nat) (h : PHeap) (p23 : PV × PHeap) (v24 : PV) (v25 : PV) (v27 : PV) (v28 : PV) (j29 : List PV → PHeap → Pt) : (List PV → PHeap → Pt) → List PV → PHeap → Pt := fun c103 w104 h105 =>
 (binP .lss (nthP w104 0) v28).bind fun v106 =>
 KL (fun w108 h109 =>
 KL (fun w111 h112 =>
 (binP .add (nthP w104 0) (.int .i64 1 : PV)).bind fun v113 =>
 c103 [v113] (trim p23.2 [v113] h112)) fun j110 =>
 (indexAddrP 1 v27 (nthP w104 0)).bind fun v114 =>
 (loadP false 1 v114 h109).bind fun v115 =>
 (binP .lss v115 v24).bind fun v116 =>
 K1 (fun v118 h119 =>
 KL (fun w121 h122 =>
 j110 [] h122) fun j120 =>
 ifP v118 (
 finP [.keep] h h119 [(.bool false : PV)]) (
 j120 [] h119)) fun j117 =>
 scP v116 false (
 (binP .gtr v115 v25).bind fun v123 =>
 j117 v123 h109)
 (j117 (.bool true) h109)) fun j107 =>
 ifP v106 (
 j107 [] h105) (
 j29 [] h105)
noncomputable def s55_L1 (Γ : PCallee) (n : Nat) (h : PHeap) (v0 : PV) (h14 : PHeap) (v17 : PV) (j18 : List PV → PHeap → Pt) : (List PV → PHeap → Pt) → List PV → PHeap → Pt := fun c124 w125 h126 =>
 (binP .lss (nthP w125 0) v17).bind fun v127 =>
 KL (fun w129 h130 =>
 KL (fun w132 h133 =>
 (binP .add (nthP w125 0) (.int .i64 1 : PV)).bind fun v134 =>
 c124 [v134] (trim h14 [v134] h133)) fun j131 =>
 (fieldAddrP 0 v0).bind fun v135 =>
 (loadP false 1 v135 h130).bind fun v136 =>
 (indexStrP v136 (nthP w125 0)).bind fun v137 =>
 (binP .lss v137 (.int .u8 32 : PV)).bind fun v138 =>
 K1 (fun v140 h141 =>
 KL (fun w143 h144 =>
 j131 [] h144) fun j142 =>
 ifP v140 (
 finP [.keep] h h141 [(.bool false : PV)]) (
 j142 [] h141)) fun j139 =>
 scP v138 false (
 (fieldAddrP 0 v0).bind fun v145 =>
 (loadP false 1 v145 h130).bind fun v146 =>
 (indexStrP v146 (nthP w125 0)).bind fun v147 =>
 (binP .gtr v147 (.int .u8 126 : PV)).bind fun v148 =>
 j139 v148 h130)
 (j139 (.bool true) h130)) fun j128 =>
 ifP v127 (
 j128 [] h126) (
 j18 [] h126)
noncomputable def s55 (Γ : PCallee) (n : Nat) (x0 : PV) (h : PHeap) : Pt :=
 forkP (.ptr h.length 0) (h ++ [.box (cellsP x0) 48 .rw]) fun v0 h1 =>
 (fieldAddrP 0 v0).bind fun v2 =>
 (loadP false 1 v2 h1).bind fun v3 =>
 (lenP true v3).bind fun v4 =>
 (binP .gtr v4 (.int .i64 22 : PV)).bind fun v5 =>
 K1 (fun v7 h8 =>
 K1 (fun v10 h11 =>
 KL (fun w13 h14 =>
 (fieldAddrP 0 v0).bind fun v15 =>
 (loadP false 1 v15 h14).bind fun v16 =>
 (lenP true v16).bind fun v17 =>
 KL (fun w19 h20 =>
 (fieldAddrP 2 v0).bind fun v21 =>
 (loadP false 1 v21 h20).bind fun v22 =>
 (Γ 73 [v22] h20).bind fun p23 =>
 (extractP p23.1 0).bind fun v24 =>
 (extractP p23.1 1).bind fun v25 =>
 (fieldAddrP 1 v0).bind fun v26 =>
 (loadP false 1 v26 p23.2).bind fun v27 =>
 (lenP false v27).bind fun v28 =>
 KL (fun w30 h31 =>
 (fieldAddrP 3 v0).bind fun v32 =>
 (loadP false 1 v32 h31).bind fun v33 =>
 (binP .lss v33 (.int .i64 1 : PV)).bind fun v34 =>
 K1 (fun v36 h37 =>
 K1 (fun v39 h40 =>
 K1 (fun v42 h43 =>
 K1 (fun v45 h46 =>
 K1 (fun v48 h49 =>
 K1 (fun v51 h52 =>
 K1 (fun v54 h55 =>
 KL (fun w57 h58 =>
 (fieldAddrP 7 v0).bind fun v59 =>
 (loadP false 1 v59 h58).bind fun v60 =>
 (fieldAddrP 8 v0).bind fun v61 =>
 (loadP false 1 v61 h58).bind fun v62 =>
 (fieldAddrP 9 v0).bind fun v63 =>
 (loadP false 1 v63 h58).bind fun v64 =>
 (fieldAddrP 1 v0).bind fun v65 =>
 (loadP false 1 v65 h58).bind fun v66 =>
 (lenP false v66).bind fun v67 =>
 (Γ 74 [v60, v62, v64, v67] h58).bind fun p68 =>
 K1 (fun v70 h71 =>
 finP [.keep] h h71 [v70]) fun j69 =>
 scP p68.1 true (
 (fieldAddrP 10 v0).bind fun v72 =>
 (loadP false 1 v72 p68.2).bind fun v73 =>
 (fieldAddrP 11 v0).bind fun v74 =>
 (loadP false 1 v74 p68.2).bind fun v75 =>
 (fieldAddrP 12 v0).bind fun v76 =>
 (loadP false 1 v76 p68.2).bind fun v77 =>
 (fieldAddrP 1 v0).bind fun v78 =>
 (loadP false 1 v78 p68.2).bind fun v79 =>
 (lenP false v79).bind fun v80 =>
 (Γ 74 [v73, v75, v77, v80] p68.2).bind fun p81 =>
 j69 p81.1 p81.2)
 (j69 (.bool false) p68.2)) fun j56 =>
 ifP v54 (
 finP [.keep] h h55 [(.bool false : PV)]) (
 j56 [] h55)) fun j53 =>
 scP v51 false (
 (fieldAddrP 6 v0).bind fun v82 =>
 (loadP false 1 v82 h52).bind fun v83 =>
 (binP .gtr v83 (.int .i64 63 : PV)).bind fun v84 =>
 j53 v84 h52)
 (j53 (.bool true) h52)) fun j50 =>
 scP v48 false (
 (fieldAddrP 6 v0).bind fun v85 =>
 (loadP false 1 v85 h49).bind fun v86 =>
 (binP .lss v86 (.int .i64 (-64) : PV)).bind fun v87 =>
 j50 v87 h49)
 (j50 (.bool true) h49)) fun j47 =>
 scP v45 false (
 (fieldAddrP 5 v0).bind fun v88 =>
 (loadP false 1 v88 h46).bind fun v89 =>
 (binP .gtr v89 (.int .i64 256 : PV)).bind fun v90 =>
 j47 v90 h46)
 (j47 (.bool true) h46)) fun j44 =>
 scP v42 false (
 (fieldAddrP 5 v0).bind fun v91 =>
 (loadP false 1 v91 h43).bind fun v92 =>
 (binP .lss v92 (.int .i64 (-1) : PV)).bind fun v93 =>
 j44 v93 h43)
 (j44 (.bool true) h43)) fun j41 =>
 scP v39 false (
 (fieldAddrP 4 v0).bind fun v94 =>
 (loadP false 1 v94 h40).bind fun v95 =>
 (binP .gtr v95 (.int .i64 64 : PV)).bind fun v96 =>
 j41 v96 h40)
 (j41 (.bool true) h40)) fun j38 =>
 scP v36 false (
 (fieldAddrP 4 v0).bind fun v97 =>
 (loadP false 1 v97 h37).bind fun v98 =>
 (binP .lss v98 (.int .i64 0 : PV)).bind fun v99 =>
 j38 v99 h37)
 (j38 (.bool true) h37)) fun j35 =>
 scP v34 false (
 (fieldAddrP 3 v0).bind fun v100 =>
 (loadP false 1 v100 h31).bind fun v101 =>
 (binP .gtr v101 (.int .i64 65535 : PV)).bind fun v102 =>
 j35 v102 h31)
 (j35 (.bool true) h31)) fun j29 =>
 loopP (s55_L0 Γ n h p23 v24 v25 v27 v28 j29) n [(.int .i64 0 : PV)] p23.2) fun j18 =>
 loopP (s55_L1 Γ n h v0 h14 v17 j18) n [(.int .i64 0 : PV)] h14) fun j12 =>
 ifP v10 (
 finP [.keep] h h11 [(.bool false : PV)]) (
 j12 [] h11)) fun j9 =>
 scP v7 false (
 (fieldAddrP 1 v0).bind fun v149 =>
 (loadP false 1 v149 h8).bind fun v150 =>
 (lenP false v150).bind fun v151 =>
 (binP .gtr v151 (.int .i64 4096 : PV)).bind fun v152 =>
 j9 v152 h8)
 (j9 (.bool true) h8)) fun j6 =>
 scP v5 false (
 (fieldAddrP 2 v0).bind fun v153 =>
 (loadP false 1 v153 h1).bind fun v154 =>
 (binP .neq v154 (.int .i64 8 : PV)).bind fun v155 =>
 K1 (fun v157 h158 =>
 j6 v157 h158) fun j156 =>
 scP v155 true (
 (fieldAddrP 2 v0).bind fun v159 =>
 (loadP false 1 v159 h1).bind fun v160 =>
 (binP .neq v160 (.int .i64 16 : PV)).bind fun v161 =>
 j156 v161 h1)
 (j156 (.bool false) h1))
 (j6 (.bool true) h1)

theorem s55_eq (Γ : PCallee) (n : Nat) (x0 : PV) (h : PHeap) : pfunK Γ n A55 [x0] h = s55 Γ n x0 h := by kernel_rfl


open Go.Vm.G in
/-- orchestrion/inst.Valid -/
def A56 : PFun := ⟨1, 71,
 (S (R <| o 1 (.box 54 (t 0)) <| o 2 (.move (.const (.bool false))) <| z) <|
  (S (S (R <| f 3 0 1 <| l 4 3 <| o 5 (.call 75 [(t 4)]) <| o 6 (.un .not (t 5)) <| m 7 6 <| q 18 7 false (g 8 5 ++ [17] ++ g 13 4) (f 8 1 1 <| l 9 8 <| o 10 (.len false (t 9)) <| b 11 .neq (t 10) (i 0) <| m 12 11 <| q 17 12 true (g 13 4) (f 13 1 1 <| l 14 13 <| o 15 (.len false (t 14)) <| b 16 .neq (t 15) (i 120) <| z) (t 16) <|
  z) (t 17) <|
  z) <|
  (.cond (t 18) [] [2]
  (S (R <| o 2 (.move (.const (.bool false))) <| z) <|
  .ret)
  .skip)) <|
  (S (S (R <| f 19 1 1 <| l 20 19 <| o 21 (.call 57 [(t 20), (.func 76)]) <| z) <|
  (.cond (t 21) [] [2]
  (S (R <| o 2 (.move (.const (.bool false))) <| z) <|
  .ret)
  .skip)) <|
  (S (S (R <| f 22 2 1 <| o 23 (.load true 8 (t 22)) <| o 24 (.call 78 [(t 23), (i 0), (i 64)]) <| o 25 (.un .not (t 24)) <| m 26 25 <| q 31 26 false (g 27 4) (f 27 10 1 <| o 28 (.load true 8 (t 27)) <| o 29 (.call 78 [(t 28), (i (-32)), (i 32)]) <| o 30 (.un .not (t 29)) <| z) (t 30) <|
  m 32 31 <| q 37 32 false (g 33 4) (f 33 18 1 <| o 34 (.load true 8 (t 33)) <| o 35 (.call 78 [(t 34), (i (-32)), (i 32)]) <| o 36 (.un .not (t 35)) <| z) (t 36) <|
  z) <|
  (.cond (t 37) [] [2]
  (S (R <| o 2 (.move (.const (.bool false))) <| z) <|
  .ret)
  .skip)) <|
  (S (R <| f 38 26 1 <| l 39 38 <| o 40 (.call 77 [(t 39), (i 0), (i 1024)]) <| m 41 40 <| q 45 41 true [42, 43, 44] (f 42 27 1 <| l 43 42 <| o 44 (.call 77 [(t 43), (i 0), (i 3)]) <| z) (t 44) <|
  m 46 45 <| q 50 46 true [47, 48, 49] (f 47 28 1 <| l 48 47 <| o 49 (.call 77 [(t 48), (i 0), (i 3)]) <| z) (t 49) <|
  m 51 50 <| q 55 51 true [52, 53, 54] (f 52 29 1 <| l 53 52 <| o 54 (.call 77 [(t 53), (i 0), (i 2)]) <| z) (t 54) <|
  m 56 55 <| q 60 56 true [57, 58, 59] (f 57 30 1 <| l 58 57 <| o 59 (.call 77 [(t 58), (i 0), (i 64)]) <| z) (t 59) <|
  m 61 60 <| q 65 61 true [62, 63, 64] (f 62 31 1 <| l 63 62 <| o 64 (.call 77 [(t 63), (i (-1)), (i 127)]) <| z) (t 64) <|
  m 66 65 <| q 70 66 true [67, 68, 69] (f 67 32 1 <| l 68 67 <| o 69 (.call 77 [(t 68), (i (-1)), (i 127)]) <| z) (t 69) <|
  m 2 70 <| z) <|
  .ret))))),
 [.tmp 2], [.keep]⟩
theorem ok56 : ∃ fn c, FunOk Try.prog 56 fn c A56.erase := ⟨Try.f56, _, ⟨Try.func56, rfl, by kernel_rfl, by kernel_rfl, by kernel_rfl, of_decide_eq_true (by kernel_rfl), by kernel_rfl⟩⟩
noncomputable def s56 (Γ : PCallee) (n : Nat) (x0 : PV) (h : PHeap) : Pt :=
 forkP (.ptr h.length 0) (h ++ [.box (cellsP x0) 54 .rw]) fun v0 h1 =>
 (fieldAddrP 0 v0).bind fun v2 =>
 (loadP false 1 v2 h1).bind fun v3 =>
 (Γ 75 [v3] h1).bind fun p4 =>
 (unP .not p4.1).bind fun v5 =>
 K1 (fun v7 h8 =>
 KL (fun w10 h11 =>
 (fieldAddrP 1 v0).bind fun v12 =>
 (loadP false 1 v12 h11).bind fun v13 =>
 (Γ 57 [v13, (PV.func 76 [] [])] h11).bind fun p14 =>
 KL (fun w16 h17 =>
 (fieldAddrP 2 v0).bind fun v18 =>
 (loadP true 8 v18 h17).bind fun v19 =>
 (Γ 78 [v19, (.int .i64 0 : PV), (.int .i64 64 : PV)] h17).bind fun p20 =>
 (unP .not p20.1).bind fun v21 =>
 K1 (fun v23 h24 =>
 K1 (fun v26 h27 =>
 KL (fun w29 h30 =>
 (fieldAddrP 26 v0).bind fun v31 =>
 (loadP false 1 v31 h30).bind fun v32 =>
 (Γ 77 [v32, (.int .i64 0 : PV), (.int .i64 1024 : PV)] h30).bind fun p33 =>
 K1 (fun v35 h36 =>
 K1 (fun v38 h39 =>
 K1 (fun v41 h42 =>
 K1 (fun v44 h45 =>
 K1 (fun v47 h48 =>
 K1 (fun v50 h51 =>
 finP [.keep] h h51 [v50]) fun j49 =>
 scP v47 true (
 (fieldAddrP 32 v0).bind fun v52 =>
 (loadP false 1 v52 h48).bind fun v53 =>
 (Γ 77 [v53, (.int .i64 (-1) : PV), (.int .i64 127 : PV)] h48).bind fun p54 =>
 j49 p54.1 p54.2)
 (j49 (.bool false) h48)) fun j46 =>
 scP v44 true (
 (fieldAddrP 31 v0).bind fun v55 =>
 (loadP false 1 v55 h45).bind fun v56 =>
 (Γ 77 [v56, (.int .i64 (-1) : PV), (.int .i64 127 : PV)] h45).bind fun p57 =>
 j46 p57.1 p57.2)
 (j46 (.bool false) h45)) fun j43 =>
 scP v41 true (
 (fieldAddrP 30 v0).bind fun v58 =>
 (loadP false 1 v58 h42).bind fun v59 =>
 (Γ 77 [v59, (.int .i64 0 : PV), (.int .i64 64 : PV)] h42).bind fun p60 =>
 j43 p60.1 p60.2)
 (j43 (.bool false) h42)) fun j40 =>
 scP v38 true (
 (fieldAddrP 29 v0).bind fun v61 =>
 (loadP false 1 v61 h39).bind fun v62 =>
 (Γ 77 [v62, (.int .i64 0 : PV), (.int .i64 2 : PV)] h39).bind fun p63 =>
 j40 p63.1 p63.2)
 (j40 (.bool false) h39)) fun j37 =>
 scP v35 true (
 (fieldAddrP 28 v0).bind fun v64 =>
 (loadP false 1 v64 h36).bind fun v65 =>
 (Γ 77 [v65, (.int .i64 0 : PV), (.int .i64 3 : PV)] h36).bind fun p66 =>
 j37 p66.1 p66.2)
 (j37 (.bool false) h36)) fun j34 =>
 scP p33.1 true (
 (fieldAddrP 27 v0).bind fun v67 =>
 (loadP false 1 v67 p33.2).bind fun v68 =>
 (Γ 77 [v68, (.int .i64 0 : PV), (.int .i64 3 : PV)] p33.2).bind fun p69 =>
 j34 p69.1 p69.2)
 (j34 (.bool false) p33.2)) fun j28 =>
 ifP v26 (
 finP [.keep] h h27 [(.bool false : PV)]) (
 j28 [] h27)) fun j25 =>
 scP v23 false (
 (fieldAddrP 18 v0).bind fun v70 =>
 (loadP true 8 v70 h24).bind fun v71 =>
 (Γ 78 [v71, (.int .i64 (-32) : PV), (.int .i64 32 : PV)] h24).bind fun p72 =>
 (unP .not p72.1).bind fun v73 =>
 j25 v73 p72.2)
 (j25 (.bool true) h24)) fun j22 =>
 scP v21 false (
 (fieldAddrP 10 v0).bind fun v74 =>
 (loadP true 8 v74 p20.2).bind fun v75 =>
 (Γ 78 [v75, (.int .i64 (-32) : PV), (.int .i64 32 : PV)] p20.2).bind fun p76 =>
 (unP .not p76.1).bind fun v77 =>
 j22 v77 p76.2)
 (j22 (.bool true) p20.2)) fun j15 =>
 ifP p14.1 (
 finP [.keep] h p14.2 [(.bool false : PV)]) (
 j15 [] p14.2)) fun j9 =>
 ifP v7 (
 finP [.keep] h h8 [(.bool false : PV)]) (
 j9 [] h8)) fun j6 =>
 scP v5 false (
 (fieldAddrP 1 v0).bind fun v78 =>
 (loadP false 1 v78 p4.2).bind fun v79 =>
 (lenP false v79).bind fun v80 =>
 (binP .neq v80 (.int .i64 0 : PV)).bind fun v81 =>
 K1 (fun v83 h84 =>
 j6 v83 h84) fun j82 =>
 scP v81 true (
 (fieldAddrP 1 v0).bind fun v85 =>
 (loadP false 1 v85 p4.2).bind fun v86 =>
 (lenP false v86).bind fun v87 =>
 (binP .neq v87 (.int .i64 120 : PV)).bind fun v88 =>
 j82 v88 p4.2)
 (j82 (.bool false) p4.2))
 (j6 (.bool true) p4.2)

theorem s56_eq (Γ : PCallee) (n : Nat) (x0 : PV) (h : PHeap) : pfunK Γ n A56 [x0] h = s56 Γ n x0 h := by kernel_rfl


open Go.Vm.G in
/-- slices.ContainsFunc[[]orchestrion/api.Key,orchestrion/api.Key] -/
def A57 : PFun := ⟨2, 9,
 (S (R <| o 4 (.move (.const (.bool false))) <| z) <|
  (S (R <| m 5 0 <| m 6 1 <| o 7 (.call 79 [(t 5), (t 6)]) <| b 8 .geq (t 7) (i 0) <| m 4 8 <| z) <|
  .ret)),
 [.tmp 4], [.keep]⟩
theorem ok57 : ∃ fn c, FunOk Try.prog 57 fn c A57.erase := ⟨Try.f57, _, ⟨Try.func57, rfl, by kernel_rfl, by kernel_rfl, by kernel_rfl, of_decide_eq_true (by kernel_rfl), by kernel_rfl⟩⟩
noncomputable def s57 (Γ : PCallee) (n : Nat) (x0 : PV) (x1 : PV) (h : PHeap) : Pt :=
 (Γ 79 [x0, x1] h).bind fun p0 =>
 (binP .geq p0.1 (.int .i64 0 : PV)).bind fun v1 =>
 finP [.keep] h p0.2 [v1]

theorem s57_eq (Γ : PCallee) (n : Nat) (x0 : PV) (x1 : PV) (h : PHeap) : pfunK Γ n A57 [x0, x1] h = s57 Γ n x0 x1 h := by kernel_rfl


open Go.Vm.G in
/-- (orchestrion/song.checked).sounds$2 -/
def A58 : PFun := ⟨2, 11,
 (S (R <| o 2 (.box 117 (t 0)) <| o 3 (.move (.const (.bool false))) <| z) <|
  (S (R <| f 4 1 2 <| l 5 4 <| f 6 0 1 <| f 7 11 6 <| l 8 7 <| o 9 (.len false (t 8)) <| b 10 .gtr (t 5) (t 9) <| m 3 10 <| z) <|
  .ret)),
 [.tmp 3], [.keep]⟩
theorem ok58 : ∃ fn c, FunOk Try.prog 58 fn c A58.erase := ⟨Try.f58, _, ⟨Try.func58, rfl, by kernel_rfl, by kernel_rfl, by kernel_rfl, of_decide_eq_true (by kernel_rfl), by kernel_rfl⟩⟩
noncomputable def s58 (Γ : PCallee) (n : Nat) (x0 : PV) (x1 : PV) (h : PHeap) : Pt :=
 forkP (.ptr h.length 0) (h ++ [.box (cellsP x0) 117 .rw]) fun v0 h1 =>
 (fieldAddrP 1 v0).bind fun v2 =>
 (loadP false 1 v2 h1).bind fun v3 =>
 (fieldAddrP 0 x1).bind fun v4 =>
 (fieldAddrP 11 v4).bind fun v5 =>
 (loadP false 1 v5 h1).bind fun v6 =>
 (lenP false v6).bind fun v7 =>
 (binP .gtr v3 v7).bind fun v8 =>
 finP [.keep] h h1 [v8]

theorem s58_eq (Γ : PCallee) (n : Nat) (x0 : PV) (x1 : PV) (h : PHeap) : pfunK Γ n A58 [x0, x1] h = s58 Γ n x0 x1 h := by kernel_rfl


open Go.Vm.G in
/-- orchestrion/orchestrionref07.patterned -/
def A59 : PFun := ⟨3, 56,
 (S (R <| o 3 (.box 27 (t 0)) <| o 4 (.box 46 (t 1)) <| o 6 (.move (i 0)) <| z) <|
  (S (S (R <| m 9 2 <| b 10 .neq (t 9) (i 0) <| m 11 10 <| q 16 11 true (g 12 4) (f 12 0 4 <| l 13 12 <| m 14 2 <| b 15 .neq (t 13) (t 14) <| z) (t 15) <|
  m 17 16 <| q 23 17 false (g 18 5) (o 18 (.load true 2 (t 4)) <| f 19 2 3 <| l 20 19 <| o 21 (.call 80 [(t 18), (t 20)]) <| o 22 (.un .not (t 21)) <| z) (t 22) <|
  z) <|
  (.cond (t 23) [] [6]
  (S (R <| o 6 (.move (i 1)) <| z) <|
  .ret)
  .skip)) <|
  (S (S (R <| o 7 (.move (i 0)) <| z) <|
  (.block 0 [] ([6, 7] ++ g 24 16)
  (.loop [7] ([6] ++ g 24 16)
  (S (S (R <| m 24 7 <| f 25 1 4 <| l 26 25 <| o 27 (.len false (t 26)) <| b 28 .lss (t 24) (t 27) <| z) <|
  (.cond (t 28) [] []
  .skip
  (.exit 0))) <|
  (S (.block 1 [] ([6] ++ g 31 9)
  (S (D <| f 31 1 3 <| l 32 31 <| f 33 1 4 <| l 34 33 <| m 35 7 <| o 36 (.indexAddr 6 (t 34) (t 35)) <| o 37 (.load true 6 (t 36)) <| o 38 (.call 81 [(t 32), (t 37)]) <| o 39 (.un .not (t 38)) <| z) <|
  (.cond (t 39) [] [6]
  (S (R <| o 6 (.move (i 1)) <| z) <|
  .ret)
  .skip))) <|
  (R <| m 29 7 <| b 30 .add (t 29) (i 1) <| m 7 30 <| z)))))) <|
  (S (S (R <| o 8 (.move (i 0)) <| z) <|
  (.block 2 [] ([6, 8] ++ g 40 16)
  (.loop [8] ([6] ++ g 40 16)
  (S (S (R <| m 40 8 <| f 41 1 4 <| l 42 41 <| o 43 (.len false (t 42)) <| b 44 .lss (t 40) (t 43) <| z) <|
  (.cond (t 44) [] []
  .skip
  (.exit 2))) <|
  (S (.block 3 [] ([6] ++ g 47 9)
  (S (D <| f 47 1 4 <| l 48 47 <| m 49 8 <| o 50 (.indexAddr 6 (t 48) (t 49)) <| f 51 1 50 <| l 52 51 <| o 53 (.load true 13 (t 3)) <| O 54 (.call 82 [(t 53)]) <| b 55 .gtr (t 52) (t 54) <| z) <|
  (.cond (t 55) [] [6]
  (S (R <| o 6 (.move (i 10)) <| z) <|
  .ret)
  .skip))) <|
  (R <| m 45 8 <| b 46 .add (t 45) (i 1) <| m 8 46 <| z)))))) <|
  (S (R <| o 6 (.move (i 0)) <| z) <|
  .ret))))),
 [.tmp 6], [.keep]⟩
theorem ok59 : ∃ fn c, FunOk Try.prog 59 fn c A59.erase := ⟨Try.f59, _, ⟨Try.func59, rfl, by kernel_rfl, by kernel_rfl, by kernel_rfl, of_decide_eq_true (by kernel_rfl), by kernel_rfl⟩⟩
noncomputable def s59_L0 (Γ : PCallee) (n : Nat) (h : PHeap) (v0 : PV) (v2 : PV) (h16 : PHeap) (j17 : List PV → PHeap → Pt) : (List PV → PHeap → Pt) → List PV → PHeap → Pt := fun c20 w21 h22 =>
 (fieldAddrP 1 v2).bind fun v23 =>
 (loadP false 1 v23 h22).bind fun v24 =>
 (lenP false v24).bind fun v25 =>
 (binP .lss (nthP w21 0) v25).bind fun v26 =>
 KL (fun w28 h29 =>
 KL (fun w31 h32 =>
 (binP .add (nthP w21 0) (.int .i64 1 : PV)).bind fun v33 =>
 c20 [v33] (trim h16 [v33] h32)) fun j30 =>
 (fieldAddrP 1 v2).bind fun v34 =>
 (loadP false 1 v34 h29).bind fun v35 =>
 (indexAddrP 6 v35 (nthP w21 0)).bind fun v36 =>
 (fieldAddrP 1 v36).bind fun v37 =>
 (loadP false 1 v37 h29).bind fun v38 =>
 (loadP true 13 v0 h29).bind fun v39 =>
 (Γ 82 [v39] (lock h29)).bind fun p40 =>
 unl h29 p40.2 fun h41 =>
 (binP .gtr v38 p40.1).bind fun v42 =>
 KL (fun w44 h45 =>
 j30 [] h45) fun j43 =>
 ifP v42 (
 finP [.keep] h h41 [(.int .i64 10 : PV)]) (
 j43 [] h41)) fun j27 =>
 ifP v26 (
 j27 [] h22) (
 j17 [] h22)
noncomputable def s59_L1 (Γ : PCallee) (n : Nat) (h : PHeap) (v0 : PV) (v2 : PV) (h13 : PHeap) (j14 : List PV → PHeap → Pt) : (List PV → PHeap → Pt) → List PV → PHeap → Pt := fun c46 w47 h48 =>
 (fieldAddrP 1 v2).bind fun v49 =>
 (loadP false 1 v49 h48).bind fun v50 =>
 (lenP false v50).bind fun v51 =>
 (binP .lss (nthP w47 0) v51).bind fun v52 =>
 KL (fun w54 h55 =>
 KL (fun w57 h58 =>
 (binP .add (nthP w47 0) (.int .i64 1 : PV)).bind fun v59 =>
 c46 [v59] (trim h13 [v59] h58)) fun j56 =>
 (fieldAddrP 1 v0).bind fun v60 =>
 (loadP false 1 v60 h55).bind fun v61 =>
 (fieldAddrP 1 v2).bind fun v62 =>
 (loadP false 1 v62 h55).bind fun v63 =>
 (indexAddrP 6 v63 (nthP w47 0)).bind fun v64 =>
 (loadP true 6 v64 h55).bind fun v65 =>
 (Γ 81 [v61, v65] h55).bind fun p66 =>
 (unP .not p66.1).bind fun v67 =>
 KL (fun w69 h70 =>
 j56 [] h70) fun j68 =>
 ifP v67 (
 finP [.keep] h p66.2 [(.int .i64 1 : PV)]) (
 j68 [] p66.2)) fun j53 =>
 ifP v52 (
 j53 [] h48) (
 j14 [] h48)
noncomputable def s59 (Γ : PCallee) (n : Nat) (x0 : PV) (x1 : PV) (x2 : PV) (h : PHeap) : Pt :=
 forkP (.ptr h.length 0) (h ++ [.box (cellsP x0) 27 .rw]) fun v0 h1 =>
 forkP (.ptr h1.length 0) (h1 ++ [.box (cellsP x1) 46 .rw]) fun v2 h3 =>
 (binP .neq x2 (.int .i64 0 : PV)).bind fun v4 =>
 K1 (fun v6 h7 =>
 K1 (fun v9 h10 =>
 KL (fun w12 h13 =>
 KL (fun w15 h16 =>
 KL (fun w18 h19 =>
 finP [.keep] h h19 [(.int .i64 0 : PV)]) fun j17 =>
 loopP (s59_L0 Γ n h v0 v2 h16 j17) n [(.int .i64 0 : PV)] h16) fun j14 =>
 loopP (s59_L1 Γ n h v0 v2 h13 j14) n [(.int .i64 0 : PV)] h13) fun j11 =>
 ifP v9 (
 finP [.keep] h h10 [(.int .i64 1 : PV)]) (
 j11 [] h10)) fun j8 =>
 scP v6 false (
 (loadP true 2 v2 h7).bind fun v71 =>
 (fieldAddrP 2 v0).bind fun v72 =>
 (loadP false 1 v72 h7).bind fun v73 =>
 (Γ 80 [v71, v73] h7).bind fun p74 =>
 (unP .not p74.1).bind fun v75 =>
 j8 v75 p74.2)
 (j8 (.bool true) h7)) fun j5 =>
 scP v4 true (
 (fieldAddrP 0 v2).bind fun v76 =>
 (loadP false 1 v76 h3).bind fun v77 =>
 (binP .neq v77 x2).bind fun v78 =>
 j5 v78 h3)
 (j5 (.bool false) h3)

theorem s59_eq (Γ : PCallee) (n : Nat) (x0 : PV) (x1 : PV) (x2 : PV) (h : PHeap) : pfunK Γ n A59 [x0, x1, x2] h = s59 Γ n x0 x1 x2 h := by kernel_rfl


open Go.Vm.G in
/-- orchestrion/orchestrionref07.marked -/
def A60 : PFun := ⟨1, 9,
 (S (R <| o 2 (.move (.const (.bool false))) <| z) <|
  (S (R <| m 3 0 <| b 4 .eql (t 3) (i 254) <| m 5 4 <| q 8 5 false [6, 7] (m 6 0 <| b 7 .eql (t 6) (i 255) <| z) (t 7) <|
  m 2 8 <| z) <|
  .ret)),
 [.tmp 2], [.keep]⟩
theorem ok60 : ∃ fn c, FunOk Try.prog 60 fn c A60.erase := ⟨Try.f60, _, ⟨Try.func60, rfl, by kernel_rfl, by kernel_rfl, by kernel_rfl, of_decide_eq_true (by kernel_rfl), by kernel_rfl⟩⟩
noncomputable def s60 (Γ : PCallee) (n : Nat) (x0 : PV) (h : PHeap) : Pt :=
 (binP .eql x0 (.int .i64 254 : PV)).bind fun v0 =>
 K1 (fun v2 h3 =>
 finP [.keep] h h3 [v2]) fun j1 =>
 scP v0 false (
 (binP .eql x0 (.int .i64 255 : PV)).bind fun v4 =>
 j1 v4 h)
 (j1 (.bool true) h)

theorem s60_eq (Γ : PCallee) (n : Nat) (x0 : PV) (h : PHeap) : pfunK Γ n A60 [x0] h = s60 Γ n x0 h := by kernel_rfl


open Go.Vm.G in
/-- orchestrion/orchestrionref02.Valid -/
def A61 : PFun := ⟨1, 98,
 (S (R <| o 1 (.box 48 (t 0)) <| o 2 (.move (.const (.bool false))) <| z) <|
  (S (R <| f 5 1 1 <| l 6 5 <| o 7 (.len false (t 6)) <| m 3 7 <| z) <|
  (S (S (R <| f 8 0 1 <| l 9 8 <| o 10 (.call 32 [(t 9)]) <| o 11 (.un .not (t 10)) <| m 12 11 <| q 21 12 false (g 13 4 ++ [20, 17, 18, 19]) (f 13 2 1 <| l 14 13 <| b 15 .neq (t 14) (i 8) <| m 16 15 <| q 20 16 true [17, 18, 19] (f 17 2 1 <| l 18 17 <| b 19 .neq (t 18) (i 16) <| z) (t 19) <|
  z) (t 20) <|
  m 22 21 <| q 25 22 false [23, 24] (m 23 3 <| b 24 .gtr (t 23) (i 4096) <| z) (t 24) <|
  m 26 25 <| q 30 26 false [27, 28, 29] (f 27 3 1 <| l 28 27 <| b 29 .lss (t 28) (i 1) <| z) (t 29) <|
  m 31 30 <| q 35 31 false [32, 33, 34] (f 32 3 1 <| l 33 32 <| b 34 .gtr (t 33) (i 65535) <| z) (t 34) <|
  m 36 35 <| q 40 36 false [37, 38, 39] (f 37 4 1 <| l 38 37 <| b 39 .lss (t 38) (i 0) <| z) (t 39) <|
  m 41 40 <| q 45 41 false [42, 43, 44] (f 42 4 1 <| l 43 42 <| b 44 .gtr (t 43) (i 64) <| z) (t 44) <|
  m 46 45 <| q 50 46 false [47, 48, 49] (f 47 5 1 <| l 48 47 <| b 49 .lss (t 48) (i (-1)) <| z) (t 49) <|
  m 51 50 <| q 55 51 false [52, 53, 54] (f 52 5 1 <| l 53 52 <| b 54 .gtr (t 53) (i 256) <| z) (t 54) <|
  m 56 55 <| q 60 56 false [57, 58, 59] (f 57 6 1 <| l 58 57 <| b 59 .lss (t 58) (i (-64)) <| z) (t 59) <|
  m 61 60 <| q 65 61 false [62, 63, 64] (f 62 6 1 <| l 63 62 <| b 64 .gtr (t 63) (i 63) <| z) (t 64) <|
  z) <|
  (.cond (t 65) [] [2]
  (S (R <| o 2 (.move (.const (.bool false))) <| z) <|
  .ret)
  .skip)) <|
  (S (S (R <| o 4 (.move (i 0)) <| z) <|
  (.block 0 [] ([2, 4] ++ g 66 14)
  (.loop [4] ([2] ++ g 66 14)
  (S (S (R <| m 66 4 <| m 67 3 <| b 68 .lss (t 66) (t 67) <| z) <|
  (.cond (t 68) [] []
  .skip
  (.exit 0))) <|
  (S (.block 1 [] ([2] ++ g 71 9)
  (S (D <| f 71 1 1 <| l 72 71 <| m 73 4 <| o 74 (.indexAddr 1 (t 72) (t 73)) <| l 75 74 <| f 76 2 1 <| l 77 76 <| o 78 (.call 83 [(t 75), (t 77)]) <| o 79 (.un .not (t 78)) <| z) <|
  (.cond (t 79) [] [2]
  (S (R <| o 2 (.move (.const (.bool false))) <| z) <|
  .ret)
  .skip))) <|
  (R <| m 69 4 <| b 70 .add (t 69) (i 1) <| m 4 70 <| z)))))) <|
  (S (R <| f 80 7 1 <| l 81 80 <| f 82 8 1 <| l 83 82 <| f 84 9 1 <| l 85 84 <| m 86 3 <| o 87 (.call 84 [(t 81), (t 83), (t 85), (t 86)]) <| m 88 87 <| q 97 88 true (g 89 8) (f 89 10 1 <| l 90 89 <| f 91 11 1 <| l 92 91 <| f 93 12 1 <| l 94 93 <| m 95 3 <| o 96 (.call 84 [(t 90), (t 92), (t 94), (t 95)]) <| z) (t 96) <|
  m 2 97 <| z) <|
  .ret))))),
 [.tmp 2], [.keep]⟩
theorem ok61 : ∃ fn c, FunOk Try.prog 61 fn c A61.erase := ⟨Try.f61, _, ⟨Try.func61, rfl, by kernel_rfl, by kernel_rfl, by kernel_rfl, of_decide_eq_true (by kernel_rfl), by kernel_rfl⟩⟩
noncomputable def s61_L0 (Γ : PCallee) (n : Nat) (h : PHeap) (v0 : PV) (v4 : PV) (h41 : PHeap) (j42 : List PV → PHeap → Pt) : (List PV → PHeap → Pt) → List PV → PHeap → Pt := fun c62 w63 h64 =>
 (binP .lss (nthP w63 0) v4).bind fun v65 =>
 KL (fun w67 h68 =>
 KL (fun w70 h71 =>
 (binP .add (nthP w63 0) (.int .i64 1 : PV)).bind fun v72 =>
 c62 [v72] (trim h41 [v72] h71)) fun j69 =>
 (fieldAddrP 1 v0).bind fun v73 =>
 (loadP false 1 v73 h68).bind fun v74 =>
 (indexAddrP 1 v74 (nthP w63 0)).bind fun v75 =>
 (loadP false 1 v75 h68).bind fun v76 =>
 (fieldAddrP 2 v0).bind fun v77 =>
 (loadP false 1 v77 h68).bind fun v78 =>
 (Γ 83 [v76, v78] h68).bind fun p79 =>
 (unP .not p79.1).bind fun v80 =>
 KL (fun w82 h83 =>
 j69 [] h83) fun j81 =>
 ifP v80 (
 finP [.keep] h p79.2 [(.bool false : PV)]) (
 j81 [] p79.2)) fun j66 =>
 ifP v65 (
 j66 [] h64) (
 j42 [] h64)
noncomputable def s61 (Γ : PCallee) (n : Nat) (x0 : PV) (h : PHeap) : Pt :=
 forkP (.ptr h.length 0) (h ++ [.box (cellsP x0) 48 .rw]) fun v0 h1 =>
 (fieldAddrP 1 v0).bind fun v2 =>
 (loadP false 1 v2 h1).bind fun v3 =>
 (lenP false v3).bind fun v4 =>
 (fieldAddrP 0 v0).bind fun v5 =>
 (loadP false 1 v5 h1).bind fun v6 =>
 (Γ 32 [v6] h1).bind fun p7 =>
 (unP .not p7.1).bind fun v8 =>
 K1 (fun v10 h11 =>
 K1 (fun v13 h14 =>
 K1 (fun v16 h17 =>
 K1 (fun v19 h20 =>
 K1 (fun v22 h23 =>
 K1 (fun v25 h26 =>
 K1 (fun v28 h29 =>
 K1 (fun v31 h32 =>
 K1 (fun v34 h35 =>
 K1 (fun v37 h38 =>
 KL (fun w40 h41 =>
 KL (fun w43 h44 =>
 (fieldAddrP 7 v0).bind fun v45 =>
 (loadP false 1 v45 h44).bind fun v46 =>
 (fieldAddrP 8 v0).bind fun v47 =>
 (loadP false 1 v47 h44).bind fun v48 =>
 (fieldAddrP 9 v0).bind fun v49 =>
 (loadP false 1 v49 h44).bind fun v50 =>
 (Γ 84 [v46, v48, v50, v4] h44).bind fun p51 =>
 K1 (fun v53 h54 =>
 finP [.keep] h h54 [v53]) fun j52 =>
 scP p51.1 true (
 (fieldAddrP 10 v0).bind fun v55 =>
 (loadP false 1 v55 p51.2).bind fun v56 =>
 (fieldAddrP 11 v0).bind fun v57 =>
 (loadP false 1 v57 p51.2).bind fun v58 =>
 (fieldAddrP 12 v0).bind fun v59 =>
 (loadP false 1 v59 p51.2).bind fun v60 =>
 (Γ 84 [v56, v58, v60, v4] p51.2).bind fun p61 =>
 j52 p61.1 p61.2)
 (j52 (.bool false) p51.2)) fun j42 =>
 loopP (s61_L0 Γ n h v0 v4 h41 j42) n [(.int .i64 0 : PV)] h41) fun j39 =>
 ifP v37 (
 finP [.keep] h h38 [(.bool false : PV)]) (
 j39 [] h38)) fun j36 =>
 scP v34 false (
 (fieldAddrP 6 v0).bind fun v84 =>
 (loadP false 1 v84 h35).bind fun v85 =>
 (binP .gtr v85 (.int .i64 63 : PV)).bind fun v86 =>
 j36 v86 h35)
 (j36 (.bool true) h35)) fun j33 =>
 scP v31 false (
 (fieldAddrP 6 v0).bind fun v87 =>
 (loadP false 1 v87 h32).bind fun v88 =>
 (binP .lss v88 (.int .i64 (-64) : PV)).bind fun v89 =>
 j33 v89 h32)
 (j33 (.bool true) h32)) fun j30 =>
 scP v28 false (
 (fieldAddrP 5 v0).bind fun v90 =>
 (loadP false 1 v90 h29).bind fun v91 =>
 (binP .gtr v91 (.int .i64 256 : PV)).bind fun v92 =>
 j30 v92 h29)
 (j30 (.bool true) h29)) fun j27 =>
 scP v25 false (
 (fieldAddrP 5 v0).bind fun v93 =>
 (loadP false 1 v93 h26).bind fun v94 =>
 (binP .lss v94 (.int .i64 (-1) : PV)).bind fun v95 =>
 j27 v95 h26)
 (j27 (.bool true) h26)) fun j24 =>
 scP v22 false (
 (fieldAddrP 4 v0).bind fun v96 =>
 (loadP false 1 v96 h23).bind fun v97 =>
 (binP .gtr v97 (.int .i64 64 : PV)).bind fun v98 =>
 j24 v98 h23)
 (j24 (.bool true) h23)) fun j21 =>
 scP v19 false (
 (fieldAddrP 4 v0).bind fun v99 =>
 (loadP false 1 v99 h20).bind fun v100 =>
 (binP .lss v100 (.int .i64 0 : PV)).bind fun v101 =>
 j21 v101 h20)
 (j21 (.bool true) h20)) fun j18 =>
 scP v16 false (
 (fieldAddrP 3 v0).bind fun v102 =>
 (loadP false 1 v102 h17).bind fun v103 =>
 (binP .gtr v103 (.int .i64 65535 : PV)).bind fun v104 =>
 j18 v104 h17)
 (j18 (.bool true) h17)) fun j15 =>
 scP v13 false (
 (fieldAddrP 3 v0).bind fun v105 =>
 (loadP false 1 v105 h14).bind fun v106 =>
 (binP .lss v106 (.int .i64 1 : PV)).bind fun v107 =>
 j15 v107 h14)
 (j15 (.bool true) h14)) fun j12 =>
 scP v10 false (
 (binP .gtr v4 (.int .i64 4096 : PV)).bind fun v108 =>
 j12 v108 h11)
 (j12 (.bool true) h11)) fun j9 =>
 scP v8 false (
 (fieldAddrP 2 v0).bind fun v109 =>
 (loadP false 1 v109 p7.2).bind fun v110 =>
 (binP .neq v110 (.int .i64 8 : PV)).bind fun v111 =>
 K1 (fun v113 h114 =>
 j9 v113 h114) fun j112 =>
 scP v111 true (
 (fieldAddrP 2 v0).bind fun v115 =>
 (loadP false 1 v115 p7.2).bind fun v116 =>
 (binP .neq v116 (.int .i64 16 : PV)).bind fun v117 =>
 j112 v117 p7.2)
 (j112 (.bool false) p7.2))
 (j9 (.bool true) p7.2)

theorem s61_eq (Γ : PCallee) (n : Nat) (x0 : PV) (h : PHeap) : pfunK Γ n A61 [x0] h = s61 Γ n x0 h := by kernel_rfl


open Go.Vm.G in
/-- orchestrion/orchestrionref07.instrumental -/
def A62 : PFun := ⟨2, 26,
 (S (R <| o 2 (.box 27 (t 0)) <| o 3 (.box 54 (t 1)) <| o 4 (.move (i 0)) <| z) <|
  (S (S (R <| o 6 (.load true 33 (t 3)) <| o 7 (.call 85 [(t 6)]) <| o 8 (.un .not (t 7)) <| z) <|
  (.cond (t 8) [] [4]
  (S (R <| o 4 (.move (i 1)) <| z) <|
  .ret)
  .skip)) <|
  (S (S (R <| o 5 (.move (i 0)) <| z) <|
  (.block 0 [] ([4, 5] ++ g 9 17)
  (.loop [5] ([4] ++ g 9 17)
  (S (S (R <| m 9 5 <| f 10 1 3 <| l 11 10 <| o 12 (.len false (t 11)) <| b 13 .lss (t 9) (t 12) <| z) <|
  (.cond (t 13) [] []
  .skip
  (.exit 0))) <|
  (S (.block 1 [] ([4] ++ g 16 10)
  (S (D <| f 16 1 3 <| l 17 16 <| m 18 5 <| o 19 (.indexAddr 2 (t 17) (t 18)) <| f 20 1 19 <| l 21 20 <| f 22 11 2 <| l 23 22 <| o 24 (.len false (t 23)) <| b 25 .gtr (t 21) (t 24) <| z) <|
  (.cond (t 25) [] [4]
  (S (R <| o 4 (.move (i 10)) <| z) <|
  .ret)
  .skip))) <|
  (R <| m 14 5 <| b 15 .add (t 14) (i 1) <| m 5 15 <| z)))))) <|
  (S (R <| o 4 (.move (i 0)) <| z) <|
  .ret)))),
 [.tmp 4], [.keep]⟩
theorem ok62 : ∃ fn c, FunOk Try.prog 62 fn c A62.erase := ⟨Try.f62, _, ⟨Try.func62, rfl, by kernel_rfl, by kernel_rfl, by kernel_rfl, of_decide_eq_true (by kernel_rfl), by kernel_rfl⟩⟩
noncomputable def s62_L0 (Γ : PCallee) (n : Nat) (h : PHeap) (v0 : PV) (v2 : PV) (h9 : PHeap) (j10 : List PV → PHeap → Pt) : (List PV → PHeap → Pt) → List PV → PHeap → Pt := fun c13 w14 h15 =>
 (fieldAddrP 1 v2).bind fun v16 =>
 (loadP false 1 v16 h15).bind fun v17 =>
 (lenP false v17).bind fun v18 =>
 (binP .lss (nthP w14 0) v18).bind fun v19 =>
 KL (fun w21 h22 =>
 KL (fun w24 h25 =>
 (binP .add (nthP w14 0) (.int .i64 1 : PV)).bind fun v26 =>
 c13 [v26] (trim h9 [v26] h25)) fun j23 =>
 (fieldAddrP 1 v2).bind fun v27 =>
 (loadP false 1 v27 h22).bind fun v28 =>
 (indexAddrP 2 v28 (nthP w14 0)).bind fun v29 =>
 (fieldAddrP 1 v29).bind fun v30 =>
 (loadP false 1 v30 h22).bind fun v31 =>
 (fieldAddrP 11 v0).bind fun v32 =>
 (loadP false 1 v32 h22).bind fun v33 =>
 (lenP false v33).bind fun v34 =>
 (binP .gtr v31 v34).bind fun v35 =>
 KL (fun w37 h38 =>
 j23 [] h38) fun j36 =>
 ifP v35 (
 finP [.keep] h h22 [(.int .i64 10 : PV)]) (
 j36 [] h22)) fun j20 =>
 ifP v19 (
 j20 [] h15) (
 j10 [] h15)
noncomputable def s62 (Γ : PCallee) (n : Nat) (x0 : PV) (x1 : PV) (h : PHeap) : Pt :=
 forkP (.ptr h.length 0) (h ++ [.box (cellsP x0) 27 .rw]) fun v0 h1 =>
 forkP (.ptr h1.length 0) (h1 ++ [.box (cellsP x1) 54 .rw]) fun v2 h3 =>
 (loadP true 33 v2 h3).bind fun v4 =>
 (Γ 85 [v4] h3).bind fun p5 =>
 (unP .not p5.1).bind fun v6 =>
 KL (fun w8 h9 =>
 KL (fun w11 h12 =>
 finP [.keep] h h12 [(.int .i64 0 : PV)]) fun j10 =>
 loopP (s62_L0 Γ n h v0 v2 h9 j10) n [(.int .i64 0 : PV)] h9) fun j7 =>
 ifP v6 (
 finP [.keep] h p5.2 [(.int .i64 1 : PV)]) (
 j7 [] p5.2)

theorem s62_eq (Γ : PCallee) (n : Nat) (x0 : PV) (x1 : PV) (h : PHeap) : pfunK Γ n A62 [x0, x1] h = s62 Γ n x0 x1 h := by kernel_rfl


open Go.Vm.G in
/-- orchestrion/pattern.isWide -/
def A63 : PFun := ⟨1, 5,
 (S (R <| o 2 (.move (.const (.bool false))) <| z) <|
  (S (R <| m 3 0 <| o 4 (.call 64 [(t 3), (i 1), (i 16)]) <| m 2 4 <| z) <|
  .ret)),
 [.tmp 2], [.keep]⟩
theorem ok63 : ∃ fn c, FunOk Try.prog 63 fn c A63.erase := ⟨Try.f63, _, ⟨Try.func63, rfl, by kernel_rfl, by kernel_rfl, by kernel_rfl, of_decide_eq_true (by kernel_rfl), by kernel_rfl⟩⟩
noncomputable def s63 (Γ : PCallee) (n : Nat) (x0 : PV) (h : PHeap) : Pt :=
 (Γ 64 [x0, (.int .i64 1 : PV), (.int .i64 16 : PV)] h).bind fun p0 =>
 finP [.keep] h p0.2 [p0.1]

theorem s63_eq (Γ : PCallee) (n : Nat) (x0 : PV) (h : PHeap) : pfunK Γ n A63 [x0] h = s63 Γ n x0 h := by kernel_rfl


open Go.Vm.G in
/-- orchestrion/pattern.within -/
def A64 : PFun := ⟨3, 15,
 (S (R <| o 6 (.move (.const (.bool false))) <| z) <|
  (S (R <| m 7 0 <| m 8 1 <| b 9 .geq (t 7) (t 8) <| m 10 9 <| q 14 10 true [11, 12, 13] (m 11 0 <| m 12 2 <| b 13 .leq (t 11) (t 12) <| z) (t 13) <|
  m 6 14 <| z) <|
  .ret)),
 [.tmp 6], [.keep]⟩
theorem ok64 : ∃ fn c, FunOk Try.prog 64 fn c A64.erase := ⟨Try.f64, _, ⟨Try.func64, rfl, by kernel_rfl, by kernel_rfl, by kernel_rfl, of_decide_eq_true (by kernel_rfl), by kernel_rfl⟩⟩
noncomputable def s64 (Γ : PCallee) (n : Nat) (x0 : PV) (x1 : PV) (x2 : PV) (h : PHeap) : Pt :=
 (binP .geq x0 x1).bind fun v0 =>
 K1 (fun v2 h3 =>
 finP [.keep] h h3 [v2]) fun j1 =>
 scP v0 true (
 (binP .leq x0 x2).bind fun v4 =>
 j1 v4 h)
 (j1 (.bool false) h)

theorem s64_eq (Γ : PCallee) (n : Nat) (x0 : PV) (x1 : PV) (x2 : PV) (h : PHeap) : pfunK Γ n A64 [x0, x1, x2] h = s64 Γ n x0 x1 x2 h := by kernel_rfl


open Go.Vm.G in
/-- orchestrion/pattern.Valid$1 -/
def A65 : PFun := ⟨1, 6,
 (S (R <| o 1 (.box 107 (t 0)) <| o 2 (.move (.const (.bool false))) <| z) <|
  (S (R <| o 3 (.load true 6 (t 1)) <| o 4 (.call 66 [(t 3)]) <| o 5 (.un .not (t 4)) <| m 2 5 <| z) <|
  .ret)),
 [.tmp 2], [.keep]⟩
theorem ok65 : ∃ fn c, FunOk Try.prog 65 fn c A65.erase := ⟨Try.f65, _, ⟨Try.func65, rfl, by kernel_rfl, by kernel_rfl, by kernel_rfl, of_decide_eq_true (by kernel_rfl), by kernel_rfl⟩⟩
noncomputable def s65 (Γ : PCallee) (n : Nat) (x0 : PV) (h : PHeap) : Pt :=
 forkP (.ptr h.length 0) (h ++ [.box (cellsP x0) 107 .rw]) fun v0 h1 =>
 (loadP true 6 v0 h1).bind fun v2 =>
 (Γ 66 [v2] h1).bind fun p3 =>
 (unP .not p3.1).bind fun v4 =>
 finP [.keep] h p3.2 [v4]

theorem s65_eq (Γ : PCallee) (n : Nat) (x0 : PV) (h : PHeap) : pfunK Γ n A65 [x0] h = s65 Γ n x0 h := by kernel_rfl


open Go.Vm.G in
/-- orchestrion/pattern.ValidCell -/
def A66 : PFun := ⟨1, 72,
 (S (R <| o 1 (.box 107 (t 0)) <| o 2 (.move (.const (.bool false))) <| z) <|
  (S (R <| f 6 0 1 <| l 7 6 <| o 8 (.call 64 [(t 7), (i 0), (i 120)]) <| m 9 8 <| q 13 9 false [10, 11, 12] (f 10 0 1 <| l 11 10 <| b 12 .eql (t 11) (i 253) <| z) (t 12) <|
  m 14 13 <| q 18 14 false [15, 16, 17] (f 15 0 1 <| l 16 15 <| b 17 .eql (t 16) (i 254) <| z) (t 17) <|
  m 19 18 <| q 23 19 false [20, 21, 22] (f 20 0 1 <| l 21 20 <| b 22 .eql (t 21) (i 255) <| z) (t 22) <|
  m 3 23 <| z) <|
  (S (R <| f 24 2 1 <| l 25 24 <| o 26 (.call 64 [(t 25), (i 0), (i 12)]) <| m 27 26 <| q 31 27 true [28, 29, 30] (f 28 3 1 <| l 29 28 <| o 30 (.call 64 [(t 29), (i 0), (i 99)]) <| z) (t 30) <|
  m 32 31 <| q 41 32 true (g 33 4 ++ [40, 37, 38, 39]) (f 33 2 1 <| l 34 33 <| b 35 .gtr (t 34) (i 0) <| m 36 35 <| q 40 36 false [37, 38, 39] (f 37 3 1 <| l 38 37 <| b 39 .eql (t 38) (i 0) <| z) (t 39) <|
  z) (t 40) <|
  m 4 41 <| z) <|
  (S (R <| f 42 4 1 <| l 43 42 <| o 44 (.call 64 [(t 43), (i 0), (i 36)]) <| m 45 44 <| q 49 45 true [46, 47, 48] (f 46 5 1 <| l 47 46 <| o 48 (.call 64 [(t 47), (i 0), (i 255)]) <| z) (t 48) <|
  m 50 49 <| q 59 50 true (g 51 4 ++ [58, 55, 56, 57]) (f 51 4 1 <| l 52 51 <| b 53 .gtr (t 52) (i 0) <| m 54 53 <| q 58 54 false [55, 56, 57] (f 55 5 1 <| l 56 55 <| b 57 .eql (t 56) (i 0) <| z) (t 57) <|
  z) (t 58) <|
  m 5 59 <| z) <|
  (S (R <| m 60 3 <| m 61 60 <| q 65 61 true [62, 63, 64] (f 62 1 1 <| l 63 62 <| o 64 (.call 64 [(t 63), (i 0), (i 31)]) <| z) (t 64) <|
  m 66 65 <| q 68 66 true [67] (m 67 4 <| z) (t 67) <|
  m 69 68 <| q 71 69 true [70] (m 70 5 <| z) (t 70) <|
  m 2 71 <| z) <|
  .ret))))),
 [.tmp 2], [.keep]⟩
theorem ok66 : ∃ fn c, FunOk Try.prog 66 fn c A66.erase := ⟨Try.f66, _, ⟨Try.func66, rfl, by kernel_rfl, by kernel_rfl, by kernel_rfl, of_decide_eq_true (by kernel_rfl), by kernel_rfl⟩⟩
noncomputable def s66 (Γ : PCallee) (n : Nat) (x0 : PV) (h : PHeap) : Pt :=
 forkP (.ptr h.length 0) (h ++ [.box (cellsP x0) 107 .rw]) fun v0 h1 =>
 (fieldAddrP 0 v0).bind fun v2 =>
 (loadP false 1 v2 h1).bind fun v3 =>
 (Γ 64 [v3, (.int .i64 0 : PV), (.int .i64 120 : PV)] h1).bind fun p4 =>
 K1 (fun v6 h7 =>
 K1 (fun v9 h10 =>
 K1 (fun v12 h13 =>
 (fieldAddrP 2 v0).bind fun v14 =>
 (loadP false 1 v14 h13).bind fun v15 =>
 (Γ 64 [v15, (.int .i64 0 : PV), (.int .i64 12 : PV)] h13).bind fun p16 =>
 K1 (fun v18 h19 =>
 K1 (fun v21 h22 =>
 (fieldAddrP 4 v0).bind fun v23 =>
 (loadP false 1 v23 h22).bind fun v24 =>
 (Γ 64 [v24, (.int .i64 0 : PV), (.int .i64 36 : PV)] h22).bind fun p25 =>
 K1 (fun v27 h28 =>
 K1 (fun v30 h31 =>
 K1 (fun v33 h34 =>
 K1 (fun v36 h37 =>
 K1 (fun v39 h40 =>
 finP [.keep] h h40 [v39]) fun j38 =>
 scP v36 true (
 j38 v30 h37)
 (j38 (.bool false) h37)) fun j35 =>
 scP v33 true (
 j35 v21 h34)
 (j35 (.bool false) h34)) fun j32 =>
 scP v12 true (
 (fieldAddrP 1 v0).bind fun v41 =>
 (loadP false 1 v41 h31).bind fun v42 =>
 (Γ 64 [v42, (.int .i64 0 : PV), (.int .i64 31 : PV)] h31).bind fun p43 =>
 j32 p43.1 p43.2)
 (j32 (.bool false) h31)) fun j29 =>
 scP v27 true (
 (fieldAddrP 4 v0).bind fun v44 =>
 (loadP false 1 v44 h28).bind fun v45 =>
 (binP .gtr v45 (.int .i64 0 : PV)).bind fun v46 =>
 K1 (fun v48 h49 =>
 j29 v48 h49) fun j47 =>
 scP v46 false (
 (fieldAddrP 5 v0).bind fun v50 =>
 (loadP false 1 v50 h28).bind fun v51 =>
 (binP .eql v51 (.int .i64 0 : PV)).bind fun v52 =>
 j47 v52 h28)
 (j47 (.bool true) h28))
 (j29 (.bool false) h28)) fun j26 =>
 scP p25.1 true (
 (fieldAddrP 5 v0).bind fun v53 =>
 (loadP false 1 v53 p25.2).bind fun v54 =>
 (Γ 64 [v54, (.int .i64 0 : PV), (.int .i64 255 : PV)] p25.2).bind fun p55 =>
 j26 p55.1 p55.2)
 (j26 (.bool false) p25.2)) fun j20 =>
 scP v18 true (
 (fieldAddrP 2 v0).bind fun v56 =>
 (loadP false 1 v56 h19).bind fun v57 =>
 (binP .gtr v57 (.int .i64 0 : PV)).bind fun v58 =>
 K1 (fun v60 h61 =>
 j20 v60 h61) fun j59 =>
 scP v58 false (
 (fieldAddrP 3 v0).bind fun v62 =>
 (loadP false 1 v62 h19).bind fun v63 =>
 (binP .eql v63 (.int .i64 0 : PV)).bind fun v64 =>
 j59 v64 h19)
 (j59 (.bool true) h19))
 (j20 (.bool false) h19)) fun j17 =>
 scP p16.1 true (
 (fieldAddrP 3 v0).bind fun v65 =>
 (loadP false 1 v65 p16.2).bind fun v66 =>
 (Γ 64 [v66, (.int .i64 0 : PV), (.int .i64 99 : PV)] p16.2).bind fun p67 =>
 j17 p67.1 p67.2)
 (j17 (.bool false) p16.2)) fun j11 =>
 scP v9 false (
 (fieldAddrP 0 v0).bind fun v68 =>
 (loadP false 1 v68 h10).bind fun v69 =>
 (binP .eql v69 (.int .i64 255 : PV)).bind fun v70 =>
 j11 v70 h10)
 (j11 (.bool true) h10)) fun j8 =>
 scP v6 false (
 (fieldAddrP 0 v0).bind fun v71 =>
 (loadP false 1 v71 h7).bind fun v72 =>
 (binP .eql v72 (.int .i64 254 : PV)).bind fun v73 =>
 j8 v73 h7)
 (j8 (.bool true) h7)) fun j5 =>
 scP p4.1 false (
 (fieldAddrP 0 v0).bind fun v74 =>
 (loadP false 1 v74 p4.2).bind fun v75 =>
 (binP .eql v75 (.int .i64 253 : PV)).bind fun v76 =>
 j5 v76 p4.2)
 (j5 (.bool true) p4.2)

theorem s66_eq (Γ : PCallee) (n : Nat) (x0 : PV) (h : PHeap) : pfunK Γ n A66 [x0] h = s66 Γ n x0 h := by kernel_rfl


open Go.Vm.G in
/-- slices.IndexFunc[[]orchestrion/api.Cell,orchestrion/api.Cell] -/
def A67 : PFun := ⟨2, 19,
 (S (R <| o 4 (.move (i 0)) <| z) <|
  (S (S (R <| m 6 0 <| o 7 (.len false (t 6)) <| o 8 (.move (i 0)) <| z) <|
  (.block 0 [] ([4, 5] ++ g 8 11)
  (.loop [8] ([4, 5] ++ g 9 10)
  (S (R <| b 9 .lss (t 8) (t 7) <| z) <|
  (S (.cond (t 9) [] []
  .skip
  (.exit 0)) <|
  (S (.block 1 [] ([4, 5] ++ g 10 8)
  (S (R <| m 10 8 <| m 5 10 <| z) <|
  (S (R <| m 11 1 <| m 12 0 <| m 13 5 <| o 14 (.indexAddr 6 (t 12) (t 13)) <| o 15 (.load true 6 (t 14)) <| o 16 (.callV (t 11) [(t 15)]) <| z) <|
  (.cond (t 16) [] [4, 17]
  (S (R <| m 17 5 <| m 4 17 <| z) <|
  .ret)
  .skip)))) <|
  (R <| b 18 .add (t 8) (i 1) <| m 8 18 <| z))))))) <|
  (S (R <| o 4 (.move (i (-1))) <| z) <|
  .ret))),
 [.tmp 4], [.keep]⟩
theorem ok67 : ∃ fn c, FunOk Try.prog 67 fn c A67.erase := ⟨Try.f67, _, ⟨Try.func67, rfl, by kernel_rfl, by kernel_rfl, by kernel_rfl, of_decide_eq_true (by kernel_rfl), by kernel_rfl⟩⟩
noncomputable def s67_L0 (Γ : PCallee) (n : Nat) (x0 : PV) (x1 : PV) (h : PHeap) (v0 : PV) (j1 : List PV → PHeap → Pt) : (List PV → PHeap → Pt) → List PV → PHeap → Pt := fun c4 w5 h6 =>
 (binP .lss (nthP w5 0) v0).bind fun v7 =>
 KL (fun w9 h10 =>
 KL (fun w12 h13 =>
 (binP .add (nthP w5 0) (.int .i64 1 : PV)).bind fun v14 =>
 c4 [v14] (trim h [v14] h13)) fun j11 =>
 (indexAddrP 6 x0 (nthP w5 0)).bind fun v15 =>
 (loadP true 6 v15 h10).bind fun v16 =>
 (callVP Γ x1 [v16] h10).bind fun p17 =>
 KL (fun w19 h20 =>
 j11 [] h20) fun j18 =>
 ifP p17.1 (
 finP [.keep] h p17.2 [(nthP w5 0)]) (
 j18 [] p17.2)) fun j8 =>
 ifP v7 (
 j8 [] h6) (
 j1 [] h6)
noncomputable def s67 (Γ : PCallee) (n : Nat) (x0 : PV) (x1 : PV) (h : PHeap) : Pt :=
 (lenP false x0).bind fun v0 =>
 KL (fun w2 h3 =>
 finP [.keep] h h3 [(.int .i64 (-1) : PV)]) fun j1 =>
 loopP (s67_L0 Γ n x0 x1 h v0 j1) n [(.int .i64 0 : PV)] h

theorem s67_eq (Γ : PCallee) (n : Nat) (x0 : PV) (x1 : PV) (h : PHeap) : pfunK Γ n A67 [x0, x1] h = s67 Γ n x0 x1 h := by kernel_rfl


open Go.Vm.G in
/-- orchestrion/dialect.hasNote -/
def A68 : PFun := ⟨2, 46,
 (S (R <| o 4 (.move (.const (.bool false))) <| z) <|
  (S (R <| o 6 (.call 40 []) <| m 7 0 <| o 8 (.indexArr 7 true 29 (t 6) (t 7)) <| o 5 (.new 82 V29) <| n (.store 29 (t 5) (t 8)) <| z) <|
  (S (S (R <| m 9 1 <| z) <|
  (.block 0 [] ([4] ++ g 10 26)
  (S (R <| b 11 .eql (t 9) (i 0) <| m 10 11 <| z) <|
  (.cond (t 10) [] ([4] ++ g 12 24)
  (S (R <| o 4 (.move (.const (.bool true))) <| z) <|
  .ret)
  (S (R <| b 13 .eql (t 9) (i 255) <| m 12 13 <| z) <|
  (.cond (t 12) [] ([4] ++ g 14 22)
  (S (R <| m 14 0 <| b 15 .eql (t 14) (i 3) <| m 16 15 <| q 19 16 false [17, 18] (m 17 0 <| b 18 .eql (t 17) (i 4) <| z) (t 18) <|
  m 20 19 <| q 23 20 false [21, 22] (m 21 0 <| b 22 .eql (t 21) (i 6) <| z) (t 22) <|
  m 4 23 <| z) <|
  .ret)
  (S (R <| b 25 .eql (t 9) (i 254) <| m 24 25 <| z) <|
  (.cond (t 24) [] ([4] ++ g 26 10)
  (S (R <| m 26 0 <| b 27 .eql (t 26) (i 2) <| m 28 27 <| q 31 28 false [29, 30] (m 29 0 <| b 30 .eql (t 29) (i 4) <| z) (t 30) <|
  m 4 31 <| z) <|
  .ret)
  (S (R <| b 33 .eql (t 9) (i 253) <| m 32 33 <| z) <|
  (.cond (t 32) [] [4, 34, 35]
  (S (R <| m 34 0 <| b 35 .eql (t 34) (i 4) <| m 4 35 <| z) <|
  .ret)
  .skip)))))))))) <|
  (S (R <| m 36 1 <| f 37 4 5 <| l 38 37 <| b 39 .geq (t 36) (t 38) <| m 40 39 <| q 45 40 true (g 41 4) (m 41 1 <| f 42 5 5 <| l 43 42 <| b 44 .leq (t 41) (t 43) <| z) (t 44) <|
  m 4 45 <| z) <|
  .ret)))),
 [.tmp 4], [.keep]⟩
theorem ok68 : ∃ fn c, FunOk Try.prog 68 fn c A68.erase := ⟨Try.f68, _, ⟨Try.func68, rfl, by kernel_rfl, by kernel_rfl, by kernel_rfl, of_decide_eq_true (by kernel_rfl), by kernel_rfl⟩⟩
noncomputable def s68 (Γ : PCallee) (n : Nat) (x0 : PV) (x1 : PV) (h : PHeap) : Pt :=
 (Γ 40 [] h).bind fun p0 =>
 (indexArrP 7 true 29 p0.1 x0).bind fun v1 =>
 forkP (.ptr p0.2.length 0) (p0.2 ++ [.box Z29 82 .rw]) fun v2 h3 =>
 (storeP 29 v2 v1 h3).bind fun h4 =>
 KL (fun w6 h7 =>
 (fieldAddrP 4 v2).bind fun v8 =>
 (loadP false 1 v8 h7).bind fun v9 =>
 (binP .geq x1 v9).bind fun v10 =>
 K1 (fun v12 h13 =>
 finP [.keep] h h13 [v12]) fun j11 =>
 scP v10 true (
 (fieldAddrP 5 v2).bind fun v14 =>
 (loadP false 1 v14 h7).bind fun v15 =>
 (binP .leq x1 v15).bind fun v16 =>
 j11 v16 h7)
 (j11 (.bool false) h7)) fun j5 =>
 (binP .eql x1 (.int .i64 0 : PV)).bind fun v17 =>
 KL (fun w19 h20 =>
 j5 [] h20) fun j18 =>
 ifP v17 (
 finP [.keep] h h4 [(.bool true : PV)]) (
 (binP .eql x1 (.int .i64 255 : PV)).bind fun v21 =>
 KL (fun w23 h24 =>
 j18 [] h24) fun j22 =>
 ifP v21 (
 (binP .eql x0 (.int .i64 3 : PV)).bind fun v25 =>
 K1 (fun v27 h28 =>
 K1 (fun v30 h31 =>
 finP [.keep] h h31 [v30]) fun j29 =>
 scP v27 false (
 (binP .eql x0 (.int .i64 6 : PV)).bind fun v32 =>
 j29 v32 h28)
 (j29 (.bool true) h28)) fun j26 =>
 scP v25 false (
 (binP .eql x0 (.int .i64 4 : PV)).bind fun v33 =>
 j26 v33 h4)
 (j26 (.bool true) h4)) (
 (binP .eql x1 (.int .i64 254 : PV)).bind fun v34 =>
 KL (fun w36 h37 =>
 j22 [] h37) fun j35 =>
 ifP v34 (
 (binP .eql x0 (.int .i64 2 : PV)).bind fun v38 =>
 K1 (fun v40 h41 =>
 finP [.keep] h h41 [v40]) fun j39 =>
 scP v38 false (
 (binP .eql x0 (.int .i64 4 : PV)).bind fun v42 =>
 j39 v42 h4)
 (j39 (.bool true) h4)) (
 (binP .eql x1 (.int .i64 253 : PV)).bind fun v43 =>
 KL (fun w45 h46 =>
 j35 [] h46) fun j44 =>
 ifP v43 (
 (binP .eql x0 (.int .i64 4 : PV)).bind fun v47 =>
 finP [.keep] h h4 [v47]) (
 j44 [] h4))))

theorem s68_eq (Γ : PCallee) (n : Nat) (x0 : PV) (x1 : PV) (h : PHeap) : pfunK Γ n A68 [x0, x1] h = s68 Γ n x0 x1 h := by kernel_rfl


open Go.Vm.G in
/-- orchestrion/dialect.volCmds -/
def A69 : PFun := ⟨1, 7,
 (S (R <| o 2 (.move (i 0)) <| z) <|
  (S (R <| o 3 .mkMap <| n (.mapSet .int (t 3) (i 2) (i 1)) <| n (.mapSet .int (t 3) (i 3) (i 8)) <| n (.mapSet .int (t 3) (i 4) (i 10)) <| m 4 3 <| m 5 0 <| o 6 (.lookup .int (.int .i64 0) false (t 4) (t 5)) <| m 2 6 <| z) <|
  .ret)),
 [.tmp 2], [.keep]⟩
theorem ok69 : ∃ fn c, FunOk Try.prog 69 fn c A69.erase := ⟨Try.f69, _, ⟨Try.func69, rfl, by kernel_rfl, by kernel_rfl, by kernel_rfl, of_decide_eq_true (by kernel_rfl), by kernel_rfl⟩⟩
noncomputable def s69 (Γ : PCallee) (n : Nat) (x0 : PV) (h : PHeap) : Pt :=
 forkP (.map h.length) (h ++ [.map [] .rw]) fun v0 h1 =>
 (setMapP .int v0 (.int .i64 2 : PV) (.int .i64 1 : PV) h1).bind fun h2 =>
 (setMapP .int v0 (.int .i64 3 : PV) (.int .i64 8 : PV) h2).bind fun h3 =>
 (setMapP .int v0 (.int .i64 4 : PV) (.int .i64 10 : PV) h3).bind fun h4 =>
 (lookupP .int (.int .i64 0) false v0 x0 h4).bind fun v5 =>
 finP [.keep] h h4 [v5]

theorem s69_eq (Γ : PCallee) (n : Nat) (x0 : PV) (h : PHeap) : pfunK Γ n A69 [x0] h = s69 Γ n x0 h := by kernel_rfl


open Go.Vm.G in
/-- strings.IndexByte -/
def A70 : PFun := ⟨2, 8,
 (S (R <| o 4 (.move (i 0)) <| z) <|
  (S (R <| m 5 0 <| m 6 1 <| o 7 (.call 86 [(t 5), (t 6)]) <| m 4 7 <| z) <|
  .ret)),
 [.tmp 4], [.keep]⟩
theorem ok70 : ∃ fn c, FunOk Try.prog 70 fn c A70.erase := ⟨Try.f70, _, ⟨Try.func70, rfl, by kernel_rfl, by kernel_rfl, by kernel_rfl, of_decide_eq_true (by kernel_rfl), by kernel_rfl⟩⟩
noncomputable def s70 (Γ : PCallee) (n : Nat) (x0 : PV) (x1 : PV) (h : PHeap) : Pt :=
 (Γ 86 [x0, x1] h).bind fun p0 =>
 finP [.keep] h p0.2 [p0.1]

theorem s70_eq (Γ : PCallee) (n : Nat) (x0 : PV) (x1 : PV) (h : PHeap) : pfunK Γ n A70 [x0, x1] h = s70 Γ n x0 x1 h := by kernel_rfl


open Go.Vm.G in
/-- orchestrion/dialect.Letters -/
def A71 : PFun := ⟨1, 9,
 (S (R <| o 2 (.move (.const (.string ⟨#[]⟩))) <| z) <|
  (S (S (R <| m 3 0 <| o 4 (.call 39 [(t 3)]) <| o 5 (.un .not (t 4)) <| z) <|
  (.cond (t 5) [] [2]
  (S (R <| o 2 (.move (.const (.string ⟨#[]⟩))) <| z) <|
  .ret)
  .skip)) <|
  (S (R <| o 6 (.build [(.string ⟨#[]⟩), (.string ⟨#[]⟩), (.string ⟨#[]⟩), (.string ⟨#[]⟩), (.string ⟨#[]⟩), (.string ⟨#[]⟩), (.string ⟨#[]⟩)] [(1, 1, (.const (.string ⟨#[48, 49, 50, 51, 52, 53, 54, 55, 56, 57, 65, 66, 67, 68, 69, 70]⟩))), (2, 1, (.const (.string ⟨#[65, 66, 67, 68, 69, 70, 71, 72, 73, 74, 75, 76, 79, 81, 82, 83, 84, 85, 86, 88]⟩))), (3, 1, (.const (.string ⟨#[48, 49, 50, 51, 52, 53, 54, 55, 56, 57, 65, 66, 67, 68, 69, 70, 71, 72, 75, 76, 80, 82, 84, 88]⟩))), (4, 1, (.const (.string ⟨#[65, 66, 67, 68, 69, 70, 71, 72, 73, 74, 75, 76, 77, 78, 79, 80, 81, 82, 83, 84, 85, 86, 87, 88, 89, 90]⟩))), (5, 1, (.const (.string ⟨#[48, 49, 50, 51, 52, 53]⟩))), (6, 1, (.const (.string ⟨#[48, 49, 50, 51, 52, 65, 66, 67, 68, 69, 70, 78, 83]⟩)))]) <| m 7 0 <| o 8 (.indexArr 7 false 1 (t 6) (t 7)) <| m 2 8 <| z) <|
  .ret))),
 [.tmp 2], [.keep]⟩
theorem ok71 : ∃ fn c, FunOk Try.prog 71 fn c A71.erase := ⟨Try.f71, _, ⟨Try.func71, rfl, by kernel_rfl, by kernel_rfl, by kernel_rfl, of_decide_eq_true (by kernel_rfl), by kernel_rfl⟩⟩
noncomputable def s71 (Γ : PCallee) (n : Nat) (x0 : PV) (h : PHeap) : Pt :=
 (Γ 39 [x0] h).bind fun p0 =>
 (unP .not p0.1).bind fun v1 =>
 KL (fun w3 h4 =>
 (fillP [.str ⟨#[]⟩, .str ⟨#[]⟩, .str ⟨#[]⟩, .str ⟨#[]⟩, .str ⟨#[]⟩, .str ⟨#[]⟩, .str ⟨#[]⟩] [(1, 1, (.str ⟨#[48, 49, 50, 51, 52, 53, 54, 55, 56, 57, 65, 66, 67, 68, 69, 70]⟩ : PV)), (2, 1, (.str ⟨#[65, 66, 67, 68, 69, 70, 71, 72, 73, 74, 75, 76, 79, 81, 82, 83, 84, 85, 86, 88]⟩ : PV)), (3, 1, (.str ⟨#[48, 49, 50, 51, 52, 53, 54, 55, 56, 57, 65, 66, 67, 68, 69, 70, 71, 72, 75, 76, 80, 82, 84, 88]⟩ : PV)), (4, 1, (.str ⟨#[65, 66, 67, 68, 69, 70, 71, 72, 73, 74, 75, 76, 77, 78, 79, 80, 81, 82, 83, 84, 85, 86, 87, 88, 89, 90]⟩ : PV)), (5, 1, (.str ⟨#[48, 49, 50, 51, 52, 53]⟩ : PV)), (6, 1, (.str ⟨#[48, 49, 50, 51, 52, 65, 66, 67, 68, 69, 70, 78, 83]⟩ : PV))]).bind fun l5 =>
 (indexArrP 7 false 1 (PV.agg l5) x0).bind fun v6 =>
 finP [.keep] h h4 [v6]) fun j2 =>
 ifP v1 (
 finP [.keep] h p0.2 [(.str ⟨#[]⟩ : PV)]) (
 j2 [] p0.2)

theorem s71_eq (Γ : PCallee) (n : Nat) (x0 : PV) (h : PHeap) : pfunK Γ n A71 [x0] h = s71 Γ n x0 h := by kernel_rfl


open Go.Vm.G in
/-- orchestrion/dialect.letter -/
def A72 : PFun := ⟨1, 6,
 (S (R <| o 2 (.move (.const (.int .u8 0))) <| z) <|
  (S (R <| m 3 0 <| b 4 .sub (t 3) (i 1) <| o 5 (.indexStr (.const (.string ⟨#[48, 49, 50, 51, 52, 53, 54, 55, 56, 57, 65, 66, 67, 68, 69, 70, 71, 72, 73, 74, 75, 76, 77, 78, 79, 80, 81, 82, 83, 84, 85, 86, 87, 88, 89, 90]⟩)) (t 4)) <| m 2 5 <| z) <|
  .ret)),
 [.tmp 2], [.keep]⟩
theorem ok72 : ∃ fn c, FunOk Try.prog 72 fn c A72.erase := ⟨Try.f72, _, ⟨Try.func72, rfl, by kernel_rfl, by kernel_rfl, by kernel_rfl, of_decide_eq_true (by kernel_rfl), by kernel_rfl⟩⟩
noncomputable def s72 (Γ : PCallee) (n : Nat) (x0 : PV) (h : PHeap) : Pt :=
 (binP .sub x0 (.int .i64 1 : PV)).bind fun v0 =>
 (indexStrP (.str ⟨#[48, 49, 50, 51, 52, 53, 54, 55, 56, 57, 65, 66, 67, 68, 69, 70, 71, 72, 73, 74, 75, 76, 77, 78, 79, 80, 81, 82, 83, 84, 85, 86, 87, 88, 89, 90]⟩ : PV) v0).bind fun v1 =>
 finP [.keep] h h [v1]

theorem s72_eq (Γ : PCallee) (n : Nat) (x0 : PV) (h : PHeap) : pfunK Γ n A72 [x0] h = s72 Γ n x0 h := by kernel_rfl


open Go.Vm.G in
/-- orchestrion/sample.limit -/
def A73 : PFun := ⟨1, 11,
 (S (R <| o 2 (.move (i 0)) <| o 3 (.move (i 0)) <| z) <|
  (S (D <| m 4 0 <| b 5 .sub (t 4) (i 1) <| b 6 .shl (i (-1)) (t 5) <| m 7 0 <| b 8 .sub (t 7) (i 1) <| b 9 .shl (i 1) (t 8) <| b 10 .sub (t 9) (i 1) <| m 2 6 <| m 3 10 <| z) <|
  .ret)),
 [.tmp 2, .tmp 3], [.keep, .keep]⟩
theorem ok73 : ∃ fn c, FunOk Try.prog 73 fn c A73.erase := ⟨Try.f73, _, ⟨Try.func73, rfl, by kernel_rfl, by kernel_rfl, by kernel_rfl, of_decide_eq_true (by kernel_rfl), by kernel_rfl⟩⟩
noncomputable def s73 (Γ : PCallee) (n : Nat) (x0 : PV) (h : PHeap) : Pt :=
 (binP .sub x0 (.int .i64 1 : PV)).bind fun v0 =>
 (binP .shl (.int .i64 (-1) : PV) v0).bind fun v1 =>
 (binP .sub x0 (.int .i64 1 : PV)).bind fun v2 =>
 (binP .shl (.int .i64 1 : PV) v2).bind fun v3 =>
 (binP .sub v3 (.int .i64 1 : PV)).bind fun v4 =>
 finP [.keep, .keep] h h [v1, v4]

theorem s73_eq (Γ : PCallee) (n : Nat) (x0 : PV) (h : PHeap) : pfunK Γ n A73 [x0] h = s73 Γ n x0 h := by kernel_rfl


open Go.Vm.G in
/-- orchestrion/sample.loopOK -/
def A74 : PFun := ⟨4, 33,
 (S (R <| o 8 (.move (.const (.bool false))) <| z) <|
  (S (S (R <| m 9 0 <| z) <|
  (.block 0 [] ([8] ++ g 10 23)
  (S (R <| b 11 .eql (t 9) (i 0) <| m 10 11 <| z) <|
  (.cond (t 10) [] ([8] ++ g 12 21)
  (S (R <| m 12 1 <| b 13 .eql (t 12) (i 0) <| m 14 13 <| q 17 14 true [15, 16] (m 15 2 <| b 16 .eql (t 15) (i 0) <| z) (t 16) <|
  m 8 17 <| z) <|
  .ret)
  (S (S (R <| b 19 .eql (t 9) (i 1) <| m 18 19 <| z) <|
  (.cond (t 18) [18] [20]
  .skip
  (R <| b 20 .eql (t 9) (i 2) <| m 18 20 <| z))) <|
  (.cond (t 18) [] ([8] ++ g 21 12)
  (S (R <| m 21 1 <| b 22 .leq (i 0) (t 21) <| m 23 22 <| q 27 23 true [24, 25, 26] (m 24 1 <| m 25 2 <| b 26 .lss (t 24) (t 25) <| z) (t 26) <|
  m 28 27 <| q 32 28 true [29, 30, 31] (m 29 2 <| m 30 3 <| b 31 .leq (t 29) (t 30) <| z) (t 31) <|
  m 8 32 <| z) <|
  .ret)
  .skip)))))) <|
  (S (R <| o 8 (.move (.const (.bool false))) <| z) <|
  .ret))),
 [.tmp 8], [.keep]⟩
theorem ok74 : ∃ fn c, FunOk Try.prog 74 fn c A74.erase := ⟨Try.f74, _, ⟨Try.func74, rfl, by kernel_rfl, by kernel_rfl, by kernel_rfl, of_decide_eq_true (by kernel_rfl), by kernel_rfl⟩⟩
noncomputable def s74 (Γ : PCallee) (n : Nat) (x0 : PV) (x1 : PV) (x2 : PV) (x3 : PV) (h : PHeap) : Pt :=
 KL (fun w1 h2 =>
 finP [.keep] h h2 [(.bool false : PV)]) fun j0 =>
 (binP .eql x0 (.int .i64 0 : PV)).bind fun v3 =>
 KL (fun w5 h6 =>
 j0 [] h6) fun j4 =>
 ifP v3 (
 (binP .eql x1 (.int .i64 0 : PV)).bind fun v7 =>
 K1 (fun v9 h10 =>
 finP [.keep] h h10 [v9]) fun j8 =>
 scP v7 true (
 (binP .eql x2 (.int .i64 0 : PV)).bind fun v11 =>
 j8 v11 h)
 (j8 (.bool false) h)) (
 (binP .eql x0 (.int .i64 1 : PV)).bind fun v12 =>
 KL (fun w14 h15 =>
 KL (fun w17 h18 =>
 j4 [] h18) fun j16 =>
 ifP (nthP w14 0) (
 (binP .leq (.int .i64 0 : PV) x1).bind fun v19 =>
 K1 (fun v21 h22 =>
 K1 (fun v24 h25 =>
 finP [.keep] h h25 [v24]) fun j23 =>
 scP v21 true (
 (binP .leq x2 x3).bind fun v26 =>
 j23 v26 h22)
 (j23 (.bool false) h22)) fun j20 =>
 scP v19 true (
 (binP .lss x1 x2).bind fun v27 =>
 j20 v27 h15)
 (j20 (.bool false) h15)) (
 j16 [] h15)) fun j13 =>
 ifP v12 (
 j13 [v12] h) (
 (binP .eql x0 (.int .i64 2 : PV)).bind fun v28 =>
 j13 [v28] h))

theorem s74_eq (Γ : PCallee) (n : Nat) (x0 : PV) (x1 : PV) (x2 : PV) (x3 : PV) (h : PHeap) : pfunK Γ n A74 [x0, x1, x2, x3] h = s74 Γ n x0 x1 x2 x3 h := by kernel_rfl


open Go.Vm.G in
/-- orchestrion/inst.isName -/
def A75 : PFun := ⟨1, 23,
 (S (R <| o 2 (.move (.const (.bool false))) <| z) <|
  (S (S (R <| m 4 0 <| o 5 (.len true (t 4)) <| o 6 (.move (i 0)) <| z) <|
  (.block 0 [] ([2, 3] ++ g 6 14)
  (.loop [6] ([2, 3] ++ g 7 13)
  (S (R <| b 7 .lss (t 6) (t 5) <| z) <|
  (S (.cond (t 7) [] []
  .skip
  (.exit 0)) <|
  (S (.block 1 [] ([2, 3] ++ g 8 11)
  (S (R <| m 8 6 <| m 3 8 <| z) <|
  (S (R <| m 9 0 <| m 10 3 <| o 11 (.indexStr (t 9) (t 10)) <| b 12 .lss (t 11) (.const (.int .u8 32)) <| m 13 12 <| q 18 13 false (g 14 4) (m 14 0 <| m 15 3 <| o 16 (.indexStr (t 14) (t 15)) <| b 17 .gtr (t 16) (.const (.int .u8 126)) <| z) (t 17) <|
  z) <|
  (.cond (t 18) [] [2]
  (S (R <| o 2 (.move (.const (.bool false))) <| z) <|
  .ret)
  .skip)))) <|
  (R <| b 19 .add (t 6) (i 1) <| m 6 19 <| z))))))) <|
  (S (R <| m 20 0 <| o 21 (.len true (t 20)) <| b 22 .leq (t 21) (i 22) <| m 2 22 <| z) <|
  .ret))),
 [.tmp 2], [.keep]⟩
theorem ok75 : ∃ fn c, FunOk Try.prog 75 fn c A75.erase := ⟨Try.f75, _, ⟨Try.func75, rfl, by kernel_rfl, by kernel_rfl, by kernel_rfl, of_decide_eq_true (by kernel_rfl), by kernel_rfl⟩⟩
noncomputable def s75_L0 (Γ : PCallee) (n : Nat) (x0 : PV) (h : PHeap) (v0 : PV) (j1 : List PV → PHeap → Pt) : (List PV → PHeap → Pt) → List PV → PHeap → Pt := fun c6 w7 h8 =>
 (binP .lss (nthP w7 0) v0).bind fun v9 =>
 KL (fun w11 h12 =>
 KL (fun w14 h15 =>
 (binP .add (nthP w7 0) (.int .i64 1 : PV)).bind fun v16 =>
 c6 [v16] (trim h [v16] h15)) fun j13 =>
 (indexStrP x0 (nthP w7 0)).bind fun v17 =>
 (binP .lss v17 (.int .u8 32 : PV)).bind fun v18 =>
 K1 (fun v20 h21 =>
 KL (fun w23 h24 =>
 j13 [] h24) fun j22 =>
 ifP v20 (
 finP [.keep] h h21 [(.bool false : PV)]) (
 j22 [] h21)) fun j19 =>
 scP v18 false (
 (indexStrP x0 (nthP w7 0)).bind fun v25 =>
 (binP .gtr v25 (.int .u8 126 : PV)).bind fun v26 =>
 j19 v26 h12)
 (j19 (.bool true) h12)) fun j10 =>
 ifP v9 (
 j10 [] h8) (
 j1 [] h8)
noncomputable def s75 (Γ : PCallee) (n : Nat) (x0 : PV) (h : PHeap) : Pt :=
 (lenP true x0).bind fun v0 =>
 KL (fun w2 h3 =>
 (lenP true x0).bind fun v4 =>
 (binP .leq v4 (.int .i64 22 : PV)).bind fun v5 =>
 finP [.keep] h h3 [v5]) fun j1 =>
 loopP (s75_L0 Γ n x0 h v0 j1) n [(.int .i64 0 : PV)] h

theorem s75_eq (Γ : PCallee) (n : Nat) (x0 : PV) (h : PHeap) : pfunK Γ n A75 [x0] h = s75 Γ n x0 h := by kernel_rfl


open Go.Vm.G in
/-- orchestrion/inst.Valid$1 -/
def A76 : PFun := ⟨1, 13,
 (S (R <| o 1 (.box 117 (t 0)) <| o 2 (.move (.const (.bool false))) <| z) <|
  (S (R <| f 3 0 1 <| l 4 3 <| o 5 (.call 77 [(t 4), (i 0), (i 119)]) <| o 6 (.un .not (t 5)) <| m 7 6 <| q 12 7 false (g 8 4) (f 8 1 1 <| l 9 8 <| o 10 (.call 77 [(t 9), (i 0), (i 31)]) <| o 11 (.un .not (t 10)) <| z) (t 11) <|
  m 2 12 <| z) <|
  .ret)),
 [.tmp 2], [.keep]⟩
theorem ok76 : ∃ fn c, FunOk Try.prog 76 fn c A76.erase := ⟨Try.f76, _, ⟨Try.func76, rfl, by kernel_rfl, by kernel_rfl, by kernel_rfl, of_decide_eq_true (by kernel_rfl), by kernel_rfl⟩⟩
noncomputable def s76 (Γ : PCallee) (n : Nat) (x0 : PV) (h : PHeap) : Pt :=
 forkP (.ptr h.length 0) (h ++ [.box (cellsP x0) 117 .rw]) fun v0 h1 =>
 (fieldAddrP 0 v0).bind fun v2 =>
 (loadP false 1 v2 h1).bind fun v3 =>
 (Γ 77 [v3, (.int .i64 0 : PV), (.int .i64 119 : PV)] h1).bind fun p4 =>
 (unP .not p4.1).bind fun v5 =>
 K1 (fun v7 h8 =>
 finP [.keep] h h8 [v7]) fun j6 =>
 scP v5 false (
 (fieldAddrP 1 v0).bind fun v9 =>
 (loadP false 1 v9 p4.2).bind fun v10 =>
 (Γ 77 [v10, (.int .i64 0 : PV), (.int .i64 31 : PV)] p4.2).bind fun p11 =>
 (unP .not p11.1).bind fun v12 =>
 j6 v12 p11.2)
 (j6 (.bool true) p4.2)

theorem s76_eq (Γ : PCallee) (n : Nat) (x0 : PV) (h : PHeap) : pfunK Γ n A76 [x0] h = s76 Γ n x0 h := by kernel_rfl


open Go.Vm.G in
/-- orchestrion/inst.within -/
def A77 : PFun := ⟨3, 15,
 (S (R <| o 6 (.move (.const (.bool false))) <| z) <|
  (S (R <| m 7 0 <| m 8 1 <| b 9 .geq (t 7) (t 8) <| m 10 9 <| q 14 10 true [11, 12, 13] (m 11 0 <| m 12 2 <| b 13 .leq (t 11) (t 12) <| z) (t 13) <|
  m 6 14 <| z) <|
  .ret)),
 [.tmp 6], [.keep]⟩
theorem ok77 : ∃ fn c, FunOk Try.prog 77 fn c A77.erase := ⟨Try.f77, _, ⟨Try.func77, rfl, by kernel_rfl, by kernel_rfl, by kernel_rfl, of_decide_eq_true (by kernel_rfl), by kernel_rfl⟩⟩
noncomputable def s77 (Γ : PCallee) (n : Nat) (x0 : PV) (x1 : PV) (x2 : PV) (h : PHeap) : Pt :=
 (binP .geq x0 x1).bind fun v0 =>
 K1 (fun v2 h3 =>
 finP [.keep] h h3 [v2]) fun j1 =>
 scP v0 true (
 (binP .leq x0 x2).bind fun v4 =>
 j1 v4 h)
 (j1 (.bool false) h)

theorem s77_eq (Γ : PCallee) (n : Nat) (x0 : PV) (x1 : PV) (x2 : PV) (h : PHeap) : pfunK Γ n A77 [x0, x1, x2] h = s77 Γ n x0 x1 x2 h := by kernel_rfl


open Go.Vm.G in
/-- orchestrion/inst.ValidEnvelope -/
def A78 : PFun := ⟨3, 92,
 (S (R <| o 3 (.box 52 (t 0)) <| o 6 (.move (.const (.bool false))) <| z) <|
  (S (S (R <| f 10 1 3 <| l 11 10 <| o 12 (.len false (t 11)) <| b 13 .gtr (t 12) (i 16) <| m 14 13 <| q 23 14 false ([15, 16, 17, 22] ++ g 18 4) (f 15 0 3 <| l 16 15 <| m 17 16 <| q 22 17 true (g 18 4) (f 18 1 3 <| l 19 18 <| o 20 (.len false (t 19)) <| b 21 .eql (t 20) (i 0) <| z) (t 21) <|
  z) (t 22) <|
  z) <|
  (.cond (t 23) [] [6]
  (S (R <| o 6 (.move (.const (.bool false))) <| z) <|
  .ret)
  .skip)) <|
  (S (S (R <| f 24 1 3 <| l 25 24 <| o 26 (.len false (t 25)) <| o 27 (.move (i 0)) <| z) <|
  (.block 0 [] ([6, 7, 8] ++ g 27 46)
  (.loop [27] ([6, 7, 8] ++ g 28 45)
  (S (R <| b 28 .lss (t 27) (t 26) <| z) <|
  (S (.cond (t 28) [] []
  .skip
  (.exit 0)) <|
  (S (.block 1 [] ([6, 7, 8] ++ g 29 43)
  (S (R <| m 29 27 <| o 30 (.indexAddr 2 (t 25) (t 27)) <| o 31 (.load true 2 (t 30)) <| o 8 (.new 137 [(.int .i64 0), (.int .i64 0)]) <| m 7 29 <| n (.store 2 (t 8) (t 31)) <| z) <|
  (S (D <| m 32 7 <| b 33 .eql (t 32) (i 0) <| m 34 33 <| q 38 34 true [35, 36, 37] (f 35 0 8 <| l 36 35 <| b 37 .neq (t 36) (i 0) <| z) (t 37) <|
  m 39 38 <| q 54 39 false ([40, 41, 42, 53] ++ g 43 10) (m 40 7 <| b 41 .gtr (t 40) (i 0) <| m 42 41 <| q 53 42 true (g 43 10) (f 43 0 8 <| l 44 43 <| f 45 1 3 <| l 46 45 <| m 47 7 <| b 48 .sub (t 47) (i 1) <| o 49 (.indexAddr 2 (t 46) (t 48)) <| f 50 0 49 <| l 51 50 <| b 52 .leq (t 44) (t 51) <| z) (t 52) <|
  z) (t 53) <|
  m 55 54 <| q 59 55 false [56, 57, 58] (f 56 0 8 <| l 57 56 <| b 58 .gtr (t 57) (i 9999) <| z) (t 58) <|
  m 60 59 <| q 65 60 false (g 61 4) (f 61 1 8 <| l 62 61 <| m 63 1 <| b 64 .lss (t 62) (t 63) <| z) (t 64) <|
  m 66 65 <| q 71 66 false (g 67 4) (f 67 1 8 <| l 68 67 <| m 69 2 <| b 70 .gtr (t 68) (t 69) <| z) (t 70) <|
  z) <|
  (.cond (t 71) [] [6]
  (S (R <| o 6 (.move (.const (.bool false))) <| z) <|
  .ret)
  .skip)))) <|
  (R <| b 72 .add (t 27) (i 1) <| m 27 72 <| z))))))) <|
  (S (R <| o 73 (.mkFunc 87 [] [(t 3)]) <| m 9 73 <| z) <|
  (S (R <| m 74 9 <| f 75 2 3 <| l 76 75 <| f 77 3 3 <| l 78 77 <| f 79 4 3 <| l 80 79 <| o 81 (.callV (t 74) [(t 76), (t 78), (t 80)]) <| m 82 81 <| q 91 82 true (g 83 8) (m 83 9 <| f 84 5 3 <| l 85 84 <| f 86 6 3 <| l 87 86 <| f 88 7 3 <| l 89 88 <| o 90 (.callV (t 83) [(t 85), (t 87), (t 89)]) <| z) (t 90) <|
  m 6 91 <| z) <|
  .ret))))),
 [.tmp 6], [.keep]⟩
theorem ok78 : ∃ fn c, FunOk Try.prog 78 fn c A78.erase := ⟨Try.f78, _, ⟨Try.func78, rfl, by kernel_rfl, by kernel_rfl, by kernel_rfl, of_decide_eq_true (by kernel_rfl), by kernel_rfl⟩⟩
noncomputable def s78_L0 (Γ : PCallee) (n : Nat) (x1 : PV) (x2 : PV) (h : PHeap) (v0 : PV) (h11 : PHeap) (v13 : PV) (v14 : PV) (j15 : List PV → PHeap → Pt) : (List PV → PHeap → Pt) → List PV → PHeap → Pt := fun c35 w36 h37 =>
 (binP .lss (nthP w36 0) v14).bind fun v38 =>
 KL (fun w40 h41 =>
 KL (fun w43 h44 =>
 (binP .add (nthP w36 0) (.int .i64 1 : PV)).bind fun v45 =>
 c35 [v45] (trim h11 [v45] h44)) fun j42 =>
 (indexAddrP 2 v13 (nthP w36 0)).bind fun v46 =>
 (loadP true 2 v46 h41).bind fun v47 =>
 forkP (.ptr h41.length 0) (h41 ++ [.box [.int .i64 0, .int .i64 0] 137 .rw]) fun v48 h49 =>
 (storeP 2 v48 v47 h49).bind fun h50 =>
 (binP .eql (nthP w36 0) (.int .i64 0 : PV)).bind fun v51 =>
 K1 (fun v53 h54 =>
 K1 (fun v56 h57 =>
 K1 (fun v59 h60 =>
 K1 (fun v62 h63 =>
 K1 (fun v65 h66 =>
 KL (fun w68 h69 =>
 j42 [] h69) fun j67 =>
 ifP v65 (
 finP [.keep] h h66 [(.bool false : PV)]) (
 j67 [] h66)) fun j64 =>
 scP v62 false (
 (fieldAddrP 1 v48).bind fun v70 =>
 (loadP false 1 v70 h63).bind fun v71 =>
 (binP .gtr v71 x2).bind fun v72 =>
 j64 v72 h63)
 (j64 (.bool true) h63)) fun j61 =>
 scP v59 false (
 (fieldAddrP 1 v48).bind fun v73 =>
 (loadP false 1 v73 h60).bind fun v74 =>
 (binP .lss v74 x1).bind fun v75 =>
 j61 v75 h60)
 (j61 (.bool true) h60)) fun j58 =>
 scP v56 false (
 (fieldAddrP 0 v48).bind fun v76 =>
 (loadP false 1 v76 h57).bind fun v77 =>
 (binP .gtr v77 (.int .i64 9999 : PV)).bind fun v78 =>
 j58 v78 h57)
 (j58 (.bool true) h57)) fun j55 =>
 scP v53 false (
 (binP .gtr (nthP w36 0) (.int .i64 0 : PV)).bind fun v79 =>
 K1 (fun v81 h82 =>
 j55 v81 h82) fun j80 =>
 scP v79 true (
 (fieldAddrP 0 v48).bind fun v83 =>
 (loadP false 1 v83 h54).bind fun v84 =>
 (fieldAddrP 1 v0).bind fun v85 =>
 (loadP false 1 v85 h54).bind fun v86 =>
 (binP .sub (nthP w36 0) (.int .i64 1 : PV)).bind fun v87 =>
 (indexAddrP 2 v86 v87).bind fun v88 =>
 (fieldAddrP 0 v88).bind fun v89 =>
 (loadP false 1 v89 h54).bind fun v90 =>
 (binP .leq v84 v90).bind fun v91 =>
 j80 v91 h54)
 (j80 (.bool false) h54))
 (j55 (.bool true) h54)) fun j52 =>
 scP v51 true (
 (fieldAddrP 0 v48).bind fun v92 =>
 (loadP false 1 v92 h50).bind fun v93 =>
 (binP .neq v93 (.int .i64 0 : PV)).bind fun v94 =>
 j52 v94 h50)
 (j52 (.bool false) h50)) fun j39 =>
 ifP v38 (
 j39 [] h37) (
 j15 [] h37)
noncomputable def s78 (Γ : PCallee) (n : Nat) (x0 : PV) (x1 : PV) (x2 : PV) (h : PHeap) : Pt :=
 forkP (.ptr h.length 0) (h ++ [.box (cellsP x0) 52 .rw]) fun v0 h1 =>
 (fieldAddrP 1 v0).bind fun v2 =>
 (loadP false 1 v2 h1).bind fun v3 =>
 (lenP false v3).bind fun v4 =>
 (binP .gtr v4 (.int .i64 16 : PV)).bind fun v5 =>
 K1 (fun v7 h8 =>
 KL (fun w10 h11 =>
 (fieldAddrP 1 v0).bind fun v12 =>
 (loadP false 1 v12 h11).bind fun v13 =>
 (lenP false v13).bind fun v14 =>
 KL (fun w16 h17 =>
 (fieldAddrP 2 v0).bind fun v18 =>
 (loadP false 1 v18 h17).bind fun v19 =>
 (fieldAddrP 3 v0).bind fun v20 =>
 (loadP false 1 v20 h17).bind fun v21 =>
 (fieldAddrP 4 v0).bind fun v22 =>
 (loadP false 1 v22 h17).bind fun v23 =>
 (callVP Γ (PV.func 87 [] [v0]) [v19, v21, v23] h17).bind fun p24 =>
 K1 (fun v26 h27 =>
 finP [.keep] h h27 [v26]) fun j25 =>
 scP p24.1 true (
 (fieldAddrP 5 v0).bind fun v28 =>
 (loadP false 1 v28 p24.2).bind fun v29 =>
 (fieldAddrP 6 v0).bind fun v30 =>
 (loadP false 1 v30 p24.2).bind fun v31 =>
 (fieldAddrP 7 v0).bind fun v32 =>
 (loadP false 1 v32 p24.2).bind fun v33 =>
 (callVP Γ (PV.func 87 [] [v0]) [v29, v31, v33] p24.2).bind fun p34 =>
 j25 p34.1 p34.2)
 (j25 (.bool false) p24.2)) fun j15 =>
 loopP (s78_L0 Γ n x1 x2 h v0 h11 v13 v14 j15) n [(.int .i64 0 : PV)] h11) fun j9 =>
 ifP v7 (
 finP [.keep] h h8 [(.bool false : PV)]) (
 j9 [] h8)) fun j6 =>
 scP v5 false (
 (fieldAddrP 0 v0).bind fun v95 =>
 (loadP false 1 v95 h1).bind fun v96 =>
 K1 (fun v98 h99 =>
 j6 v98 h99) fun j97 =>
 scP v96 true (
 (fieldAddrP 1 v0).bind fun v100 =>
 (loadP false 1 v100 h1).bind fun v101 =>
 (lenP false v101).bind fun v102 =>
 (binP .eql v102 (.int .i64 0 : PV)).bind fun v103 =>
 j97 v103 h1)
 (j97 (.bool false) h1))
 (j6 (.bool true) h1)

theorem s78_eq (Γ : PCallee) (n : Nat) (x0 : PV) (x1 : PV) (x2 : PV) (h : PHeap) : pfunK Γ n A78 [x0, x1, x2] h = s78 Γ n x0 x1 x2 h := by kernel_rfl


open Go.Vm.G in
/-- slices.IndexFunc[[]orchestrion/api.Key,orchestrion/api.Key] -/
def A79 : PFun := ⟨2, 19,
 (S (R <| o 4 (.move (i 0)) <| z) <|
  (S (S (R <| m 6 0 <| o 7 (.len false (t 6)) <| o 8 (.move (i 0)) <| z) <|
  (.block 0 [] ([4, 5] ++ g 8 11)
  (.loop [8] ([4, 5] ++ g 9 10)
  (S (R <| b 9 .lss (t 8) (t 7) <| z) <|
  (S (.cond (t 9) [] []
  .skip
  (.exit 0)) <|
  (S (.block 1 [] ([4, 5] ++ g 10 8)
  (S (R <| m 10 8 <| m 5 10 <| z) <|
  (S (R <| m 11 1 <| m 12 0 <| m 13 5 <| o 14 (.indexAddr 2 (t 12) (t 13)) <| o 15 (.load true 2 (t 14)) <| o 16 (.callV (t 11) [(t 15)]) <| z) <|
  (.cond (t 16) [] [4, 17]
  (S (R <| m 17 5 <| m 4 17 <| z) <|
  .ret)
  .skip)))) <|
  (R <| b 18 .add (t 8) (i 1) <| m 8 18 <| z))))))) <|
  (S (R <| o 4 (.move (i (-1))) <| z) <|
  .ret))),
 [.tmp 4], [.keep]⟩
theorem ok79 : ∃ fn c, FunOk Try.prog 79 fn c A79.erase := ⟨Try.f79, _, ⟨Try.func79, rfl, by kernel_rfl, by kernel_rfl, by kernel_rfl, of_decide_eq_true (by kernel_rfl), by kernel_rfl⟩⟩
noncomputable def s79_L0 (Γ : PCallee) (n : Nat) (x0 : PV) (x1 : PV) (h : PHeap) (v0 : PV) (j1 : List PV → PHeap → Pt) : (List PV → PHeap → Pt) → List PV → PHeap → Pt := fun c4 w5 h6 =>
 (binP .lss (nthP w5 0) v0).bind fun v7 =>
 KL (fun w9 h10 =>
 KL (fun w12 h13 =>
 (binP .add (nthP w5 0) (.int .i64 1 : PV)).bind fun v14 =>
 c4 [v14] (trim h [v14] h13)) fun j11 =>
 (indexAddrP 2 x0 (nthP w5 0)).bind fun v15 =>
 (loadP true 2 v15 h10).bind fun v16 =>
 (callVP Γ x1 [v16] h10).bind fun p17 =>
 KL (fun w19 h20 =>
 j11 [] h20) fun j18 =>
 ifP p17.1 (
 finP [.keep] h p17.2 [(nthP w5 0)]) (
 j18 [] p17.2)) fun j8 =>
 ifP v7 (
 j8 [] h6) (
 j1 [] h6)
noncomputable def s79 (Γ : PCallee) (n : Nat) (x0 : PV) (x1 : PV) (h : PHeap) : Pt :=
 (lenP false x0).bind fun v0 =>
 KL (fun w2 h3 =>
 finP [.keep] h h3 [(.int .i64 (-1) : PV)]) fun j1 =>
 loopP (s79_L0 Γ n x0 x1 h v0 j1) n [(.int .i64 0 : PV)] h

theorem s79_eq (Γ : PCallee) (n : Nat) (x0 : PV) (x1 : PV) (h : PHeap) : pfunK Γ n A79 [x0, x1] h = s79 Γ n x0 x1 h := by kernel_rfl


open Go.Vm.G in
/-- orchestrion/orchestrionref05.Valid -/
def A80 : PFun := ⟨2, 43,
 (S (R <| o 2 (.box 46 (t 0)) <| o 4 (.move (.const (.bool false))) <| z) <|
  (S (S (R <| m 6 1 <| o 7 (.call 88 [(t 6)]) <| o 8 (.un .not (t 7)) <| m 9 8 <| q 13 9 false [10, 11, 12] (f 10 0 2 <| l 11 10 <| b 12 .lss (t 11) (i 1) <| z) (t 12) <|
  m 14 13 <| q 18 14 false [15, 16, 17] (f 15 0 2 <| l 16 15 <| b 17 .gtr (t 16) (i 64) <| z) (t 17) <|
  m 19 18 <| q 28 19 false (g 20 8) (f 20 1 2 <| l 21 20 <| o 22 (.len false (t 21)) <| f 23 0 2 <| l 24 23 <| m 25 1 <| b 26 .mul (t 24) (t 25) <| b 27 .neq (t 22) (t 26) <| z) (t 27) <|
  z) <|
  (.cond (t 28) [] [4]
  (S (R <| o 4 (.move (.const (.bool false))) <| z) <|
  .ret)
  .skip)) <|
  (S (S (R <| o 5 (.move (i 0)) <| z) <|
  (.block 0 [] ([4, 5] ++ g 29 14)
  (.loop [5] ([4] ++ g 29 14)
  (S (S (R <| m 29 5 <| f 30 1 2 <| l 31 30 <| o 32 (.len false (t 31)) <| b 33 .lss (t 29) (t 32) <| z) <|
  (.cond (t 33) [] []
  .skip
  (.exit 0))) <|
  (S (.block 1 [] ([4] ++ g 36 7)
  (S (R <| f 36 1 2 <| l 37 36 <| m 38 5 <| o 39 (.indexAddr 6 (t 37) (t 38)) <| o 40 (.load true 6 (t 39)) <| o 41 (.call 89 [(t 40)]) <| o 42 (.un .not (t 41)) <| z) <|
  (.cond (t 42) [] [4]
  (S (R <| o 4 (.move (.const (.bool false))) <| z) <|
  .ret)
  .skip))) <|
  (R <| m 34 5 <| b 35 .add (t 34) (i 1) <| m 5 35 <| z)))))) <|
  (S (R <| o 4 (.move (.const (.bool true))) <| z) <|
  .ret)))),
 [.tmp 4], [.keep]⟩
theorem ok80 : ∃ fn c, FunOk Try.prog 80 fn c A80.erase := ⟨Try.f80, _, ⟨Try.func80, rfl, by kernel_rfl, by kernel_rfl, by kernel_rfl, of_decide_eq_true (by kernel_rfl), by kernel_rfl⟩⟩
noncomputable def s80_L0 (Γ : PCallee) (n : Nat) (h : PHeap) (v0 : PV) (h15 : PHeap) (j16 : List PV → PHeap → Pt) : (List PV → PHeap → Pt) → List PV → PHeap → Pt := fun c19 w20 h21 =>
 (fieldAddrP 1 v0).bind fun v22 =>
 (loadP false 1 v22 h21).bind fun v23 =>
 (lenP false v23).bind fun v24 =>
 (binP .lss (nthP w20 0) v24).bind fun v25 =>
 KL (fun w27 h28 =>
 KL (fun w30 h31 =>
 (binP .add (nthP w20 0) (.int .i64 1 : PV)).bind fun v32 =>
 c19 [v32] (trim h15 [v32] h31)) fun j29 =>
 (fieldAddrP 1 v0).bind fun v33 =>
 (loadP false 1 v33 h28).bind fun v34 =>
 (indexAddrP 6 v34 (nthP w20 0)).bind fun v35 =>
 (loadP true 6 v35 h28).bind fun v36 =>
 (Γ 89 [v36] h28).bind fun p37 =>
 (unP .not p37.1).bind fun v38 =>
 KL (fun w40 h41 =>
 j29 [] h41) fun j39 =>
 ifP v38 (
 finP [.keep] h p37.2 [(.bool false : PV)]) (
 j39 [] p37.2)) fun j26 =>
 ifP v25 (
 j26 [] h21) (
 j16 [] h21)
noncomputable def s80 (Γ : PCallee) (n : Nat) (x0 : PV) (x1 : PV) (h : PHeap) : Pt :=
 forkP (.ptr h.length 0) (h ++ [.box (cellsP x0) 46 .rw]) fun v0 h1 =>
 (Γ 88 [x1] h1).bind fun p2 =>
 (unP .not p2.1).bind fun v3 =>
 K1 (fun v5 h6 =>
 K1 (fun v8 h9 =>
 K1 (fun v11 h12 =>
 KL (fun w14 h15 =>
 KL (fun w17 h18 =>
 finP [.keep] h h18 [(.bool true : PV)]) fun j16 =>
 loopP (s80_L0 Γ n h v0 h15 j16) n [(.int .i64 0 : PV)] h15) fun j13 =>
 ifP v11 (
 finP [.keep] h h12 [(.bool false : PV)]) (
 j13 [] h12)) fun j10 =>
 scP v8 false (
 (fieldAddrP 1 v0).bind fun v42 =>
 (loadP false 1 v42 h9).bind fun v43 =>
 (lenP false v43).bind fun v44 =>
 (fieldAddrP 0 v0).bind fun v45 =>
 (loadP false 1 v45 h9).bind fun v46 =>
 (binP .mul v46 x1).bind fun v47 =>
 (binP .neq v44 v47).bind fun v48 =>
 j10 v48 h9)
 (j10 (.bool true) h9)) fun j7 =>
 scP v5 false (
 (fieldAddrP 0 v0).bind fun v49 =>
 (loadP false 1 v49 h6).bind fun v50 =>
 (binP .gtr v50 (.int .i64 64 : PV)).bind fun v51 =>
 j7 v51 h6)
 (j7 (.bool true) h6)) fun j4 =>
 scP v3 false (
 (fieldAddrP 0 v0).bind fun v52 =>
 (loadP false 1 v52 p2.2).bind fun v53 =>
 (binP .lss v53 (.int .i64 1 : PV)).bind fun v54 =>
 j4 v54 p2.2)
 (j4 (.bool true) p2.2)

theorem s80_eq (Γ : PCallee) (n : Nat) (x0 : PV) (x1 : PV) (h : PHeap) : pfunK Γ n A80 [x0, x1] h = s80 Γ n x0 x1 h := by kernel_rfl


open Go.Vm.G in
/-- orchestrion/orchestrionref06.ValidCell -/
def A81 : PFun := ⟨2, 43,
 (S (R <| o 3 (.box 107 (t 1)) <| o 4 (.move (.const (.bool false))) <| z) <|
  (S (S (R <| m 8 0 <| o 9 (.call 29 [(t 8)]) <| m 7 9 <| o 10 (.extract (t 7) 0) <| o 11 (.extract (t 7) 1) <| o 5 (.new 82 V29) <| n (.store 29 (t 5) (t 10)) <| m 6 11 <| z) <|
  (S (R <| m 12 6 <| b 13 .neq (t 12) (i 0) <| m 14 13 <| q 18 14 false [15, 16, 17] (o 15 (.load true 6 (t 3)) <| o 16 (.call 89 [(t 15)]) <| o 17 (.un .not (t 16)) <| z) (t 17) <|
  z) <|
  (.cond (t 18) [] [4]
  (S (R <| o 4 (.move (.const (.bool false))) <| z) <|
  .ret)
  .skip))) <|
  (S (D <| m 19 0 <| f 20 0 3 <| l 21 20 <| o 22 (.call 90 [(t 19), (t 21)]) <| m 23 22 <| q 29 23 true (g 24 5) (f 24 2 3 <| l 25 24 <| m 26 0 <| O 27 (.call 91 [(t 26)]) <| b 28 .leq (t 25) (t 27) <| z) (t 28) <|
  m 30 29 <| q 42 30 true (g 31 4 ++ [41] ++ g 35 6) (f 31 4 3 <| l 32 31 <| b 33 .eql (t 32) (i 0) <| m 34 33 <| q 41 34 false (g 35 6) (m 35 0 <| O 36 (.call 93 [(t 35)]) <| f 37 4 3 <| l 38 37 <| o 39 (.call 94 [(t 38)]) <| o 40 (.call 92 [(t 36), (t 39)]) <| z) (t 40) <|
  z) (t 41) <|
  m 4 42 <| z) <|
  .ret))),
 [.tmp 4], [.keep]⟩
theorem ok81 : ∃ fn c, FunOk Try.prog 81 fn c A81.erase := ⟨Try.f81, _, ⟨Try.func81, rfl, by kernel_rfl, by kernel_rfl, by kernel_rfl, of_decide_eq_true (by kernel_rfl), by kernel_rfl⟩⟩
noncomputable def s81 (Γ : PCallee) (n : Nat) (x0 : PV) (x1 : PV) (h : PHeap) : Pt :=
 forkP (.ptr h.length 0) (h ++ [.box (cellsP x1) 107 .rw]) fun v0 h1 =>
 (Γ 29 [x0] h1).bind fun p2 =>
 (extractP p2.1 0).bind fun v3 =>
 (extractP p2.1 1).bind fun v4 =>
 forkP (.ptr p2.2.length 0) (p2.2 ++ [.box Z29 82 .rw]) fun v5 h6 =>
 (storeP 29 v5 v3 h6).bind fun h7 =>
 (binP .neq v4 (.int .i64 0 : PV)).bind fun v8 =>
 K1 (fun v10 h11 =>
 KL (fun w13 h14 =>
 (fieldAddrP 0 v0).bind fun v15 =>
 (loadP false 1 v15 h14).bind fun v16 =>
 (Γ 90 [x0, v16] h14).bind fun p17 =>
 K1 (fun v19 h20 =>
 K1 (fun v22 h23 =>
 finP [.keep] h h23 [v22]) fun j21 =>
 scP v19 true (
 (fieldAddrP 4 v0).bind fun v24 =>
 (loadP false 1 v24 h20).bind fun v25 =>
 (binP .eql v25 (.int .i64 0 : PV)).bind fun v26 =>
 K1 (fun v28 h29 =>
 j21 v28 h29) fun j27 =>
 scP v26 false (
 (Γ 93 [x0] (lock h20)).bind fun p30 =>
 unl h20 p30.2 fun h31 =>
 (fieldAddrP 4 v0).bind fun v32 =>
 (loadP false 1 v32 h31).bind fun v33 =>
 (Γ 94 [v33] h31).bind fun p34 =>
 (Γ 92 [p30.1, p34.1] p34.2).bind fun p35 =>
 j27 p35.1 p35.2)
 (j27 (.bool true) h20))
 (j21 (.bool false) h20)) fun j18 =>
 scP p17.1 true (
 (fieldAddrP 2 v0).bind fun v36 =>
 (loadP false 1 v36 p17.2).bind fun v37 =>
 (Γ 91 [x0] (lock p17.2)).bind fun p38 =>
 unl p17.2 p38.2 fun h39 =>
 (binP .leq v37 p38.1).bind fun v40 =>
 j18 v40 h39)
 (j18 (.bool false) p17.2)) fun j12 =>
 ifP v10 (
 finP [.keep] h h11 [(.bool false : PV)]) (
 j12 [] h11)) fun j9 =>
 scP v8 false (
 (loadP true 6 v0 h7).bind fun v41 =>
 (Γ 89 [v41] h7).bind fun p42 =>
 (unP .not p42.1).bind fun v43 =>
 j9 v43 p42.2)
 (j9 (.bool true) h7)

theorem s81_eq (Γ : PCallee) (n : Nat) (x0 : PV) (x1 : PV) (h : PHeap) : pfunK Γ n A81 [x0, x1] h = s81 Γ n x0 x1 h := by kernel_rfl


open Go.Vm.G in
/-- orchestrion/orchestrionref07.names -/
def A82 : PFun := ⟨1, 11,
 (S (R <| o 1 (.box 27 (t 0)) <| o 2 (.move (i 0)) <| z) <|
  (S (S (R <| o 3 (.load true 13 (t 1)) <| o 4 (.call 95 [(t 3)]) <| z) <|
  (.cond (t 4) [] [2, 5, 6, 7]
  (S (R <| f 5 12 1 <| l 6 5 <| o 7 (.len false (t 6)) <| m 2 7 <| z) <|
  .ret)
  .skip)) <|
  (S (R <| f 8 11 1 <| l 9 8 <| o 10 (.len false (t 9)) <| m 2 10 <| z) <|
  .ret))),
 [.tmp 2], [.keep]⟩
theorem ok82 : ∃ fn c, FunOk Try.prog 82 fn c A82.erase := ⟨Try.f82, _, ⟨Try.func82, rfl, by kernel_rfl, by kernel_rfl, by kernel_rfl, of_decide_eq_true (by kernel_rfl), by kernel_rfl⟩⟩
noncomputable def s82 (Γ : PCallee) (n : Nat) (x0 : PV) (h : PHeap) : Pt :=
 forkP (.ptr h.length 0) (h ++ [.box (cellsP x0) 27 .rw]) fun v0 h1 =>
 (loadP true 13 v0 h1).bind fun v2 =>
 (Γ 95 [v2] h1).bind fun p3 =>
 KL (fun w5 h6 =>
 (fieldAddrP 11 v0).bind fun v7 =>
 (loadP false 1 v7 h6).bind fun v8 =>
 (lenP false v8).bind fun v9 =>
 finP [.keep] h h6 [v9]) fun j4 =>
 ifP p3.1 (
 (fieldAddrP 12 v0).bind fun v10 =>
 (loadP false 1 v10 p3.2).bind fun v11 =>
 (lenP false v11).bind fun v12 =>
 finP [.keep] h p3.2 [v12]) (
 j4 [] p3.2)

theorem s82_eq (Γ : PCallee) (n : Nat) (x0 : PV) (h : PHeap) : pfunK Γ n A82 [x0] h = s82 Γ n x0 h := by kernel_rfl


open Go.Vm.G in
/-- orchestrion/orchestrionref02.Fits -/
def A83 : PFun := ⟨2, 18,
 (S (R <| o 4 (.move (.const (.bool false))) <| z) <|
  (S (R <| m 6 1 <| b 7 .sub (t 6) (i 1) <| b 8 .shl (i 1) (t 7) <| m 5 8 <| z) <|
  (S (R <| m 9 5 <| o 10 (.un .neg (t 9)) <| m 11 0 <| b 12 .leq (t 10) (t 11) <| m 13 12 <| q 17 13 true [14, 15, 16] (m 14 0 <| m 15 5 <| b 16 .lss (t 14) (t 15) <| z) (t 16) <|
  m 4 17 <| z) <|
  .ret))),
 [.tmp 4], [.keep]⟩
theorem ok83 : ∃ fn c, FunOk Try.prog 83 fn c A83.erase := ⟨Try.f83, _, ⟨Try.func83, rfl, by kernel_rfl, by kernel_rfl, by kernel_rfl, of_decide_eq_true (by kernel_rfl), by kernel_rfl⟩⟩
noncomputable def s83 (Γ : PCallee) (n : Nat) (x0 : PV) (x1 : PV) (h : PHeap) : Pt :=
 (binP .sub x1 (.int .i64 1 : PV)).bind fun v0 =>
 (binP .shl (.int .i64 1 : PV) v0).bind fun v1 =>
 (unP .neg v1).bind fun v2 =>
 (binP .leq v2 x0).bind fun v3 =>
 K1 (fun v5 h6 =>
 finP [.keep] h h6 [v5]) fun j4 =>
 scP v3 true (
 (binP .lss x0 v1).bind fun v7 =>
 j4 v7 h)
 (j4 (.bool false) h)

theorem s83_eq (Γ : PCallee) (n : Nat) (x0 : PV) (x1 : PV) (h : PHeap) : pfunK Γ n A83 [x0, x1] h = s83 Γ n x0 x1 h := by kernel_rfl


open Go.Vm.G in
/-- orchestrion/orchestrionref02.Looped -/
def A84 : PFun := ⟨4, 33,
 (S (R <| o 8 (.move (.const (.bool false))) <| z) <|
  (S (S (R <| m 9 0 <| z) <|
  (.block 0 [] ([8] ++ g 10 23)
  (S (R <| b 11 .eql (t 9) (i 0) <| m 10 11 <| z) <|
  (.cond (t 10) [] ([8] ++ g 12 21)
  (S (R <| m 12 1 <| b 13 .eql (t 12) (i 0) <| m 14 13 <| q 17 14 true [15, 16] (m 15 2 <| b 16 .eql (t 15) (i 0) <| z) (t 16) <|
  m 8 17 <| z) <|
  .ret)
  (S (S (R <| b 19 .eql (t 9) (i 1) <| m 18 19 <| z) <|
  (.cond (t 18) [18] [20]
  .skip
  (R <| b 20 .eql (t 9) (i 2) <| m 18 20 <| z))) <|
  (.cond (t 18) [] ([8] ++ g 21 12)
  (S (R <| m 21 1 <| b 22 .leq (i 0) (t 21) <| m 23 22 <| q 27 23 true [24, 25, 26] (m 24 1 <| m 25 2 <| b 26 .lss (t 24) (t 25) <| z) (t 26) <|
  m 28 27 <| q 32 28 true [29, 30, 31] (m 29 2 <| m 30 3 <| b 31 .leq (t 29) (t 30) <| z) (t 31) <|
  m 8 32 <| z) <|
  .ret)
  .skip)))))) <|
  (S (R <| o 8 (.move (.const (.bool false))) <| z) <|
  .ret))),
 [.tmp 8], [.keep]⟩
theorem ok84 : ∃ fn c, FunOk Try.prog 84 fn c A84.erase := ⟨Try.f84, _, ⟨Try.func84, rfl, by kernel_rfl, by kernel_rfl, by kernel_rfl, of_decide_eq_true (by kernel_rfl), by kernel_rfl⟩⟩
noncomputable def s84 (Γ : PCallee) (n : Nat) (x0 : PV) (x1 : PV) (x2 : PV) (x3 : PV) (h : PHeap) : Pt :=
 KL (fun w1 h2 =>
 finP [.keep] h h2 [(.bool false : PV)]) fun j0 =>
 (binP .eql x0 (.int .i64 0 : PV)).bind fun v3 =>
 KL (fun w5 h6 =>
 j0 [] h6) fun j4 =>
 ifP v3 (
 (binP .eql x1 (.int .i64 0 : PV)).bind fun v7 =>
 K1 (fun v9 h10 =>
 finP [.keep] h h10 [v9]) fun j8 =>
 scP v7 true (
 (binP .eql x2 (.int .i64 0 : PV)).bind fun v11 =>
 j8 v11 h)
 (j8 (.bool false) h)) (
 (binP .eql x0 (.int .i64 1 : PV)).bind fun v12 =>
 KL (fun w14 h15 =>
 KL (fun w17 h18 =>
 j4 [] h18) fun j16 =>
 ifP (nthP w14 0) (
 (binP .leq (.int .i64 0 : PV) x1).bind fun v19 =>
 K1 (fun v21 h22 =>
 K1 (fun v24 h25 =>
 finP [.keep] h h25 [v24]) fun j23 =>
 scP v21 true (
 (binP .leq x2 x3).bind fun v26 =>
 j23 v26 h22)
 (j23 (.bool false) h22)) fun j20 =>
 scP v19 true (
 (binP .lss x1 x2).bind fun v27 =>
 j20 v27 h15)
 (j20 (.bool false) h15)) (
 j16 [] h15)) fun j13 =>
 ifP v12 (
 j13 [v12] h) (
 (binP .eql x0 (.int .i64 2 : PV)).bind fun v28 =>
 j13 [v28] h))

theorem s84_eq (Γ : PCallee) (n : Nat) (x0 : PV) (x1 : PV) (x2 : PV) (x3 : PV) (h : PHeap) : pfunK Γ n A84 [x0, x1, x2, x3] h = s84 Γ n x0 x1 x2 x3 h := by kernel_rfl


end Go.Vm.X
